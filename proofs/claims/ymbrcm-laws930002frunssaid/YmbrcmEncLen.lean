import Derived.Test.YmbrcmEnc
import Derived.Test.YmbrcmBm
set_option linter.unusedVariables false
namespace Go.Proofs.Ymbrcm
open Go.RowKit

/-- what EncodedLen answers, k the number of the canonical pairs -/
def ElIs (k : Nat) (r : Int) (ok : Bool) : Prop := (k ≤ 4611686018427387903 ∧ r = 2 * (k : Int) ∧ ok = true) ∨ (4611686018427387903 < k ∧ r = 0 ∧ ok = false)

set_option maxRecDepth 100000 in
set_option maxHeartbeats 400000 in
theorem encLen_calls (a : Option Addr) (f : Nat → Int) (len cap : Nat) (w : World) (hr : Rd w a len f) (hlen : len ≤ 9223372036854775807) :
    Calls Ycmm.prog 21 #[.slice a len cap] w fun e w' => ∃ (ps : List (Int × Int)) (r : Int) (ok : Bool), e = .returned (.tuple #[.int .i64 r, .bool ok]) ∧ Canon ps ∧ ex ps = lst f len ∧ ElIs ps.length r ok ∧ G w w' := by
  go_enter Ycmm.func21, Ycmm.ntmps21
  go_wp2
  go_loopw [4, 5] (fun t i wr => ∃ (k q : Nat) (ps : List (Int × Int)), k ≤ len ∧ i = .int .i64 k ∧ t = .int .i64 (2 * (q : Int)) ∧ q ≤ 4611686018427387903 ∧ ps.length = q ∧ EncAt f len k ps ∧ G w wr) (fun _ i _ => len - (intOf i).toNat)
  case atStart => exact ⟨0, 0, [], by omega, rfl, rfl, by omega, rfl, ⟨trivial, rfl, by simp [flat], by simp, by simp⟩, G.refl _⟩
  case round =>
    obtain ⟨k, q, ps, hk, rfl, rfl, hq, hps, hat, hg⟩ := hrel
    have HP : Hid (ps.length = q) := hps
    have HA : Hid (EncAt f len k ps) := hat
    clear hps hat
    by_cases hlt : k < len
    · by_cases hbig : q = 4611686018427387903
      · have hb2 : (9223372036854775805 : Int) < 2 * (q : Int) := by omega
        have HB : Hid (q = 4611686018427387903) := hbig
        clear hbig
        go_wp2
        go_ret2
        obtain ⟨qs, q1, q2⟩ := HA.out.goes hr.1 len k ps (by omega) hk
        refine ⟨ps ++ qs, 0, false, rfl, q1.canon, q1.ex, .inr ⟨?_, rfl, rfl⟩, hg⟩
        have := q2 hlt
        have := HP.out
        have := HB.out
        simp; omega
      · have hb2 : 2 * (q : Int) ≤ 9223372036854775805 := by omega
        have hr1 := hr.keep hg
        go_wp2_with fail
        refine (runAt_calls _ f len cap k _ hr1 hlt hlen).mono ?_
        rintro e w1 ⟨n, rfl, hn, hg1⟩
        have hn1 := hn.1
        have hn3 := hn.2.2.1
        have R : Hid (EncAt f len (k + n) (ps ++ [((n : Int), f k)])) := HA.out.step hn (hr.1 k) hlt
        clear hn
        go_wp2
        go_roundw
        case rel => exact ⟨k + n, q + 1, _, by omega, by go_num, by go_num, by omega, by have := HP.out; simp; omega, R.out, hg.trans hg1⟩
        case measure => simp [intOf]; omega
    · obtain rfl : k = len := by omega
      go_wp2
      go_ret2
      exact ⟨ps, 2 * (q : Int), true, rfl, HA.out.canon, HA.out.ex, .inl ⟨by rw [HP.out]; exact hq, by rw [HP.out], rfl⟩, hg⟩

end Go.Proofs.Ymbrcm
