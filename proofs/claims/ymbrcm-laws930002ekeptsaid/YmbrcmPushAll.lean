import Derived.Test.YmbrcmPushRun
import Derived.Test.YmbrcmPairs
import Derived.Deep.RegionWith
set_option linter.unusedVariables false
namespace Go.Proofs.Ymbrcm
open Go.RowKit

set_option maxRecDepth 100000 in
set_option maxHeartbeats 800000 in
theorem pushAll_calls (a b : Option Addr) (L cap n cb : Nat) (f : Nat → Int) (ps : List (Int × Int)) (w : World) (hown : Own w a cap (flat ps)) (hL : ps.length = L) (hc : Canon ps) (hr : Rd w b n f) (hsep : n = 0 ∨ Sep a b) (hev : n % 2 = 0) (hz : ¬ HasZero f n)
    (hb : L + n ≤ 35184372088832) :
    Calls Ycmm.prog 31 #[.slice a (2 * L) cap, .slice b n cb] w fun e w' => ∃ a' L' cap' qs, e = .returned (.slice a' (2 * L') cap') ∧ Own w' a' cap' (flat qs) ∧ qs.length = L' ∧ L' ≤ L + n / 2 ∧ Canon qs ∧ ex qs = ex ps ++ exN f (n / 2) ∧ Gr w w' a a' := by
  have HE : Hid (n % 2 = 0) := hev
  have HZ : Hid (¬ HasZero f n) := hz
  have HSep : Hid (n = 0 ∨ Sep a b) := hsep
  clear hz hsep
  go_enter Ycmm.func31, Ycmm.ntmps31
  go_wp2
  go_loopw [0, 5] (fun v p wr => ∃ (k : Nat) (a' : Option Addr) (L' cap' : Nat) (qs : List (Int × Int)), 2 * k ≤ n ∧ p = .int .i64 (2 * (k : Int)) ∧ v = .slice a' (2 * L') cap' ∧ Own wr a' cap' (flat qs) ∧ qs.length = L' ∧ L' ≤ L + k ∧ Canon qs ∧ ex qs = ex ps ++ exN f k ∧ Gr w wr a a') (fun _ p _ => n - (intOf p).toNat)
  case atStart => exact ⟨0, a, L, cap, ps, by omega, rfl, rfl, hown, hL, by omega, hc, by simp [exN_zero], Gr.refl _ _⟩
  case round =>
    obtain ⟨k, a', L', cap', qs, hk, rfl, rfl, ho, hl, hle, hcq, hex, hgr⟩ := hrel
    have HL : Hid (qs.length = L') := hl
    have HX : Hid (ex qs = ex ps ++ exN f k) := hex
    clear hl hex
    by_cases hlt : 2 * k < n
    · have hr1 := hr.keepGr hgr HSep.out
      obtain ⟨b1, o1, rfl, hcc⟩ := hr1.at hlt
      have c1 := hcc (2 * k) hlt
      have c2 := hcc (2 * k + 1) (by have := HE.out; omega)
      clear hcc hr1
      have b0 := hr.1 (2 * k)
      have b1' := hr.1 (2 * k + 1)
      have hnz := hz_all HZ.out k hlt
      have b2 : 1 ≤ f (2 * k) := by omega
      clear hnz
      go_wp2
      have hwr : IntKind.i64.wrap (f (2 * k)) = f (2 * k) := by rw [IntKind.wrap_i64]; omega
      have hi0 : 2 * (k : Int) < (n : Int) := by omega
      have hi1 : 2 * (k : Int) + 1 < (n : Int) := by have := HE.out; omega
      have hi2 : 0 ≤ 2 * (k : Int) + 1 := by omega
      have hi3 : (2 * (k : Int) + 1).toNat = 2 * k + 1 := by omega
      have hi4 : IntKind.i64.wrap (2 * (k : Int) + 1) = 2 * (k : Int) + 1 := by rw [IntKind.wrap_i64]; omega
      go_region_with (go_at_call 35; go_fit (pushRun_calls a' L' cap' qs (f (2 * k)) (f (2 * k + 1)) wr.drew (ho.keep (G.drew _)) HL.out (by omega) hcq ⟨b2, b0.2⟩ b1'); rintro e w1 ⟨a2, L2, cap2, qs2, rfl, ho2, hl2, hle2, hp2, hgr2⟩)
      all_goals
        clear hi0 hi1 hi2 hi3 hi4 hwr
        go_wp2
        go_roundw
        case rel => exact ⟨k + 1, a2, L2, cap2, qs2, by have := HE.out; omega, by go_num, rfl, ho2, hl2, by omega, hp2.canon, by rw [hp2.ex, HX.out, exN_succ, List.append_assoc], (hgr.then (G.drew _)).trans hgr2⟩
        case measure => simp [intOf]; omega
    · obtain rfl : n = 2 * k := by omega
      go_wp2
      go_ret
      rw [show 2 * k / 2 = k by omega]
      exact ⟨a', L', cap', qs, rfl, ho, HL.out, hle, hcq, HX.out, hgr⟩

end Go.Proofs.Ymbrcm
