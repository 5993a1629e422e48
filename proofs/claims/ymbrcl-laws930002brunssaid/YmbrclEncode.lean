import Derived.Test.YmbrclOwn
import Derived.Test.YmbrclEnc
import Derived.Test.YmbrclRunAt
set_option linter.unusedVariables false
namespace Go.Proofs.Ymbrcl
open Go.RowKit

set_option maxRecDepth 100000 in
set_option maxHeartbeats 400000 in
theorem encode_calls (a : Option Addr) (f : Nat → Int) (len cap : Nat) (w : World) (hr : Rd w a len f) (hlen : len ≤ 70368744177664) :
    Calls Yclm.prog 22 #[.slice a len cap] w fun e w' => ∃ a' cap' ps, e = .returned (.slice a' (flat ps).length cap') ∧ Own w' a' cap' (flat ps) ∧ Canon ps ∧ ex ps = lst f len ∧ Gr w w' none a' := by
  go_enter Yclm.func22, Yclm.ntmps22
  go_wp2
  go_loopw [3, 4] (fun v i wr => ∃ (k : Nat) (a' : Option Addr) (cap' : Nat) (ps : List (Int × Int)), k ≤ len ∧ i = .int .i64 k ∧ v = .slice a' (flat ps).length cap' ∧ Own wr a' cap' (flat ps) ∧ EncAt f len k ps ∧ Gr w wr none a') (fun _ i _ => len - (intOf i).toNat)
  case atStart => exact ⟨0, none, 0, [], by omega, rfl, rfl, Own.nil _, ⟨trivial, rfl, by simp [flat], by simp, by simp⟩, Gr.refl _ _⟩
  case round =>
    obtain ⟨k, a', cap', ps, hk, rfl, rfl, hown, hat, hgr⟩ := hrel
    have hr1 := hr.keep hgr.g
    by_cases hlt : k < len
    · obtain ⟨b, off, rfl, hc⟩ := hr.at hlt
      have hfl := flat_length ps
      have hsz := hat.size
      have HF : Hid ((flat ps).length = 2 * ps.length) := hfl
      clear hfl
      go_wp2_with (go_at_call 24; refine (runAt_calls _ f len cap k _ hr1 hlt (by omega)).mono ?_)
      rintro e w1 ⟨n, rfl, hn, hg⟩
      have hr2 := hr1.keep hg
      have hown1 := hown.keep hg
      have c1 := hr2.cell hlt
      have hb := hr.1 k
      obtain ⟨r1, r2, r3, r4, r5⟩ := hn
      go_wp2_with (at_builtin; refine wpList_app2 (w := w1) rfl _ _ rfl a' _ cap' (flat ps) rfl rfl hown1 (n : Int) (f k) rfl (by omega) (by omega) (by have := HF.out; omega) ?_)
      intro a2 cap2 w2 hown2 hgr2
      have R : EncAt f len (k + n) (ps ++ [((n : Int), f k)]) := hat.step ⟨r1, r2, r3, r4, r5⟩ hb hlt
      have hf2 : flat (ps ++ [((n : Int), f k)]) = flat ps ++ [(n : Int), f k] := by rw [flat_append]; rfl
      have HF2 : Hid (flat (ps ++ [((n : Int), f k)]) = flat ps ++ [(n : Int), f k]) := hf2
      clear hf2 r4 r5
      go_wp2
      go_roundw
      case rel => exact ⟨k + n, a2, cap2, ps ++ [((n : Int), f k)], by omega, by go_num, by rw [HF2.out]; simp, by rw [HF2.out]; exact hown2, R, (hgr.then hg).trans hgr2⟩
      case measure => simp [intOf]; omega
    · obtain rfl : k = len := by omega
      go_wp2
      go_ret
      exact ⟨a', cap', ps, rfl, hown, hat.canon, hat.ex, hgr⟩

end Go.Proofs.Ymbrcl
