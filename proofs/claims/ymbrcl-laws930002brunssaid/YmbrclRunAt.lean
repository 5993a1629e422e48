import Derived.Test.YmbrclProg
import Derived.Test.YmbrclKit
import Derived.Test.YmbrclRunDef
set_option linter.unusedVariables false
namespace Go.Proofs.Ymbrcl
open Go.RowKit

set_option maxRecDepth 100000 in
set_option maxHeartbeats 400000 in
theorem runAt_calls (a : Option Addr) (f : Nat → Int) (len cap s : Nat) (w : World) (hr : Rd w a len f) (hs : s < len) (hlen : len ≤ 9223372036854775807) :
    Calls Yclm.prog 24 #[.slice a len cap, .int .i64 s] w fun e w' => ∃ n : Nat, e = .returned (.int .i64 n) ∧ RunIs f len s n ∧ G w w' := by
  obtain ⟨b, off, rfl, hc⟩ := hr.at hs
  clear hr
  go_enter Yclm.func24, Yclm.ntmps24
  go_wp2
  go_loopw [5] (fun t wr => ∃ n : Nat, t = .int .i64 n ∧ 1 ≤ n ∧ n ≤ 255 ∧ s + n ≤ len ∧ (∀ j, j < n → f (s + j) = f s) ∧ ∃ q, wr = w.drewN q) (fun t _ => 255 - (intOf t).toNat)
  case atStart => exact ⟨1, rfl, by omega, by omega, by omega, fun j hj => by rw [show j = 0 by omega]; rfl, 0, rfl⟩
  case round =>
    obtain ⟨n, rfl, h1, h2, h3, h4, q, rfl⟩ := hrel
    have H4 : Hid (∀ j, j < n → f (s + j) = f s) := h4
    clear h4
    by_cases ha : n < 255
    · have e0 : (n : Int) < 255 := by omega
      by_cases hbb : s + n < len
      · have c1 := hc (s + n) hbb
        have c2 := hc s hs
        have e1 : (n : Int) < (len : Int) - (s : Int) := by omega
        go_wp2
        go_quiet (fail)
        go_wp2
        · have ht : (f (s + n) == f s) = true := by assumption
          go_roundw
          case rel =>
            refine ⟨n + 1, by go_num, by omega, by omega, by omega, fun j hj => ?_, _, rfl⟩
            by_cases hjn : j = n
            · subst hjn; simpa using ht
            · exact H4.out j (by omega)
          case measure => simp [intOf]; omega
        · have ht : (f (s + n) == f s) = false := by assumption
          go_ret
          exact ⟨n, rfl, ⟨h1, h2, h3, H4.out, .inr (.inr (by simpa using ht))⟩, by rw [World.drewN_drewN]; exact G.drewN _ _⟩
      · have e1 : decide ((n : Int) < (len : Int) - (s : Int)) = false := by simp; omega
        go_wp2
        go_quiet (fail)
        go_wp2
        go_ret
        exact ⟨n, rfl, ⟨h1, h2, h3, H4.out, .inr (.inl (by omega))⟩, by rw [World.drewN_drewN]; exact G.drewN _ _⟩
    · have e1 : decide ((n : Int) < 255) = false := by simp; omega
      go_wp2
      go_quiet (fail)
      go_wp2
      go_ret
      exact ⟨n, rfl, ⟨h1, h2, h3, H4.out, .inl (by omega)⟩, by rw [World.drewN_drewN]; exact G.drewN _ _⟩

end Go.Proofs.Ymbrcl
