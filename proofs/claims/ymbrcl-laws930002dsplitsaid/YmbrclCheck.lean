import Derived.Test.YmbrclProg
import Derived.Test.YmbrclKit
set_option linter.unusedVariables false
namespace Go.Proofs.Ymbrcl
open Go.RowKit

/-- some count is nought -/
def HasZero (f : Nat → Int) (n : Nat) : Prop := ∃ j, 2 * j < n ∧ f (2 * j) = 0

/-- what Check answers -/
def ChkIs (f : Nat → Int) (n : Nat) (c : Int) : Prop :=
  (n % 2 = 1 ∧ c = 1) ∨ (n % 2 = 0 ∧ HasZero f n ∧ c = 2) ∨ (n % 2 = 0 ∧ ¬ HasZero f n ∧ c = 0)

/-- some pair that is not full has a neighbour of its value -/
def HasSplit (f : Nat → Int) (n : Nat) : Prop := ∃ j, 2 * j + 3 < n ∧ f (2 * j + 3) = f (2 * j + 1) ∧ f (2 * j) ≠ 255

/-- what CheckCanonical answers -/
def CanIs (f : Nat → Int) (n : Nat) (c : Int) : Prop :=
  (n % 2 = 1 ∧ c = 1) ∨ (n % 2 = 0 ∧ HasZero f n ∧ c = 2) ∨ (n % 2 = 0 ∧ ¬ HasZero f n ∧ HasSplit f n ∧ c = 3) ∨ (n % 2 = 0 ∧ ¬ HasZero f n ∧ ¬ HasSplit f n ∧ c = 0)

set_option maxRecDepth 100000 in
set_option maxHeartbeats 400000 in
theorem check_calls (a : Option Addr) (f : Nat → Int) (n cap : Nat) (w : World) (hr : Rd w a n f) (hn : n ≤ 9223372036854775807) :
    Calls Yclm.prog 30 #[.slice a n cap] w fun e w' => ∃ c : Int, e = .returned (.int .i64 c) ∧ ChkIs f n c ∧ w' = w := by
  by_cases hodd : n % 2 = 1
  · have e0 : ((n : Int) % 2 != 0) = true := by simp; omega
    go_enter Yclm.func30, Yclm.ntmps30
    go_wp2
    go_ret
    exact ⟨1, rfl, .inl ⟨hodd, rfl⟩, rfl⟩
  have e0 : ((n : Int) % 2 != 0) = false := by simp; omega
  have hev : n % 2 = 0 := by omega
  have HE : Hid (n % 2 = 0) := hev
  clear hodd
  go_enter Yclm.func30, Yclm.ntmps30
  go_wp2
  go_loop [3] (fun i => ∃ k : Nat, 2 * k ≤ n ∧ i = .int .i64 (2 * (k : Int)) ∧ ∀ j, j < k → f (2 * j) ≠ 0) (fun i => n - (intOf i).toNat)
  case atStart => exact ⟨0, by omega, rfl, by omega⟩
  case round =>
    obtain ⟨k, hk, rfl, hz⟩ := hrel
    have HZ : Hid (∀ j, j < k → f (2 * j) ≠ 0) := hz
    clear hz
    by_cases hlt : 2 * k < n
    · obtain ⟨b, off, rfl, hc⟩ := hr.at hlt
      have c1 := hc (2 * k) hlt
      clear hc
      have hb := hr.1 (2 * k)
      go_wp2
      · have ht : (f (2 * k) == 0) = true := by assumption
        go_ret
        exact ⟨2, rfl, .inr (.inl ⟨HE.out, ⟨k, hlt, by simpa using ht⟩, rfl⟩), rfl⟩
      · have ht : (f (2 * k) == 0) = false := by assumption
        go_round
        case rel =>
          refine ⟨k + 1, by omega, by go_num, fun j hj => ?_⟩
          by_cases e : j = k
          · subst e; simpa using ht
          · exact HZ.out j (by omega)
        case measure => simp [intOf]; omega
    · go_wp2
      go_ret
      exact ⟨0, rfl, .inr (.inr ⟨HE.out, fun ⟨j, h1, h2⟩ => HZ.out j (by omega) h2, rfl⟩), rfl⟩

set_option maxRecDepth 100000 in
set_option maxHeartbeats 400000 in
theorem canonical_calls (a : Option Addr) (f : Nat → Int) (n cap : Nat) (w : World) (hr : Rd w a n f) (hn : n ≤ 9223372036854775807) :
    Calls Yclm.prog 25 #[.slice a n cap] w fun e w' => ∃ c : Int, e = .returned (.int .i64 c) ∧ CanIs f n c ∧ G w w' := by
  go_enter Yclm.func25, Yclm.ntmps25
  go_wp2_with (go_at_call 30; refine (check_calls a f n cap _ hr hn).mono ?_)
  rintro e w1 ⟨c, rfl, hc, rfl⟩
  rcases hc with ⟨h1, rfl⟩ | ⟨h1, h2, rfl⟩ | ⟨h1, h2, rfl⟩
  · go_wp2
    go_ret
    exact ⟨1, rfl, .inl ⟨h1, rfl⟩, G.refl _⟩
  · have H2 : Hid (HasZero f n) := h2
    clear h2
    go_wp2
    go_ret
    exact ⟨2, rfl, .inr (.inl ⟨h1, H2.out, rfl⟩), G.refl _⟩
  have H1 : Hid (n % 2 = 0 ∧ ¬ HasZero f n) := ⟨h1, h2⟩
  clear h2
  go_wp2
  go_loopw [4] (fun i wr => ∃ k : Nat, (2 * k + 2 ≤ n ∨ k = 0) ∧ i = .int .i64 (2 * (k : Int) + 2) ∧ (∀ j, j < k → f (2 * j + 3) = f (2 * j + 1) → f (2 * j) = 255) ∧ ∃ q, wr = w1.drewN q) (fun i _ => n + 2 - (intOf i).toNat)
  case atStart => exact ⟨0, .inr rfl, rfl, by omega, 0, rfl⟩
  case round =>
    obtain ⟨k, hk, rfl, hz, q, rfl⟩ := hrel
    have HZ : Hid (∀ j, j < k → f (2 * j + 3) = f (2 * j + 1) → f (2 * j) = 255) := hz
    clear hz
    by_cases hlt : 2 * k + 2 < n
    · obtain ⟨b, off, rfl, hc⟩ := hr.at (show 2 * k + 3 < n by omega)
      have c1 := hc (2 * k + 3) (by omega)
      have c2 := hc (2 * k + 1) (by omega)
      have c3 := hc (2 * k) (by omega)
      clear hc
      by_cases hs : f (2 * k + 3) = f (2 * k + 1)
      · have hd : (f (2 * k + 3) == f (2 * k + 1)) = true := by simpa using hs
        clear hs
        go_wp2
        go_quiet (fail)
        go_wp2
        · have ht : (f (2 * k) != 255) = true := by assumption
          go_ret
          exact ⟨3, rfl, .inr (.inr (.inl ⟨H1.out.1, H1.out.2, ⟨k, by omega, by simpa using hd, by simpa using ht⟩, rfl⟩)), by rw [World.drewN_drewN]; exact G.drewN _ _⟩
        · have ht : (f (2 * k) != 255) = false := by assumption
          go_roundw
          case rel =>
            refine ⟨k + 1, by omega, by go_num, fun j hj h3 => ?_, _, rfl⟩
            by_cases e : j = k
            · subst e; simpa using ht
            · exact HZ.out j (by omega) h3
          case measure => simp [intOf]; omega
      · have hd : (f (2 * k + 3) == f (2 * k + 1)) = false := by simpa using hs
        have HS : Hid (¬ f (2 * k + 3) = f (2 * k + 1)) := hs
        clear hs
        go_wp2
        go_quiet (fail)
        go_wp2
        go_roundw
        case rel =>
          refine ⟨k + 1, by omega, by go_num, fun j hj h3 => ?_, _, rfl⟩
          by_cases e : j = k
          · subst e; exact absurd h3 HS.out
          · exact HZ.out j (by omega) h3
        case measure => simp [intOf]; omega
    · go_wp2
      go_ret
      exact ⟨0, rfl, .inr (.inr (.inr ⟨H1.out.1, H1.out.2, fun ⟨j, h1, h2, h3⟩ => h3 (HZ.out j (by omega) h2), rfl⟩)), G.drewN _ _⟩

end Go.Proofs.Ymbrcl
