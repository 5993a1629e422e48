import Derived.Test.YmbrcmDecLen
import Derived.Test.YmbrcmZero
set_option linter.unusedVariables false
namespace Go.Proofs.Ymbrcm
open Go.RowKit

/-- what At answers -/
def AtIs (f : Nat → Int) (n : Nat) (i v c : Int) : Prop :=
  (n % 2 = 1 ∧ v = 0 ∧ c = 1) ∨ (n % 2 = 0 ∧ HasZero f n ∧ v = 0 ∧ c = 2) ∨
  (n % 2 = 0 ∧ ¬ HasZero f n ∧ (i < 0 ∨ sumc f (n / 2) ≤ i) ∧ v = 0 ∧ c = 5) ∨
  (n % 2 = 0 ∧ ¬ HasZero f n ∧ ∃ q, 2 * q < n ∧ sumc f q ≤ i ∧ i < sumc f (q + 1) ∧ v = f (2 * q + 1) ∧ c = 0)

set_option maxRecDepth 100000 in
set_option maxHeartbeats 400000 in
theorem at_calls (a : Option Addr) (f : Nat → Int) (n cap : Nat) (i : Int) (w : World) (hr : Rd w a n f) (hn : n ≤ 70368744177664) (hi : -9223372036854775808 ≤ i ∧ i ≤ 9223372036854775807) :
    Calls Ycmm.prog 27 #[.slice a n cap, .int .i64 i] w fun e w' => ∃ v c : Int, e = .returned (.tuple #[.int .u8 v, .int .i64 c]) ∧ AtIs f n i v c ∧ w' = w := by
  go_enter Ycmm.func27, Ycmm.ntmps27
  go_wp2_with fail
  refine (check_calls a f n cap _ hr (by omega)).mono ?_
  rintro e w1 ⟨c, rfl, hc, rfl⟩
  rcases hc with ⟨h1, rfl⟩ | ⟨h1, h2, rfl⟩ | ⟨h1, h2, rfl⟩
  · go_wp2
    go_ret2
    exact ⟨0, 1, rfl, .inl ⟨h1, rfl, rfl⟩, rfl⟩
  · have H2 : Hid (HasZero f n) := h2
    clear h2
    go_wp2
    go_ret2
    exact ⟨0, 2, rfl, .inr (.inl ⟨h1, H2.out, rfl, rfl⟩), rfl⟩
  have H1 : Hid (n % 2 = 0 ∧ ¬ HasZero f n) := ⟨h1, h2⟩
  clear h2
  by_cases hneg : i < 0
  · go_wp2
    go_ret2
    exact ⟨0, 5, rfl, .inr (.inr (.inl ⟨H1.out.1, H1.out.2, .inl hneg, rfl, rfl⟩)), rfl⟩
  have hneg' : 0 ≤ i := by omega
  go_wp2
  go_loop [1, 7] (fun t p => ∃ k : Nat, 2 * k ≤ n ∧ p = .int .i64 (2 * (k : Int)) ∧ t = .int .i64 (i - sumc f k) ∧ sumc f k ≤ i) (fun _ p => n - (intOf p).toNat)
  case atStart => exact ⟨0, by omega, rfl, by simp [sumc], by simpa [sumc] using hneg'⟩
  case round =>
    obtain ⟨k, hk, rfl, rfl, hle⟩ := hrel
    have hk0 := sumc_nonneg hr.1 k
    have HS : Hid (sumc f (k + 1) = sumc f k + f (2 * k)) := rfl
    by_cases hlt : 2 * k < n
    · obtain ⟨b, off, rfl, hc⟩ := hr.at hlt
      have c1 := hc (2 * k) hlt
      have c2 := hc (2 * k + 1) (by omega)
      clear hc
      have hb := hr.1 (2 * k)
      by_cases hgt : i - sumc f k < f (2 * k)
      · go_wp2
        go_ret2
        exact ⟨_, 0, rfl, .inr (.inr (.inr ⟨H1.out.1, H1.out.2, k, hlt, hle, by rw [HS.out]; omega, rfl, rfl⟩)), rfl⟩
      · have hgt' : f (2 * k) ≤ i - sumc f k := by omega
        go_wp2
        go_round
        case rel => exact ⟨k + 1, by omega, by go_num, by rw [HS.out]; go_num, by rw [HS.out]; omega⟩
        case measure => simp [intOf]; omega
    · go_wp2
      go_ret2
      have : n / 2 = k := by omega
      exact ⟨0, 5, rfl, .inr (.inr (.inl ⟨H1.out.1, H1.out.2, .inr (by rw [this]; exact hle), rfl, rfl⟩)), rfl⟩

end Go.Proofs.Ymbrcm
