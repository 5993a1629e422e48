import Derived.Test.YmbrcnCheck
set_option linter.unusedVariables false
namespace Go.Proofs.Ymbrcn
open Go.RowKit

/-- the sum of the first k counts -/
def sumc (f : Nat → Int) : Nat → Int
  | 0 => 0
  | k + 1 => sumc f k + f (2 * k)

theorem sumc_mono {f : Nat → Int} (h : ∀ i, 0 ≤ f i ∧ f i ≤ 255) (k d : Nat) : sumc f k ≤ sumc f (k + d) := by
  induction d with
  | zero => exact Int.le_refl _
  | succ d ih => have := h (2 * (k + d)); show _ ≤ sumc f (k + d) + f (2 * (k + d)); omega
theorem sumc_nonneg {f : Nat → Int} (h : ∀ i, 0 ≤ f i ∧ f i ≤ 255) (k : Nat) : 0 ≤ sumc f k := by
  have := sumc_mono h 0 k; simpa [sumc] using this
theorem sumc_le {f : Nat → Int} (h : ∀ i, 0 ≤ f i ∧ f i ≤ 255) (k : Nat) : sumc f k ≤ 255 * k := by
  induction k with
  | zero => simp [sumc]
  | succ k ih => have := h (2 * k); show sumc f k + f (2 * k) ≤ _; omega

/-- what DecodedLen answers -/
def DecIs (f : Nat → Int) (n : Nat) (limit r c : Int) : Prop :=
  (n % 2 = 1 ∧ r = 0 ∧ c = 1) ∨ (n % 2 = 0 ∧ HasZero f n ∧ r = 0 ∧ c = 2) ∨
  (n % 2 = 0 ∧ ¬ HasZero f n ∧ limit < sumc f (n / 2) ∧ r = 0 ∧ c = 4) ∨ (n % 2 = 0 ∧ ¬ HasZero f n ∧ sumc f (n / 2) ≤ limit ∧ r = sumc f (n / 2) ∧ c = 0)

set_option maxRecDepth 100000 in
set_option maxHeartbeats 400000 in
theorem decLen_calls (a : Option Addr) (f : Nat → Int) (n cap : Nat) (limit : Int) (w : World) (hr : Rd w a n f) (hn : n ≤ 70368744177664) (hl : -9223372036854775808 ≤ limit ∧ limit ≤ 9223372036854775807) :
    Calls Ycnm.prog 21 #[.slice a n cap, .int .i64 limit] w fun e w' => ∃ r c : Int, e = .returned (.tuple #[.int .i64 r, .int .i64 c]) ∧ DecIs f n limit r c ∧ w' = w := by
  go_enter Ycnm.func21, Ycnm.ntmps21
  go_wp2_with fail
  refine (check_calls a f n cap _ hr (by omega)).mono ?_
  rintro e w1 ⟨c, rfl, hc, rfl⟩
  rcases hc with ⟨h1, rfl⟩ | ⟨h1, h2, rfl⟩ | ⟨h1, h2, rfl⟩
  · go_wp2
    go_ret2
    exact ⟨0, 1, rfl, .inl ⟨h1, rfl, rfl⟩, rfl⟩
  · have H2 : Hid (HasZero f n) := h2
    clear h2
    go_wp2
    go_ret2
    exact ⟨0, 2, rfl, .inr (.inl ⟨h1, H2.out, rfl, rfl⟩), rfl⟩
  have H1 : Hid (n % 2 = 0 ∧ ¬ HasZero f n) := ⟨h1, h2⟩
  clear h2
  have hs0 := sumc_nonneg hr.1 (n / 2)
  by_cases hneg : limit < 0
  · go_wp2
    go_ret2
    exact ⟨0, 4, rfl, .inr (.inr (.inl ⟨H1.out.1, H1.out.2, by omega, rfl, rfl⟩)), rfl⟩
  have hneg' : 0 ≤ limit := by omega
  go_wp2
  go_loop [7, 8] (fun t i => ∃ k : Nat, 2 * k ≤ n ∧ i = .int .i64 (2 * (k : Int)) ∧ t = .int .i64 (sumc f k) ∧ sumc f k ≤ limit) (fun _ i => n - (intOf i).toNat)
  case atStart => exact ⟨0, by omega, rfl, rfl, by simpa [sumc] using hneg'⟩
  case round =>
    obtain ⟨k, hk, rfl, rfl, hle⟩ := hrel
    have hk0 := sumc_nonneg hr.1 k
    have hsu : sumc f (k + 1) = sumc f k + f (2 * k) := rfl
    have HS : Hid (sumc f (k + 1) = sumc f k + f (2 * k)) := hsu
    clear hsu
    by_cases hlt : 2 * k < n
    · obtain ⟨b, off, rfl, hc⟩ := hr.at hlt
      have c1 := hc (2 * k) hlt
      clear hc
      have hb := hr.1 (2 * k)
      by_cases hgt : limit - sumc f k < f (2 * k)
      · go_wp2
        go_ret2
        have hm := sumc_mono hr.1 (k + 1) (n / 2 - (k + 1))
        rw [show k + 1 + (n / 2 - (k + 1)) = n / 2 by omega, HS.out] at hm
        exact ⟨0, 4, rfl, .inr (.inr (.inl ⟨H1.out.1, H1.out.2, by omega, rfl, rfl⟩)), rfl⟩
      · have hgt' : f (2 * k) ≤ limit - sumc f k := by omega
        go_wp2
        go_round
        case rel => exact ⟨k + 1, by omega, by go_num, by rw [HS.out], by rw [HS.out]; omega⟩
        case measure => simp [intOf]; omega
    · go_wp2
      go_ret2
      have : n / 2 = k := by omega
      exact ⟨sumc f k, 0, rfl, .inr (.inr (.inr ⟨H1.out.1, H1.out.2, by rw [this]; exact hle, by rw [this], rfl⟩)), rfl⟩

end Go.Proofs.Ymbrcn
