import Derived.Test.YmbrcnCheck
import Derived.Test.YmbrcnBits
set_option linter.unusedVariables false
namespace Go.Proofs.Ymbrcn
open Go.RowKit

theorem zero_even {f : Nat → Int} {k : Nat} (hk : k % 2 = 0) : HasZero f (k + 1) ↔ HasZero f k ∨ f k = 0 := by
  constructor
  · rintro ⟨j, h1, h2⟩
    by_cases e : 2 * j = k
    · right; rw [← e]; exact h2
    · left; exact ⟨j, by omega, h2⟩
  · rintro (⟨j, h1, h2⟩ | h)
    · exact ⟨j, by omega, h2⟩
    · exact ⟨k / 2, by omega, by rw [show 2 * (k / 2) = k by omega]; exact h⟩

theorem zero_odd {f : Nat → Int} {k : Nat} (hk : k % 2 = 1) : HasZero f (k + 1) ↔ HasZero f k := by
  constructor
  · rintro ⟨j, h1, h2⟩; exact ⟨j, by omega, h2⟩
  · rintro ⟨j, h1, h2⟩; exact ⟨j, by omega, h2⟩

set_option maxRecDepth 100000 in
set_option maxHeartbeats 400000 in
theorem kexact_calls (a : Option Addr) (f : Nat → Int) (n cap : Nat) (w : World) (hr : Rd w a n f) (hn : n ≤ 9223372036854775807) :
    Calls Ycnm.prog 8 #[.slice a n cap] w fun e w' => e = .returned (.bool true) ∧ G w w' := by
  go_enter Ycnm.func8, Ycnm.ntmps8
  go_wp2
  go_loop [3, 9] (fun z i => ∃ k q : Nat, k ≤ n ∧ q ≤ k ∧ i = .int .i64 k ∧ z = .int .i64 q ∧ (0 < q ↔ HasZero f k)) (fun _ i => n - (intOf i).toNat)
  case atStart => exact ⟨0, 0, by omega, by omega, rfl, rfl, by simp [HasZero]⟩
  case round =>
    obtain ⟨k, q, hk, hq, rfl, rfl, hz⟩ := hrel
    have HZ : Hid (0 < q ↔ HasZero f k) := hz
    clear hz
    by_cases hlt : k < n
    · obtain ⟨b, off, rfl, hc⟩ := hr.at hlt
      have c1 := hc k hlt
      clear hc
      rcases Nat.mod_two_eq_zero_or_one k with hp | hp
      · have d1 := and1_even k (by omega) hp
        have HP : Hid (k % 2 = 0) := hp
        clear hp
        go_wp2
        · have ht : (f k == 0) = true := by assumption
          go_round
          case rel => exact ⟨k + 1, q + 1, by omega, by omega, by go_num, by go_num, by rw [zero_even HP.out]; exact ⟨fun _ => .inr (by simpa using ht), fun _ => by omega⟩⟩
          case measure => simp [intOf]; omega
        · have ht : (f k == 0) = false := by assumption
          go_round
          case rel => exact ⟨k + 1, q, by omega, by omega, by go_num, by go_num, by rw [zero_even HP.out, HZ.out]; simp at ht; simp [ht]⟩
          case measure => simp [intOf]; omega
      · have d1 := and1_odd k (by omega) hp
        have HP : Hid (k % 2 = 1) := hp
        clear hp
        go_wp2
        go_round
        case rel => exact ⟨k + 1, q, by omega, by omega, by go_num, by go_num, by rw [zero_odd HP.out, HZ.out]⟩
        case measure => simp [intOf]; omega
    · obtain rfl : k = n := by omega
      rcases Nat.mod_two_eq_zero_or_one k with hp | hp
      · have d1 := and1_even k (by omega) hp
        go_wp2_with fail
        · refine (check_calls a f k cap _ hr hn).mono ?_; rintro e w1 ⟨c, rfl, hc, rfl⟩
          have h0 : 0 < q := by omega
          obtain rfl : c = 2 := by
            rcases hc with ⟨h1, h2⟩ | ⟨h1, h2, h3⟩ | ⟨h1, h2, h3⟩
            · omega
            · exact h3
            · exact absurd (HZ.out.1 (by omega)) h2
          go_wp2
          go_ret
          exact ⟨rfl, G.refl _⟩
        · refine (check_calls a f k cap _ hr hn).mono ?_; rintro e w1 ⟨c, rfl, hc, rfl⟩
          obtain rfl : c = 0 := by
            rcases hc with ⟨h1, h2⟩ | ⟨h1, h2, h3⟩ | ⟨h1, h2, h3⟩
            · omega
            · exact absurd (HZ.out.2 h2) (by omega)
            · exact h3
          go_wp2
          go_ret
          exact ⟨rfl, G.refl _⟩
      · have d1 := and1_odd k (by omega) hp
        go_wp2_with fail
        refine (check_calls a f k cap _ hr hn).mono ?_; rintro e w1 ⟨c, rfl, hc, rfl⟩
        obtain rfl : c = 1 := by
          rcases hc with ⟨h1, h2⟩ | ⟨h1, h2, h3⟩ | ⟨h1, h2, h3⟩
          · exact h2
          · omega
          · omega
        go_wp2
        go_ret
        exact ⟨rfl, G.refl _⟩

end Go.Proofs.Ymbrcn
