import Derived.Test.YmbrcnDecLen
import Derived.Test.YmbrcnZero
set_option linter.unusedVariables false
namespace Go.Proofs.Ymbrcn
open Go.RowKit

theorem sumc_even {f : Nat → Int} {k : Nat} (h : k % 2 = 0) : sumc f ((k + 1 + 1) / 2) = sumc f ((k + 1) / 2) + f k := by
  rw [show (k + 1 + 1) / 2 = k / 2 + 1 by omega, show (k + 1) / 2 = k / 2 by omega]
  show sumc f (k / 2) + f (2 * (k / 2)) = _
  rw [show 2 * (k / 2) = k by omega]
theorem sumc_odd {f : Nat → Int} {k : Nat} (h : k % 2 = 1) : sumc f ((k + 1 + 1) / 2) = sumc f ((k + 1) / 2) := by
  rw [show (k + 1 + 1) / 2 = (k + 1) / 2 by omega]

set_option maxRecDepth 100000 in
set_option maxHeartbeats 800000 in
theorem lexact_calls (a : Option Addr) (f : Nat → Int) (n cap : Nat) (limit : Int) (w : World) (hr : Rd w a n f) (hl : -9223372036854775808 ≤ limit ∧ limit ≤ 9223372036854775807) :
    Calls Ycnm.prog 11 #[.slice a n cap, .int .i64 limit] w fun e w' => e = .returned (.bool true) ∧ G w w' := by
  by_cases h0 : 1048576 < n
  · have e0 : (1048576 : Int) < n := by omega
    go_enter Ycnm.func11, Ycnm.ntmps11
    go_wp2
    go_ret
    exact ⟨rfl, G.refl _⟩
  have e0 : ¬ (1048576 : Int) < n := by omega
  go_enter Ycnm.func11, Ycnm.ntmps11
  go_wp2
  go_loop [5, 6, 7] (fun s z i => ∃ (k : Nat) (zb : Bool), k ≤ n ∧ i = .int .i64 k ∧ z = .bool zb ∧ s = .int .i64 (sumc f ((k + 1) / 2)) ∧ (zb = true ↔ HasZero f k)) (fun _ _ i => n - (intOf i).toNat)
  case atStart => exact ⟨0, false, by omega, rfl, rfl, rfl, by simp [hz_nil]⟩
  case round =>
    obtain ⟨k, zb, hk, rfl, rfl, rfl, hz⟩ := hrel
    have HZ : Hid (zb = true ↔ HasZero f k) := hz
    clear hz
    have s0 := sumc_nonneg hr.1 ((k + 1) / 2)
    have s1 := sumc_le hr.1 ((k + 1) / 2)
    by_cases hlt : k < n
    · obtain ⟨b, off, rfl, hc⟩ := hr.at hlt
      have c1 := hc k hlt
      clear hc
      have hb := hr.1 k
      rcases Nat.mod_two_eq_zero_or_one k with hp | hp
      · have d1 : ((k : Int) % 2 == 0) = true := by simp; omega
        have HP : Hid (k % 2 = 0) := hp
        clear hp
        go_wp2
        · have ht : (f k == 0) = true := by assumption
          go_round
          case rel => exact ⟨k + 1, true, by omega, by go_num, rfl, by rw [sumc_even HP.out], by rw [hz_even HP.out]; exact ⟨fun _ => .inr (by simpa using ht), fun _ => rfl⟩⟩
          case measure => simp [intOf]; omega
        · have ht : (f k == 0) = false := by assumption
          go_round
          case rel => exact ⟨k + 1, zb, by omega, by go_num, rfl, by rw [sumc_even HP.out], by rw [hz_even HP.out, HZ.out]; simp at ht; simp [ht]⟩
          case measure => simp [intOf]; omega
      · have d1 : ((k : Int) % 2 == 0) = false := by simp; omega
        have HP : Hid (k % 2 = 1) := hp
        clear hp
        go_wp2
        go_round
        case rel => exact ⟨k + 1, zb, by omega, by go_num, rfl, by rw [sumc_odd HP.out], by rw [hz_odd HP.out, HZ.out]⟩
        case measure => simp [intOf]; omega
    · obtain rfl : k = n := by omega
      go_wp2_with fail
      refine (decLen_calls a f k cap limit _ hr (by omega) hl).mono ?_
      rintro e w1 ⟨r, c, rfl, hd, rfl⟩
      rcases hd with ⟨h1, rfl, rfl⟩ | ⟨h1, h2, rfl, rfl⟩ | ⟨h1, h2, h3, rfl, rfl⟩ | ⟨h1, h2, h3, rfl, rfl⟩
      · have d1 : ((k : Int) % 2 == 1) = true := by simp; omega
        go_wp2
        go_ret
        exact ⟨rfl, G.refl _⟩
      · have d1 : ((k : Int) % 2 == 1) = false := by simp; omega
        obtain rfl := HZ.out.2 h2
        clear HZ h2
        go_wp2
        go_ret
        exact ⟨rfl, G.refl _⟩
      · have d1 : ((k : Int) % 2 == 1) = false := by simp; omega
        obtain rfl : zb = false := by cases zb with | false => rfl | true => exact absurd (HZ.out.1 rfl) h2
        rw [show (k + 1) / 2 = k / 2 by omega]
        clear HZ h2
        go_wp2
        go_ret
        exact ⟨rfl, G.refl _⟩
      · have d1 : ((k : Int) % 2 == 1) = false := by simp; omega
        obtain rfl : zb = false := by cases zb with | false => rfl | true => exact absurd (HZ.out.1 rfl) h2
        rw [show (k + 1) / 2 = k / 2 by omega]
        clear HZ h2
        go_wp2
        go_ret
        exact ⟨by simp, G.refl _⟩

end Go.Proofs.Ymbrcn
