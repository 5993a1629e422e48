import Derived.Test.YmbrclPairs
set_option linter.unusedVariables false
namespace Go.Proofs.Ymbrcl
open Go.RowKit

/-- the sum of the first k counts -/
def sumc (f : Nat → Int) : Nat → Int
  | 0 => 0
  | k + 1 => sumc f k + f (2 * k)

theorem exN_len {f : Nat → Int} (hb : ∀ i, 0 ≤ f i ∧ f i ≤ 255) (k : Nat) : ((exN f k).length : Int) = sumc f k := by
  induction k with
  | zero => rfl
  | succ k ih =>
    rw [exN_succ]
    have := hb (2 * k)
    show _ = sumc f k + f (2 * k)
    simp; omega

set_option maxRecDepth 100000 in
set_option maxHeartbeats 400000 in
theorem atotal_calls (a : Option Addr) (f : Nat → Int) (n cap : Nat) (w : World) (hr : Rd w a n f) (hn : n ≤ 549755813888) :
    Calls Yclm.prog 20 #[.slice a n cap] w fun e w' => e = .returned (.int .i64 (exN f (n / 2)).length) ∧ w' = w := by
  go_enter Yclm.func20, Yclm.ntmps20
  go_wp2
  go_loop [3, 4] (fun s p => ∃ k : Nat, 2 * k ≤ n ∧ p = .int .i64 (2 * (k : Int)) ∧ s = .int .i64 (exN f k).length) (fun _ p => n + 1 - (intOf p).toNat)
  case atStart => exact ⟨0, by omega, rfl, rfl⟩
  case round =>
    obtain ⟨k, hk, rfl, rfl⟩ := hrel
    have hle := exN_length_le hr.1 k
    by_cases hlt : 2 * k + 1 < n
    · obtain ⟨b, off, rfl, hcc⟩ := hr.at hlt
      have c1 := hcc (2 * k) (by omega)
      clear hcc
      have b0 := hr.1 (2 * k)
      have hsu : Hid (((exN f (k + 1)).length : Int) = ((exN f k).length : Int) + f (2 * k)) := by rw [Hid, exN_succ]; simp; omega
      go_wp2
      go_round
      case rel => exact ⟨k + 1, by omega, by go_num, by rw [hsu.out]⟩
      case measure => simp [intOf]; omega
    · have hk2 : Hid (n / 2 = k) := by rw [Hid]; omega
      go_wp2
      go_ret
      rw [hk2.out]
      exact ⟨rfl, rfl⟩

end Go.Proofs.Ymbrcl
