/- A row of pairs, written one pair after the other. -/
import Derived.Test.YmbrclZero
import Derived.Test.YmbrclGl
import Derived.Test.YmbrclPairs
set_option linter.unusedVariables false
namespace Go.Proofs.Ymbrcl
open Go.RowKit

def bl (F : Nat → Int × Int) (n : Nat) : List (Int × Int) := (List.range n).map F

theorem bl_zero (F : Nat → Int × Int) : bl F 0 = [] := rfl
theorem bl_succ (F : Nat → Int × Int) (n : Nat) : bl F (n + 1) = bl F n ++ [F n] := by simp [bl, List.range_succ]
theorem bl_length (F : Nat → Int × Int) (n : Nat) : (bl F n).length = n := by simp [bl]
theorem bl_flat_length (F : Nat → Int × Int) (n : Nat) : (flat (bl F n)).length = 2 * n := by rw [flat_length, bl_length]
theorem bl_flat_succ (F : Nat → Int × Int) (n : Nat) : flat (bl F (n + 1)) = flat (bl F n) ++ [(F n).1, (F n).2] := by rw [bl_succ, flat_append]; rfl
theorem bl_well {F : Nat → Int × Int} {n : Nat} (h : ∀ i, 1 ≤ (F i).1 ∧ (F i).1 ≤ 255) : Well (bl F n) := by
  intro p hp
  obtain ⟨i, _, rfl⟩ := List.mem_map.1 hp
  exact h i
theorem bl_zeroless {F : Nat → Int × Int} {n : Nat} (h : ∀ i, 1 ≤ (F i).1) : ¬ HasZero (gl (flat (bl F n))) (2 * n) := by
  induction n with
  | zero => exact hz_nil
  | succ n ih =>
    rw [hz_pair]
    have e : gl (flat (bl F (n + 1))) (2 * n) = (F n).1 := by
      rw [bl_flat_succ]; have := gl_app_ge (l := flat (bl F n)) (m := [(F n).1, (F n).2]) (i := 0); rw [bl_flat_length] at this; exact this
    have e2 : HasZero (gl (flat (bl F (n + 1)))) (2 * n) ↔ HasZero (gl (flat (bl F n))) (2 * n) := by
      have hg : ∀ i, i < 2 * n → gl (flat (bl F (n + 1))) i = gl (flat (bl F n)) i := fun i hi => by
        rw [bl_flat_succ]; exact gl_app_lt (by rw [bl_flat_length]; exact hi)
      exact ⟨fun ⟨j, j1, j2⟩ => ⟨j, j1, by rw [← hg _ j1]; exact j2⟩, fun ⟨j, j1, j2⟩ => ⟨j, j1, by rw [hg _ j1]; exact j2⟩⟩
    rw [e, e2]
    rintro (h1 | h1)
    · exact ih h1
    · have := h n; omega

end Go.Proofs.Ymbrcl
