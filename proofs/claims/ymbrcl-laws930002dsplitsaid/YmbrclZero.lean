import Derived.Test.YmbrclCheck
namespace Go.Proofs.Ymbrcl

theorem hz_nil {f : Nat → Int} : ¬ HasZero f 0 := fun ⟨j, h, _⟩ => by omega

theorem hz_even {f : Nat → Int} {k : Nat} (hk : k % 2 = 0) : HasZero f (k + 1) ↔ HasZero f k ∨ f k = 0 := by
  constructor
  · rintro ⟨j, h1, h2⟩
    by_cases e : 2 * j = k
    · right; rw [← e]; exact h2
    · left; exact ⟨j, by omega, h2⟩
  · rintro (⟨j, h1, h2⟩ | h)
    · exact ⟨j, by omega, h2⟩
    · exact ⟨k / 2, by omega, by rw [show 2 * (k / 2) = k by omega]; exact h⟩

theorem hz_odd {f : Nat → Int} {k : Nat} (hk : k % 2 = 1) : HasZero f (k + 1) ↔ HasZero f k := by
  constructor
  · rintro ⟨j, h1, h2⟩; exact ⟨j, by omega, h2⟩
  · rintro ⟨j, h1, h2⟩; exact ⟨j, by omega, h2⟩

/-- by pairs -/
theorem hz_pair {f : Nat → Int} {k : Nat} : HasZero f (2 * (k + 1)) ↔ HasZero f (2 * k) ∨ f (2 * k) = 0 := by
  rw [show 2 * (k + 1) = 2 * k + 1 + 1 by omega, hz_odd (by omega), hz_even (by omega)]

theorem hz_all {f : Nat → Int} {n : Nat} (h : ¬ HasZero f n) (j : Nat) (hj : 2 * j < n) : f (2 * j) ≠ 0 := fun e => h ⟨j, hj, e⟩

theorem hz_cut {f : Nat → Int} {n : Nat} (hn : n % 2 = 1) : HasZero f (2 * (n / 2)) ∨ f (2 * (n / 2)) = 0 ↔ HasZero f n := by
  rw [← hz_even (by omega), show 2 * (n / 2) + 1 = n by omega]

end Go.Proofs.Ymbrcl
