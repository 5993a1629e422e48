namespace Go.Proofs.Ymbrcl

/-- n is the length of the run of f that begins at s, cut down to 255, in a row of 'len'. -/
def RunIs (f : Nat → Int) (len s n : Nat) : Prop :=
  1 ≤ n ∧ n ≤ 255 ∧ s + n ≤ len ∧ (∀ j, j < n → f (s + j) = f s) ∧ (n = 255 ∨ s + n = len ∨ f (s + n) ≠ f s)

end Go.Proofs.Ymbrcl
