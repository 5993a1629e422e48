/- bytes by their places, and pairs -/
import Derived.Test.YmbrclGl
import Derived.Test.YmbrclZero
set_option linter.unusedVariables false
namespace Go.Proofs.Ymbrcl

/-- the first k pairs of the bytes f -/
def pairsOf (f : Nat → Int) (k : Nat) : List (Int × Int) := (List.range k).map fun j => (f (2 * j), f (2 * j + 1))

theorem pairsOf_zero (f : Nat → Int) : pairsOf f 0 = [] := rfl
theorem pairsOf_succ (f : Nat → Int) (k : Nat) : pairsOf f (k + 1) = pairsOf f k ++ [(f (2 * k), f (2 * k + 1))] := by simp [pairsOf, List.range_succ]
theorem pairsOf_length (f : Nat → Int) (k : Nat) : (pairsOf f k).length = k := by simp [pairsOf]
theorem flat_pairsOf (f : Nat → Int) (k : Nat) : flat (pairsOf f k) = lst f (2 * k) := by
  induction k with
  | zero => rfl
  | succ k ih =>
    rw [pairsOf_succ, flat_append, ih, show 2 * (k + 1) = 2 * k + 1 + 1 by omega, lst_succ, lst_succ]
    simp [flat]
theorem pairsOf_flat (ps : List (Int × Int)) : pairsOf (gl (flat ps)) ps.length = ps := by
  apply flat_inj
  rw [flat_pairsOf, ← flat_length]
  exact lst_gl _
theorem pairsOf_congr {f g : Nat → Int} {k : Nat} (h : ∀ i, i < 2 * k → f i = g i) : pairsOf f k = pairsOf g k := by
  apply flat_inj
  rw [flat_pairsOf, flat_pairsOf]
  exact lst_congr h

theorem canon_snoc_iff {ps : List (Int × Int)} {n v : Int} : Canon (ps ++ [(n, v)]) ↔ Canon ps ∧ (1 ≤ n ∧ n ≤ 255) ∧ ∀ q, ps.getLast? = some q → q.2 = v → q.1 = 255 := by
  constructor
  · intro h
    refine ⟨canon_front h, ?_, ?_⟩
    · have := h.well (n, v) (by simp); exact this
    · induction ps with
      | nil => intro q hq; simp at hq
      | cons p ps ih =>
        obtain ⟨m, u⟩ := p
        intro q hq e
        cases ps with
        | nil =>
          simp at hq; subst hq
          exact h.2.2.1 (n, v) (by simp) e.symm
        | cons r ps =>
          rw [List.getLast?_cons_cons] at hq
          exact ih h.2.2.2 q hq e
  · rintro ⟨h1, ⟨h2, h3⟩, h4⟩
    exact canon_snoc h1 h2 h3 h4

theorem pairsOf_last (f : Nat → Int) (k : Nat) (q : Int × Int) : (pairsOf f k).getLast? = some q ↔ ∃ m, k = m + 1 ∧ q = (f (2 * m), f (2 * m + 1)) := by
  cases k with
  | zero => simp [pairsOf]
  | succ m =>
    rw [pairsOf_succ, List.getLast?_concat]
    simp only [Option.some.injEq]
    constructor
    · intro h; exact ⟨m, rfl, h.symm⟩
    · rintro ⟨m', h1, h2⟩; obtain rfl : m = m' := by omega
      exact h2.symm

theorem canon_pairsOf {f : Nat → Int} (hb : ∀ i, 0 ≤ f i ∧ f i ≤ 255) (k : Nat) : Canon (pairsOf f k) ↔ ¬ HasZero f (2 * k) ∧ ¬ HasSplit f (2 * k) := by
  induction k with
  | zero =>
    refine ⟨fun _ => ⟨hz_nil, fun ⟨j, h, _⟩ => by omega⟩, fun _ => trivial⟩
  | succ k ih =>
    rw [pairsOf_succ, canon_snoc_iff, ih, hz_pair]
    have b := hb (2 * k)
    constructor
    · rintro ⟨⟨h1, h2⟩, h3, h4⟩
      refine ⟨fun h => h.elim h1 (by omega), ?_⟩
      rintro ⟨j, j1, j2, j3⟩
      by_cases e : j + 1 = k
      · subst e
        exact j3 (h4 _ ((pairsOf_last f (j + 1) _).2 ⟨j, rfl, rfl⟩) j2.symm)
      · exact h2 ⟨j, by omega, j2, j3⟩
    · rintro ⟨h1, h2⟩
      refine ⟨⟨fun h => h1 (.inl h), fun ⟨j, j1, j2, j3⟩ => h2 ⟨j, by omega, j2, j3⟩⟩, ?_, ?_⟩
      · have : f (2 * k) ≠ 0 := fun h => h1 (.inr h)
        omega
      · intro q hq e
        obtain ⟨m, rfl, rfl⟩ := (pairsOf_last f k q).1 hq
        refine Classical.byContradiction fun h => h2 ⟨m, by omega, ?_, h⟩
        exact e.symm

theorem well_pairsOf {f : Nat → Int} (hb : ∀ i, 0 ≤ f i ∧ f i ≤ 255) (k : Nat) (h : ¬ HasZero f (2 * k)) : Well (pairsOf f k) := by
  intro p hp
  simp only [pairsOf, List.mem_map, List.mem_range] at hp
  obtain ⟨j, hj, rfl⟩ := hp
  have := hb (2 * j)
  have := hz_all h j (by omega)
  simp only; omega

/-- what the first k pairs stand for -/
def exN (f : Nat → Int) (k : Nat) : List Int := ex (pairsOf f k)

theorem exN_zero (f : Nat → Int) : exN f 0 = [] := rfl
theorem exN_succ (f : Nat → Int) (k : Nat) : exN f (k + 1) = exN f k ++ List.replicate (f (2 * k)).toNat (f (2 * k + 1)) := by
  unfold exN; rw [pairsOf_succ, ex_append]; simp [ex]
theorem exN_prefix (f : Nat → Int) (k d : Nat) : ∃ r, exN f (k + d) = exN f k ++ r := by
  induction d with
  | zero => exact ⟨[], by simp⟩
  | succ d ih =>
    obtain ⟨r, h⟩ := ih
    exact ⟨r ++ _, by rw [show k + (d + 1) = k + d + 1 by omega, exN_succ, h, List.append_assoc]⟩
theorem exN_length_le {f : Nat → Int} (hb : ∀ i, 0 ≤ f i ∧ f i ≤ 255) (k : Nat) : (exN f k).length ≤ 255 * k := by
  induction k with
  | zero => simp [exN_zero]
  | succ k ih => rw [exN_succ]; have := hb (2 * k); simp; omega
theorem exN_flat (ps : List (Int × Int)) : exN (gl (flat ps)) ps.length = ex ps := by unfold exN; rw [pairsOf_flat]

/-- the bytes of pair q stand where they should -/
theorem exN_at {f : Nat → Int} {q P j : Nat} (hq : q < P) (hj : j < (f (2 * q)).toNat) : gl (exN f P) ((exN f q).length + j) = f (2 * q + 1) := by
  obtain ⟨r, h⟩ := exN_prefix f (q + 1) (P - (q + 1))
  rw [show q + 1 + (P - (q + 1)) = P by omega, exN_succ, List.append_assoc] at h
  rw [h, gl_app_ge, gl_app_lt (by simpa using hj)]
  unfold gl
  simp [List.getD_eq_getElem?_getD, hj]
theorem exN_mono {f : Nat → Int} {q P : Nat} (hq : q < P) : (exN f q).length + (f (2 * q)).toNat ≤ (exN f P).length := by
  obtain ⟨r, h⟩ := exN_prefix f (q + 1) (P - (q + 1))
  rw [show q + 1 + (P - (q + 1)) = P by omega, exN_succ, List.append_assoc] at h
  rw [h]; simp

end Go.Proofs.Ymbrcl
