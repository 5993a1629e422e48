/- pairs pushed one byte at a time; the last pair of a list of pairs -/
import Derived.Test.YmbrclGl
set_option linter.unusedVariables false
namespace Go.Proofs.Ymbrcl

/-- what bmodel's loop holds behind i bytes: L pairs -/
structure BmAt (f : Nat → Int) (i L : Nat) (ps : List (Int × Int)) : Prop where
  len : ps.length = L
  canon : Canon ps
  ex : ex ps = lst f i
  size : L ≤ i

theorem last_split {ps : List (Int × Int)} {Q : Nat} (h : ps.length = Q + 1) : ∃ qs m v, ps = qs ++ [(m, v)] ∧ qs.length = Q := by
  have hne : ps ≠ [] := by intro e; subst e; simp at h
  refine ⟨ps.dropLast, (ps.getLast hne).1, (ps.getLast hne).2, ?_, by simp [h]⟩
  exact (List.dropLast_concat_getLast hne).symm

theorem flat_last {qs : List (Int × Int)} {Q : Nat} (h : qs.length = Q) (m v : Int) : gl (flat (qs ++ [(m, v)])) (2 * Q) = m ∧ gl (flat (qs ++ [(m, v)])) (2 * Q + 1) = v := by
  have e : (flat qs).length = 2 * Q := by rw [flat_length, h]
  rw [flat_append]
  constructor
  · rw [← e]; exact gl_app_ge (i := 0)
  · rw [← e]; exact gl_app_ge (i := 1)

theorem flat_set {qs : List (Int × Int)} {Q : Nat} (h : qs.length = Q) (m n v : Int) : (flat (qs ++ [(m, v)])).set (2 * Q) n = flat (qs ++ [(n, v)]) := by
  have e : (flat qs).length = 2 * Q := by rw [flat_length, h]
  rw [flat_append, flat_append, ← e, List.set_append]
  simp [flat]

theorem BmAt.more {f : Nat → Int} {i Q : Nat} {qs : List (Int × Int)} {m : Int} (h : BmAt f i (Q + 1) (qs ++ [(m, f i)])) (hm : m < 255) : BmAt f (i + 1) (Q + 1) (qs ++ [(m + 1, f i)]) := by
  have hw := h.canon.well (m, f i) (by simp)
  simp only at hw
  refine ⟨by simpa using h.len, canon_last h.canon (by omega) (by omega), ?_, by have := h.size; omega⟩
  have he := h.ex
  rw [ex_append] at he
  rw [ex_append, lst_succ, ← he, List.append_assoc]
  simp only [Go.Proofs.Ymbrcl.ex, List.append_nil]
  rw [show (m + 1).toNat = m.toNat + 1 by omega, List.replicate_succ']

theorem BmAt.new {f : Nat → Int} {i L : Nat} {ps : List (Int × Int)} (h : BmAt f i L ps) (hl : ∀ q, ps.getLast? = some q → q.2 = f i → q.1 = 255) : BmAt f (i + 1) (L + 1) (ps ++ [(1, f i)]) := by
  refine ⟨by simp [h.len], canon_snoc h.canon (by omega) (by omega) hl, ?_, by have := h.size; omega⟩
  rw [ex_append, h.ex, lst_succ]
  simp [Go.Proofs.Ymbrcl.ex]

end Go.Proofs.Ymbrcl
