/- summing up groups of one value and paying the sums out: the plain part -/
import Derived.Test.YmbrcmPairs
import Derived.Test.YmbrcmRuns
set_option linter.unusedVariables false
namespace Go.Proofs.Ymbrcm

/-- what the outer loop holds at pair k of n bytes -/
structure WantAt (f : Nat → Int) (n k : Nat) (qs : List (Int × Int)) : Prop where
  canon : Canon qs
  ex : ex qs = exN f k
  last : ∀ q, qs.getLast? = some q → 2 * k = n ∨ q.2 ≠ f (2 * k + 1)
  len : qs.length ≤ k

/-- pairs k to k' are of one value v and sum up to t -/
structure Grp (f : Nat → Int) (k k' : Nat) (v : Int) (t : Nat) : Prop where
  le : k ≤ k'
  ex : exN f k' = exN f k ++ List.replicate t v
  lo : k' - k ≤ t
  hi : t ≤ 255 * (k' - k)

theorem Grp.start (f : Nat → Int) (k : Nat) (v : Int) : Grp f k k v 0 := ⟨Nat.le_refl _, by simp, by omega, by omega⟩

theorem Grp.step {f : Nat → Int} {k k' : Nat} {v : Int} {t c : Nat} (h : Grp f k k' v t) (hv : f (2 * k' + 1) = v) (hc : f (2 * k') = (c : Int)) (h1 : 1 ≤ c) (h2 : c ≤ 255) : Grp f k (k' + 1) v (t + c) := by
  have := h.le
  have := h.lo
  have := h.hi
  refine ⟨by omega, ?_, by omega, by omega⟩
  rw [exN_succ, h.ex, hv, hc, List.append_assoc, Int.toNat_natCast, List.replicate_append_replicate]

theorem WantAt.step {f : Nat → Int} {n k k' : Nat} {v : Int} {t : Nat} {qs : List (Int × Int)} (h : WantAt f n k qs) (g : Grp f k k' v t) (hk : k < k') (hn : 2 * k < n) (hv : f (2 * k + 1) = v) (hlast : 2 * k' = n ∨ f (2 * k' + 1) ≠ v) : WantAt f n k' (qs ++ emit t v) := by
  have hlo := g.lo
  have hhi := g.hi
  refine ⟨canon_append h.canon (emit_canon t v) ?_, ?_, ?_, ?_⟩
  · intro p q hp hq e
    rcases h.last p hp with x | x
    · omega
    · have h2 := emit_val t v q (List.mem_of_head? hq)
      exact absurd (by rw [← e, h2, hv]) x
  · rw [ex_append, h.ex, emit_ex, g.ex]
  · intro q hq
    rcases hlast with x | x
    · exact .inl x
    · right
      have hne : emit t v ≠ [] := by
        intro e; have := emit_len t v; rw [e] at this; simp at this; omega
      cases hz : (emit t v).getLast? with
      | none => exact absurd (List.getLast?_eq_none_iff.1 hz) hne
      | some z =>
        rw [List.getLast?_append, hz] at hq
        simp at hq; subst hq
        rw [emit_val t v z (List.mem_of_getLast? hz)]
        exact fun e => x e.symm
  · rw [List.length_append, emit_len]; have := h.len; omega

theorem want_nil (f : Nat → Int) (n : Nat) : WantAt f n 0 [] := ⟨trivial, rfl, by simp, by simp⟩

end Go.Proofs.Ymbrcm
