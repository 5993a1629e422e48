/- what an encoder by longest runs holds at a place; that it always comes to an end -/
import Derived.Test.YmbrclRunDef
import Derived.Test.YmbrclPlain
set_option linter.unusedVariables false
namespace Go.Proofs.Ymbrcl

/-- what Encode's loop holds at i -/
structure EncAt (f : Nat → Int) (len i : Nat) (ps : List (Int × Int)) : Prop where
  canon : Canon ps
  ex : ex ps = lst f i
  byte : ∀ x ∈ flat ps, 0 ≤ x ∧ x ≤ 255
  last : ∀ q, ps.getLast? = some q → q.1 = 255 ∨ i = len ∨ f i ≠ q.2
  size : ps.length ≤ i

theorem EncAt.step {f : Nat → Int} {len i n : Nat} {ps : List (Int × Int)} (h : EncAt f len i ps) (hr : RunIs f len i n) (hb : 0 ≤ f i ∧ f i ≤ 255) (hi : i < len) : EncAt f len (i + n) (ps ++ [((n : Int), f i)]) := by
  obtain ⟨r1, r2, r3, r4, r5⟩ := hr
  refine ⟨canon_snoc h.canon (by omega) (by omega) ?_, ?_, ?_, ?_, ?_⟩
  · intro q hq e
    rcases h.last q hq with x | x | x
    · exact x
    · omega
    · exact absurd e.symm x
  · rw [ex_append, h.ex, lst_run f i n (f i) r4]; simp [Go.Proofs.Ymbrcl.ex]
  · intro x hx
    rw [flat_append] at hx
    rcases List.mem_append.1 hx with hx | hx
    · exact h.byte x hx
    · simp [flat] at hx; rcases hx with rfl | rfl <;> omega
  · intro q hq
    simp at hq; subst hq
    rcases r5 with r5 | r5 | r5
    · left; simp [r5]
    · right; left; exact r5
    · right; right; exact r5
  · simp; have := h.size; omega

theorem run_more_ex (f : Nat → Int) (len s : Nat) (fuel : Nat) : ∀ m, 255 - m ≤ fuel → 1 ≤ m → m ≤ 255 → s + m ≤ len → (∀ j, j < m → f (s + j) = f s) → ∃ n, RunIs f len s n := by
  induction fuel with
  | zero => intro m h1 h2 h3 h4 h5; exact ⟨m, h2, h3, h4, h5, .inl (by omega)⟩
  | succ fuel ih =>
    intro m h1 h2 h3 h4 h5
    by_cases e : m = 255
    · exact ⟨m, h2, h3, h4, h5, .inl e⟩
    by_cases e2 : s + m = len
    · exact ⟨m, h2, h3, h4, h5, .inr (.inl e2)⟩
    by_cases e3 : f (s + m) = f s
    · refine ih (m + 1) (by omega) (by omega) (by omega) (by omega) fun j hj => ?_
      by_cases e4 : j = m
      · subst e4; exact e3
      · exact h5 j (by omega)
    · exact ⟨m, h2, h3, h4, h5, .inr (.inr e3)⟩

theorem run_ex (f : Nat → Int) (len s : Nat) (h : s < len) : ∃ n, RunIs f len s n :=
  run_more_ex f len s 255 1 (by omega) (by omega) (by omega) (by omega) fun j hj => by rw [show j = 0 by omega]; rfl

theorem EncAt.goes {f : Nat → Int} (hb : ∀ i, 0 ≤ f i ∧ f i ≤ 255) {len : Nat} (fuel : Nat) : ∀ i ps, len - i ≤ fuel → i ≤ len → EncAt f len i ps → ∃ qs, EncAt f len len (ps ++ qs) ∧ (i < len → 1 ≤ qs.length) := by
  induction fuel with
  | zero => intro i ps h1 h2 h; obtain rfl : i = len := by omega
            exact ⟨[], by simpa using h, by omega⟩
  | succ fuel ih =>
    intro i ps h1 h2 h
    by_cases e : i < len
    · obtain ⟨n, hn⟩ := run_ex f len i e
      have r1 := hn.1
      have r3 := hn.2.2.1
      obtain ⟨qs, q1, q2⟩ := ih (i + n) _ (by omega) (by omega) (h.step hn (hb i) e)
      exact ⟨((n : Int), f i) :: qs, by simpa using q1, fun _ => by simp⟩
    · obtain rfl : i = len := by omega
      exact ⟨[], by simpa using h, by omega⟩

end Go.Proofs.Ymbrcl
