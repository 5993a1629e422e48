/- the canonical pairs of n copies of one value; canonical lists laid end to end -/
import Derived.Test.YmbrclPlain
set_option linter.unusedVariables false
namespace Go.Proofs.Ymbrcl

/-- full pairs first, then the rest -/
def emit (n : Nat) (v : Int) : List (Int × Int) :=
  if n = 0 then [] else List.replicate ((n - 1) / 255) (255, v) ++ [(((n - 255 * ((n - 1) / 255) : Nat) : Int), v)]

theorem emit_zero (v : Int) : emit 0 v = [] := rfl
theorem emit_small {n : Nat} {v : Int} (h1 : 1 ≤ n) (h2 : n ≤ 255) : emit n v = [((n : Int), v)] := by
  unfold emit
  rw [if_neg (by omega), show (n - 1) / 255 = 0 by omega]
  simp
theorem emit_step {n : Nat} {v : Int} (h : 255 < n) : emit n v = (255, v) :: emit (n - 255) v := by
  unfold emit
  rw [if_neg (by omega), if_neg (by omega), show (n - 1) / 255 = (n - 255 - 1) / 255 + 1 by omega, List.replicate_succ, List.cons_append]
  rw [show n - 255 * ((n - 255 - 1) / 255 + 1) = n - 255 - 255 * ((n - 255 - 1) / 255) by omega]

theorem emit_ex (n : Nat) (v : Int) : ex (emit n v) = List.replicate n v := by
  induction n using Nat.strongRecOn with
  | ind n ih =>
    by_cases h0 : n = 0
    · subst h0; rfl
    by_cases h1 : n ≤ 255
    · rw [emit_small (by omega) h1]; simp [ex]
    · rw [emit_step (by omega)]
      simp only [ex]
      rw [ih (n - 255) (by omega)]
      show List.replicate 255 v ++ _ = _
      rw [List.replicate_append_replicate, show 255 + (n - 255) = n by omega]

theorem emit_val (n : Nat) (v : Int) : ∀ p ∈ emit n v, p.2 = v := by
  intro p hp
  unfold emit at hp
  split at hp
  · simp at hp
  · rcases List.mem_append.1 hp with h | h
    · rw [List.eq_of_mem_replicate h]
    · simp at h; rw [h]

theorem emit_len (n : Nat) (v : Int) : (emit n v).length = (n + 254) / 255 := by
  unfold emit
  split
  · rename_i h; subst h; simp
  · simp; omega

theorem emit_canon (n : Nat) (v : Int) : Canon (emit n v) := by
  induction n using Nat.strongRecOn with
  | ind n ih =>
    by_cases h0 : n = 0
    · subst h0; trivial
    by_cases h1 : n ≤ 255
    · rw [emit_small (by omega) h1]; exact ⟨by omega, by omega, by simp, trivial⟩
    · rw [emit_step (by omega)]
      obtain ⟨k, hk⟩ : ∃ k, n - 255 = k := ⟨_, rfl⟩
      rw [hk]
      have h2 := ih k (by omega)
      refine ⟨by omega, by omega, ?_, h2⟩
      intros; rfl

theorem canon_append {A B : List (Int × Int)} (hA : Canon A) (hB : Canon B) (h : ∀ p q, A.getLast? = some p → B.head? = some q → q.2 = p.2 → p.1 = 255) : Canon (A ++ B) := by
  induction A with
  | nil => exact hB
  | cons a A ih =>
    obtain ⟨n, v⟩ := a
    refine ⟨hA.1, hA.2.1, ?_, ih hA.2.2.2 ?_⟩
    · intro q hq e
      cases A with
      | nil => exact h (n, v) q (by simp) (by simpa using hq) e
      | cons b A => exact hA.2.2.1 q (by simpa using hq) e
    · intro p q hp hq e
      cases A with
      | nil => simp at hp
      | cons b A => exact h p q (by rw [List.getLast?_cons_cons]; exact hp) hq e

theorem canon_back {A B : List (Int × Int)} (h : Canon (A ++ B)) : Canon B := by
  induction A with
  | nil => exact h
  | cons a A ih => obtain ⟨n, v⟩ := a; exact ih h.2.2.2

/-- two runs of two values -/
theorem canon_two {n m : Nat} {v u : Int} (h : v ≠ u) : Canon (emit n v ++ emit m u) := by
  refine canon_append (emit_canon n v) (emit_canon m u) fun p q hp hq e => ?_
  have h1 := emit_val n v p (List.mem_of_getLast? hp)
  have h2 := emit_val m u q (List.mem_of_head? hq)
  rw [h1, h2] at e
  exact absurd e.symm h

theorem emit_byte {n : Nat} {v : Int} (hv : 0 ≤ v ∧ v ≤ 255) : ∀ x ∈ flat (emit n v), 0 ≤ x ∧ x ≤ 255 := by
  have hw := (emit_canon n v).well
  have hval := emit_val n v
  generalize emit n v = l at *
  induction l with
  | nil => intro x hx; simp [flat] at hx
  | cons p l ih =>
    obtain ⟨c, u⟩ := p
    intro x hx
    simp only [flat, List.mem_cons] at hx
    rcases hx with rfl | rfl | hx
    · have := hw (x, u) (by simp); simp only at this; omega
    · have := hval (c, x) (by simp); simp only at this; omega
    · exact ih (fun p hp => hw p (by simp [hp])) (fun p hp => hval p (by simp [hp])) x hx

end Go.Proofs.Ymbrcl
