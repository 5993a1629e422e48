/- PLAIN MATHEMATICS, no Go in sight: pairs (count, value), what they stand for ('ex'), how they lie as bytes ('flat'), when they are canonical ('Canon'); the canonical pairs of given bytes are one. -/
namespace Go.Proofs.Ymbrcl

def flat : List (Int × Int) → List Int
  | [] => []
  | (n, v) :: r => n :: v :: flat r

def ex : List (Int × Int) → List Int
  | [] => []
  | (n, v) :: r => List.replicate n.toNat v ++ ex r

/-- counts from 1 to 255; two neighbours of one value only where the first is full -/
def Canon : List (Int × Int) → Prop
  | [] => True
  | (n, v) :: r => 1 ≤ n ∧ n ≤ 255 ∧ (∀ q, r.head? = some q → q.2 = v → n = 255) ∧ Canon r

/-- counts from 1 to 255 -/
def Well (ps : List (Int × Int)) : Prop := ∀ p ∈ ps, 1 ≤ p.1 ∧ p.1 ≤ 255

theorem flat_append (a b : List (Int × Int)) : flat (a ++ b) = flat a ++ flat b := by
  induction a with
  | nil => rfl
  | cons p a ih => obtain ⟨n, v⟩ := p; simp [flat, ih]

theorem flat_length (a : List (Int × Int)) : (flat a).length = 2 * a.length := by
  induction a with
  | nil => rfl
  | cons p a ih => obtain ⟨n, v⟩ := p; simp [flat, ih]; omega

theorem flat_inj {a b : List (Int × Int)} (h : flat a = flat b) : a = b := by
  induction a generalizing b with
  | nil =>
    cases b with
    | nil => rfl
    | cons q b => simp [flat] at h
  | cons p a ih =>
    cases b with
    | nil => simp [flat] at h
    | cons q b =>
      obtain ⟨n, v⟩ := p; obtain ⟨m, u⟩ := q
      simp only [flat, List.cons.injEq] at h
      obtain ⟨rfl, rfl, h⟩ := h
      rw [ih h]

theorem ex_append (a b : List (Int × Int)) : ex (a ++ b) = ex a ++ ex b := by
  induction a with
  | nil => rfl
  | cons p a ih => obtain ⟨n, v⟩ := p; simp [ex, ih]

theorem Canon.well {ps : List (Int × Int)} (h : Canon ps) : Well ps := by
  induction ps with
  | nil => intro p hp; simp at hp
  | cons p ps ih =>
    obtain ⟨n, v⟩ := p
    intro q hq
    rcases List.mem_cons.1 hq with rfl | hq
    · exact ⟨h.1, h.2.1⟩
    · exact ih h.2.2.2 q hq

theorem canon_snoc {ps : List (Int × Int)} {n v : Int} (h : Canon ps) (h1 : 1 ≤ n) (h2 : n ≤ 255) (hl : ∀ q, ps.getLast? = some q → q.2 = v → q.1 = 255) : Canon (ps ++ [(n, v)]) := by
  induction ps with
  | nil => exact ⟨h1, h2, by simp, trivial⟩
  | cons p ps ih =>
    obtain ⟨m, u⟩ := p
    refine ⟨h.1, h.2.1, ?_, ?_⟩
    · intro q hq
      cases ps with
      | nil =>
        simp at hq; subst hq
        intro e
        exact hl (m, u) (by simp) e.symm
      | cons r ps => simp at hq; exact h.2.2.1 q (by simp [hq])
    · refine ih h.2.2.2 fun q hq => hl q ?_
      cases ps with
      | nil => simp at hq
      | cons r ps => rw [List.getLast?_cons_cons]; exact hq

/-- what a canonical list's last pair may be turned into: the same value, another count -/
theorem canon_last {ps : List (Int × Int)} {m n v : Int} (h : Canon (ps ++ [(m, v)])) (h1 : 1 ≤ n) (h2 : n ≤ 255) : Canon (ps ++ [(n, v)]) := by
  induction ps with
  | nil => exact ⟨h1, h2, by simp, trivial⟩
  | cons p ps ih =>
    obtain ⟨k, u⟩ := p
    refine ⟨h.1, h.2.1, ?_, ih h.2.2.2⟩
    intro q hq e
    cases ps with
    | nil =>
      simp at hq; subst hq
      exact h.2.2.1 (m, v) (by simp) e
    | cons r ps => simp at hq; exact h.2.2.1 q (by simp [hq]) e

theorem canon_front {ps qs : List (Int × Int)} (h : Canon (ps ++ qs)) : Canon ps := by
  induction ps with
  | nil => trivial
  | cons p ps ih =>
    obtain ⟨k, u⟩ := p
    refine ⟨h.1, h.2.1, ?_, ih h.2.2.2⟩
    intro q hq e
    exact h.2.2.1 q (by cases ps with | nil => simp at hq | cons r ps => simpa using hq) e

theorem ex_head {ps : List (Int × Int)} (h : Well ps) {x : Int} {l : List Int} (e : ex ps = x :: l) : ∃ n r, ps = (n, x) :: r := by
  cases ps with
  | nil => simp [ex] at e
  | cons p ps =>
    obtain ⟨n, v⟩ := p
    have hn := (h (n, v) (by simp)).1
    simp only at hn
    obtain ⟨k, hk⟩ : ∃ k, n.toNat = k + 1 := ⟨n.toNat - 1, by omega⟩
    simp only [ex, hk, List.replicate_succ, List.cons_append, List.cons.injEq] at e
    exact ⟨n, ps, by rw [e.1]⟩

theorem canon_le {n m v : Int} {r t : List (Int × Int)} (h : Canon ((n, v) :: r)) (k : Canon ((m, v) :: t)) (e : List.replicate n.toNat v ++ ex r = List.replicate m.toNat v ++ ex t) : m ≤ n := by
  refine Int.not_lt.1 fun hlt => ?_
  have h1 := h.1
  obtain ⟨d, hd⟩ : ∃ d, m.toNat = n.toNat + (d + 1) := ⟨m.toNat - n.toNat - 1, by omega⟩
  rw [hd, ← List.replicate_append_replicate, List.append_assoc, List.append_cancel_left_eq, List.replicate_succ, List.cons_append] at e
  obtain ⟨c, r', hr⟩ := ex_head h.2.2.2.well e
  have := h.2.2.1 (c, v) (by simp [hr]) rfl
  have := k.2.1
  omega

/-- ONE LIST OF BYTES HAS ONE CANONICAL LIST OF PAIRS. -/
theorem canon_unique {ps qs : List (Int × Int)} (h : Canon ps) (k : Canon qs) (e : ex ps = ex qs) : ps = qs := by
  induction ps generalizing qs with
  | nil =>
    cases qs with
    | nil => rfl
    | cons q qs =>
      obtain ⟨m, u⟩ := q
      have := k.1
      obtain ⟨d, hd⟩ : ∃ d, m.toNat = d + 1 := ⟨m.toNat - 1, by omega⟩
      simp [ex, hd, List.replicate_succ] at e
  | cons p ps ih =>
    obtain ⟨n, v⟩ := p
    have hn := h.1
    obtain ⟨d, hd⟩ : ∃ d, n.toNat = d + 1 := ⟨n.toNat - 1, by omega⟩
    have e' := e.symm
    simp only [ex, hd, List.replicate_succ, List.cons_append] at e'
    obtain ⟨m, t, rfl⟩ := ex_head k.well e'
    simp only [ex] at e
    have h1 := canon_le h k e
    have h2 := canon_le k h e.symm
    obtain rfl : n = m := by omega
    rw [List.append_cancel_left_eq] at e
    rw [ih h.2.2.2 k.2.2.2 e]

/-- the first n numbers of f -/
def lst (f : Nat → Int) (n : Nat) : List Int := (List.range n).map f

theorem lst_zero (f : Nat → Int) : lst f 0 = [] := rfl
theorem lst_succ (f : Nat → Int) (n : Nat) : lst f (n + 1) = lst f n ++ [f n] := by simp [lst, List.range_succ]
theorem lst_length (f : Nat → Int) (n : Nat) : (lst f n).length = n := by simp [lst]
theorem lst_run (f : Nat → Int) (s n : Nat) (v : Int) (h : ∀ j, j < n → f (s + j) = v) : lst f (s + n) = lst f s ++ List.replicate n v := by
  induction n with
  | zero => simp
  | succ n ih =>
    rw [show s + (n + 1) = (s + n) + 1 by omega, lst_succ, ih (fun j hj => h j (by omega)), h n (by omega), List.append_assoc, List.replicate_succ']
theorem lst_getD (l : List Int) : lst (fun i => l.getD i 0) l.length = l := by
  apply List.ext_getElem
  · simp [lst]
  · intro i h1 h2
    simp [lst, h2]
theorem lst_congr {f g : Nat → Int} {n : Nat} (h : ∀ i, i < n → f i = g i) : lst f n = lst g n := by
  induction n with
  | zero => rfl
  | succ n ih => rw [lst_succ, lst_succ, ih (fun i hi => h i (by omega)), h n (by omega)]
theorem lst_inj {f g : Nat → Int} {n : Nat} (h : lst f n = lst g n) : ∀ i, i < n → f i = g i := by
  intro i hi
  have := congrArg (fun l => l[i]?) h
  simpa [lst, hi] using this
theorem lst_mem {f : Nat → Int} {n : Nat} {x : Int} (h : x ∈ lst f n) : ∃ i, i < n ∧ x = f i := by
  simp only [lst, List.mem_map, List.mem_range] at h
  obtain ⟨i, hi, e⟩ := h
  exact ⟨i, hi, e.symm⟩

end Go.Proofs.Ymbrcl
