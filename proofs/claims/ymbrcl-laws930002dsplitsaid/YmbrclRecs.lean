/- A slice of structs that came in, field by field. -/
import Derived.Test.YmbrclOwn
import Derived.Deep.Slices
import Derived.ProofKit
set_option linter.unusedVariables false
namespace Go.Proofs.Ymbrcl
open Go.RowKit Go.ChangeShapes Go.WideShapes

/-- Of n structs of K cells at 'a', cell j of struct i holds V i. -/
def Fld (w : World) (a : Option Addr) (n K j : Nat) (V : Nat → Value) : Prop :=
  n = 0 ∨ ∃ b off, a = some ⟨b, off, none⟩ ∧ ∀ i, i < n → w.cell? ⟨b, off + i * K + j, none⟩ = some (V i)

theorem Fld.keep {w w' : World} {a : Option Addr} {n K j : Nat} {V : Nat → Value} (h : Fld w a n K j V) (g : G w w') : Fld w' a n K j V := by
  rcases h with h | ⟨b, off, ha, hc⟩
  · exact .inl h
  · exact .inr ⟨b, off, ha, fun i hi => g.cell (hc i hi) (by simp)⟩

theorem Fld.at {w : World} {a : Option Addr} {n K j : Nat} {V : Nat → Value} (h : Fld w a n K j V) {i : Nat} (hi : i < n) : ∃ b off, a = some ⟨b, off, none⟩ := by
  rcases h with h | ⟨b, off, ha, _⟩
  · omega
  · exact ⟨b, off, ha⟩

theorem Fld.cell {w : World} {b off n K j : Nat} {V : Nat → Value} (h : Fld w (some ⟨b, off, none⟩) n K j V) {i : Nat} (hi : i < n) : w.cell? ⟨b, off + i * K + j, none⟩ = some (V i) := by
  rcases h with h | ⟨b', off', ha, hc⟩
  · omega
  · simp only [Option.some.injEq, Addr.mk.injEq, and_true] at ha
    obtain ⟨rfl, rfl⟩ := ha
    exact hc i hi

section
variable {H : Type} {enc : TypeId × Value → H} {P : Program} {w : World} {base : Nat} {spare : Nat → Bool} {held : Bool}

/-- one field of one struct -/
theorem fld_one {e : TypeId} {fs : Array Field} {fl : Field} {n K i j : Nat} {a : Addr} {y : DataW H × List MemPlace} (he : P.underlying e = some (.struct fs)) (hj : fs[j]? = some fl) (ho : fl.offset = j) (hc : P.cellsOf fl.type = 1) (hjK : j < K)
    (h : ∃ cs', w.cells? base (a.add (i * K)) K = some cs' ∧ DataW.trod enc P w base spare held n e cs' = some y) :
    ∃ v m z, w.cell? (a.add (i * K + j)) = some v ∧ DataW.trod enc P w base spare held m fl.type [v] = some z := by
  obtain ⟨cs', h1, h2⟩ := h
  obtain ⟨_, hlen, hcell⟩ := World.cells?_some h1
  obtain ⟨xs, k, hk, hxy, _, hxl, hf⟩ := DataW.trod_struct he h2
  have g := hf j fl hj
  have hjx : j < xs.length := by rw [hxl]; exact (Array.getElem?_eq_some_iff.1 hj).1
  have hjc : j < cs'.length := by omega
  rw [ho, hc, List.getElem?_eq_getElem hjx] at g
  have e1 : (cs'.drop j).take 1 = [cs'[j]] := by
    rw [List.drop_eq_getElem_cons hjc, List.take_succ_cons, List.take_zero]
  rw [e1] at g
  have e0 := hcell j hjK
  rw [Deep.add_add, List.getElem?_eq_getElem hjc] at e0
  exact ⟨_, _, _, e0, g⟩

/-- a field of bytes, of all structs -/
theorem fld_bytes {e : TypeId} {fs : Array Field} {fl : Field} {n K m len j : Nat} {a : Addr} {D : Nat → DataW H × List MemPlace} (he : P.underlying e = some (.struct fs)) (hj : fs[j]? = some fl) (ho : fl.offset = j) (hc : P.cellsOf fl.type = 1) (hu : P.underlying fl.type = some (.int .u8)) (hjK : j < K) (hlm : len ≤ m)
    (h : ∀ i, i < m → ∃ cs', w.cells? base (a.add (i * K)) K = some cs' ∧ DataW.trod enc P w base spare held n e cs' = some (D i)) :
    ∃ g : Nat → Int, (∀ i, 0 ≤ g i ∧ g i ≤ 255) ∧ Fld w (some a) len K j (fun i => .int .u8 (g i)) := by
  have each : ∀ i, i < len → ∃ z : Int, w.cell? (a.add (i * K + j)) = some (.int .u8 z) ∧ 0 ≤ z ∧ z ≤ 255 := by
    intro i hi
    obtain ⟨v, q, z, h1, h2⟩ := fld_one he hj ho hc hjK (h i (by omega))
    obtain ⟨x, hx, _, wf⟩ := DataW.trod_int hu h2
    simp only [List.cons.injEq, and_true] at hx
    subst hx
    exact ⟨x, h1, bounds_u8 wf⟩
  obtain ⟨g, hg⟩ := Deep.choose_lt each
  refine ⟨fun i => if i < len then g i else 0, fun i => ?_, ?_⟩
  · by_cases hi : i < len
    · simp only [hi, if_true]; exact (hg i hi).2
    · simp [hi]
  · by_cases h0 : len = 0
    · exact .inl h0
    · obtain ⟨b, off, spot⟩ := a
      have c0 := (hg 0 (by omega)).1
      have hsp : spot = none := by
        have := World.cell?_spot c0
        unfold Addr.add at this
        split at this
        · exact this
        · rename_i hne
          -- the cell lies behind the head: look at the struct's own head
          obtain ⟨cs', h1, h2⟩ := h 0 (by omega)
          obtain ⟨_, hlen, hcell⟩ := World.cells?_some h1
          have e0 := hcell 0 (by omega)
          rw [Deep.add_add, List.getElem?_eq_getElem (by omega)] at e0
          simpa [Addr.add] using World.cell?_spot e0
      subst hsp
      refine .inr ⟨b, off, rfl, fun i hi => ?_⟩
      have := (hg i hi).1
      rw [Addr.add_lit, ← Nat.add_assoc] at this
      simp only [hi, if_true]
      exact this

/-- a field of bools, of all structs -/
theorem fld_bools {e : TypeId} {fs : Array Field} {fl : Field} {n K m len j : Nat} {a : Addr} {D : Nat → DataW H × List MemPlace} (he : P.underlying e = some (.struct fs)) (hj : fs[j]? = some fl) (ho : fl.offset = j) (hc : P.cellsOf fl.type = 1) (hu : P.underlying fl.type = some .bool) (hjK : j < K) (hlm : len ≤ m)
    (h : ∀ i, i < m → ∃ cs', w.cells? base (a.add (i * K)) K = some cs' ∧ DataW.trod enc P w base spare held n e cs' = some (D i)) :
    ∃ g : Nat → Bool, Fld w (some a) len K j (fun i => .bool (g i)) := by
  have each : ∀ i, i < len → ∃ z : Bool, w.cell? (a.add (i * K + j)) = some (.bool z) := by
    intro i hi
    obtain ⟨v, q, z, h1, h2⟩ := fld_one he hj ho hc hjK (h i (by omega))
    obtain ⟨x, hx, _⟩ := DataW.trod_bool hu h2
    simp only [List.cons.injEq, and_true] at hx
    subst hx
    exact ⟨x, h1⟩
  obtain ⟨g, hg⟩ := Deep.choose_lt each
  refine ⟨g, ?_⟩
  by_cases h0 : len = 0
  · exact .inl h0
  · obtain ⟨b, off, spot⟩ := a
    obtain ⟨cs', h1, h2⟩ := h 0 (by omega)
    obtain ⟨_, hlen, hcell⟩ := World.cells?_some h1
    have e0 := hcell 0 (by omega)
    rw [Deep.add_add, List.getElem?_eq_getElem (by omega)] at e0
    have hsp : spot = none := by simpa [Addr.add] using World.cell?_spot e0
    subst hsp
    refine .inr ⟨b, off, rfl, fun i hi => ?_⟩
    have := hg i hi
    rw [Addr.add_lit, ← Nat.add_assoc] at this
    exact this

end

/-- 'append(out, x, y)' where blocks have been laid: the new row's number is given -/
theorem wpList_app2s {w : World} {ops : Array Oper} {rest : List Oper} {o : Oper} {act : Act} {Q : Exit → Act → World → Prop} (sz : Nat) (hsz : w.heap.size = sz) (hgd : o.guard = none) (s x : Operand) (ho : o.op = .call { callee := .builtin .append, args := #[s, x], argTypes := #[24, 24] })
    (a : Option Addr) (n cap : Nat) (l : List Int) (hs : act.eval s = .slice a n cap) (hn : n = l.length) (hown : Own w a cap l)
    (x0 x1 : Int) (hx : act.eval x = .slice (some ⟨sz, 0, none⟩) 2 2) (b0 : 0 ≤ x0 ∧ x0 ≤ 255) (b1 : 0 ≤ x1 ∧ x1 ≤ 255) (h63 : n + 2 ≤ 140737488355328)
    (h : ∀ a' cap' w', Own w' a' cap' (l ++ [x0, x1]) → Gr w w' a a' → wpList Yclm.prog ops Q rest (act.put o.dst (.slice a' (n + 2) cap')) w') :
    wpList Yclm.prog ops Q (o :: rest) act (w.alloc (.cells #[.int .u8 x0, .int .u8 x1] 5)) := by
  subst hsz
  exact wpList_app2 hgd s x ho a n cap l hs hn hown x0 x1 hx b0 b1 h63 h

/-- a cell of a block that lies apart from the row that is written -/
theorem Gr.cellApart {w w' : World} {a a' : Option Addr} (g : Gr w w' a a') {b o : Nat} {v : Value} (h : w.cell? ⟨b, o, none⟩ = some v) (hne : blk a ≠ some b) : w'.cell? ⟨b, o, none⟩ = some v :=
  g.gr.cell h (by intro e; exact hne e.symm)

end Go.Proofs.Ymbrcl
