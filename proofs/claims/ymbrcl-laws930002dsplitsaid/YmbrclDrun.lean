/- A row of the run's own structs zzs930002drun (n int, v byte): type 50, slices of them type 45. -/
import Derived.Test.YmbrclTwo
set_option linter.unusedVariables false
namespace Go.Proofs.Ymbrcl
open Go.RowKit

theorem Yclm.infoRun : (Yclm.prog.info? 50).map (fun i => (i.zero, i.size, i.bytes)) = some (some (.agg #[.int .i64 0, .int .u8 0]), 2, 16) := by kernel_rfl

/-- the cells of the structs -/
def rcells : List (Int × Int) → List Value
  | [] => []
  | (n, v) :: r => .int .i64 n :: .int .u8 v :: rcells r

theorem rcells_append (a b : List (Int × Int)) : rcells (a ++ b) = rcells a ++ rcells b := by
  induction a with
  | nil => rfl
  | cons p r ih => obtain ⟨n, v⟩ := p; simp [rcells, ih]

theorem rcells_at (l : List (Int × Int)) (i : Nat) (hi : i < l.length) : (rcells l)[i * 2]? = some (.int .i64 (l.getD i (0, 0)).1) ∧ (rcells l)[i * 2 + 1]? = some (.int .u8 (l.getD i (0, 0)).2) := by
  induction l generalizing i with
  | nil => simp at hi
  | cons p r ih =>
    obtain ⟨n, v⟩ := p
    cases i with
    | zero => simp [rcells]
    | succ i =>
      have := ih i (by simpa using hi)
      rw [show (i + 1) * 2 = i * 2 + 1 + 1 by omega]
      simpa [rcells] using this

structure OwnR (w : World) (a : Option Addr) (cap : Nat) (l : List (Int × Int)) : Prop where
  row : w.ownsRow 0 50 2 (.slice a l.length cap) l.length (rcells l)

theorem OwnR.nil (w : World) : OwnR w none 0 [] := ⟨World.ownsRow_nil _ _ _ _⟩

theorem OwnR.lt {w : World} {a : Option Addr} {cap : Nat} {l : List (Int × Int)} (h : OwnR w a cap l) : ∀ k, blk a = some k → k < w.heap.size := by
  intro k hk
  have := h.row.lt k
  cases a with
  | none => simp [blk] at hk
  | some a => simp [blk] at hk; exact (this (by simp [Value.ownBlock, hk])).2

theorem OwnR.keep {w w' : World} {a : Option Addr} {cap : Nat} {l : List (Int × Int)} (h : OwnR w a cap l) (g : G w w') : OwnR w' a cap l :=
  ⟨h.row.kept g (by cases a <;> simp [Value.ownBlock])⟩

theorem OwnR.keepGr {w w' : World} {a b b' : Option Addr} {cap : Nat} {l : List (Int × Int)} (h : OwnR w a cap l) (g : Gr w w' b b') (s : Sep b a) : OwnR w' a cap l := by
  refine ⟨h.row.kept g.gr ?_⟩
  cases a with
  | none => exact .inl rfl
  | some a =>
    refine .inr ?_
    simp only [Value.ownBlock]
    intro e
    exact s a.block e.symm (by simp [blk])

theorem Sep.stepR {w w' : World} {a a' b : Option Addr} {cap : Nat} {l : List (Int × Int)} (s : Sep a b) (g : Gr w w' a a') (h : OwnR w b cap l) : Sep a' b := by
  intro k hk e
  rcases g.loc with x | x
  · exact s k (x ▸ hk) e
  · have := x k hk; have := h.lt k e; omega

/-- an owned row of structs reads field by field -/
theorem OwnR.fld {w : World} {a : Option Addr} {cap : Nat} {l : List (Int × Int)} (h : OwnR w a cap l) :
    Fld w a l.length 2 0 (fun i => .int .i64 (l.getD i (0, 0)).1) ∧ Fld w a l.length 2 1 (fun i => .int .u8 (l.getD i (0, 0)).2) := by
  rcases h.row.2 with ⟨_, h0⟩ | ⟨g, cap', cur, hv, hb, hg, rest⟩
  · exact ⟨.inl h0, .inl h0⟩
  · simp only [Value.slice.injEq] at hv
    obtain ⟨ha, -, rfl⟩ := hv
    subst ha
    refine ⟨.inr ⟨g, 0, rfl, fun i hi => ?_⟩, .inr ⟨g, 0, rfl, fun i hi => ?_⟩⟩
    · have := h.row.cellAt (i * 2) (by omega)
      rw [(rcells_at l i hi).1] at this
      simpa using this
    · have := h.row.cellAt (i * 2 + 1) (by omega)
      rw [(rcells_at l i hi).2] at this
      simpa using this

/-- 'append(runs, drun{n, v})' -/
theorem wpList_appR {w : World} {ops : Array Oper} {rest : List Oper} {o : Oper} {act : Act} {Q : Exit → Act → World → Prop} (hgd : o.guard = none) (s x : Operand)
    (ho : o.op = .call { callee := .builtin .append, args := #[s, x], argTypes := #[45, 45] })
    (a : Option Addr) (n cap : Nat) (l : List (Int × Int)) (hs : act.eval s = .slice a n cap) (hn : n = l.length) (hown : OwnR w a cap l)
    (x0 x1 : Int) (hx : act.eval x = .slice (some ⟨w.heap.size, 0, none⟩) 1 1) (h63 : n + 1 ≤ 8796093022208)
    (h : ∀ a' cap' w', OwnR w' a' cap' (l ++ [(x0, x1)]) → Gr w w' a a' → wpList Yclm.prog ops Q rest (act.put o.dst (.slice a' (n + 1) cap')) w') :
    wpList Yclm.prog ops Q (o :: rest) act (w.alloc (.cells #[.int .i64 x0, .int .u8 x1] 50)) := by
  subst hn
  refine wpList_plain hgd fun K hK => ?_
  obtain ⟨i, hi, hz0, hz1, hz2⟩ := info_parts Yclm.infoRun
  have hW : G w (w.alloc (.cells #[.int .i64 x0, .int .u8 x1] 50)) := G.alloc _ _
  obtain ⟨a', cap', w', hr, hr2, hr3⟩ := run_app (P := Yclm.prog) (w.alloc (.cells #[.int .i64 x0, .int .u8 x1] 50)) 45 o.type 50 i (.agg #[.int .i64 0, .int .u8 0]) 2 16 Yclm.underlying45 hi hz0 hz1 hz2 rfl (by decide) a l.length cap _ (hown.keep hW).row ⟨w.heap.size, 0, none⟩ 1 1 [.int .i64 x0, .int .u8 x1] rfl
    (by
      intro j u hj
      rw [Addr.add_lit, Nat.zero_add, cell_of_row _ w.heap.size j _ 50 (0, 0) (heap_alloc_new w _)]
      simpa using hj)
    (by intro u hu; simp at hu; rcases hu with rfl | rfl <;> rfl) (by unfold maxLen; omega) (by omega)
  unfold Oper.wp execOp
  simp only [ho, resolve, invoke, builtin, Sem.run_bind, Sem.run_pure, Result.andThen_ok, List.map_toArray, List.map_cons, List.map_nil, hs, hx, hr]
  refine hK _ _ (h a' cap' w' ⟨?_⟩ ((hW.gr a).trans hr3))
  rw [rcells_append]
  simpa [rcells] using hr2

end Go.Proofs.Ymbrcl
