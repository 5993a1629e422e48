/- A slice that the run itself made ('Own'), where it may lie and what a step leaves of all else ('Gr'); append, make and stores on it. -/
import Derived.Test.YmbrclProg
import Derived.Test.YmbrclKit
namespace Go.Proofs.Ymbrcl
open Go.RowKit

theorem Yclm.infoByte : (Yclm.prog.info? 5).map (fun i => (i.zero, i.size, i.bytes)) = some (some (.int .u8 0), 1, 1) := by kernel_rfl

/-- the block of an address -/
def blk (a : Option Addr) : Option Nat := a.map Addr.block

/-- From w to w' nothing that was there has turned but the row of 'a'; 'a'' lies in that row, or in new memory. -/
structure Gr (w w' : World) (a a' : Option Addr) : Prop where
  gr : w.grownBy w' (blk a)
  loc : blk a' = blk a ∨ ∀ k, blk a' = some k → w.heap.size ≤ k

/-- the two do not share a block -/
def Sep (a b : Option Addr) : Prop := ∀ k, blk a = some k → blk b ≠ some k

/-- The slice at 'a' is the run's own row: it holds the bytes l. -/
structure Own (w : World) (a : Option Addr) (cap : Nat) (l : List Int) : Prop where
  row : w.ownsRow 0 5 1 (.slice a l.length cap) l.length (l.map (Value.int .u8))
  byte : ∀ x ∈ l, 0 ≤ x ∧ x ≤ 255

theorem Gr.refl (w : World) (a : Option Addr) : Gr w w a a := ⟨World.grownBy.refl _ _, .inl rfl⟩

theorem Gr.trans {w w1 w2 : World} {a b c : Option Addr} (h : Gr w w1 a b) (k : Gr w1 w2 b c) : Gr w w2 a c := by
  refine ⟨⟨k.gr.os.trans h.gr.os, k.gr.tape.trans h.gr.tape, k.gr.output.trans h.gr.output, Nat.le_trans h.gr.size k.gr.size, fun i hi hn => ?_⟩, ?_⟩
  · rw [k.gr.block i (Nat.lt_of_lt_of_le hi h.gr.size) ?_, h.gr.block i hi hn]
    rcases h.loc with e | e
    · rw [e]; exact hn
    · intro e'; have := e i e'.symm; omega
  · rcases k.loc with e | e
    · rw [e]; exact h.loc
    · exact .inr fun i hi => Nat.le_trans h.gr.size (e i hi)

theorem G.gr {w w' : World} (h : G w w') (a : Option Addr) : Gr w w' a a :=
  ⟨⟨h.os, h.tape, h.output, h.size, fun i hi _ => h.block i hi (by simp)⟩, .inl rfl⟩

theorem Gr.g {w w' : World} {a : Option Addr} (h : Gr w w' none a) : G w w' := h.gr

/-- a fresh row stays fresh for whoever looks from further back -/
theorem G.then {w w1 w2 : World} {a : Option Addr} (h : G w w1) (k : Gr w1 w2 none a) : Gr w w2 none a := (h.gr none).trans k

theorem Gr.then {w w1 w2 : World} {a b : Option Addr} (h : Gr w w1 a b) (k : G w1 w2) : Gr w w2 a b := h.trans (k.gr b)

theorem Own.lt {w : World} {a : Option Addr} {cap : Nat} {l : List Int} (h : Own w a cap l) : ∀ k, blk a = some k → k < w.heap.size := by
  intro k hk
  have := h.row.lt k
  cases a with
  | none => simp [blk] at hk
  | some a => simp [blk] at hk; exact (this (by simp [Value.ownBlock, hk])).2

theorem Own.nil (w : World) : Own w none 0 [] := ⟨World.ownsRow_nil _ _ _ _, by simp⟩

theorem Own.keep {w w' : World} {a : Option Addr} {cap : Nat} {l : List Int} (h : Own w a cap l) (g : G w w') : Own w' a cap l :=
  ⟨h.row.kept g (by cases a <;> simp [Value.ownBlock]), h.byte⟩

theorem Own.keepGr {w w' : World} {a b b' : Option Addr} {cap : Nat} {l : List Int} (h : Own w a cap l) (g : Gr w w' b b') (s : Sep b a) : Own w' a cap l := by
  refine ⟨h.row.kept g.gr ?_, h.byte⟩
  cases a with
  | none => exact .inl rfl
  | some a =>
    refine .inr ?_
    simp only [Value.ownBlock]
    intro e
    exact s a.block e.symm (by simp [blk])

theorem Rd.keepGr {w w' : World} {a b b' : Option Addr} {n : Nat} {f : Nat → Int} (h : Rd w a n f) (g : Gr w w' b b') (s : n = 0 ∨ Sep b a) : Rd w' a n f := by
  refine ⟨h.1, ?_⟩
  rcases h.2 with h | ⟨c, off, ha, hc⟩
  · exact .inl h
  · rcases s with s | s
    · exact .inl s
    · refine .inr ⟨c, off, ha, fun i hi => g.gr.cell (hc i hi) ?_⟩
      intro e
      subst ha
      exact s c e.symm (by simp [blk])

theorem Sep.symm {a b : Option Addr} (h : Sep a b) : Sep b a := fun k hk e => h k e hk
theorem Sep.nil_l (a : Option Addr) : Sep none a := fun k hk => by simp [blk] at hk
theorem Sep.nil_r (a : Option Addr) : Sep a none := fun k _ => by simp [blk]
theorem Sep.step {w w' : World} {a a' b : Option Addr} {cap : Nat} {l : List Int} (s : Sep a b) (g : Gr w w' a a') (h : Own w b cap l) : Sep a' b := by
  intro k hk e
  rcases g.loc with x | x
  · exact s k (x ▸ hk) e
  · have := x k hk; have := h.lt k e; omega
theorem Sep.fresh {w w' : World} {a b : Option Addr} {cap : Nat} {l : List Int} (g : Gr w w' none a) (h : Own w b cap l) : Sep a b := (Sep.nil_l b).step g h
/-- what came in lies elsewhere -/
theorem Sep.old {w w' : World} {a b : Option Addr} {n : Nat} {f : Nat → Int} (g : Gr w w' none a) (h : Rd w b n f) : n = 0 ∨ Sep a b := by
  rcases h.2 with h | ⟨c, off, ha, hc⟩
  · exact .inl h
  · by_cases h0 : n = 0
    · exact .inl h0
    · refine .inr fun k hk e => ?_
      subst ha
      have hlt := World.block_lt_of_cell? w _ (hc 0 (by omega))
      simp [blk] at e
      rcases g.loc with x | x
      · rw [x] at hk; simp [blk] at hk
      · have := x k hk; simp at hlt; omega

/-- an owned row reads as its bytes -/
theorem Own.rd {w : World} {a : Option Addr} {cap : Nat} {l : List Int} (h : Own w a cap l) : Rd w a l.length (gl l) := by
  refine ⟨gl_byte h.byte, ?_⟩
  rcases h.row.2 with ⟨_, h0⟩ | ⟨g, cap', cur, hv, hb, hg, rest⟩
  · exact .inl h0
  · simp only [Value.slice.injEq] at hv
    obtain ⟨ha, -, rfl⟩ := hv
    subst ha
    refine .inr ⟨g, 0, rfl, fun i hi => ?_⟩
    have := h.row.cellAt i (by omega)
    simp only [Nat.zero_add]
    rw [this]
    unfold gl
    simp [List.getD_eq_getElem?_getD, hi]

theorem Own.len {w : World} {a : Option Addr} {cap : Nat} {l : List Int} (h : Own w a cap l) : l.length ≤ cap ∧ cap ≤ 9223372036854775807 := by
  rcases h.row.2 with ⟨h0, h1⟩ | ⟨g, cap', cur, hv, hb, hg, h1, h2, rest⟩
  · simp at h0; omega
  · simp only [Value.slice.injEq] at hv
    obtain ⟨ha, -, rfl⟩ := hv
    unfold maxLen at h2; omega

section
variable {P : Program} (w : World)

/-- 'append' on a row of one's own: what is owned behind it, and where. -/
theorem run_app (t ty e : TypeId) (i : TypeInfo) (z : Value) (size bytes : Nat) (ht : P.underlying t = some (.slice e)) (hi : P.info? e = some i) (hz : i.zero = some z)
    (hsize : i.size = size) (hby : i.bytes = bytes) (hzs : z.cells.size = size) (hsz : 0 < size)
    (a : Option Addr) (n cap : Nat) (xs : List Value) (hown : w.ownsRow 0 e size (.slice a n cap) n xs)
    (ad : Addr) (m c : Nat) (news : List Value) (hl : news.length = m * size) (hnews : ∀ j u, news[j]? = some u → w.cell? (ad.add j) = some u) (h1 : ∀ u ∈ news, u.oneCell' = true)
    (h63 : n + m ≤ maxLen) (hbytes : (n + m) * bytes ≤ 140737488355328) :
    ∃ a' cap' w', (Builtin.append_ #[t, t] ty #[.slice a n cap, .slice (some ad) m c]).run P w = .ok (.slice a' (n + m) cap') w' ∧
      w'.ownsRow 0 e size (.slice a' (n + m) cap') (n + m) (xs ++ news) ∧ Gr w w' a a' := by
  obtain ⟨v', w', hr, ho, hg, _⟩ := run_append_own (P := P) w 0 t ty e i z size bytes ht hi hz hsize hby hzs hsz _ n xs hown ad m c news hl hnews h1 h63 hbytes (Nat.zero_le _)
  have hg' : w.grownBy w' (blk a) := by cases a <;> simpa [Value.ownBlock, blk] using hg
  rcases hown.2 with ⟨h0, h0'⟩ | ⟨g, cap0, cur, hv, hb, hgg, hnc, hcm, hcs, htake⟩
  · -- the nil slice
    simp only [Value.slice.injEq] at h0
    obtain ⟨rfl, -, rfl⟩ := h0
    subst h0'
    have hx : xs = [] := List.eq_nil_of_length_eq_zero (by simpa using hown.1)
    subst hx
    obtain ⟨v2, w2, hr2, ho2, _, _⟩ := run_append_own (P := P) w w.heap.size t ty e i z size bytes ht hi hz hsize hby hzs hsz _ 0 [] (World.ownsRow_nil w w.heap.size e size) ad m c news hl hnews h1 h63 hbytes (Nat.le_refl _)
    rw [hr] at hr2
    simp only [Result.ok.injEq] at hr2
    obtain ⟨rfl, rfl⟩ := hr2
    rcases ho2.2 with ⟨rfl, hm⟩ | ⟨g, cap', cur, rfl, hb, _⟩
    · obtain rfl : m = 0 := by omega
      exact ⟨none, 0, w', hr, ho, hg', .inl rfl⟩
    · exact ⟨_, cap', w', hr, ho, hg', .inr fun k hk => by simp [blk] at hk; omega⟩
  · simp only [Value.slice.injEq] at hv
    obtain ⟨rfl, -, rfl⟩ := hv
    by_cases hroom : n + m ≤ cap
    · obtain ⟨w2, hr2, ho2, hg2⟩ := run_append_fits (P := P) w 0 t ty e i size ht hi hsize g n cap xs hown ad m c news hl hnews h1 hroom
      exact ⟨_, cap, w2, hr2, ho2, by simpa [blk] using hg2, .inl rfl⟩
    · subst hsize; subst hby
      have holds : ∀ j u, xs[j]? = some u → w.cell? ((⟨g, 0, none⟩ : Addr).add j) = some u := hown.cells (g := g) rfl
      have hr2 := run_append_grow (P := P) w t ty e i z ht hi hz ⟨g, 0, none⟩ n cap xs hown.1 holds ad m c news hl hnews (by omega) (by unfold maxLen at h63; omega) (growslice_fits (by omega) hbytes)
      have hr3 := hr
      rw [hr2] at hr3
      simp only [Result.ok.injEq] at hr3
      obtain ⟨e1, e2⟩ := hr3
      subst e1
      exact ⟨_, _, w', hr, ho, hg', .inr fun k hk => by simp [blk] at hk; omega⟩

end

/-- A NEW ROW OF CELLS IN FRONT OF THE APPEND: 'append(out, x, y, ..)'. -/
theorem wpList_app_new {w W : World} {ops : Array Oper} {rest : List Oper} {o : Oper} {act : Act} {Q : Exit → Act → World → Prop} (hgd : o.guard = none) (s x : Operand)
    (ho : o.op = .call { callee := .builtin .append, args := #[s, x], argTypes := #[24, 24] })
    (a : Option Addr) (n cap : Nat) (l : List Int) (hs : act.eval s = .slice a n cap) (hn : n = l.length) (hown : Own w a cap l)
    (ad : Addr) (m : Nat) (news : List Int) (hx : act.eval x = .slice (some ad) m m) (hW : G w W) (hc : ∀ j, j < news.length → W.cell? (ad.add j) = some (.int .u8 (news.getD j 0)))
    (hm : news.length = m) (hb : ∀ u ∈ news, 0 ≤ u ∧ u ≤ 255) (h63 : n + m ≤ 140737488355328)
    (h : ∀ a' cap' w', Own w' a' cap' (l ++ news) → Gr w w' a a' → wpList Yclm.prog ops Q rest (act.put o.dst (.slice a' (n + m) cap')) w') : wpList Yclm.prog ops Q (o :: rest) act W := by
  subst hn
  refine wpList_plain hgd fun K hK => ?_
  obtain ⟨i, hi, hz0, hz1, hz2⟩ := info_parts Yclm.infoByte
  obtain ⟨a', cap', w', hr, hr2, hr3⟩ := run_app (P := Yclm.prog) W 24 o.type 5 i (.int .u8 0) 1 1 Yclm.underlying24 hi hz0 hz1 hz2 rfl (by decide) a l.length cap _ (hown.keep hW).row ad m m (news.map (Value.int .u8)) (by simpa using hm)
    (by
      intro j u hj
      obtain ⟨hj', e⟩ := List.getElem?_eq_some_iff.1 hj
      have hj2 : j < news.length := by simpa using hj'
      rw [hc j hj2, ← e]
      simp [List.getD_eq_getElem?_getD, hj2])
    (ints_oneCell _ _) (by unfold maxLen; omega) (by omega)
  unfold Oper.wp execOp
  simp only [ho, resolve, invoke, builtin, Sem.run_bind, Sem.run_pure, Result.andThen_ok, List.map_toArray, List.map_cons, List.map_nil, hs, hx, hr]
  refine hK _ _ (h a' cap' w' ⟨?_, ?_⟩ ((hW.gr a).trans hr3))
  · simpa [hm] using hr2
  · intro u hu
    rcases List.mem_append.1 hu with h | h
    · exact hown.byte u h
    · exact hb u h

/-- the cells of a new row -/
theorem cells_new (w : World) (news : List Int) (j : Nat) (hj : j < news.length) :
    (w.alloc (.cells (news.map (Value.int .u8)).toArray 5)).cell? ((⟨w.heap.size, 0, none⟩ : Addr).add j) = some (.int .u8 (news.getD j 0)) := by
  rw [Addr.add_lit, Nat.zero_add, cell_of_row _ w.heap.size j _ 5 (0, 0) (heap_alloc_new w _)]
  simp [List.getD_eq_getElem?_getD, hj]

section
variable {w : World} {ops : Array Oper} {rest : List Oper} {o : Oper} {act : Act} {Q : Exit → Act → World → Prop}

/-- 'append(out, x)' -/
theorem wpList_app1 (hgd : o.guard = none) (s x : Operand) (ho : o.op = .call { callee := .builtin .append, args := #[s, x], argTypes := #[24, 24] })
    (a : Option Addr) (n cap : Nat) (l : List Int) (hs : act.eval s = .slice a n cap) (hn : n = l.length) (hown : Own w a cap l)
    (x0 : Int) (hx : act.eval x = .slice (some ⟨w.heap.size, 0, none⟩) 1 1) (b0 : 0 ≤ x0 ∧ x0 ≤ 255) (h63 : n + 1 ≤ 140737488355328)
    (h : ∀ a' cap' w', Own w' a' cap' (l ++ [x0]) → Gr w w' a a' → wpList Yclm.prog ops Q rest (act.put o.dst (.slice a' (n + 1) cap')) w') :
    wpList Yclm.prog ops Q (o :: rest) act (w.alloc (.cells #[.int .u8 x0] 5)) :=
  wpList_app_new hgd s x ho a n cap l hs hn hown _ 1 [x0] hx (G.alloc _ _) (fun j hj => cells_new w [x0] j hj) rfl (by simpa using b0) h63 h

/-- 'append(out, x, y)' -/
theorem wpList_app2 (hgd : o.guard = none) (s x : Operand) (ho : o.op = .call { callee := .builtin .append, args := #[s, x], argTypes := #[24, 24] })
    (a : Option Addr) (n cap : Nat) (l : List Int) (hs : act.eval s = .slice a n cap) (hn : n = l.length) (hown : Own w a cap l)
    (x0 x1 : Int) (hx : act.eval x = .slice (some ⟨w.heap.size, 0, none⟩) 2 2) (b0 : 0 ≤ x0 ∧ x0 ≤ 255) (b1 : 0 ≤ x1 ∧ x1 ≤ 255) (h63 : n + 2 ≤ 140737488355328)
    (h : ∀ a' cap' w', Own w' a' cap' (l ++ [x0, x1]) → Gr w w' a a' → wpList Yclm.prog ops Q rest (act.put o.dst (.slice a' (n + 2) cap')) w') :
    wpList Yclm.prog ops Q (o :: rest) act (w.alloc (.cells #[.int .u8 x0, .int .u8 x1] 5)) :=
  wpList_app_new hgd s x ho a n cap l hs hn hown _ 2 [x0, x1] hx (G.alloc _ _) (fun j hj => cells_new w [x0, x1] j hj) rfl
    (by intro u hu; simp at hu; rcases hu with rfl | rfl <;> assumption) h63 h

/-- 'make([]byte, 0, n)' -/
theorem wpList_mk0 (hgd : o.guard = none) (l c : Operand) (hop : o.op = Op.makeSlice 24 l c) (kl kc : IntKind) (C : Int) (n : Nat) (hl : act.eval l = .int kl 0) (hc : act.eval c = .int kc C) (hC : C = (n : Int)) (hn : n ≤ 140737488355328)
    (h : ∀ a' w', Own w' a' n [] → Gr w w' none a' → wpList Yclm.prog ops Q rest (act.put o.dst (.slice a' 0 n)) w') : wpList Yclm.prog ops Q (o :: rest) act w := by
  obtain ⟨i, hi, hz0, hz1, hz2⟩ := info_parts Yclm.infoByte
  refine wpList_make_own w hgd l c 24 hop 0 5 i (.int .u8 0) 1 Yclm.underlying24 hi hz0 hz1 kl kc C n hl hc hC (by rw [hz2]; omega) (by unfold maxLen; omega) (Nat.zero_le _) fun w' h1 h2 => ?_
  exact h _ w' ⟨h1, by simp⟩ ⟨h2, .inr fun k hk => by simp [blk] at hk; omega⟩

/-- 'make([]byte, n)': n noughts -/
theorem wpList_mkn (hgd : o.guard = none) (l c : Operand) (hop : o.op = Op.makeSlice 24 l c) (kl kc : IntKind) (L C : Int) (n : Nat) (hl : act.eval l = .int kl L) (hc : act.eval c = .int kc C) (hL : L = (n : Int)) (hC : C = (n : Int)) (hn : n ≤ 140737488355328)
    (h : ∀ g w', Own w' (some ⟨g, 0, none⟩) n (List.replicate n 0) → Gr w w' none (some ⟨g, 0, none⟩) → wpList Yclm.prog ops Q rest (act.put o.dst (.slice (some ⟨g, 0, none⟩) n n)) w') : wpList Yclm.prog ops Q (o :: rest) act w := by
  obtain ⟨i, hi, hz0, hz1, hz2⟩ := info_parts Yclm.infoByte
  refine wpList_make_full w hgd l c 24 hop 0 5 i (.int .u8 0) 1 Yclm.underlying24 hi hz0 hz1 kl kc L C n hl hc hL hC (by rw [hz2]; omega) (by unfold maxLen; omega) (Nat.zero_le _) fun w' h1 h2 => ?_
  refine h _ w' ⟨?_, ?_⟩ ⟨h2, .inr fun k hk => by simp [blk] at hk; omega⟩
  · have e : (madeCells (Value.int .u8 0).cells (n * 1)).toList = List.map (Value.int .u8) (List.replicate n 0) := by
      show (madeCells #[Value.int .u8 0] (n * 1)).toList = _
      rw [toList_madeCells_one]; simp
    rw [e] at h1
    simpa using h1
  · intro x hx; have := List.eq_of_mem_replicate hx; omega

/-- 'append(out, xs...)', xs whatever can be read -/
theorem wpList_app_rd (hgd : o.guard = none) (s x : Operand) (ho : o.op = .call { callee := .builtin .append, args := #[s, x], argTypes := #[24, 24] })
    (a : Option Addr) (n cap : Nat) (l : List Int) (hs : act.eval s = .slice a n cap) (hn : n = l.length) (hown : Own w a cap l)
    (ax : Option Addr) (m c : Nat) (f : Nat → Int) (hx : act.eval x = .slice ax m c) (hnil : ax = none → c = 0) (hr : Rd w ax m f) (h63 : n + m ≤ 140737488355328)
    (h : ∀ a' cap' w', Own w' a' cap' (l ++ (List.range m).map f) → Gr w w' a a' → wpList Yclm.prog ops Q rest (act.put o.dst (.slice a' (n + m) cap')) w') : wpList Yclm.prog ops Q (o :: rest) act w := by
  subst hn
  obtain ⟨i, hi, hz0, hz1, hz2⟩ := info_parts Yclm.infoByte
  refine wpList_plain hgd fun K hK => ?_
  unfold Oper.wp execOp
  simp only [ho, resolve, invoke, builtin, Sem.run_bind, Sem.run_pure, Result.andThen_ok, List.map_toArray, List.map_cons, List.map_nil, hs, hx]
  cases ax with
  | none =>
    obtain rfl := hnil rfl
    obtain rfl : m = 0 := by
      rcases hr.2 with h | ⟨b, off, h, _⟩
      · exact h
      · simp at h
    rw [run_append_owned_none (P := Yclm.prog) w 0 24 o.type 5 i 1 Yclm.underlying24 hi _ l.length _ hown.row]
    exact hK _ _ (h a cap w (by simpa using hown) (Gr.refl _ _))
  | some ad =>
    obtain ⟨a', cap', w', hr1, hr2, hr3⟩ := run_app (P := Yclm.prog) w 24 o.type 5 i (.int .u8 0) 1 1 Yclm.underlying24 hi hz0 hz1 hz2 rfl (by decide) a l.length cap _ hown.row ad m c (((List.range m).map f).map (Value.int .u8)) (by simp)
      (by
        intro j u hj
        obtain ⟨hj', e⟩ := List.getElem?_eq_some_iff.1 hj
        have hj2 : j < m := by simpa using hj'
        obtain ⟨b, off, e2, hcc⟩ := hr.at hj2
        simp only [Option.some.injEq] at e2
        subst e2
        rw [Addr.add_lit, hcc j hj2, ← e]
        simp)
      (ints_oneCell _ _) (by unfold maxLen; omega) (by omega)
    rw [hr1]
    refine hK _ _ (h a' cap' w' ⟨?_, ?_⟩ hr3)
    · simpa using hr2
    · intro u hu
      rcases List.mem_append.1 hu with h | h
      · exact hown.byte u h
      · simp only [List.mem_map, List.mem_range] at h
        obtain ⟨j, -, rfl⟩ := h
        exact hr.1 j

end

/-- an owned row that is not empty: its address, its cells, and that they may be written -/
theorem Own.shape {w : World} {a : Option Addr} {cap : Nat} {l : List Int} (h : Own w a cap l) (hp : 0 < l.length) :
    ∃ g, a = some ⟨g, 0, none⟩ ∧ (∀ i, i < l.length → w.cell? ⟨g, i, none⟩ = some (.int .u8 (gl l i))) ∧ (∀ i, w.frozen? ⟨g, i, none⟩ = false) := by
  rcases h.row.2 with ⟨h0, h1⟩ | ⟨g, cap', cur, hv, hb, hg, rest⟩
  · omega
  · simp only [Value.slice.injEq] at hv
    obtain ⟨rfl, -, rfl⟩ := hv
    have hr := h.rd
    exact ⟨g, rfl, fun i hi => by simpa using hr.cell hi, fun i => h.row.frozenAt i⟩

/-- a store into it -/
theorem Own.stored {w : World} {g cap : Nat} {l : List Int} (h : Own w (some ⟨g, 0, none⟩) cap l) (i : Nat) (x : Int) (hx : 0 ≤ x ∧ x ≤ 255) :
    Own (w.setCell ⟨g, i, none⟩ (.int .u8 x)) (some ⟨g, 0, none⟩) cap (l.set i x) ∧ Gr w (w.setCell ⟨g, i, none⟩ (.int .u8 x)) (some ⟨g, 0, none⟩) (some ⟨g, 0, none⟩) := by
  obtain ⟨h1, h2⟩ := h.row.stored i (.int .u8 x)
  refine ⟨⟨?_, ?_⟩, ⟨by simpa [blk] using h2, .inl rfl⟩⟩
  · simpa [List.map_set] using h1
  · intro u hu
    rcases List.mem_or_eq_of_mem_set hu with h' | h'
    · exact h.byte u h'
    · omega

end Go.Proofs.Ymbrcl
