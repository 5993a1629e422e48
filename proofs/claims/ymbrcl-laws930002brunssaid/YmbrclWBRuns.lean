import Derived.Test.YmbrclTwo
import Derived.Test.YmbrclEncode
import Derived.Test.YmbrclEq
set_option linter.unusedVariables false
namespace Go.Proofs.Ymbrcl
open Go.RowKit

/-- a pair of the value v may follow -/
structure BOpen (ps : List (Int × Int)) (v : Int) : Prop where
  can : Canon ps
  open' : ∀ q, ps.getLast? = some q → q.2 = v → q.1 = 255

structure BAt (ps : List (Int × Int)) (u : Int) : Prop where
  can : Canon ps
  last : ∀ q, ps.getLast? = some q → q.2 = u

theorem BAt.nil : BAt [] 0 := ⟨trivial, by simp⟩

theorem BAt.toOpen {ps : List (Int × Int)} {u v : Int} (h : BAt ps u) (hv : v ≠ u) : BOpen ps v := ⟨h.can, fun q hq e => absurd (e.symm.trans (h.last q hq)) hv⟩

theorem BOpen.one {ps : List (Int × Int)} {v r : Int} (h : BOpen ps v) (h1 : 1 ≤ r ∧ r ≤ 255) : BAt (ps ++ [(r, v)]) v := ⟨canon_snoc h.can h1.1 h1.2 h.open', fun q hq => by simp at hq; subst hq; rfl⟩

theorem BOpen.fulls {ps : List (Int × Int)} {v : Int} (h : BOpen ps v) (n : Nat) : BOpen (ps ++ List.replicate n (255, v)) v := by
  induction n with
  | zero => simpa using h
  | succ n ih =>
    rw [List.replicate_succ', ← List.append_assoc]
    exact ⟨(ih.one (r := 255) (by omega)).can, fun q hq e => by simp at hq; subst hq; rfl⟩

theorem BOpen.done {ps : List (Int × Int)} {v : Int} (h : BOpen ps v) {n : Nat} (hn : 1 ≤ n) : BAt (ps ++ List.replicate n (255, v)) v := by
  obtain ⟨m, rfl⟩ : ∃ m, n = m + 1 := ⟨n - 1, by omega⟩
  rw [List.replicate_succ', ← List.append_assoc]
  exact (h.fulls m).one (by omega)

theorem fulls_snoc (ps : List (Int × Int)) (v : Int) (q : Nat) : flat (ps ++ List.replicate (q + 1) (255, v)) = flat (ps ++ List.replicate q (255, v)) ++ [255, v] := by
  rw [List.replicate_succ', ← List.append_assoc, flat_append]; rfl

theorem fulls_ex (ps : List (Int × Int)) (v : Int) (q : Nat) : ex (ps ++ List.replicate q (255, v)) = ex ps ++ List.replicate (q * 255) v := by
  induction q with
  | zero => simp
  | succ q ih =>
    rw [List.replicate_succ', ← List.append_assoc, ex_append, ih]
    simp only [ex, List.append_nil, List.append_assoc, List.replicate_append_replicate]
    rw [show q * 255 + (255 : Int).toNat = (q + 1) * 255 by simp; omega]

theorem flat_snoc (A : List (Int × Int)) (r v : Int) : flat A ++ [r, v] = flat (A ++ [(r, v)]) := by rw [flat_append]; rfl

theorem runs_ex (ps : List (Int × Int)) (v : Int) (q r : Nat) : ex ps ++ List.replicate (q * 255 + r) v = ex (ps ++ List.replicate q (255, v) ++ [((r : Int), v)]) := by
  rw [ex_snoc, fulls_ex, List.append_assoc (ex ps), List.replicate_append_replicate]

theorem fulls_length (ps : List (Int × Int)) (v : Int) (q k : Nat) (h : (flat ps).length ≤ k) : (flat (ps ++ List.replicate q (255, v))).length ≤ k + 2 * q := by
  rw [flat_length] at h ⊢
  simp; omega

set_option maxRecDepth 100000 in
set_option maxHeartbeats 3200000 in
theorem bruns_calls (a : Option Addr) (c d s : Nat → Int) (n cap : Nat) (w : World) (bc : ∀ i, 0 ≤ c i ∧ c i ≤ 255) (bd : ∀ i, 0 ≤ d i ∧ d i ≤ 255) (bs : ∀ i, 0 ≤ s i ∧ s i ≤ 255)
    (h0 : Fld w a n 3 0 (fun i => .int .u8 (c i))) (h1 : Fld w a n 3 1 (fun i => .int .u8 (d i))) (h2 : Fld w a n 3 2 (fun i => .int .u8 (s i))) :
    Calls Yclm.prog 7 #[.slice a n cap] w fun e w' => e = .returned (.bool true) ∧ G w w' := by
  by_cases hbig : 256 < n
  · have e0 : (256 : Int) < n := by omega
    go_enter Yclm.func7, Yclm.ntmps7
    go_wp2
    go_ret
    exact ⟨rfl, G.refl _⟩
  have e0 : ¬ (256 : Int) < n := by omega
  go_enter Yclm.func7, Yclm.ntmps7
  go_wp2
  go_loopw [3, 4, 5, 6, 7, 8, 9, 10] (fun x y z i _ _ _ _ wr => ∃ (k : Nat) (a1 a2 : Option Addr) (c1 c2 : Nat) (ps : List (Int × Int)) (u : Int), k ≤ n ∧ i = .int .i64 k ∧ x = .slice a1 (ex ps).length c1 ∧ y = .slice a2 (flat ps).length c2 ∧ z = .int .u8 u ∧ 0 ≤ u ∧ u ≤ 255 ∧ (ex ps).length ≤ 766 * k ∧ (flat ps).length ≤ 6 * k ∧ Own wr a1 c1 (ex ps) ∧ Own wr a2 c2 (flat ps) ∧ Sep a1 a2 ∧ Gr w wr none a1 ∧ Gr w wr none a2 ∧ BAt ps u) (fun _ _ _ i _ _ _ _ _ => n - (intOf i).toNat)
  case atStart => exact ⟨0, none, none, 0, 0, [], 0, by omega, rfl, rfl, rfl, rfl, by omega, by omega, by simp [ex], by simp [flat], Own.nil _, Own.nil _, Sep.nil_l _, Gr.refl _ _, Gr.refl _ _, BAt.nil⟩
  case round =>
    obtain ⟨k, a1, a2, p1, p2, ps, u, hk, rfl, rfl, rfl, rfl, hu0, hu1, hxl, hfl, ho1, ho2, hsep, hg1, hg2, hat⟩ := hrel
    have HA : Hid (BAt ps u) := hat
    clear hat
    by_cases hlt : k < n
    · have hki : (k : Int) < n := by omega
      obtain ⟨bb, off, rfl⟩ := h0.at hlt
      have c1 := (h0.keep hg1.g).cell hlt
      have c2 := (h1.keep hg1.g).cell hlt
      have c3 := (h2.keep hg1.g).cell hlt
      simp only [Nat.add_zero] at c1
      have b1 := bc k
      have b2 := bd k
      have b3 := bs k
      obtain ⟨fu, hfu⟩ : ∃ t : Nat, c k % 3 = (t : Int) := ⟨(c k % 3).toNat, by omega⟩
      have hfu2 : fu ≤ 2 := by omega
      obtain ⟨r0, hr0⟩ : ∃ t : Nat, d k % 255 = (t : Int) := ⟨(d k % 255).toNat, by omega⟩
      have hr2 : r0 ≤ 254 := by omega
      obtain ⟨x, hx⟩ : ∃ x : Int, IntKind.u8.wrap (u + (1 + s k % 255)) = x := ⟨_, rfl⟩
      have bx : 0 ≤ x ∧ x ≤ 255 := by rw [← hx]; simp [IntKind.wrap, IntKind.bits, IntKind.signed]; omega
      have HXU : Hid (x ≠ u) := by rw [Hid, ← hx]; simp [IntKind.wrap, IntKind.bits, IntKind.signed]; omega
      have HO : Hid (BOpen ps x) := HA.out.toOpen HXU.out
      by_cases hf0 : fu = 0
      · have d1 : ((fu : Int) == 0) = true := by simp [hf0]
        by_cases hz : r0 = 0
        · have d2 : ((r0 : Int) == 0) = true := by simp [hz]
          have HF0 : Hid (fu = 0) := hf0
          clear hf0 hz
          go_wp2
          clear hfu hr0 hx
          go_loopw [3, 9] (fun y j wr => ∃ (q : Nat) (a1 : Option Addr) (p1 : Nat), q ≤ fu * 255 + 1 ∧ j = .int .i64 q ∧ y = .slice a1 ((ex ps).length + q) p1 ∧ Own wr a1 p1 (ex ps ++ List.replicate q x) ∧ Own wr a2 p2 (flat ps) ∧ Sep a1 a2 ∧ Gr w wr none a1 ∧ Gr w wr none a2) (fun _ j _ => fu * 255 + 1 - (intOf j).toNat)
          case atStart => exact ⟨0, a1, p1, by omega, rfl, rfl, by simpa using ho1, ho2, hsep, hg1, hg2⟩
          case round =>
            clear ho1 ho2 hsep hg1 hg2 c1 c2 c3
            obtain ⟨q, a1, p1, hq, rfl, rfl, ho1, ho2, hsep, hg1, hg2⟩ := hrel
            by_cases hqt : q < fu * 255 + 1
            · have hqi : (q : Int) < (fu : Int) * 255 + 1 := by omega
              have HL2 : Hid ((ex ps ++ List.replicate q x).length = (ex ps).length + q) := by simp [Hid]
              go_wp2_with (at_builtin; refine wpList_app1 (w := wr) rfl _ _ rfl a1 _ p1 _ rfl HL2.out.symm ho1 x rfl bx (by omega) ?_)
              intro a4 p4 w3 ho4 hg4
              have hs4 := hsep.step hg4 ho2
              rw [rep_snoc] at ho4
              have ho5 := ho2.keepGr hg4 hsep
              have hg5 := hg1.trans hg4
              have hg6 := hg2.aside hg1 hg4
              clear ho1 ho2 hg1 hg2
              go_wp2
              go_roundw
              case rel => exact ⟨q + 1, a4, p4, by omega, by go_num, rfl, ho4, ho5, hs4, hg5, hg6⟩
              case measure => simp [intOf]; omega
            · have hqi : ¬ (q : Int) < (fu : Int) * 255 + 1 := by omega
              obtain rfl : q = fu * 255 + 1 := by omega
              go_wp2
              go_loopw [4, 10] (fun y j wr => ∃ (q : Nat) (a2 : Option Addr) (p2 : Nat), q ≤ fu ∧ j = .int .i64 q ∧ y = .slice a2 ((flat ps).length + 2 * q) p2 ∧ Own wr a1 p1 (ex ps ++ List.replicate (fu * 255 + 1) x) ∧ Own wr a2 p2 (flat (ps ++ List.replicate q (255, x))) ∧ Sep a1 a2 ∧ Gr w wr none a1 ∧ Gr w wr none a2) (fun _ j _ => fu - (intOf j).toNat)
              case atStart => exact ⟨0, a2, p2, by omega, rfl, rfl, ho1, by simpa using ho2, hsep, hg1, hg2⟩
              case round =>
                clear ho1 ho2 hsep hg1 hg2 hqi hqt
                obtain ⟨q, a2, p2, hq, rfl, rfl, ho1, ho2, hsep, hg1, hg2⟩ := hrel
                by_cases hqt : q < fu
                · have hqi : (q : Int) < (fu : Int) := by omega
                  have HL3 : Hid ((flat (ps ++ List.replicate q (255, x))).length = (flat ps).length + 2 * q) := by simp [Hid, flat_length]; omega
                  go_wp2_with (at_builtin; refine wpList_app2 (w := wr) rfl _ _ rfl a2 _ p2 _ rfl HL3.out.symm ho2 255 x rfl (by omega) bx (by omega) ?_)
                  intro a4 p4 w3 ho4 hg4
                  have hs4 := hsep.symm.step hg4 ho1
                  rw [← fulls_snoc] at ho4
                  have ho5 := ho1.keepGr hg4 hsep.symm
                  have hg5 := hg2.trans hg4
                  have hg6 := hg1.aside hg2 hg4
                  clear ho1 ho2 hg1 hg2
                  go_wp2
                  go_roundw
                  case rel => exact ⟨q + 1, a4, p4, by omega, by go_num, by congr 1, ho5, ho4, hs4.symm, hg6, hg5⟩
                  case measure => simp [intOf]; omega
                · have hqi : ¬ (q : Int) < (fu : Int) := by omega
                  obtain rfl : fu = q := by omega
                  have HL4 : Hid ((flat (ps ++ List.replicate fu (255, x))).length = (flat ps).length + 2 * fu) := by simp [Hid, flat_length]; omega
                  go_wp2_with (at_builtin; refine wpList_app2 (w := wr) rfl _ _ rfl a2 _ p2 _ rfl HL4.out.symm ho2 (1) x rfl (by omega) bx (by omega) ?_)
                  intro a4 p4 w3 ho4 hg4
                  have hs4 := hsep.symm.step hg4 ho1
                  have ho5 := ho1.keepGr hg4 hsep.symm
                  have hg5 := hg2.trans hg4
                  have hg6 := hg1.aside hg2 hg4
                  have hfe : flat (ps ++ List.replicate fu (255, x)) ++ [(1 : Int), x] = flat (ps ++ List.replicate fu (255, x) ++ [(1, x)]) := flat_snoc _ _ _
                  have hee : ex ps ++ List.replicate (fu * 255 + 1) x = ex (ps ++ List.replicate fu (255, x) ++ [(1, x)]) := runs_ex _ _ _ _
                  have hBA : Hid (BAt (ps ++ List.replicate fu (255, x) ++ [(1, x)]) x) := (HO.out.fulls fu).one (by omega)
                  have HS : Hid ((flat (ps ++ List.replicate fu (255, x) ++ [(1, x)])).length = (flat ps).length + 2 * fu + 2) := by simp [Hid, flat_length]; omega
                  have HS2 : Hid ((ex (ps ++ List.replicate fu (255, x) ++ [(1, x)])).length = (ex ps).length + (fu * 255 + 1)) := by rw [Hid, ← hee]; simp
                  rw [hfe] at ho4
                  rw [hee] at ho5
                  clear ho1 ho2 hg1 hg2 hfe hee
                  generalize ps ++ List.replicate fu (255, x) ++ [((1 : Int), x)] = ps2 at *
                  go_wp2
                  go_roundw
                  case rel => exact ⟨k + 1, a1, a4, p1, p4, ps2, x, by omega, by go_num, by rw [HS2.out], by rw [HS.out], rfl, bx.1, bx.2, by rw [HS2.out]; omega, by rw [HS.out]; omega, ho5, ho4, hs4.symm, hg6, hg5, hBA.out⟩
                  case measure => simp [intOf]; omega
        · have d2 : ((r0 : Int) == 0) = false := by simp; omega
          have HF0 : Hid (1 ≤ fu ∨ r0 ≠ 0) := .inr hz
          have hz1 : 1 ≤ fu ∨ 1 ≤ r0 := by omega
          clear hf0 hz
          go_wp2
          clear hfu hr0 hx
          go_loopw [3, 9] (fun y j wr => ∃ (q : Nat) (a1 : Option Addr) (p1 : Nat), q ≤ fu * 255 + r0 ∧ j = .int .i64 q ∧ y = .slice a1 ((ex ps).length + q) p1 ∧ Own wr a1 p1 (ex ps ++ List.replicate q x) ∧ Own wr a2 p2 (flat ps) ∧ Sep a1 a2 ∧ Gr w wr none a1 ∧ Gr w wr none a2) (fun _ j _ => fu * 255 + r0 - (intOf j).toNat)
          case atStart => exact ⟨0, a1, p1, by omega, rfl, rfl, by simpa using ho1, ho2, hsep, hg1, hg2⟩
          case round =>
            clear ho1 ho2 hsep hg1 hg2 c1 c2 c3
            obtain ⟨q, a1, p1, hq, rfl, rfl, ho1, ho2, hsep, hg1, hg2⟩ := hrel
            by_cases hqt : q < fu * 255 + r0
            · have hqi : (q : Int) < (fu : Int) * 255 + (r0 : Int) := by omega
              have HL2 : Hid ((ex ps ++ List.replicate q x).length = (ex ps).length + q) := by simp [Hid]
              go_wp2_with (at_builtin; refine wpList_app1 (w := wr) rfl _ _ rfl a1 _ p1 _ rfl HL2.out.symm ho1 x rfl bx (by omega) ?_)
              intro a4 p4 w3 ho4 hg4
              have hs4 := hsep.step hg4 ho2
              rw [rep_snoc] at ho4
              have ho5 := ho2.keepGr hg4 hsep
              have hg5 := hg1.trans hg4
              have hg6 := hg2.aside hg1 hg4
              clear ho1 ho2 hg1 hg2
              go_wp2
              go_roundw
              case rel => exact ⟨q + 1, a4, p4, by omega, by go_num, rfl, ho4, ho5, hs4, hg5, hg6⟩
              case measure => simp [intOf]; omega
            · have hqi : ¬ (q : Int) < (fu : Int) * 255 + (r0 : Int) := by omega
              obtain rfl : q = fu * 255 + r0 := by omega
              go_wp2
              go_loopw [4, 10] (fun y j wr => ∃ (q : Nat) (a2 : Option Addr) (p2 : Nat), q ≤ fu ∧ j = .int .i64 q ∧ y = .slice a2 ((flat ps).length + 2 * q) p2 ∧ Own wr a1 p1 (ex ps ++ List.replicate (fu * 255 + r0) x) ∧ Own wr a2 p2 (flat (ps ++ List.replicate q (255, x))) ∧ Sep a1 a2 ∧ Gr w wr none a1 ∧ Gr w wr none a2) (fun _ j _ => fu - (intOf j).toNat)
              case atStart => exact ⟨0, a2, p2, by omega, rfl, rfl, ho1, by simpa using ho2, hsep, hg1, hg2⟩
              case round =>
                clear ho1 ho2 hsep hg1 hg2 hqi hqt
                obtain ⟨q, a2, p2, hq, rfl, rfl, ho1, ho2, hsep, hg1, hg2⟩ := hrel
                by_cases hqt : q < fu
                · have hqi : (q : Int) < (fu : Int) := by omega
                  have HL3 : Hid ((flat (ps ++ List.replicate q (255, x))).length = (flat ps).length + 2 * q) := by simp [Hid, flat_length]; omega
                  go_wp2_with (at_builtin; refine wpList_app2 (w := wr) rfl _ _ rfl a2 _ p2 _ rfl HL3.out.symm ho2 255 x rfl (by omega) bx (by omega) ?_)
                  intro a4 p4 w3 ho4 hg4
                  have hs4 := hsep.symm.step hg4 ho1
                  rw [← fulls_snoc] at ho4
                  have ho5 := ho1.keepGr hg4 hsep.symm
                  have hg5 := hg2.trans hg4
                  have hg6 := hg1.aside hg2 hg4
                  clear ho1 ho2 hg1 hg2
                  go_wp2
                  go_roundw
                  case rel => exact ⟨q + 1, a4, p4, by omega, by go_num, by congr 1, ho5, ho4, hs4.symm, hg6, hg5⟩
                  case measure => simp [intOf]; omega
                · have hqi : ¬ (q : Int) < (fu : Int) := by omega
                  obtain rfl : fu = q := by omega
                  by_cases hre0 : r0 = 0
                  · have dre : ¬ (0 : Int) < (r0 : Int) := by omega
                    have hee : ex ps ++ List.replicate (fu * 255 + r0) x = ex (ps ++ List.replicate fu (255, x)) := by rw [fulls_ex, hre0]; rfl
                    have hBA : Hid (BAt (ps ++ List.replicate fu (255, x)) x) := HO.out.done (by omega)
                    have HS : Hid ((flat (ps ++ List.replicate fu (255, x))).length = (flat ps).length + 2 * fu) := by simp [Hid, flat_length]; omega
                    have HS2 : Hid ((ex (ps ++ List.replicate fu (255, x))).length = (ex ps).length + (fu * 255 + r0)) := by rw [Hid, ← hee]; simp
                    rw [hee] at ho1
                    clear hee
                    generalize ps ++ List.replicate fu (255, x) = ps2 at *
                    go_wp2
                    go_roundw
                    case rel => exact ⟨k + 1, a1, a2, p1, p2, ps2, x, by omega, by go_num, by rw [HS2.out], by rw [HS.out], rfl, bx.1, bx.2, by rw [HS2.out]; omega, by rw [HS.out]; omega, ho1, ho2, hsep, hg1, hg2, hBA.out⟩
                    case measure => simp [intOf]; omega
                  · have dre : (0 : Int) < (r0 : Int) := by omega
                    have HL4 : Hid ((flat (ps ++ List.replicate fu (255, x))).length = (flat ps).length + 2 * fu) := by simp [Hid, flat_length]; omega
                    go_wp2_with (at_builtin; refine wpList_app2 (w := wr) rfl _ _ rfl a2 _ p2 _ rfl HL4.out.symm ho2 ((r0 : Int)) x rfl (by omega) bx (by omega) ?_)
                    intro a4 p4 w3 ho4 hg4
                    have hs4 := hsep.symm.step hg4 ho1
                    have ho5 := ho1.keepGr hg4 hsep.symm
                    have hg5 := hg2.trans hg4
                    have hg6 := hg1.aside hg2 hg4
                    have hfe : flat (ps ++ List.replicate fu (255, x)) ++ [((r0 : Int) : Int), x] = flat (ps ++ List.replicate fu (255, x) ++ [((r0 : Int), x)]) := flat_snoc _ _ _
                    have hee : ex ps ++ List.replicate (fu * 255 + r0) x = ex (ps ++ List.replicate fu (255, x) ++ [((r0 : Int), x)]) := runs_ex _ _ _ _
                    have hBA : Hid (BAt (ps ++ List.replicate fu (255, x) ++ [((r0 : Int), x)]) x) := (HO.out.fulls fu).one (by omega)
                    have HS : Hid ((flat (ps ++ List.replicate fu (255, x) ++ [((r0 : Int), x)])).length = (flat ps).length + 2 * fu + 2) := by simp [Hid, flat_length]; omega
                    have HS2 : Hid ((ex (ps ++ List.replicate fu (255, x) ++ [((r0 : Int), x)])).length = (ex ps).length + (fu * 255 + r0)) := by rw [Hid, ← hee]; simp
                    rw [hfe] at ho4
                    rw [hee] at ho5
                    clear ho1 ho2 hg1 hg2 hfe hee
                    generalize ps ++ List.replicate fu (255, x) ++ [(((r0 : Int) : Int), x)] = ps2 at *
                    go_wp2
                    go_roundw
                    case rel => exact ⟨k + 1, a1, a4, p1, p4, ps2, x, by omega, by go_num, by rw [HS2.out], by rw [HS.out], rfl, bx.1, bx.2, by rw [HS2.out]; omega, by rw [HS.out]; omega, ho5, ho4, hs4.symm, hg6, hg5, hBA.out⟩
                    case measure => simp [intOf]; omega
      · have d1 : ((fu : Int) == 0) = false := by simp; omega
        have hz1 : 1 ≤ fu ∨ 1 ≤ r0 := by omega
        clear hf0
        go_wp2
        clear hfu hr0 hx
        go_loopw [3, 9] (fun y j wr => ∃ (q : Nat) (a1 : Option Addr) (p1 : Nat), q ≤ fu * 255 + r0 ∧ j = .int .i64 q ∧ y = .slice a1 ((ex ps).length + q) p1 ∧ Own wr a1 p1 (ex ps ++ List.replicate q x) ∧ Own wr a2 p2 (flat ps) ∧ Sep a1 a2 ∧ Gr w wr none a1 ∧ Gr w wr none a2) (fun _ j _ => fu * 255 + r0 - (intOf j).toNat)
        case atStart => exact ⟨0, a1, p1, by omega, rfl, rfl, by simpa using ho1, ho2, hsep, hg1, hg2⟩
        case round =>
          clear ho1 ho2 hsep hg1 hg2 c1 c2 c3
          obtain ⟨q, a1, p1, hq, rfl, rfl, ho1, ho2, hsep, hg1, hg2⟩ := hrel
          by_cases hqt : q < fu * 255 + r0
          · have hqi : (q : Int) < (fu : Int) * 255 + (r0 : Int) := by omega
            have HL2 : Hid ((ex ps ++ List.replicate q x).length = (ex ps).length + q) := by simp [Hid]
            go_wp2_with (at_builtin; refine wpList_app1 (w := wr) rfl _ _ rfl a1 _ p1 _ rfl HL2.out.symm ho1 x rfl bx (by omega) ?_)
            intro a4 p4 w3 ho4 hg4
            have hs4 := hsep.step hg4 ho2
            rw [rep_snoc] at ho4
            have ho5 := ho2.keepGr hg4 hsep
            have hg5 := hg1.trans hg4
            have hg6 := hg2.aside hg1 hg4
            clear ho1 ho2 hg1 hg2
            go_wp2
            go_roundw
            case rel => exact ⟨q + 1, a4, p4, by omega, by go_num, rfl, ho4, ho5, hs4, hg5, hg6⟩
            case measure => simp [intOf]; omega
          · have hqi : ¬ (q : Int) < (fu : Int) * 255 + (r0 : Int) := by omega
            obtain rfl : q = fu * 255 + r0 := by omega
            go_wp2
            go_loopw [4, 10] (fun y j wr => ∃ (q : Nat) (a2 : Option Addr) (p2 : Nat), q ≤ fu ∧ j = .int .i64 q ∧ y = .slice a2 ((flat ps).length + 2 * q) p2 ∧ Own wr a1 p1 (ex ps ++ List.replicate (fu * 255 + r0) x) ∧ Own wr a2 p2 (flat (ps ++ List.replicate q (255, x))) ∧ Sep a1 a2 ∧ Gr w wr none a1 ∧ Gr w wr none a2) (fun _ j _ => fu - (intOf j).toNat)
            case atStart => exact ⟨0, a2, p2, by omega, rfl, rfl, ho1, by simpa using ho2, hsep, hg1, hg2⟩
            case round =>
              clear ho1 ho2 hsep hg1 hg2 hqi hqt
              obtain ⟨q, a2, p2, hq, rfl, rfl, ho1, ho2, hsep, hg1, hg2⟩ := hrel
              by_cases hqt : q < fu
              · have hqi : (q : Int) < (fu : Int) := by omega
                have HL3 : Hid ((flat (ps ++ List.replicate q (255, x))).length = (flat ps).length + 2 * q) := by simp [Hid, flat_length]; omega
                go_wp2_with (at_builtin; refine wpList_app2 (w := wr) rfl _ _ rfl a2 _ p2 _ rfl HL3.out.symm ho2 255 x rfl (by omega) bx (by omega) ?_)
                intro a4 p4 w3 ho4 hg4
                have hs4 := hsep.symm.step hg4 ho1
                rw [← fulls_snoc] at ho4
                have ho5 := ho1.keepGr hg4 hsep.symm
                have hg5 := hg2.trans hg4
                have hg6 := hg1.aside hg2 hg4
                clear ho1 ho2 hg1 hg2
                go_wp2
                go_roundw
                case rel => exact ⟨q + 1, a4, p4, by omega, by go_num, by congr 1, ho5, ho4, hs4.symm, hg6, hg5⟩
                case measure => simp [intOf]; omega
              · have hqi : ¬ (q : Int) < (fu : Int) := by omega
                obtain rfl : fu = q := by omega
                by_cases hre0 : r0 = 0
                · have dre : ¬ (0 : Int) < (r0 : Int) := by omega
                  have hee : ex ps ++ List.replicate (fu * 255 + r0) x = ex (ps ++ List.replicate fu (255, x)) := by rw [fulls_ex, hre0]; rfl
                  have hBA : Hid (BAt (ps ++ List.replicate fu (255, x)) x) := HO.out.done (by omega)
                  have HS : Hid ((flat (ps ++ List.replicate fu (255, x))).length = (flat ps).length + 2 * fu) := by simp [Hid, flat_length]; omega
                  have HS2 : Hid ((ex (ps ++ List.replicate fu (255, x))).length = (ex ps).length + (fu * 255 + r0)) := by rw [Hid, ← hee]; simp
                  rw [hee] at ho1
                  clear hee
                  generalize ps ++ List.replicate fu (255, x) = ps2 at *
                  go_wp2
                  go_roundw
                  case rel => exact ⟨k + 1, a1, a2, p1, p2, ps2, x, by omega, by go_num, by rw [HS2.out], by rw [HS.out], rfl, bx.1, bx.2, by rw [HS2.out]; omega, by rw [HS.out]; omega, ho1, ho2, hsep, hg1, hg2, hBA.out⟩
                  case measure => simp [intOf]; omega
                · have dre : (0 : Int) < (r0 : Int) := by omega
                  have HL4 : Hid ((flat (ps ++ List.replicate fu (255, x))).length = (flat ps).length + 2 * fu) := by simp [Hid, flat_length]; omega
                  go_wp2_with (at_builtin; refine wpList_app2 (w := wr) rfl _ _ rfl a2 _ p2 _ rfl HL4.out.symm ho2 ((r0 : Int)) x rfl (by omega) bx (by omega) ?_)
                  intro a4 p4 w3 ho4 hg4
                  have hs4 := hsep.symm.step hg4 ho1
                  have ho5 := ho1.keepGr hg4 hsep.symm
                  have hg5 := hg2.trans hg4
                  have hg6 := hg1.aside hg2 hg4
                  have hfe : flat (ps ++ List.replicate fu (255, x)) ++ [((r0 : Int) : Int), x] = flat (ps ++ List.replicate fu (255, x) ++ [((r0 : Int), x)]) := flat_snoc _ _ _
                  have hee : ex ps ++ List.replicate (fu * 255 + r0) x = ex (ps ++ List.replicate fu (255, x) ++ [((r0 : Int), x)]) := runs_ex _ _ _ _
                  have hBA : Hid (BAt (ps ++ List.replicate fu (255, x) ++ [((r0 : Int), x)]) x) := (HO.out.fulls fu).one (by omega)
                  have HS : Hid ((flat (ps ++ List.replicate fu (255, x) ++ [((r0 : Int), x)])).length = (flat ps).length + 2 * fu + 2) := by simp [Hid, flat_length]; omega
                  have HS2 : Hid ((ex (ps ++ List.replicate fu (255, x) ++ [((r0 : Int), x)])).length = (ex ps).length + (fu * 255 + r0)) := by rw [Hid, ← hee]; simp
                  rw [hfe] at ho4
                  rw [hee] at ho5
                  clear ho1 ho2 hg1 hg2 hfe hee
                  generalize ps ++ List.replicate fu (255, x) ++ [(((r0 : Int) : Int), x)] = ps2 at *
                  go_wp2
                  go_roundw
                  case rel => exact ⟨k + 1, a1, a4, p1, p4, ps2, x, by omega, by go_num, by rw [HS2.out], by rw [HS.out], rfl, bx.1, bx.2, by rw [HS2.out]; omega, by rw [HS.out]; omega, ho5, ho4, hs4.symm, hg6, hg5, hBA.out⟩
                  case measure => simp [intOf]; omega
    · have hki : ¬ (k : Int) < (n : Int) := by omega
      have r1 := ho1.rd
      go_wp2_with fail
      refine (encode_calls a1 _ _ p1 _ r1 (by omega)).mono ?_
      rintro e w1 ⟨a3, p3, qs, rfl, ho3, hc3, he3, hg3⟩
      rw [lst_gl] at he3
      obtain rfl : qs = ps := canon_unique hc3 HA.out.can he3
      have r3 := ho3.rd
      have r2 := (ho2.keep hg3.g).rd
      have gw := hg1.g.trans hg3.g
      clear ho1 ho2 ho3 hsep hg1 hg2 hg3 r1
      go_wp2_with fail
      refine (beq_calls a3 a2 _ _ _ _ p3 p2 _ r3 r2 (by omega)).mono ?_
      rintro e w2 ⟨r, rfl, hrr, hg5⟩
      obtain rfl := hrr.2 rfl
      go_wp2
      go_ret
      exact ⟨rfl, gw.trans hg5⟩

end Go.Proofs.Ymbrcl
