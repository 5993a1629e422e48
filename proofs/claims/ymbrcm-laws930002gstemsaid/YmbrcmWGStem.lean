import Derived.Test.YmbrcmWGRaw
set_option linter.unusedVariables false
namespace Go.Proofs.Ymbrcm
open Go.RowKit

theorem gpairs2 (a b : Option Addr) (P cap m cb : Nat) (ps : List (Int × Int)) (g : Nat → Int) (w : World) (hown : Own w a cap (flat ps)) (hP : ps.length = P) (hr : Rd w b m g) (hsep : m = 0 ∨ Sep a b) (hb : P + m ≤ 35184372088832) :
    Calls Ycmm.prog 26 #[.slice a (2 * P) cap, .slice b m cb] w fun e w' => ∃ a' cap', e = .returned (.slice a' (2 * (P + m)) cap') ∧ Own w' a' cap' (flat (ps ++ gps g m)) ∧ Gr w w' a a' := by
  have hl : (flat ps).length = 2 * P := by rw [flat_length, hP]
  have h := gpairs_calls a b cap m cb (flat ps) g w hown hr hsep (by rw [hl]; omega)
  rw [hl, ← flat_append, ← Nat.mul_add] at h
  exact h

/-- pairs of count one -/
def ones (l : List Int) : List (Int × Int) := l.map fun x => (1, x)
theorem ones_ex (l : List Int) : ex (ones l) = l := by
  induction l with
  | nil => rfl
  | cons x l ih => show List.replicate 1 x ++ ex (ones l) = _; rw [ih]; rfl
theorem ones_length (l : List Int) : (ones l).length = l.length := by simp [ones]
theorem ones_well (l : List Int) : Well (ones l) := by
  intro p hp
  simp only [ones, List.mem_map] at hp
  obtain ⟨x, _, rfl⟩ := hp
  simp
theorem ones_snoc (l : List Int) (x : Int) : ones (l ++ [x]) = ones l ++ [(1, x)] := by simp [ones]
theorem well_append {a b : List (Int × Int)} (h : Well a) (k : Well b) : Well (a ++ b) := by
  intro p hp
  rcases List.mem_append.1 hp with x | x
  · exact h p x
  · exact k p x

/-- a fresh row stays fresh while another fresh row is written -/
theorem Gr.beside {w w1 w2 : World} {a a' b : Option Addr} (h : Gr w w1 none b) (ha : Gr w w1 none a) (k : Gr w1 w2 a a') : Gr w w2 none b := ⟨(ha.trans k).gr, h.loc⟩

set_option maxRecDepth 100000 in
set_option maxHeartbeats 1600000 in
theorem gstem_calls (a x y : Option Addr) (f g k : Nat → Int) (n m o ca cx cy : Nat) (w : World) (hr : Rd w a n f) (hx : Rd w x m g) (hy : Rd w y o k) :
    Calls Ycmm.prog 10 #[.slice a n ca, .slice x m cx, .slice y o cy] w fun e w' => e = .returned (.bool true) ∧ G w w' := by
  by_cases h0 : 512 < n
  · have e0 : (512 : Int) < n := by omega
    go_enter Ycmm.func10, Ycmm.ntmps10
    go_wp2
    go_ret
    exact ⟨rfl, G.refl _⟩
  have e0 : decide ((512 : Int) < n) = false := by simp; omega
  by_cases h1 : 512 < m
  · have e1 : (512 : Int) < m := by omega
    go_enter Ycmm.func10, Ycmm.ntmps10
    go_wp2
    go_ret
    exact ⟨rfl, G.refl _⟩
  have e1 : decide ((512 : Int) < m) = false := by simp; omega
  by_cases h2 : 512 < o
  · have e2 : (512 : Int) < o := by omega
    go_enter Ycmm.func10, Ycmm.ntmps10
    go_wp2
    go_ret
    exact ⟨rfl, G.refl _⟩
  have e2 : decide ((512 : Int) < o) = false := by simp; omega
  go_enter Ycmm.func10, Ycmm.ntmps10
  go_wp2_with fail
  refine (gpairs_nil a n ca f _ hr (by omega)).mono ?_
  rintro e w1 ⟨a1, cap1, rfl, ho1, hg1⟩
  have r1 := ho1.rd
  have l1 : (flat (gps f n)).length = 2 * n := by rw [flat_length, gps_length]
  rw [l1] at r1
  go_wp2_with fail
  refine (gexpand2 a1 _ n cap1 _ r1 (by omega)).mono ?_
  rintro e w2 ⟨a2, cap2, rfl, ho2, hg2⟩
  have hPL : exN (gl (flat (gps f n))) n = ex (gps f n) := by have := exN_flat (gps f n); rwa [gps_length] at this
  have hlen := exN_length_le r1.1 n
  rw [hPL] at ho2 hlen ⊢
  have ho1' := ho1.keep hg2.g
  have hgg := hg1.g.trans hg2.g
  have GA := hg1.then hg2.g
  have s1x : Hid _ := Sep.old hg1 hx
  have wf1 : Hid _ := gps_well hr.1 n
  have lS : Hid _ := gps_length f n
  have hx2 := hx.keep hgg
  have hy2 := hy.keep hgg
  clear ho1 hg1 hg2 r1 l1 hPL hr
  generalize gps f n = S at *
  generalize hPl : ex S = PL at *
  have HPl : Hid _ := hPl
  clear hPl
  go_wp2
  go_loopw [9, 10] (fun v i wr => ∃ (j : Nat) (a' : Option Addr) (cap' : Nat), j ≤ PL.length ∧ i = .int .i64 j ∧ v = .slice a' (2 * j) cap' ∧ Own wr a' cap' (flat (ones (lst (gl PL) j))) ∧ Gr w2 wr none a') (fun _ i _ => PL.length - (intOf i).toNat)
  case atStart => exact ⟨0, none, 0, by omega, rfl, rfl, Own.nil _, Gr.refl _ _⟩
  case round =>
    obtain ⟨j, au, cu, hj, rfl, rfl, hou, hgu⟩ := hrel
    have ho2u := ho2.keep hgu.g
    have rd2 := ho2u.rd
    by_cases hlt : j < PL.length
    · have hl1 : Hid (2 * j = (flat (ones (lst (gl PL) j))).length) := by rw [Hid, flat_length, ones_length, lst_length]
      obtain ⟨b2, off2, rfl, _⟩ := rd2.at hlt
      have b0 := rd2.1 j
      go_wp2_with (at_builtin; refine wpList_app1 (w := wr) rfl _ _ rfl au _ cu (flat (ones (lst (gl PL) j))) rfl hl1.out hou 1 rfl (by omega) (by omega) ?_)
      intro a3 cap3 w3 ho3 hg3
      have c2 := (ho2.keep (hgu.trans hg3).g).rd.cell hlt
      have hl2 : Hid (2 * j + 1 = (flat (ones (lst (gl PL) j)) ++ [1]).length) := by rw [Hid, List.length_append, ← hl1.out]; rfl
      go_wp2_with (at_builtin; refine wpList_app1 (w := w3) rfl _ _ rfl a3 _ cap3 (flat (ones (lst (gl PL) j)) ++ [1]) rfl hl2.out ho3 (gl PL j) rfl b0 (by omega) ?_)
      intro a4 cap4 w4 ho4 hg4
      have hf : Hid (flat (ones (lst (gl PL) (j + 1))) = flat (ones (lst (gl PL) j)) ++ [1] ++ [gl PL j]) := by rw [Hid, lst_succ, ones_snoc, flat_append]; simp [flat]
      clear c2
      go_wp2
      go_roundw
      case rel => exact ⟨j + 1, a4, cap4, by omega, by go_num, rfl, by rw [hf.out]; simpa using ho4, (hgu.trans hg3).trans hg4⟩
      case measure => simp [intOf]; omega
    · obtain rfl : j = PL.length := by omega
      rw [lst_gl] at hou
      have s1u : Hid (Sep au a1) := Sep.fresh hgu ho1'
      have suy : Hid _ := Sep.old hgu hy2
      have ho1u := ho1'.keep hgu.g
      have hxu := hx2.keep hgu.g
      have hyu := hy2.keep hgu.g
      have GAu := GA.then hgu.g
      have GUu := hgg.then hgu
      clear ho1' hx2 hy2 hgg GA ho2 hgu ho2u rd2 hlt hj
      go_wp2_with fail
      refine (gpairs_nil x m cx g _ hxu (by omega)).mono ?_
      rintro e w3 ⟨a3, cap3, rfl, ho3, hg3⟩
      have r3 := ho3.rd
      have l3 : (flat (gps g m)).length = 2 * m := by rw [flat_length, gps_length]
      rw [l3] at r3
      have q3 : exN (gl (flat (gps g m))) m = ex (gps g m) := by have := exN_flat (gps g m); rwa [gps_length] at this
      have ln3 := exN_length_le r3.1 m
      rw [q3] at ln3
      go_wp2_with fail
      refine (gexpand2 a3 _ m cap3 _ r3 (by omega)).mono ?_
      rintro e w4 ⟨a4, cap4, rfl, ho4, hg4⟩
      rw [q3] at ho4 ⊢
      have g34 := hg3.g.trans hg4.g
      clear ho3 hg3 hg4 r3 l3 q3
      have ho1v := ho1u.keep g34
      have houv := hou.keep g34
      have hxv := hxu.keep g34
      have hyv := hyu.keep g34
      have GAv := GAu.then g34
      have GUv := GUu.then g34
      clear ho1u hou hxu hyu GAu GUu g34
      go_wp2_with fail
      refine (gpairs_nil y o cy k _ hyv (by omega)).mono ?_
      rintro e w5 ⟨a5, cap5, rfl, ho5, hg5⟩
      have r5 := ho5.rd
      have l5 : (flat (gps k o)).length = 2 * o := by rw [flat_length, gps_length]
      rw [l5] at r5
      have q5 : exN (gl (flat (gps k o))) o = ex (gps k o) := by have := exN_flat (gps k o); rwa [gps_length] at this
      have ln5 := exN_length_le r5.1 o
      rw [q5] at ln5
      go_wp2_with fail
      refine (gexpand2 a5 _ o cap5 _ r5 (by omega)).mono ?_
      rintro e w6 ⟨a6, cap6, rfl, ho6, hg6⟩
      rw [q5] at ho6 ⊢
      have g56 := hg5.g.trans hg6.g
      have ho4' := ho4.keep g56
      have ho1y := ho1v.keep g56
      have houy := houv.keep g56
      have hxy := hxv.keep g56
      have hyy := hyv.keep g56
      have GAy := GAv.then g56
      have GUy := GUv.then g56
      clear ho5 hg5 hg6 r5 l5 q5 ho4 ho1v houv hxv hyv GAv GUv g56
      go_wp2_with fail
      refine (glex_calls a4 a6 _ _ _ _ cap4 cap6 _ ho4'.rd ho6.rd (by omega) (by omega)).mono ?_
      rintro e w7 ⟨r, rfl, hlx, hg7⟩
      have hrr := lex_range hlx
      have HLx : Hid _ := lex_stem (S := PL) hlx
      have ho1z := ho1y.keep hg7
      have houz := houy.keep hg7
      have hxz := hxy.keep hg7
      have hyz := hyy.keep hg7
      have GAz := GAy.then hg7
      have GUz := GUy.then hg7
      clear hlx ho4' ho6 ho1y houy hxy hyy GAy GUy hg7
      go_wp2_with fail
      refine (gpairs2 a1 x n cap1 m cx S g _ ho1z lS.out hxz s1x.out (by omega)).mono ?_
      rintro e w8 ⟨a8, cap8, rfl, ho8, hg8⟩
      have hou8 := houz.keepGr hg8 s1u.out.symm
      have hsep8 : Hid (Sep a8 au) := s1u.out.symm.step hg8 houz
      have GA8 := GAz.trans hg8
      have GU8 := GUz.beside GAz hg8
      have hy8 := hy.keep GA8.g
      have hl8 : Hid ((S ++ gps g m).length = n + m) := by rw [Hid, List.length_append, lS.out, gps_length]
      have hz8 : Hid (¬ HasZero (gl (flat (S ++ gps g m))) (2 * (n + m))) := by rw [Hid, ← hl8.out]; exact well_nz (well_append wf1.out (gps_well hx.1 m))
      have hX8 : Hid (exN (gl (flat (S ++ gps g m))) (n + m) = PL ++ ex (gps g m)) := by rw [Hid, ← hl8.out, exN_flat, ex_append, HPl.out]
      clear ho1z houz hxz hyz GAz GUz hg8
      obtain ⟨N1, hN1⟩ : ∃ N1, n + m = N1 := ⟨_, rfl⟩
      rw [hN1] at hl8 hz8 hX8 ⊢
      have hN1b : N1 ≤ 1024 := by omega
      clear hN1
      go_wp2_with fail
      refine (gpairs2 au y PL.length cu o cy (ones PL) k _ hou8 (ones_length PL) hy8 suy.out (by omega)).mono ?_
      rintro e w9 ⟨a9, cap9, rfl, ho9, hg9⟩
      have ho89 := ho8.keepGr hg9 hsep8.out.symm
      have G9 := (GU8.trans hg9).g
      have hl9 : Hid ((ones PL ++ gps k o).length = PL.length + o) := by rw [Hid, List.length_append, ones_length, gps_length]
      have hz9 : Hid (¬ HasZero (gl (flat (ones PL ++ gps k o))) (2 * (PL.length + o))) := by rw [Hid, ← hl9.out]; exact well_nz (well_append (ones_well PL) (gps_well hy.1 o))
      have hX9 : Hid (exN (gl (flat (ones PL ++ gps k o))) (PL.length + o) = PL ++ ex (gps k o)) := by rw [Hid, ← hl9.out, exN_flat, ex_append, ones_ex]
      obtain ⟨N2, hN2⟩ : ∃ N2, PL.length + o = N2 := ⟨_, rfl⟩
      rw [hN2] at hl9 hz9 hX9 ⊢
      have hN2b : N2 ≤ 200000 := by omega
      have rA := ho89.rd
      have rB := ho9.rd
      rw [flat_length, hl8.out] at rA
      rw [flat_length, hl9.out] at rB
      have HL1 : Hid (LexIs (gl (exN (gl (flat (S ++ gps g m))) N1)) (exN (gl (flat (S ++ gps g m))) N1).length (gl (exN (gl (flat (ones PL ++ gps k o))) N2)) (exN (gl (flat (ones PL ++ gps k o))) N2).length r) := by rw [Hid, hX8.out, hX9.out]; exact HLx.out
      clear ho8 ho9 ho89 hg9 GA8 GU8 hou8 hy8 hN2 HLx hX8 hX9 hl8 hl9
      generalize gl (flat (S ++ gps g m)) = FA at *
      generalize gl (flat (ones PL ++ gps k o)) = FB at *
      go_wp2_with fail
      refine (cmp_ok2 a8 a9 FA FB N1 N2 cap8 cap9 _ rA rB (by omega) (by omega) hz8.out hz9.out).mono ?_
      rintro e w10 ⟨r', rfl, hlx', hg10⟩
      obtain rfl := lex_one HL1.out hlx'
      have d1 : (r != r) = false := by simp
      clear hlx'
      go_wp2_with fail
      refine (cmp_ok2 a9 a8 FB FA N2 N1 cap9 cap8 _ (rB.keep hg10) (rA.keep hg10) (by omega) (by omega) hz9.out hz8.out).mono ?_
      rintro e w11 ⟨r'', rfl, hlx'', hg11⟩
      obtain rfl := lex_one (lex_turn HL1.out) hlx''
      clear hlx'' HL1
      have d2 : (-r == -r) = true := by simp
      go_wp2
      go_ret
      exact ⟨rfl, (G9.trans hg10).trans hg11⟩

end Go.Proofs.Ymbrcm
