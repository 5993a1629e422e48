import Derived.Test.YmbrcmGKit
set_option linter.unusedVariables false
namespace Go.Proofs.Ymbrcm
open Go.RowKit

theorem lex_range {A B : Nat → Int} {n m : Nat} {r : Int} (h : LexIs A n B m r) : -1 ≤ r ∧ r ≤ 1 := by
  obtain ⟨i, h1, h2, h3, h4⟩ := h
  rcases h4 with h4 | h4 | h4 | h4 | h4 <;> omega

theorem gpairs_nil (b : Option Addr) (m cb : Nat) (g : Nat → Int) (w : World) (hr : Rd w b m g) (hb : m ≤ 35184372088832) :
    Calls Ycmm.prog 26 #[.slice none 0 0, .slice b m cb] w fun e w' => ∃ a' cap', e = .returned (.slice a' (2 * m) cap') ∧ Own w' a' cap' (flat (gps g m)) ∧ Gr w w' none a' := by
  have h := gpairs_calls none b 0 m cb [] g w (Own.nil w) hr (.inr (Sep.nil_l _)) (by simp; omega)
  simp only [List.length_nil, Nat.zero_add, List.nil_append] at h
  exact h

theorem gexpand2 (a : Option Addr) (f : Nat → Int) (P cap : Nat) (w : World) (hr : Rd w a (2 * P) f) (hn : P ≤ 274877906944) :
    Calls Ycmm.prog 24 #[.slice a (2 * P) cap] w fun e w' => ∃ a' cap', e = .returned (.slice a' (exN f P).length cap') ∧ Own w' a' cap' (exN f P) ∧ Gr w w' none a' := by
  have h := gexpand_calls a f (2 * P) cap w hr (by omega)
  rw [show 2 * P / 2 = P by omega] at h
  exact h

theorem cmp_ok2 (a b : Option Addr) (f g : Nat → Int) (P Q ca cb : Nat) (w : World) (hr : Rd w a (2 * P) f) (hq : Rd w b (2 * Q) g) (hn : P ≤ 274877906944) (hm : Q ≤ 274877906944) (hz : ¬ HasZero f (2 * P)) (hzg : ¬ HasZero g (2 * Q)) :
    Calls Ycmm.prog 25 #[.slice a (2 * P) ca, .slice b (2 * Q) cb] w fun e w' => ∃ r, e = .returned (.tuple #[.int .i64 r, .int .i64 0]) ∧ LexIs (gl (exN f P)) (exN f P).length (gl (exN g Q)) (exN g Q).length r ∧ G w w' := by
  have h := cmp_ok a b f g (2 * P) (2 * Q) ca cb w hr hq (by omega) (by omega) (by omega) (by omega) hz hzg
  rw [show 2 * P / 2 = P by omega, show 2 * Q / 2 = Q by omega] at h
  exact h

set_option maxRecDepth 100000 in
set_option maxHeartbeats 800000 in
theorem graw_calls (a b : Option Addr) (f g : Nat → Int) (n m ca cb : Nat) (w : World) (hr : Rd w a n f) (hq : Rd w b m g) :
    Calls Ycmm.prog 8 #[.slice a n ca, .slice b m cb] w fun e w' => e = .returned (.bool true) ∧ G w w' := by
  by_cases h0 : 1024 < n
  · have e0 : (1024 : Int) < n := by omega
    go_enter Ycmm.func8, Ycmm.ntmps8
    go_wp2
    go_ret
    exact ⟨rfl, G.refl _⟩
  have e0 : decide ((1024 : Int) < n) = false := by simp; omega
  by_cases h1 : 1024 < m
  · have e1 : (1024 : Int) < m := by omega
    go_enter Ycmm.func8, Ycmm.ntmps8
    go_wp2
    go_ret
    exact ⟨rfl, G.refl _⟩
  have e1 : decide ((1024 : Int) < m) = false := by simp; omega
  rcases chk_two f n with ⟨c, hc, hc0⟩ | ⟨hev, hz⟩
  · have d1 : (c == 0) = false := by simpa using hc0
    have d3 : (c == c) = true := by simp
    go_enter Ycmm.func8, Ycmm.ntmps8
    go_wp2_with fail
    refine (gcode_calls a f n ca _ hr (by omega)).mono ?_
    rintro e w1 ⟨c', rfl, hc', rfl⟩
    obtain rfl := chk_one hc hc'
    go_wp2_with fail
    refine (cmp_bad1 a b f n m ca cb _ hr (by omega) c' hc hc0).mono ?_
    rintro e w2 ⟨rfl, rfl⟩
    clear hc hc' hc0
    go_wp2
    go_ret
    exact ⟨rfl, G.refl _⟩
  have HZ : Hid (¬ HasZero f n) := hz
  clear hz
  rcases chk_two g m with ⟨c, hc, hc0⟩ | ⟨hev2, hz2⟩
  · have d1 : (c == 0) = false := by simpa using hc0
    have d3 : (c == c) = true := by simp
    go_enter Ycmm.func8, Ycmm.ntmps8
    go_wp2_with fail
    refine (gcode_calls a f n ca _ hr (by omega)).mono ?_
    rintro e w1 ⟨c', rfl, hc', rfl⟩
    obtain rfl := chk_one (chk_ok hev HZ.out) hc'
    clear hc'
    go_wp2_with fail
    refine (gcode_calls b g m cb _ hq (by omega)).mono ?_
    rintro e w1 ⟨c', rfl, hc', rfl⟩
    obtain rfl := chk_one hc hc'
    go_wp2_with fail
    refine (cmp_bad2 a b f g n m ca cb _ hr hq (by omega) (by omega) hev HZ.out c' hc hc0).mono ?_
    rintro e w2 ⟨rfl, rfl⟩
    clear hc hc' hc0
    go_wp2
    go_ret
    exact ⟨rfl, G.refl _⟩
  have HZ2 : Hid (¬ HasZero g m) := hz2
  clear hz2
  go_enter Ycmm.func8, Ycmm.ntmps8
  go_wp2_with fail
  refine (gcode_calls a f n ca _ hr (by omega)).mono ?_
  rintro e w1 ⟨c', rfl, hc', rfl⟩
  obtain rfl := chk_one (chk_ok hev HZ.out) hc'
  clear hc'
  go_wp2_with fail
  refine (gcode_calls b g m cb _ hq (by omega)).mono ?_
  rintro e w1 ⟨c', rfl, hc', rfl⟩
  obtain rfl := chk_one (chk_ok hev2 HZ2.out) hc'
  clear hc'
  have lf := exN_length_le hr.1 (n / 2)
  have lg := exN_length_le hq.1 (m / 2)
  go_wp2_with fail
  refine (gexpand_calls a f n ca _ hr (by omega)).mono ?_
  rintro e w2 ⟨a2, cap2, rfl, ho2, hg2⟩
  go_wp2_with fail
  refine (gexpand_calls b g m cb _ (hq.keep hg2.g) (by omega)).mono ?_
  rintro e w3 ⟨a3, cap3, rfl, ho3, hg3⟩
  have hr3 := hr.keep (hg2.g.trans hg3.g)
  have hq3 := hq.keep (hg2.g.trans hg3.g)
  go_wp2_with fail
  refine (glex_calls a2 a3 _ _ _ _ cap2 cap3 _ (ho2.keep hg3.g).rd ho3.rd (by omega) (by omega)).mono ?_
  rintro e w4 ⟨r, rfl, hlx, hg4⟩
  have HLx : Hid _ := hlx
  clear hlx
  go_wp2_with fail
  refine (cmp_ok a b f g n m ca cb _ (hr3.keep hg4) (hq3.keep hg4) (by omega) (by omega) hev hev2 HZ.out HZ2.out).mono ?_
  rintro e w5 ⟨r', rfl, hlx', hg5⟩
  obtain rfl := lex_one HLx.out hlx'
  have d1 : (r == r) = true := by simp
  clear hlx' HLx
  go_wp2
  go_ret
  exact ⟨rfl, ((hg2.g.trans hg3.g).trans hg4).trans hg5⟩

set_option maxRecDepth 100000 in
set_option maxHeartbeats 800000 in
theorem gorder_calls (a b : Option Addr) (f g : Nat → Int) (n m ca cb : Nat) (w : World) (hr : Rd w a n f) (hq : Rd w b m g) :
    Calls Ycmm.prog 9 #[.slice a n ca, .slice b m cb] w fun e w' => e = .returned (.bool true) ∧ G w w' := by
  by_cases h0 : 1024 < n
  · have e0 : (1024 : Int) < n := by omega
    go_enter Ycmm.func9, Ycmm.ntmps9
    go_wp2
    go_ret
    exact ⟨rfl, G.refl _⟩
  have e0 : decide ((1024 : Int) < n) = false := by simp; omega
  by_cases h1 : 1024 < m
  · have e1 : (1024 : Int) < m := by omega
    go_enter Ycmm.func9, Ycmm.ntmps9
    go_wp2
    go_ret
    exact ⟨rfl, G.refl _⟩
  have e1 : decide ((1024 : Int) < m) = false := by simp; omega
  have kf : (flat (gps f n)).length = 2 * n := by rw [flat_length, gps_length]
  have kg : (flat (gps g m)).length = 2 * m := by rw [flat_length, gps_length]
  have zf : Hid (¬ HasZero (gl (flat (gps f n))) (2 * n)) := by have := well_nz (gps_well hr.1 n); rw [gps_length] at this; exact this
  have zg : Hid (¬ HasZero (gl (flat (gps g m))) (2 * m)) := by have := well_nz (gps_well hq.1 m); rw [gps_length] at this; exact this
  have HKf : Hid _ := kf
  have HKg : Hid _ := kg
  clear kf kg
  go_enter Ycmm.func9, Ycmm.ntmps9
  go_wp2_with fail
  refine (gpairs_nil a n ca f _ hr (by omega)).mono ?_
  rintro e w1 ⟨a1, cap1, rfl, ho1, hg1⟩
  go_wp2_with fail
  refine (gpairs_nil b m cb g _ (hq.keep hg1.g) (by omega)).mono ?_
  rintro e w2 ⟨a2, cap2, rfl, ho2, hg2⟩
  have r1 := (ho1.keep hg2.g).rd
  have r2 := ho2.rd
  rw [HKf.out] at r1
  rw [HKg.out] at r2
  have hgg := hg1.g.trans hg2.g
  clear ho1 ho2 hg1 hg2 hr hq HKf HKg
  generalize gl (flat (gps f n)) = F at *
  generalize gl (flat (gps g m)) = F' at *
  have lf := exN_length_le r1.1 n
  have lg := exN_length_le r2.1 m
  go_wp2_with fail
  refine (gexpand2 a1 F n cap1 _ r1 (by omega)).mono ?_
  rintro e w3 ⟨a3, cap3, rfl, ho3, hg3⟩
  go_wp2_with fail
  refine (gexpand2 a2 F' m cap2 _ (r2.keep hg3.g) (by omega)).mono ?_
  rintro e w4 ⟨a4, cap4, rfl, ho4, hg4⟩
  have r3 := r1.keep (hg3.g.trans hg4.g)
  have r4 := r2.keep (hg3.g.trans hg4.g)
  go_wp2_with fail
  refine (glex_calls a3 a4 _ _ _ _ cap3 cap4 _ (ho3.keep hg4.g).rd ho4.rd (by omega) (by omega)).mono ?_
  rintro e w5 ⟨r, rfl, hlx, hg5⟩
  have HLx : Hid _ := hlx
  clear hlx
  go_wp2_with fail
  refine (cmp_ok2 a1 a2 F F' n m cap1 cap2 _ (r3.keep hg5) (r4.keep hg5) (by omega) (by omega) zf.out zg.out).mono ?_
  rintro e w6 ⟨r', rfl, hlx', hg6⟩
  obtain rfl := lex_one HLx.out hlx'
  have d1 : (r == r) = true := by simp
  clear hlx' HLx
  go_wp2
  go_ret
  exact ⟨rfl, (((hgg.trans hg3.g).trans hg4.g).trans hg5).trans hg6⟩

end Go.Proofs.Ymbrcm
