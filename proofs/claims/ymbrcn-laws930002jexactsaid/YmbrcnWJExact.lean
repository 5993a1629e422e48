import Derived.Test.YmbrcnRecs
import Derived.Test.YmbrcnBuild
import Derived.Test.YmbrcnWJRaw
set_option linter.unusedVariables false
namespace Go.Proofs.Ymbrcn
open Go.RowKit

def jc (x : Int) : Int := if x = 0 then 255 else if x % 2 = 1 then 256 - x else x
theorem jc_bounds {x : Int} (h : 0 ≤ x ∧ x ≤ 255) : 1 ≤ jc x ∧ jc x ≤ 255 := by
  unfold jc
  split
  · omega
  · split <;> omega

def jF (c v : Nat → Int) (i : Nat) : Int × Int := (jc (c i), v i % 3)

set_option maxRecDepth 100000 in
set_option maxHeartbeats 800000 in
theorem jbuild_calls (a : Option Addr) (c v : Nat → Int) (n cap : Nat) (w : World) (hn : n ≤ 17592186044416) (bc : ∀ i, 0 ≤ c i ∧ c i ≤ 255) (bv : ∀ i, 0 ≤ v i ∧ v i ≤ 255)
    (h0 : Fld w a n 2 0 (fun i => .int .u8 (c i))) (h1 : Fld w a n 2 1 (fun i => .int .u8 (v i))) :
    Calls Ycnm.prog 19 #[.slice a n cap] w fun e w' => ∃ a' cap', e = .returned (.slice a' (2 * n : Nat) cap') ∧ Own w' a' cap' (flat (bl (jF c v) n)) ∧ Gr w w' none a' := by
  go_enter Ycnm.func19, Ycnm.ntmps19
  go_wp2
  go_loopw [3, 4, 5] (fun x i _ wr => ∃ (k : Nat) (a' : Option Addr) (cap' : Nat), k ≤ n ∧ i = .int .i64 k ∧ x = .slice a' (2 * k) cap' ∧ Own wr a' cap' (flat (bl (jF c v) k)) ∧ Gr w wr none a') (fun _ i _ _ => n - (intOf i).toNat)
  case atStart => exact ⟨0, none, 0, by omega, rfl, rfl, Own.nil _, Gr.refl _ _⟩
  case round =>
    obtain ⟨k, a', cap', hk, rfl, rfl, hown, hgr⟩ := hrel
    by_cases hlt : k < n
    · have hki : (k : Int) < n := by omega
      obtain ⟨b, off, rfl⟩ := h0.at hlt
      have c1 := (h0.keep hgr.g).cell hlt
      have c2 := (h1.keep hgr.g).cell hlt
      simp only [Nat.add_zero] at c1
      have b1 := bc k
      have b2 := bv k
      have HL : Hid ((flat (bl (jF c v) k)).length = 2 * k) := bl_flat_length _ _
      by_cases hz : c k = 0
      · have dz : (c k == 0) = true := by simpa using hz
        have HN : Hid (flat (bl (jF c v) (k + 1)) = flat (bl (jF c v) k) ++ [255, v k % 3]) := by
          have := bl_flat_succ (jF c v) k; simp only [jF, jc, hz, if_true] at this; exact this
        clear hz
        go_wp2_with (at_builtin; refine wpList_app2 (w := wr) rfl _ _ rfl a' _ cap' _ rfl HL.out.symm hown (255) (v k % 3) rfl (by omega) (by omega) (by omega) ?_)
        intro a2 cap2 w2 ho2 hg2
        rw [← HN.out] at ho2
        go_wp2
        go_roundw
        case rel => exact ⟨k + 1, a2, cap2, by omega, by go_num, rfl, ho2, hgr.trans hg2⟩
        case measure => simp [intOf]; omega
      have dz : (c k == 0) = false := by simpa using hz
      by_cases ho : c k % 2 = 1
      · have do' : (c k % 2 == 1) = true := by simpa using ho
        have HN : Hid (flat (bl (jF c v) (k + 1)) = flat (bl (jF c v) k) ++ [256 - c k, v k % 3]) := by
          have := bl_flat_succ (jF c v) k; simp only [jF, jc, hz, ho, if_true, if_false] at this; exact this
        clear ho
        go_wp2_with (at_builtin; refine wpList_app2 (w := wr) rfl _ _ rfl a' _ cap' _ rfl HL.out.symm hown (256 - c k) (v k % 3) rfl (by omega) (by omega) (by omega) ?_)
        intro a2 cap2 w2 ho2 hg2
        rw [← HN.out] at ho2
        go_wp2
        go_roundw
        case rel => exact ⟨k + 1, a2, cap2, by omega, by go_num, rfl, ho2, hgr.trans hg2⟩
        case measure => simp [intOf]; omega
      · have do' : (c k % 2 == 1) = false := by simpa using ho
        have HN : Hid (flat (bl (jF c v) (k + 1)) = flat (bl (jF c v) k) ++ [c k, v k % 3]) := by
          have := bl_flat_succ (jF c v) k; simp only [jF, jc, hz, ho, if_false] at this; exact this
        clear ho
        go_wp2_with (at_builtin; refine wpList_app2 (w := wr) rfl _ _ rfl a' _ cap' _ rfl HL.out.symm hown (c k) (v k % 3) rfl (by omega) (by omega) (by omega) ?_)
        intro a2 cap2 w2 ho2 hg2
        rw [← HN.out] at ho2
        go_wp2
        go_roundw
        case rel => exact ⟨k + 1, a2, cap2, by omega, by go_num, rfl, ho2, hgr.trans hg2⟩
        case measure => simp [intOf]; omega
    · have hki : ¬ (k : Int) < (n : Int) := by omega
      obtain rfl : k = n := by omega
      go_wp2
      go_ret
      exact ⟨_, _, rfl, hown, hgr⟩

theorem Own.capNil {w : World} {a : Option Addr} {cap : Nat} {l : List Int} (h : Own w a cap l) : a = none → cap = 0 := by
  rcases h.row.2 with ⟨h0, h1⟩ | ⟨g, cap', cur, hv, hb, hg, h1, h2, rest⟩
  · simp at h0; omega
  · simp only [Value.slice.injEq] at hv
    obtain ⟨ha, -, rfl⟩ := hv
    intro e; rw [e] at ha; cases ha

set_option maxRecDepth 100000 in
set_option maxHeartbeats 800000 in
theorem jexact_calls (a b : Option Addr) (c v d u : Nat → Int) (n m ca cb : Nat) (w : World) (bc : ∀ i, 0 ≤ c i ∧ c i ≤ 255) (bv : ∀ i, 0 ≤ v i ∧ v i ≤ 255) (bd : ∀ i, 0 ≤ d i ∧ d i ≤ 255) (bu : ∀ i, 0 ≤ u i ∧ u i ≤ 255)
    (h0 : Fld w a n 2 0 (fun i => .int .u8 (c i))) (h1 : Fld w a n 2 1 (fun i => .int .u8 (v i))) (h2 : Fld w b m 2 0 (fun i => .int .u8 (d i))) (h3 : Fld w b m 2 1 (fun i => .int .u8 (u i))) :
    Calls Ycnm.prog 6 #[.slice a n ca, .slice b m cb] w fun e w' => e = .returned (.bool true) ∧ G w w' := by
  by_cases k0 : 512 < n
  · have e0 : (512 : Int) < n := by omega
    go_enter Ycnm.func6, Ycnm.ntmps6
    go_wp2
    go_ret
    exact ⟨rfl, G.refl _⟩
  have e0 : decide ((512 : Int) < n) = false := by simp; omega
  by_cases k1 : 512 < m
  · have e1 : (512 : Int) < m := by omega
    go_enter Ycnm.func6, Ycnm.ntmps6
    go_wp2
    go_ret
    exact ⟨rfl, G.refl _⟩
  have e1 : decide ((512 : Int) < m) = false := by simp; omega
  go_enter Ycnm.func6, Ycnm.ntmps6
  go_wp2_with fail
  refine (jbuild_calls a c v n ca _ (by omega) bc bv h0 h1).mono ?_
  rintro e w1 ⟨a1, c1, rfl, ho1, hg1⟩
  go_wp2_with fail
  refine (jbuild_calls b d u m cb _ (by omega) bd bu (h2.keep hg1.g) (h3.keep hg1.g)).mono ?_
  rintro e w2 ⟨a2, c2, rfl, ho2, hg2⟩
  have r1 := (ho1.keep hg2.g).rd
  have r2 := ho2.rd
  rw [bl_flat_length] at r1 r2
  have na := ho1.capNil
  have nb := ho2.capNil
  have z1 : Hid (¬ HasZero (gl (flat (bl (jF c v) n))) (2 * n)) := bl_zeroless fun i => (jc_bounds (bc i)).1
  have z2 : Hid (¬ HasZero (gl (flat (bl (jF d u) m))) (2 * m)) := bl_zeroless fun i => (jc_bounds (bd i)).1
  go_wp2_with fail
  refine (join_ok a1 a2 _ _ (2 * n) (2 * m) c1 c2 _ r1 r2 (by omega) (by omega) (by omega) z1.out z2.out).mono ?_
  rintro e w3 ⟨a3, L3, cap3, qs, rfl, ho3, hl3, hle3, hc3, hex3, hgr3⟩
  go_wp2_with fail
  refine (jmodel_calls a1 a2 _ _ (2 * n) (2 * m) c1 c2 _ (r1.keep hgr3.g) (r2.keep hgr3.g) na nb (by omega) (by omega) (by omega) z1.out z2.out).mono ?_
  rintro e w4 ⟨a4, cap4, rs, rfl, ho4, hc4, hex4, hgr4⟩
  obtain rfl : qs = rs := canon_unique hc3 hc4 (hex3.trans hex4.symm)
  have ho5 := ho3.keep hgr4.g
  have hlen : (flat qs).length = 2 * L3 := by rw [flat_length, hl3]
  have hrd1 := ho5.rd
  have hrd2 := ho4.rd
  rw [hlen] at hrd1 hrd2 ⊢
  go_wp2_with fail
  refine (jeq_calls a3 a4 (gl (flat qs)) (gl (flat qs)) (2 * L3) (2 * L3) cap3 cap4 _ hrd1 hrd2 (by omega)).mono ?_
  rintro e w5 ⟨r, rfl, hrr, hg5⟩
  obtain rfl := hrr.2 rfl
  go_wp2
  go_ret
  exact ⟨rfl, ((hg1.g.trans hg2.g).trans (hgr3.g.trans hgr4.g)).trans hg5⟩

end Go.Proofs.Ymbrcn
