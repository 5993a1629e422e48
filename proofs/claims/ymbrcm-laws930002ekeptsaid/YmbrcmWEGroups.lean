import Derived.Test.YmbrcmRecs
import Derived.Test.YmbrcmBuild
import Derived.Test.YmbrcmWERaw
import Derived.Test.YmbrcmExpand
set_option linter.unusedVariables false
namespace Go.Proofs.Ymbrcm
open Go.RowKit

def ec (x : Int) (b : Bool) : Int := if (if b then 255 - x else x) = 0 then 1 else (if b then 255 - x else x)
theorem ec_bounds {x : Int} (b : Bool) (h : 0 ≤ x ∧ x ≤ 255) : 1 ≤ ec x b ∧ ec x b ≤ 255 := by
  unfold ec
  cases b
  · simp only [Bool.false_eq_true, if_false]; split <;> omega
  · simp only [if_true]; split <;> omega

def eF (c v : Nat → Int) (g : Nat → Bool) (i : Nat) : Int × Int := (ec (c i) (g i), v i % 3)

set_option maxRecDepth 100000 in
set_option maxHeartbeats 800000 in
theorem ebuild_calls (a : Option Addr) (c v : Nat → Int) (g : Nat → Bool) (n cap : Nat) (w : World) (hn : n ≤ 17592186044416) (bc : ∀ i, 0 ≤ c i ∧ c i ≤ 255) (bv : ∀ i, 0 ≤ v i ∧ v i ≤ 255)
    (h0 : Fld w a n 3 0 (fun i => .int .u8 (c i))) (h1 : Fld w a n 3 1 (fun i => .int .u8 (v i))) (h2 : Fld w a n 3 2 (fun i => .bool (g i))) :
    Calls Ycmm.prog 18 #[.slice a n cap] w fun e w' => ∃ a' cap', e = .returned (.slice a' (2 * n : Nat) cap') ∧ Own w' a' cap' (flat (bl (eF c v g) n)) ∧ Gr w w' none a' := by
  go_enter Ycmm.func18, Ycmm.ntmps18
  go_wp2
  go_loopw [3, 4, 5] (fun x i _ wr => ∃ (k : Nat) (a' : Option Addr) (cap' : Nat), k ≤ n ∧ i = .int .i64 k ∧ x = .slice a' (2 * k) cap' ∧ Own wr a' cap' (flat (bl (eF c v g) k)) ∧ Gr w wr none a') (fun _ i _ _ => n - (intOf i).toNat)
  case atStart => exact ⟨0, none, 0, by omega, rfl, rfl, Own.nil _, Gr.refl _ _⟩
  case round =>
    obtain ⟨k, a', cap', hk, rfl, rfl, hown, hgr⟩ := hrel
    by_cases hlt : k < n
    · have hki : (k : Int) < n := by omega
      obtain ⟨b, off, rfl⟩ := h0.at hlt
      have c1 := (h0.keep hgr.g).cell hlt
      have c2 := (h1.keep hgr.g).cell hlt
      have c3 := (h2.keep hgr.g).cell hlt
      simp only [Nat.add_zero] at c1
      have b1 := bc k
      have b2 := bv k
      have HL : Hid ((flat (bl (eF c v g) k)).length = 2 * k) := bl_flat_length _ _
      have hN := bl_flat_succ (eF c v g) k
      simp only [eF, ec] at hN
      generalize hgk : g k = gk at c3 hN
      clear hgk
      cases gk with
      | false =>
        simp only [Bool.false_eq_true, if_false] at hN
        by_cases hz : c k = 0
        · have dz : (c k == 0) = true := by simpa using hz
          have HN : Hid (flat (bl (eF c v g) (k + 1)) = flat (bl (eF c v g) k) ++ [1, v k % 3]) := by simp only [hz, if_true] at hN; exact hN
          clear hz hN
          go_wp2_with (at_builtin; refine wpList_app2 (w := wr) rfl _ _ rfl a' _ cap' _ rfl HL.out.symm hown (1) (v k % 3) rfl (by omega) (by omega) (by omega) ?_)
          intro a2 cap2 w2 ho2 hg2
          rw [← HN.out] at ho2
          go_wp2
          go_roundw
          case rel => exact ⟨k + 1, a2, cap2, by omega, by go_num, rfl, ho2, hgr.trans hg2⟩
          case measure => simp [intOf]; omega
        · have dz : (c k == 0) = false := by simpa using hz
          have HN : Hid (flat (bl (eF c v g) (k + 1)) = flat (bl (eF c v g) k) ++ [c k, v k % 3]) := by simp only [hz, if_false] at hN; exact hN
          clear hz hN
          go_wp2_with (at_builtin; refine wpList_app2 (w := wr) rfl _ _ rfl a' _ cap' _ rfl HL.out.symm hown (c k) (v k % 3) rfl (by omega) (by omega) (by omega) ?_)
          intro a2 cap2 w2 ho2 hg2
          rw [← HN.out] at ho2
          go_wp2
          go_roundw
          case rel => exact ⟨k + 1, a2, cap2, by omega, by go_num, rfl, ho2, hgr.trans hg2⟩
          case measure => simp [intOf]; omega
      | true =>
        simp only [if_true] at hN
        by_cases hz : 255 - c k = 0
        · have dz : (255 - c k == 0) = true := by simpa using hz
          have HN : Hid (flat (bl (eF c v g) (k + 1)) = flat (bl (eF c v g) k) ++ [1, v k % 3]) := by simp only [hz, if_true] at hN; exact hN
          clear hz hN
          go_wp2_with (at_builtin; refine wpList_app2 (w := wr) rfl _ _ rfl a' _ cap' _ rfl HL.out.symm hown (1) (v k % 3) rfl (by omega) (by omega) (by omega) ?_)
          intro a2 cap2 w2 ho2 hg2
          rw [← HN.out] at ho2
          go_wp2
          go_roundw
          case rel => exact ⟨k + 1, a2, cap2, by omega, by go_num, rfl, ho2, hgr.trans hg2⟩
          case measure => simp [intOf]; omega
        · have dz : (255 - c k == 0) = false := by simpa using hz
          have HN : Hid (flat (bl (eF c v g) (k + 1)) = flat (bl (eF c v g) k) ++ [255 - c k, v k % 3]) := by simp only [hz, if_false] at hN; exact hN
          clear hz hN
          go_wp2_with (at_builtin; refine wpList_app2 (w := wr) rfl _ _ rfl a' _ cap' _ rfl HL.out.symm hown (255 - c k) (v k % 3) rfl (by omega) (by omega) (by omega) ?_)
          intro a2 cap2 w2 ho2 hg2
          rw [← HN.out] at ho2
          go_wp2
          go_roundw
          case rel => exact ⟨k + 1, a2, cap2, by omega, by go_num, rfl, ho2, hgr.trans hg2⟩
          case measure => simp [intOf]; omega
    · have hki : ¬ (k : Int) < (n : Int) := by omega
      obtain rfl : k = n := by omega
      go_wp2
      go_ret
      exact ⟨_, _, rfl, hown, hgr⟩

theorem half2 (k : Nat) : 2 * k / 2 = k := by omega

set_option maxRecDepth 100000 in
set_option maxHeartbeats 800000 in
theorem egroups_calls (a : Option Addr) (c v : Nat → Int) (g : Nat → Bool) (n cap : Nat) (w : World) (bc : ∀ i, 0 ≤ c i ∧ c i ≤ 255) (bv : ∀ i, 0 ≤ v i ∧ v i ≤ 255)
    (h0 : Fld w a n 3 0 (fun i => .int .u8 (c i))) (h1 : Fld w a n 3 1 (fun i => .int .u8 (v i))) (h2 : Fld w a n 3 2 (fun i => .bool (g i))) :
    Calls Ycmm.prog 4 #[.slice a n cap] w fun e w' => e = .returned (.bool true) ∧ G w w' := by
  by_cases hbig : 1024 < n
  · have e0 : (1024 : Int) < n := by omega
    go_enter Ycmm.func4, Ycmm.ntmps4
    go_wp2
    go_ret
    exact ⟨rfl, G.refl _⟩
  have e0 : ¬ (1024 : Int) < n := by omega
  have z1 : Hid (¬ HasZero (gl (flat (bl (eF c v g) n))) (2 * n)) := bl_zeroless fun i => (ec_bounds (g i) (bc i)).1
  go_enter Ycmm.func4, Ycmm.ntmps4
  go_wp2_with fail
  refine (ebuild_calls a c v g n cap _ (by omega) bc bv h0 h1 h2).mono ?_
  rintro e w1 ⟨a1, c1, rfl, ho1, hg1⟩
  go_wp2_with fail
  refine (ebuild_calls a c v g n cap _ (by omega) bc bv (h0.keep hg1.g) (h1.keep hg1.g) (h2.keep hg1.g)).mono ?_
  rintro e w2 ⟨a2, c2, rfl, ho2, hg2⟩
  have r1 := (ho1.keep hg2.g).rd
  have r2 := ho2.rd
  rw [bl_flat_length] at r1 r2
  go_wp2_with fail
  refine (norm_ok a1 _ (2 * n) c1 _ r1 (by omega) (by omega) z1.out).mono ?_
  rintro e w3 ⟨a3, L3, c3, qs, rfl, ho3, hl3, hle3, hcq, hex, hg3⟩
  go_wp2_with fail
  refine (ewant_calls a2 _ (2 * n) c2 _ (r2.keep hg3.g) (by omega) (by omega) z1.out).mono ?_
  rintro e w4 ⟨a4, c4, rs, rfl, ho4, hc4, hex4, hg4⟩
  obtain rfl : qs = rs := canon_unique hcq hc4 (hex.trans hex4.symm)
  have hlen : (flat qs).length = 2 * L3 := by rw [flat_length, hl3]
  have hrd1 := (ho3.keep hg4.g).rd
  have hrd2 := ho4.rd
  rw [hlen] at hrd1 hrd2 ⊢
  go_wp2_with fail
  refine (eeq_calls a3 a4 (gl (flat qs)) (gl (flat qs)) (2 * L3) (2 * L3) c3 c4 _ hrd1 hrd2 (by omega)).mono ?_
  rintro e w5 ⟨r, rfl, hrr, hg5⟩
  obtain rfl := hrr.2 rfl
  go_wp2_with fail
  refine (eeq_calls a1 a2 _ _ (2 * n) (2 * n) c1 c2 _ (((r1.keep hg3.g).keep hg4.g).keep hg5) (((r2.keep hg3.g).keep hg4.g).keep hg5) (by omega)).mono ?_
  rintro e w6 ⟨r, rfl, hrr2, hg6⟩
  obtain rfl := hrr2.2 rfl
  go_wp2
  go_ret
  exact ⟨rfl, ((((hg1.g.trans hg2.g).trans hg3.g).trans hg4.g).trans hg5).trans hg6⟩

end Go.Proofs.Ymbrcm
