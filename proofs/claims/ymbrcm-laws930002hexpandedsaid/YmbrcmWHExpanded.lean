import Derived.Test.YmbrcmTwo
import Derived.Test.YmbrcmAt
import Derived.Test.YmbrcmDecode
set_option linter.unusedVariables false
namespace Go.Proofs.Ymbrcm
open Go.RowKit

def hF (c v : Nat → Int) (i : Nat) : Int × Int := (c i % 255 + 1, v i)

theorem half2' (k : Nat) : 2 * k / 2 = k := by omega

set_option maxRecDepth 100000 in
set_option maxHeartbeats 1600000 in
theorem hexpanded_calls (a : Option Addr) (c v : Nat → Int) (n cap : Nat) (sel : Int) (w : World) (bc : ∀ i, 0 ≤ c i ∧ c i ≤ 255) (bv : ∀ i, 0 ≤ v i ∧ v i ≤ 255)
    (h0 : Fld w a n 2 0 (fun i => .int .u8 (c i))) (h1 : Fld w a n 2 1 (fun i => .int .u8 (v i))) (hs : 0 ≤ sel ∧ sel ≤ 18446744073709551615) :
    Calls Ycmm.prog 12 #[.slice a n cap, .int .u64 sel] w fun e w' => e = .returned (.bool true) ∧ G w w' := by
  by_cases hbig : 512 < n
  · have e0 : (512 : Int) < n := by omega
    go_enter Ycmm.func12, Ycmm.ntmps12
    go_wp2
    go_ret
    exact ⟨rfl, G.refl _⟩
  have e0 : ¬ (512 : Int) < n := by omega
  have hW : Hid (∀ k, Well (bl (hF c v) k)) := fun k => bl_well fun i => by have := bc i; show 1 ≤ c i % 255 + 1 ∧ c i % 255 + 1 ≤ 255; omega
  go_enter Ycmm.func12, Ycmm.ntmps12
  go_wp2
  go_loopw [5, 6, 7, 8, 9] (fun x y i _ _ wr => ∃ (k : Nat) (a1 a2 : Option Addr) (c1 c2 : Nat), k ≤ n ∧ i = .int .i64 k ∧ x = .slice a1 (2 * k) c1 ∧ y = .slice a2 (ex (bl (hF c v) k)).length c2 ∧ Own wr a1 c1 (flat (bl (hF c v) k)) ∧ Own wr a2 c2 (ex (bl (hF c v) k)) ∧ Sep a1 a2 ∧ Gr w wr none a1 ∧ Gr w wr none a2) (fun _ _ i _ _ _ => n - (intOf i).toNat)
  case atStart => exact ⟨0, none, none, 0, 0, by omega, rfl, rfl, rfl, Own.nil _, Own.nil _, Sep.nil_l _, Gr.refl _ _, Gr.refl _ _⟩
  case round =>
    obtain ⟨k, a1, a2, p1, p2, hk, rfl, rfl, rfl, ho1, ho2, hsep, hg1, hg2⟩ := hrel
    have hxl := ex_length_le (hW.out k)
    rw [bl_length] at hxl
    by_cases hlt : k < n
    · have hki : (k : Int) < n := by omega
      obtain ⟨b, off, rfl⟩ := h0.at hlt
      have c1 := (h0.keep hg1.g).cell hlt
      have c2 := (h1.keep hg1.g).cell hlt
      simp only [Nat.add_zero] at c1
      have b1 := bc k
      have b2 := bv k
      obtain ⟨t, ht⟩ : ∃ t : Nat, c k % 255 + 1 = (t : Int) := ⟨(c k % 255 + 1).toNat, by omega⟩
      have ht1 : 1 ≤ t ∧ t ≤ 255 := by omega
      have HL : Hid ((flat (bl (hF c v) k)).length = 2 * k) := bl_flat_length _ _
      have HN : Hid (flat (bl (hF c v) (k + 1)) = flat (bl (hF c v) k) ++ [(t : Int), v k]) := by rw [Hid, ← ht]; exact bl_flat_succ (hF c v) k
      have HX : Hid (ex (bl (hF c v) (k + 1)) = ex (bl (hF c v) k) ++ List.replicate t (v k)) := by
        have : hF c v k = ((t : Int), v k) := by unfold hF; rw [ht]
        rw [Hid, bl_succ, this, ex_snoc]
      generalize hT0 : ex (bl (hF c v) k) = T0 at *
      go_wp2_with (at_builtin; refine wpList_app2 (w := wr) rfl _ _ rfl a1 _ p1 _ rfl HL.out.symm ho1 (t : Int) (v k) rfl (by omega) (by omega) (by omega) ?_)
      intro a3 p3 w2 ho3 hg3
      have hs3 := hsep.step hg3 ho2
      have ho4 := ho2.keepGr hg3 hsep
      have hg4 := hg2.aside hg1 hg3
      have hg5 := hg1.trans hg3
      rw [← HN.out] at ho3
      clear ho1 ho2 hg1 hg2 hg3 c1 c2 hsep
      go_wp2
      go_loopw [6, 9] (fun y j wr => ∃ (q : Nat) (a2 : Option Addr) (p2 : Nat), q ≤ t ∧ j = .int .i64 q ∧ y = .slice a2 (T0.length + q) p2 ∧ Own wr a3 p3 (flat (bl (hF c v) (k + 1))) ∧ Own wr a2 p2 (T0 ++ List.replicate q (v k)) ∧ Sep a3 a2 ∧ Gr w wr none a3 ∧ Gr w wr none a2) (fun _ j _ => t - (intOf j).toNat)
      case atStart => exact ⟨0, a2, p2, by omega, rfl, rfl, ho3, by simpa using ho4, hs3, hg5, hg4⟩
      case round =>
        clear ho3 ho4 hs3 hg5 hg4
        obtain ⟨q, a2, p2, hq, rfl, rfl, ho1, ho2, hsep, hg1, hg2⟩ := hrel
        by_cases hqt : q < t
        · have c2 := (h1.keep hg1.g).cell hlt
          have hqi : (q : Int) < t := by omega
          have HL2 : Hid ((T0 ++ List.replicate q (v k)).length = T0.length + q) := by simp [Hid]
          go_wp2_with (at_builtin; refine wpList_app1 (w := wr) rfl _ _ rfl a2 _ p2 _ rfl HL2.out.symm ho2 (v k) rfl b2 (by omega) ?_)
          intro a4 p4 w3 ho4 hg4
          have hs4 := hsep.symm.step hg4 ho1
          rw [rep_snoc] at ho4
          have ho5 := ho1.keepGr hg4 hsep.symm
          have hg5 := hg2.trans hg4
          have hg6 := hg1.aside hg2 hg4
          clear ho1 ho2 hg1 hg2 c2
          go_wp2
          go_roundw
          case rel => exact ⟨q + 1, a4, p4, by omega, by go_num, rfl, ho5, ho4, hs4.symm, hg6, hg5⟩
          case measure => simp [intOf]; omega
        · have hqi : ¬ (q : Int) < t := by omega
          obtain rfl : q = t := by omega
          rw [← HX.out] at ho2
          go_wp2
          go_roundw
          case rel => exact ⟨k + 1, a3, a2, p3, p2, by omega, by go_num, rfl, by rw [HX.out]; simp, ho1, ho2, hsep, hg1, hg2⟩
          case measure => simp [intOf]; omega
    · have hki : ¬ (k : Int) < (n : Int) := by omega
      obtain rfl : k = n := by omega
      have hb1 := ho1.byte
      have r1 := ho1.rd
      rw [bl_flat_length] at r1
      have r2 := ho2.rd
      have hz : Hid (¬ HasZero (gl (flat (bl (hF c v) k))) (2 * k)) := bl_zeroless fun i => by have := bc i; show 1 ≤ c i % 255 + 1; omega
      have hE : Hid (exN (gl (flat (bl (hF c v) k))) k = ex (bl (hF c v) k)) := by have := exN_flat (bl (hF c v) k); rw [bl_length] at this; exact this
      generalize hT0 : ex (bl (hF c v) k) = T at *
      generalize hP0 : gl (flat (bl (hF c v) k)) = F at *
      clear hT0 hP0 ho1 ho2 hsep
      have hlenI : Hid ((T.length : Int) = sumc F k) := by rw [Hid, ← hE.out]; exact exN_len r1.1 k
      obtain ⟨i, hi⟩ : ∃ i : Int, sel % ((T.length : Int) + 2) = i := ⟨_, rfl⟩
      have hi0 : 0 ≤ i := by rw [← hi]; exact Int.emod_nonneg _ (by omega)
      have hi1 : i < (T.length : Int) + 2 := by rw [← hi]; exact Int.emod_lt_of_pos _ (by omega)
      go_wp2_with fail
      refine (at_calls a1 F (2 * k) p1 (i - 1) _ r1 (by omega) (by omega)).mono ?_
      rintro e w5 ⟨b3, c3, rfl, hat, rfl⟩
      rcases hat with ⟨h, _⟩ | ⟨_, h, _⟩ | ⟨_, _, h, rfl, rfl⟩ | ⟨_, _, q, hq, hq1, hq2, rfl, rfl⟩
      · omega
      · exact absurd h hz.out
      · rw [half2', ← hlenI.out] at h
        by_cases hA : i - 1 < 0
        · clear h
          go_wp2
          go_ret
          exact ⟨rfl, hg1.g⟩
        · have hB : (T.length : Int) ≤ i - 1 := by omega
          have hA' : decide (i - 1 < 0) = false := by simpa using hA
          clear h hA
          go_wp2
          go_ret
          exact ⟨rfl, hg1.g⟩
      · have hqk : q < k := by omega
        have hl1 := exN_len r1.1 q
        rw [← hl1] at hq1
        obtain ⟨j, hj⟩ : ∃ j : Nat, i - 1 = ((exN F q).length : Int) + j := ⟨(i - 1 - ((exN F q).length : Int)).toNat, by omega⟩
        have hs1 : sumc F (q + 1) = sumc F q + F (2 * q) := rfl
        have hat := exN_at (f := F) hqk (j := j) (by omega)
        have hmo := exN_mono (f := F) hqk
        rw [hE.out] at hat hmo
        generalize hx : (exN F q).length + j = x at *
        have hix : i = (x : Int) + 1 := by omega
        have hxT : x < T.length := by omega
        obtain ⟨b5, o5, rfl, hcc⟩ := r2.at hxT
        have c5 := hcc x hxT
        rw [hat] at c5
        have hxT' : decide ((T.length : Int) ≤ (x : Int)) = false := by simp; omega
        have dd : (F (2 * q + 1) == F (2 * q + 1)) = true := by simp
        clear hcc hat hmo hs1 hl1 hq1 hq2 hx hj
        subst hix
        rw [Int.add_sub_cancel]
        go_wp2
        go_ret
        exact ⟨rfl, hg1.g⟩

end Go.Proofs.Ymbrcm
