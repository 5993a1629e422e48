import Derived.Test.YmbrcmWEGroups
set_option linter.unusedVariables false
namespace Go.Proofs.Ymbrcm
open Go.RowKit

set_option maxRecDepth 100000 in
set_option maxHeartbeats 1600000 in
theorem ekept_calls (a : Option Addr) (c v : Nat → Int) (g : Nat → Bool) (n cap : Nat) (w : World) (bc : ∀ i, 0 ≤ c i ∧ c i ≤ 255) (bv : ∀ i, 0 ≤ v i ∧ v i ≤ 255)
    (h0 : Fld w a n 3 0 (fun i => .int .u8 (c i))) (h1 : Fld w a n 3 1 (fun i => .int .u8 (v i))) (h2 : Fld w a n 3 2 (fun i => .bool (g i))) :
    Calls Ycmm.prog 5 #[.slice a n cap] w fun e w' => e = .returned (.bool true) ∧ G w w' := by
  by_cases hbig : 512 < n
  · have e0 : (512 : Int) < n := by omega
    go_enter Ycmm.func5, Ycmm.ntmps5
    go_wp2
    go_ret
    exact ⟨rfl, G.refl _⟩
  have e0 : ¬ (512 : Int) < n := by omega
  have z1 : Hid (¬ HasZero (gl (flat (bl (eF c v g) n))) (2 * n)) := bl_zeroless fun i => (ec_bounds (g i) (bc i)).1
  generalize hFL : flat (bl (eF c v g) n) = FL at z1
  have hFLn : FL.length = 2 * n := by rw [← hFL]; exact bl_flat_length _ _
  go_enter Ycmm.func5, Ycmm.ntmps5
  go_wp2_with fail
  refine (ebuild_calls a c v g n cap _ (by omega) bc bv h0 h1 h2).mono ?_
  rintro e w1 ⟨a1, c1, rfl, ho1, hg1⟩
  rw [hFL] at ho1
  have r1 := ho1.rd
  rw [hFLn] at r1
  go_wp2_with fail
  refine (eexpand_calls a1 (gl FL) (2 * n) c1 _ r1 (by omega)).mono ?_
  rintro e w2 ⟨a2, c2, rfl, ho2, hg2⟩
  rw [half2] at ho2 ⊢
  have hle2 := exN_length_le r1.1 n
  have gA := hg1.g.trans hg2.g
  clear ho1 r1
  go_wp2_with fail
  refine (ebuild_calls a c v g n cap _ (by omega) bc bv (h0.keep gA) (h1.keep gA) (h2.keep gA)).mono ?_
  rintro e w3 ⟨a3, c3, rfl, ho3, hg3⟩
  rw [hFL] at ho3
  have r3 := ho3.rd
  rw [hFLn] at r3
  go_wp2_with fail
  refine (norm_ok a3 _ (2 * n) c3 _ r3 (by omega) (by omega) z1.out).mono ?_
  rintro e w4 ⟨a4, L, c4, qs, rfl, ho4, hl4, hle4, hcq, hex, hg4⟩
  rw [half2] at hle4 hex
  have hlen : (flat qs).length = 2 * L := by rw [flat_length, hl4]
  have r4 := ho4.rd
  rw [hlen] at r4
  have rp := ((ho2.keep hg3.g).keep hg4.g).rd
  have hcp := (canon_pairsOf r4.1 qs.length).1 (by rw [pairsOf_flat]; exact hcq)
  have hexq := exN_flat qs
  rw [hl4] at hcp hexq
  have gB := gA.trans (hg3.g.trans hg4.g)
  have HQ : Hid (Canon qs ∧ ex qs = exN (gl FL) n ∧ exN (gl (flat qs)) L = ex qs) := ⟨hcq, hex, hexq⟩
  have HC : Hid (¬ HasZero (gl (flat qs)) (2 * L) ∧ ¬ HasSplit (gl (flat qs)) (2 * L)) := hcp
  have HLq : Hid (lst (gl (flat qs)) (2 * L) = flat qs) := by rw [← hlen]; exact lst_gl _
  clear ho4 hcp hexq hex hcq ho3 r3 ho2 hg1 hg2 hg3 hg4 gA hlen hl4
  have d0 : (((2 * L : Nat) : Int) % 2 != 0) = false := by simp
  have d0' : ((2 * (L : Int)) % 2 != 0) = false := by simp
  go_wp2
  generalize hF : gl (flat qs) = F at r4
  rw [hF] at HC HQ HLq
  go_loopw [6] (fun i wr => ∃ (q : Nat), q ≤ L ∧ i = .int .i64 (2 * (q : Int)) ∧ ∃ d, wr = w4.drewN d) (fun i _ => 2 * L - (intOf i).toNat)
  case atStart => exact ⟨0, by omega, rfl, 0, rfl⟩
  case round =>
    obtain ⟨q, hq, rfl, d, rfl⟩ := hrel
    by_cases hlt : q < L
    · obtain ⟨b1, o1, rfl, hcc⟩ := r4.at (show 2 * q < 2 * L by omega)
      have k1 := hcc (2 * q) (by omega)
      have k2 := hcc (2 * q + 1) (by omega)
      have k3 : 2 * q + 3 < 2 * L → w4.cell? ⟨b1, o1 + (2 * q + 3), none⟩ = some (.int .u8 (F (2 * q + 3))) := fun h => hcc (2 * q + 3) h
      have hnz := hz_all HC.out.1 q (by omega)
      have hnz' : (F (2 * q) == 0) = false := by simpa using hnz
      have hways : (decide (2 * (q : Int) + 3 < 2 * (L : Int)) = false) ∨ ((2 * (q : Int) + 3 < 2 * (L : Int)) ∧ 2 * q + 3 < 2 * L ∧ (F (2 * q + 1) == F (2 * q + 3)) = true ∧ (F (2 * q) != 255) = false) ∨
          ((2 * (q : Int) + 3 < 2 * (L : Int)) ∧ 2 * q + 3 < 2 * L ∧ (F (2 * q + 1) == F (2 * q + 3)) = false) := by
        by_cases h1 : 2 * q + 3 < 2 * L
        · right
          by_cases h2 : F (2 * q + 1) = F (2 * q + 3)
          · left
            refine ⟨by omega, h1, by simpa using h2, ?_⟩
            have : F (2 * q) = 255 := Classical.byContradiction fun h3 => HC.out.2 ⟨q, h1, h2.symm, h3⟩
            simpa using this
          · right; exact ⟨by omega, h1, by simpa using h2⟩
        · left; simp; omega
      clear hcc hnz
      rcases hways with d1 | ⟨d1, d2, d3, d4⟩ | ⟨d1, d2, d3⟩
      · clear k3
        go_wp2
        go_quiet (fail)
        go_wp2
        go_roundw
        case rel => exact ⟨q + 1, by omega, by go_num, _, rfl⟩
        case measure => simp [intOf]; omega
      · have k3 := k3 d2
        go_wp2
        go_quiet (fail)
        go_wp2
        go_roundw
        case rel => exact ⟨q + 1, by omega, by go_num, _, rfl⟩
        case measure => simp [intOf]; omega
      · have k3 := k3 d2
        go_wp2
        go_quiet (fail)
        go_wp2
        go_roundw
        case rel => exact ⟨q + 1, by omega, by go_num, _, rfl⟩
        case measure => simp [intOf]; omega
    · have hlt' : ¬ (2 * (q : Int)) < 2 * (L : Int) := by omega
      have gd := G.drewN w4 d
      have r5 := r4.keep gd
      have rp5 := rp.keep gd
      clear r4 rp
      go_wp2_with fail
      refine (eexpand_calls a4 F (2 * L) c4 _ r5 (by omega)).mono ?_
      rintro e w5 ⟨a5, c5, rfl, ho5, hg5⟩
      rw [half2, HQ.out.2.2, HQ.out.2.1] at ho5
      rw [half2, HQ.out.2.2, HQ.out.2.1]
      have r6 := ho5.rd
      have r7 := rp5.keep hg5.g
      have r8 := r5.keep hg5.g
      go_wp2_with fail
      refine (eeq_calls a5 a2 _ _ _ _ c5 c2 _ r6 r7 (by omega)).mono ?_
      rintro e w6 ⟨r, rfl, hrr, hg6⟩
      obtain rfl := hrr.2 rfl
      clear hrr
      have r9 := r8.keep hg6
      clear r5 rp5 r6 r7 r8 ho5
      go_wp2_with fail
      refine (norm_ok a4 F (2 * L) c4 _ r9 (by omega) (by omega) HC.out.1).mono ?_
      rintro e w7 ⟨a7, L7, c7, rs, rfl, ho7, hl7, hle7, hc7, hex7, hg7⟩
      rw [half2, HQ.out.2.2] at hex7
      obtain rfl : rs = qs := canon_unique hc7 HQ.out.1 hex7
      have r10 := ho7.rd
      rw [flat_length, hl7] at r10
      have r11 := r9.keep hg7.g
      rw [hF] at r10
      have hLL : Hid (lst F (2 * L7) = lst F (2 * L)) := by
        have : (flat rs).length = 2 * L7 := by rw [flat_length, hl7]
        rw [Hid, HLq.out, ← this, ← hF]; exact lst_gl _
      clear r9 ho7
      go_wp2_with fail
      refine (eeq_calls a7 a4 F F (2 * L7) (2 * L) c7 c4 _ r10 r11 (by omega)).mono ?_
      rintro e w8 ⟨r, rfl, hrr, hg8⟩
      obtain rfl := hrr.2 hLL.out
      go_wp2
      go_ret
      exact ⟨rfl, ((((gB.trans gd).trans hg5.g).trans hg6).trans hg7.g).trans hg8⟩

end Go.Proofs.Ymbrcm
