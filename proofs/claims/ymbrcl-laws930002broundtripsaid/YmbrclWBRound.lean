import Derived.Test.YmbrclEncode
import Derived.Test.YmbrclPairs
set_option linter.unusedVariables false
namespace Go.Proofs.Ymbrcl
open Go.RowKit

theorem exN_ge {f : Nat → Int} {P : Nat} (h : ¬ HasZero f (2 * P)) (hb : ∀ i, 0 ≤ f i ∧ f i ≤ 255) (q : Nat) (hq : q ≤ P) : q ≤ (exN f q).length := by
  induction q with
  | zero => omega
  | succ q ih =>
    have := ih (by omega)
    have := hz_all h q (by omega)
    have := hb (2 * q)
    rw [exN_succ]; simp; omega

set_option maxRecDepth 100000 in
set_option maxHeartbeats 1600000 in
theorem wbround_calls (a : Option Addr) (f : Nat → Int) (n cap : Nat) (rep : Int) (w : World) (hr : Rd w a n f) (hrep : 0 ≤ rep ∧ rep ≤ 255) :
    Calls Yclm.prog 8 #[.slice a n cap, .int .u8 rep] w fun e w' => e = .returned (.bool true) ∧ G w w' := by
  by_cases h0 : 256 < n
  · have e0 : (256 : Int) < n := by omega
    go_enter Yclm.func8, Yclm.ntmps8
    go_wp2
    go_ret
    exact ⟨rfl, G.refl _⟩
  have e0 : ¬ (256 : Int) < n := by omega
  obtain ⟨t, ht⟩ : ∃ t : Nat, 1 + rep % 8 * 51 = (t : Int) := ⟨(1 + rep % 8 * 51).toNat, by omega⟩
  have ht1 : t ≤ 358 := by omega
  go_enter Yclm.func8, Yclm.ntmps8
  go_wp2
  go_loopw [6, 7, 8] (fun v i j wr => ∃ (k : Nat) (a' : Option Addr) (cap' : Nat) (T : List Int), k ≤ n ∧ i = .int .i64 k ∧ v = .slice a' T.length cap' ∧ T.length ≤ 358 * k ∧ Own wr a' cap' T ∧ Gr w wr none a') (fun _ i _ _ => n - (intOf i).toNat)
  case atStart => exact ⟨0, none, 0, [], by omega, rfl, rfl, by simp, Own.nil _, Gr.refl _ _⟩
  case round =>
    obtain ⟨k, a', cap', T, hk, rfl, rfl, hT, hown, hgr⟩ := hrel
    by_cases hlt : k < n
    · obtain ⟨b, off, rfl, hcc⟩ := hr.at hlt
      clear hcc
      have hb := hr.1 k
      go_wp2
      go_loopw [6, 8] (fun v j wr => ∃ (q : Nat) (a' : Option Addr) (cap' : Nat) (T : List Int), q ≤ t ∧ j = .int .i64 q ∧ v = .slice a' T.length cap' ∧ T.length ≤ 358 * k + q ∧ Own wr a' cap' T ∧ Gr w wr none a') (fun _ j _ => t - (intOf j).toNat)
      case atStart => exact ⟨0, a', cap', T, by omega, rfl, rfl, by omega, hown, hgr⟩
      case round =>
        clear hown hgr hT
        obtain ⟨q, a', cap', T, hq, rfl, rfl, hT, hown, hgr⟩ := hrel
        by_cases hlt2 : q < t
        · have c1 := (hr.keep hgr.g).cell hlt
          go_wp2_with (at_builtin; refine wpList_app1 (w := wr) rfl _ _ rfl a' _ cap' T rfl rfl hown (f k) rfl hb (by omega) ?_)
          intro a2 cap2 w2 hown2 hgr2
          go_wp2
          go_roundw
          case rel => exact ⟨q + 1, a2, cap2, T ++ [f k], by omega, by go_num, by simp, by simp; omega, hown2, hgr.trans hgr2⟩
          case measure => simp [intOf]; omega
        · go_wp2
          go_roundw
          case rel => exact ⟨k + 1, a', cap', T, by omega, by go_num, rfl, by omega, hown, hgr⟩
          case measure => simp [intOf]; omega
    · go_wp2_with fail
      refine (encode_calls a' (gl T) T.length cap' _ hown.rd (by omega)).mono ?_
      rintro e w1 ⟨a1, cap1, ps, rfl, hown1, hc1, he1, hg1⟩
      rw [lst_gl] at he1
      have hrt := (hown.keep hg1.g).rd
      have hre := hown1.rd
      have hfin := hgr.g.trans hg1.g
      have hfl := flat_length ps
      have hcp := (canon_pairsOf hre.1 ps.length).1 (by rw [pairsOf_flat]; exact hc1)
      have hex := exN_flat ps
      rw [he1] at hex
      clear hown hgr hown1 hg1 hc1 he1 hr hlt
      generalize hF : gl (flat ps) = F at *
      generalize hP : ps.length = P at *
      rw [hfl] at hre ⊢
      have hPT : P ≤ T.length := by rw [← hex]; exact exN_ge hcp.1 hre.1 P (Nat.le_refl _)
      have HX : Hid (exN F P = T) := hex
      have HC : Hid (¬ HasZero F (2 * P) ∧ ¬ HasSplit F (2 * P)) := hcp
      clear hex hcp hF hP hfl
      go_wp2
      go_loopw [10, 11] (fun p i wr => ∃ (q : Nat), q ≤ P ∧ i = .int .i64 (2 * (q : Int)) ∧ p = .int .i64 (exN F q).length ∧ ∃ d, wr = w1.drewN d) (fun _ i _ => 2 * P - (intOf i).toNat)
      case atStart => exact ⟨0, by omega, rfl, rfl, 0, rfl⟩
      case round =>
        obtain ⟨q, hq, rfl, rfl, d, rfl⟩ := hrel
        by_cases hlt : q < P
        · have hmono := exN_mono (f := F) hlt
          rw [HX.out] at hmono
          have hat : Hid (∀ j, j < (F (2 * q)).toNat → gl T ((exN F q).length + j) = F (2 * q + 1)) := fun j hj => by rw [← HX.out]; exact exN_at hlt hj
          have hsu : Hid ((exN F (q + 1)).length = (exN F q).length + (F (2 * q)).toNat) := by rw [Hid, exN_succ]; simp
          have hb := hre.1 (2 * q)
          have hnz := hz_all HC.out.1 q (by omega)
          obtain ⟨b1, o1, rfl, hcc⟩ := hre.at (show 2 * q < 2 * P by omega)
          have c1 := hcc (2 * q) (by omega)
          have c2 := hcc (2 * q + 1) (by omega)
          have c3 : 1 ≤ q → w1.cell? ⟨b1, o1 + (2 * q - 1), none⟩ = some (.int .u8 (F (2 * q - 1))) := fun _ => hcc (2 * q - 1) (by omega)
          have c4 : 1 ≤ q → w1.cell? ⟨b1, o1 + (2 * q - 2), none⟩ = some (.int .u8 (F (2 * q - 2))) := fun _ => hcc (2 * q - 2) (by omega)
          have hsp : 1 ≤ q → F (2 * q + 1) = F (2 * q - 1) → F (2 * q - 2) = 255 := fun h1 h2 => Classical.byContradiction fun h3 => HC.out.2 ⟨q - 1, by omega, by rw [show 2 * (q - 1) + 3 = 2 * q + 1 by omega, show 2 * (q - 1) + 1 = 2 * q - 1 by omega]; exact h2, by rw [show 2 * (q - 1) = 2 * q - 2 by omega]; exact h3⟩
          clear hcc
          obtain ⟨c, hc⟩ : ∃ c : Nat, F (2 * q) = (c : Int) := ⟨(F (2 * q)).toNat, by omega⟩
          have hlen : Hid ((exN F (q + 1)).length = (exN F q).length + c) := by rw [Hid, hsu.out, hc]; rfl
          have hat2 : Hid (∀ j, j < c → gl T ((exN F q).length + j) = F (2 * q + 1)) := fun j hj => hat.out j (by rw [hc]; exact hj)
          rw [hc] at c1 hb hnz hmono
          simp only [Int.toNat_natCast] at hmono
          clear hc hsu hat
          generalize hL : (exN F q).length = L at *
          have hnz' : ((c : Int) == 0) = false := by simp; omega
          have hways : (decide ((2 : Int) ≤ 2 * (q : Int)) = false) ∨ (((2 : Int) ≤ 2 * (q : Int)) ∧ 1 ≤ q ∧ (F (2 * q + 1) == F (2 * q - 1)) = true ∧ (F (2 * q - 2) != 255) = false) ∨
              (((2 : Int) ≤ 2 * (q : Int)) ∧ 1 ≤ q ∧ (F (2 * q + 1) == F (2 * q - 1)) = false) := by
            by_cases h1 : 1 ≤ q
            · right
              by_cases h2 : F (2 * q + 1) = F (2 * q - 1)
              · left; exact ⟨by omega, h1, by simpa using h2, by simpa using hsp h1 h2⟩
              · right; exact ⟨by omega, h1, by simpa using h2⟩
            · left; simp; omega
          clear hsp hL
          obtain ⟨b2, o2, rfl, hct⟩ := hrt.at (show L < T.length by omega)
          have HT : Hid (∀ j, j < c → w1.cell? ⟨b2, o2 + (L + j), none⟩ = some (.int .u8 (F (2 * q + 1)))) := fun j hj => by rw [← hat2.out j hj]; exact hct (L + j) (by omega)
          clear hct hat2 hrt
          rcases hways with d1 | ⟨d1, d2, d3, d4⟩ | ⟨d1, d2, d3⟩
          · clear c3 c4
            go_wp2
            go_quiet (fail)
            go_wp2
            go_loopw [10, 13] (fun p i wr => ∃ (j : Nat), j ≤ c ∧ i = .int .i64 j ∧ p = .int .i64 ((L + j : Nat) : Int) ∧ ∃ d, wr = w1.drewN d) (fun _ i _ => c - (intOf i).toNat)
            case atStart => exact ⟨0, by omega, rfl, rfl, d + nq, World.drewN_drewN _ _ _⟩
            case round =>
              obtain ⟨j, hj, rfl, rfl, d5, rfl⟩ := hrel
              by_cases hjc : j < c
              · have c5 := HT.out j hjc
                have d6 : decide ((T.length : Int) ≤ (L : Int) + (j : Int)) = false := by simp; omega
                go_wp2
                go_quiet (fail)
                go_wp2
                go_roundw
                case rel => exact ⟨j + 1, by omega, by go_num, by go_num, _, rfl⟩
                case measure => simp [intOf]; omega
              · obtain rfl : j = c := by omega
                go_wp2
                go_roundw
                case rel => exact ⟨q + 1, by omega, by go_num, by rw [hlen.out], _, rfl⟩
                case measure => simp [intOf]; omega
          · have c3 := c3 d2
            have c4 := c4 d2
            go_wp2
            go_quiet (fail)
            go_wp2
            go_loopw [10, 13] (fun p i wr => ∃ (j : Nat), j ≤ c ∧ i = .int .i64 j ∧ p = .int .i64 ((L + j : Nat) : Int) ∧ ∃ d, wr = w1.drewN d) (fun _ i _ => c - (intOf i).toNat)
            case atStart => exact ⟨0, by omega, rfl, rfl, d + nq, World.drewN_drewN _ _ _⟩
            case round =>
              obtain ⟨j, hj, rfl, rfl, d5, rfl⟩ := hrel
              by_cases hjc : j < c
              · have c5 := HT.out j hjc
                have d6 : decide ((T.length : Int) ≤ (L : Int) + (j : Int)) = false := by simp; omega
                go_wp2
                go_quiet (fail)
                go_wp2
                go_roundw
                case rel => exact ⟨j + 1, by omega, by go_num, by go_num, _, rfl⟩
                case measure => simp [intOf]; omega
              · obtain rfl : j = c := by omega
                go_wp2
                go_roundw
                case rel => exact ⟨q + 1, by omega, by go_num, by rw [hlen.out], _, rfl⟩
                case measure => simp [intOf]; omega
          · have c3 := c3 d2
            clear c4
            go_wp2
            go_quiet (fail)
            go_wp2
            go_loopw [10, 13] (fun p i wr => ∃ (j : Nat), j ≤ c ∧ i = .int .i64 j ∧ p = .int .i64 ((L + j : Nat) : Int) ∧ ∃ d, wr = w1.drewN d) (fun _ i _ => c - (intOf i).toNat)
            case atStart => exact ⟨0, by omega, rfl, rfl, d + nq, World.drewN_drewN _ _ _⟩
            case round =>
              obtain ⟨j, hj, rfl, rfl, d5, rfl⟩ := hrel
              by_cases hjc : j < c
              · have c5 := HT.out j hjc
                have d6 : decide ((T.length : Int) ≤ (L : Int) + (j : Int)) = false := by simp; omega
                go_wp2
                go_quiet (fail)
                go_wp2
                go_roundw
                case rel => exact ⟨j + 1, by omega, by go_num, by go_num, _, rfl⟩
                case measure => simp [intOf]; omega
              · obtain rfl : j = c := by omega
                go_wp2
                go_roundw
                case rel => exact ⟨q + 1, by omega, by go_num, by rw [hlen.out], _, rfl⟩
                case measure => simp [intOf]; omega
        · obtain rfl : q = P := by omega
          rw [HX.out]
          go_wp2
          go_ret
          exact ⟨by simp, hfin.trans (G.drewN _ _)⟩

end Go.Proofs.Ymbrcl
