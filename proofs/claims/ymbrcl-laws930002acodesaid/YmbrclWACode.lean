import Derived.Test.YmbrclSlice
import Derived.Test.YmbrclATotal
import Derived.Lib.SliceRun
set_option linter.unusedVariables false
namespace Go.Proofs.Ymbrcl
open Go.RowKit

theorem tmod3 (x : Int) : -2 ≤ x.tmod 3 ∧ x.tmod 3 ≤ 2 := by
  rcases Int.le_total 0 x with h | h
  · rw [Int.tmod_eq_emod_of_nonneg h]; omega
  · obtain ⟨y, rfl⟩ : ∃ y, x = -y := ⟨-x, by omega⟩
    rw [Int.neg_tmod, Int.tmod_eq_emod_of_nonneg (by omega)]; omega

theorem nil_eqa (w : World) : (binOp .eql 24 (.slice none 0 0) (.slice none 0 0)).run Yclm.prog w = .ok (.bool true) w :=
  Lib.run_eql_slice_nil w 24 5 none 0 0 0 0 Yclm.underlying24

set_option maxRecDepth 100000 in
set_option maxHeartbeats 6400000 in
theorem acode_calls (a : Option Addr) (f : Nat → Int) (n cap : Nat) (lo hi : Int) (rp nl nh : Bool) (w : World) (hr : Rd w a n f) (blo : -9223372036854775808 ≤ lo ∧ lo ≤ 9223372036854775807) (bhi : -9223372036854775808 ≤ hi ∧ hi ≤ 9223372036854775807) :
    Calls Yclm.prog 4 #[.slice a n cap, .int .i64 lo, .int .i64 hi, .bool rp, .bool nl, .bool nh] w fun e w' => e = .returned (.bool true) ∧ G w w' := by
  by_cases h0 : 1024 < n
  · have e0 : (1024 : Int) < n := by omega
    go_enter Yclm.func4, Yclm.ntmps4
    go_wp2
    go_ret
    exact ⟨rfl, G.refl _⟩
  have e0 : ¬ (1024 : Int) < n := by omega
  go_enter Yclm.func4, Yclm.ntmps4
  go_wp2_with (at_make; refine wpList_mk0 rfl _ _ rfl _ _ _ n rfl rfl rfl (by omega) ?_)
  intro a0 w0 ho0 hg0
  go_wp2
  go_loopw [13, 14, 15] (fun v i _ wr => ∃ (k : Nat) (a' : Option Addr) (cap' : Nat) (E : List Int), k ≤ n ∧ i = .int .i64 k ∧ v = .slice a' E.length cap' ∧ E.length ≤ k ∧ Own wr a' cap' E ∧ Gr w wr none a') (fun _ i _ _ => n - (intOf i).toNat)
  case atStart => exact ⟨0, a0, n, [], by omega, rfl, rfl, by simp, ho0, hg0⟩
  case round =>
    clear ho0 hg0
    obtain ⟨k, a', cap', E, hk, rfl, rfl, hE, hown, hgr⟩ := hrel
    by_cases hlt : k < n
    · have hlti : (k : Int) < (n : Int) := by omega
      obtain ⟨b, off, rfl, hcc⟩ := hr.at hlt
      clear hcc
      have c1 := (hr.keep hgr.g).cell hlt
      have hb := hr.1 k
      cases rp with
      | false =>
        go_wp2_with (at_builtin; refine wpList_app1 (w := wr) rfl _ _ rfl a' _ cap' E rfl rfl hown (f k) rfl hb (by omega) ?_)
        intro a2 cap2 w2 hown2 hgr2
        go_wp2
        go_roundw
        case rel => exact ⟨k + 1, a2, cap2, E ++ [f k], by omega, by go_num, by simp, by simp; omega, hown2, hgr.trans hgr2⟩
        case measure => simp [intOf]; omega
      | true =>
        rcases Nat.mod_two_eq_zero_or_one k with hp | hp
        · have dp : ((k : Int) % 2 == 0) = true := by simp; omega
          by_cases hlast : k + 1 = n
          · have dl : ((k : Int) + 1 == (n : Int)) = true := by simp; omega
            clear hlast
            have hrdE := hown.rd
            have hgw := hgr.g
            obtain ⟨N, hN⟩ : ∃ N, E.length = N := ⟨_, rfl⟩
            rw [hN] at hrdE hE ⊢
            have hN1 : N ≤ 1024 := by omega
            clear hown hgr hN
            generalize gl E = F at *
            generalize wr = w5 at *
            go_wp2_with fail
            refine (atotal_calls a' F N cap' _ hrdE (by omega)).mono ?_
            rintro e w1 ⟨rfl, rfl⟩
            have hS0 := exN_length_le hrdE.1 (N / 2)
            obtain ⟨S, hS⟩ : ∃ S, (exN F (N / 2)).length = S := ⟨_, rfl⟩
            have HSS : Hid ((exN F (N / 2)).length = S) := hS
            rw [hS] at hS0 ⊢
            clear hS
            have hm1 : -2 ≤ lo.tmod 3 ∧ lo.tmod 3 ≤ 2 := tmod3 lo
            have hm2 : -2 ≤ hi.tmod 3 ∧ hi.tmod 3 ≤ 2 := tmod3 hi
            obtain ⟨LO1, hLO1⟩ : ∃ x, (S : Int) + lo.tmod 3 = x := ⟨_, rfl⟩
            obtain ⟨HI1, hHI1⟩ : ∃ x, (S : Int) + hi.tmod 3 = x := ⟨_, rfl⟩
            have bL : -2 ≤ LO1 ∧ LO1 ≤ 200000 := by omega
            have bH : -2 ≤ HI1 ∧ HI1 ≤ 200000 := by omega
            cases nl with
            | false =>
              cases nh with
              | false =>
                go_wp2
                go_loop [17, 18] (fun z p => ∃ (j : Nat) (zb : Bool), 2 * j ≤ N + 1 ∧ p = .int .i64 (2 * (j : Int)) ∧ z = .bool zb ∧ (zb = true ↔ HasZero F (2 * j))) (fun _ p => N + 1 - (intOf p).toNat)
                case atStart => exact ⟨0, false, by omega, rfl, rfl, by simp [hz_nil]⟩
                case round =>
                  obtain ⟨j, zb, hj, rfl, rfl, hzb⟩ := hrel
                  have HZB : Hid (zb = true ↔ HasZero F (2 * j)) := hzb
                  clear hzb
                  by_cases hjN : 2 * j < N
                  · obtain ⟨b2, off2, rfl, hcc⟩ := hrdE.at hjN
                    have c2 := hcc (2 * j) hjN
                    clear hcc
                    by_cases hz0 : F (2 * j) = 0
                    · have dz : (F (2 * j) == 0) = true := by simpa using hz0
                      have HZ0 : Hid _ := hz0
                      clear hz0
                      go_wp2
                      go_round
                      case rel => exact ⟨j + 1, true, by omega, by go_num, rfl, by rw [hz_pair]; exact ⟨fun _ => .inr HZ0.out, fun _ => rfl⟩⟩
                      case measure => simp [intOf]; omega
                    · have dz : (F (2 * j) == 0) = false := by simpa using hz0
                      have HZ0 : Hid _ := hz0
                      clear hz0
                      go_wp2
                      go_round
                      case rel => exact ⟨j + 1, zb, by omega, by go_num, rfl, by rw [hz_pair, HZB.out]; exact ⟨fun h => .inl h, fun h => h.elim id (fun x => absurd x HZ0.out)⟩⟩
                      case measure => simp [intOf]; omega
                  · have hzN : Hid (zb = true ↔ HasZero F N) := by
                      rw [Hid, HZB.out]
                      constructor
                      · rintro ⟨i, i1, i2⟩; exact ⟨i, by omega, i2⟩
                      · rintro ⟨i, i1, i2⟩; exact ⟨i, by omega, i2⟩
                    clear HZB
                    have hnil := nil_eqa
                    rcases Nat.mod_two_eq_zero_or_one N with hpar | hpar
                    · have dpar : ((N : Int) % 2 == 1) = false := by simp; omega
                      cases zb with
                      | true =>
                        have HCI : Hid (ChkIs F N 2) := .inr (.inl ⟨hpar, hzN.out.1 rfl, rfl⟩)
                        clear hzN
                        go_wp2_with fail
                        refine (slice_bad a' F N cap' lo hi _ hrdE (by omega) 2 HCI.out (by omega)).mono ?_
                        rintro e w2 ⟨rfl, rfl⟩
                        go_wp2
                        go_ret
                        exact ⟨rfl, hgw⟩
                      | false =>
                        have hnz : Hid (¬ HasZero F N) := fun h => by have := hzN.out.2 h; cases this
                        clear hzN
                        by_cases hA : 0 ≤ lo
                        · by_cases hB : lo ≤ hi
                          · by_cases hC : hi ≤ (S : Int)
                            · obtain ⟨l, hl⟩ := Int.eq_ofNat_of_zero_le hA
                              obtain ⟨h, hh⟩ := Int.eq_ofNat_of_zero_le (show 0 ≤ hi by omega)
                              have hlh : l ≤ h := by omega
                              have hhS : h ≤ S := by omega
                              have hwin : Hid ((((exN F (N / 2)).drop l).take (h - l)).length = h - l) := by rw [Hid, List.length_take, List.length_drop, HSS.out]; omega
                              go_wp2_with fail
                              refine (slice_in a' F N cap' l h _ hrdE (by omega) hpar hnz.out hlh (by omega)).mono ?_
                              rintro e w2 hres
                              rcases hres with ⟨x, _⟩ | ⟨_, a2, L2, cap2, qs, rfl, ho2, hl2, hle2, hc2, hex2, hgr2⟩
                              · rw [HSS.out] at x; omega
                              have r2 := ho2.rd
                              rw [flat_length, hl2] at r2
                              have hq := exN_flat qs
                              rw [hl2] at hq
                              have hlen : Hid ((exN (gl (flat qs)) (2 * L2 / 2)).length = h - l) := by rw [Hid, show 2 * L2 / 2 = L2 by omega, hq, hex2]; exact hwin.out
                              clear hex2 hc2 hq ho2 hwin
                              go_wp2_with fail
                              refine (atotal_calls a2 _ (2 * L2) cap2 _ r2 (by omega)).mono ?_
                              rintro e w3 ⟨rfl, rfl⟩
                              rw [hlen.out]
                              have dfin : (((h - l : Nat) : Int) == hi - lo) = true := by simp; omega
                              go_wp2
                              go_ret
                              exact ⟨by simp; omega, hgw.trans hgr2.g⟩
                            · obtain ⟨l, hl⟩ := Int.eq_ofNat_of_zero_le hA
                              obtain ⟨h, hh⟩ := Int.eq_ofNat_of_zero_le (show 0 ≤ hi by omega)
                              have hlh : l ≤ h := by omega
                              have hhS : S < h := by omega
                              have dC : decide (h ≤ S) = false := by simp; omega
                              go_wp2_with fail
                              refine (slice_in a' F N cap' l h _ hrdE (by omega) hpar hnz.out hlh (by omega)).mono ?_
                              rintro e w2 hres
                              rcases hres with ⟨_, rfl, hg2⟩ | ⟨x, _⟩
                              · go_wp2
                                go_ret
                                exact ⟨rfl, hgw.trans hg2⟩
                              · rw [HSS.out] at x; omega
                          · go_wp2_with fail
                            refine (slice_neg a' F N cap' lo hi _ hrdE (by omega) hpar hnz.out (.inr (by omega))).mono ?_
                            rintro e w2 ⟨rfl, rfl⟩
                            go_wp2
                            go_ret
                            exact ⟨rfl, hgw⟩
                        · go_wp2_with fail
                          refine (slice_neg a' F N cap' lo hi _ hrdE (by omega) hpar hnz.out (.inl (by omega))).mono ?_
                          rintro e w2 ⟨rfl, rfl⟩
                          go_wp2
                          go_ret
                          exact ⟨rfl, hgw⟩
                    · have dpar : ((N : Int) % 2 == 1) = true := by simp; omega
                      have HCI : Hid (ChkIs F N 1) := .inl ⟨hpar, rfl⟩
                      clear hzN
                      go_wp2_with fail
                      refine (slice_bad a' F N cap' lo hi _ hrdE (by omega) 1 HCI.out (by omega)).mono ?_
                      rintro e w2 ⟨rfl, rfl⟩
                      go_wp2
                      go_ret
                      exact ⟨rfl, hgw⟩
              | true =>
                go_wp2
                go_loop [17, 18] (fun z p => ∃ (j : Nat) (zb : Bool), 2 * j ≤ N + 1 ∧ p = .int .i64 (2 * (j : Int)) ∧ z = .bool zb ∧ (zb = true ↔ HasZero F (2 * j))) (fun _ p => N + 1 - (intOf p).toNat)
                case atStart => exact ⟨0, false, by omega, rfl, rfl, by simp [hz_nil]⟩
                case round =>
                  obtain ⟨j, zb, hj, rfl, rfl, hzb⟩ := hrel
                  have HZB : Hid (zb = true ↔ HasZero F (2 * j)) := hzb
                  clear hzb
                  by_cases hjN : 2 * j < N
                  · obtain ⟨b2, off2, rfl, hcc⟩ := hrdE.at hjN
                    have c2 := hcc (2 * j) hjN
                    clear hcc
                    by_cases hz0 : F (2 * j) = 0
                    · have dz : (F (2 * j) == 0) = true := by simpa using hz0
                      have HZ0 : Hid _ := hz0
                      clear hz0
                      go_wp2
                      go_round
                      case rel => exact ⟨j + 1, true, by omega, by go_num, rfl, by rw [hz_pair]; exact ⟨fun _ => .inr HZ0.out, fun _ => rfl⟩⟩
                      case measure => simp [intOf]; omega
                    · have dz : (F (2 * j) == 0) = false := by simpa using hz0
                      have HZ0 : Hid _ := hz0
                      clear hz0
                      go_wp2
                      go_round
                      case rel => exact ⟨j + 1, zb, by omega, by go_num, rfl, by rw [hz_pair, HZB.out]; exact ⟨fun h => .inl h, fun h => h.elim id (fun x => absurd x HZ0.out)⟩⟩
                      case measure => simp [intOf]; omega
                  · have hzN : Hid (zb = true ↔ HasZero F N) := by
                      rw [Hid, HZB.out]
                      constructor
                      · rintro ⟨i, i1, i2⟩; exact ⟨i, by omega, i2⟩
                      · rintro ⟨i, i1, i2⟩; exact ⟨i, by omega, i2⟩
                    clear HZB
                    have hnil := nil_eqa
                    rcases Nat.mod_two_eq_zero_or_one N with hpar | hpar
                    · have dpar : ((N : Int) % 2 == 1) = false := by simp; omega
                      cases zb with
                      | true =>
                        have HCI : Hid (ChkIs F N 2) := .inr (.inl ⟨hpar, hzN.out.1 rfl, rfl⟩)
                        clear hzN
                        go_wp2_with fail
                        refine (slice_bad a' F N cap' lo HI1 _ hrdE (by omega) 2 HCI.out (by omega)).mono ?_
                        rintro e w2 ⟨rfl, rfl⟩
                        go_wp2
                        go_ret
                        exact ⟨rfl, hgw⟩
                      | false =>
                        have hnz : Hid (¬ HasZero F N) := fun h => by have := hzN.out.2 h; cases this
                        clear hzN
                        by_cases hA : 0 ≤ lo
                        · by_cases hB : lo ≤ HI1
                          · by_cases hC : HI1 ≤ (S : Int)
                            · obtain ⟨l, hl⟩ := Int.eq_ofNat_of_zero_le hA
                              obtain ⟨h, hh⟩ := Int.eq_ofNat_of_zero_le (show 0 ≤ HI1 by omega)
                              have hlh : l ≤ h := by omega
                              have hhS : h ≤ S := by omega
                              have hwin : Hid ((((exN F (N / 2)).drop l).take (h - l)).length = h - l) := by rw [Hid, List.length_take, List.length_drop, HSS.out]; omega
                              go_wp2_with fail
                              refine (slice_in a' F N cap' l h _ hrdE (by omega) hpar hnz.out hlh (by omega)).mono ?_
                              rintro e w2 hres
                              rcases hres with ⟨x, _⟩ | ⟨_, a2, L2, cap2, qs, rfl, ho2, hl2, hle2, hc2, hex2, hgr2⟩
                              · rw [HSS.out] at x; omega
                              have r2 := ho2.rd
                              rw [flat_length, hl2] at r2
                              have hq := exN_flat qs
                              rw [hl2] at hq
                              have hlen : Hid ((exN (gl (flat qs)) (2 * L2 / 2)).length = h - l) := by rw [Hid, show 2 * L2 / 2 = L2 by omega, hq, hex2]; exact hwin.out
                              clear hex2 hc2 hq ho2 hwin
                              go_wp2_with fail
                              refine (atotal_calls a2 _ (2 * L2) cap2 _ r2 (by omega)).mono ?_
                              rintro e w3 ⟨rfl, rfl⟩
                              rw [hlen.out]
                              have dfin : (((h - l : Nat) : Int) == HI1 - lo) = true := by simp; omega
                              go_wp2
                              go_ret
                              exact ⟨by simp; omega, hgw.trans hgr2.g⟩
                            · obtain ⟨l, hl⟩ := Int.eq_ofNat_of_zero_le hA
                              obtain ⟨h, hh⟩ := Int.eq_ofNat_of_zero_le (show 0 ≤ HI1 by omega)
                              have hlh : l ≤ h := by omega
                              have hhS : S < h := by omega
                              have dC : decide (h ≤ S) = false := by simp; omega
                              go_wp2_with fail
                              refine (slice_in a' F N cap' l h _ hrdE (by omega) hpar hnz.out hlh (by omega)).mono ?_
                              rintro e w2 hres
                              rcases hres with ⟨_, rfl, hg2⟩ | ⟨x, _⟩
                              · go_wp2
                                go_ret
                                exact ⟨rfl, hgw.trans hg2⟩
                              · rw [HSS.out] at x; omega
                          · go_wp2_with fail
                            refine (slice_neg a' F N cap' lo HI1 _ hrdE (by omega) hpar hnz.out (.inr (by omega))).mono ?_
                            rintro e w2 ⟨rfl, rfl⟩
                            go_wp2
                            go_ret
                            exact ⟨rfl, hgw⟩
                        · go_wp2_with fail
                          refine (slice_neg a' F N cap' lo HI1 _ hrdE (by omega) hpar hnz.out (.inl (by omega))).mono ?_
                          rintro e w2 ⟨rfl, rfl⟩
                          go_wp2
                          go_ret
                          exact ⟨rfl, hgw⟩
                    · have dpar : ((N : Int) % 2 == 1) = true := by simp; omega
                      have HCI : Hid (ChkIs F N 1) := .inl ⟨hpar, rfl⟩
                      clear hzN
                      go_wp2_with fail
                      refine (slice_bad a' F N cap' lo HI1 _ hrdE (by omega) 1 HCI.out (by omega)).mono ?_
                      rintro e w2 ⟨rfl, rfl⟩
                      go_wp2
                      go_ret
                      exact ⟨rfl, hgw⟩
            | true =>
              cases nh with
              | false =>
                go_wp2
                go_loop [17, 18] (fun z p => ∃ (j : Nat) (zb : Bool), 2 * j ≤ N + 1 ∧ p = .int .i64 (2 * (j : Int)) ∧ z = .bool zb ∧ (zb = true ↔ HasZero F (2 * j))) (fun _ p => N + 1 - (intOf p).toNat)
                case atStart => exact ⟨0, false, by omega, rfl, rfl, by simp [hz_nil]⟩
                case round =>
                  obtain ⟨j, zb, hj, rfl, rfl, hzb⟩ := hrel
                  have HZB : Hid (zb = true ↔ HasZero F (2 * j)) := hzb
                  clear hzb
                  by_cases hjN : 2 * j < N
                  · obtain ⟨b2, off2, rfl, hcc⟩ := hrdE.at hjN
                    have c2 := hcc (2 * j) hjN
                    clear hcc
                    by_cases hz0 : F (2 * j) = 0
                    · have dz : (F (2 * j) == 0) = true := by simpa using hz0
                      have HZ0 : Hid _ := hz0
                      clear hz0
                      go_wp2
                      go_round
                      case rel => exact ⟨j + 1, true, by omega, by go_num, rfl, by rw [hz_pair]; exact ⟨fun _ => .inr HZ0.out, fun _ => rfl⟩⟩
                      case measure => simp [intOf]; omega
                    · have dz : (F (2 * j) == 0) = false := by simpa using hz0
                      have HZ0 : Hid _ := hz0
                      clear hz0
                      go_wp2
                      go_round
                      case rel => exact ⟨j + 1, zb, by omega, by go_num, rfl, by rw [hz_pair, HZB.out]; exact ⟨fun h => .inl h, fun h => h.elim id (fun x => absurd x HZ0.out)⟩⟩
                      case measure => simp [intOf]; omega
                  · have hzN : Hid (zb = true ↔ HasZero F N) := by
                      rw [Hid, HZB.out]
                      constructor
                      · rintro ⟨i, i1, i2⟩; exact ⟨i, by omega, i2⟩
                      · rintro ⟨i, i1, i2⟩; exact ⟨i, by omega, i2⟩
                    clear HZB
                    have hnil := nil_eqa
                    rcases Nat.mod_two_eq_zero_or_one N with hpar | hpar
                    · have dpar : ((N : Int) % 2 == 1) = false := by simp; omega
                      cases zb with
                      | true =>
                        have HCI : Hid (ChkIs F N 2) := .inr (.inl ⟨hpar, hzN.out.1 rfl, rfl⟩)
                        clear hzN
                        go_wp2_with fail
                        refine (slice_bad a' F N cap' LO1 hi _ hrdE (by omega) 2 HCI.out (by omega)).mono ?_
                        rintro e w2 ⟨rfl, rfl⟩
                        go_wp2
                        go_ret
                        exact ⟨rfl, hgw⟩
                      | false =>
                        have hnz : Hid (¬ HasZero F N) := fun h => by have := hzN.out.2 h; cases this
                        clear hzN
                        by_cases hA : 0 ≤ LO1
                        · by_cases hB : LO1 ≤ hi
                          · by_cases hC : hi ≤ (S : Int)
                            · obtain ⟨l, hl⟩ := Int.eq_ofNat_of_zero_le hA
                              obtain ⟨h, hh⟩ := Int.eq_ofNat_of_zero_le (show 0 ≤ hi by omega)
                              have hlh : l ≤ h := by omega
                              have hhS : h ≤ S := by omega
                              have hwin : Hid ((((exN F (N / 2)).drop l).take (h - l)).length = h - l) := by rw [Hid, List.length_take, List.length_drop, HSS.out]; omega
                              go_wp2_with fail
                              refine (slice_in a' F N cap' l h _ hrdE (by omega) hpar hnz.out hlh (by omega)).mono ?_
                              rintro e w2 hres
                              rcases hres with ⟨x, _⟩ | ⟨_, a2, L2, cap2, qs, rfl, ho2, hl2, hle2, hc2, hex2, hgr2⟩
                              · rw [HSS.out] at x; omega
                              have r2 := ho2.rd
                              rw [flat_length, hl2] at r2
                              have hq := exN_flat qs
                              rw [hl2] at hq
                              have hlen : Hid ((exN (gl (flat qs)) (2 * L2 / 2)).length = h - l) := by rw [Hid, show 2 * L2 / 2 = L2 by omega, hq, hex2]; exact hwin.out
                              clear hex2 hc2 hq ho2 hwin
                              go_wp2_with fail
                              refine (atotal_calls a2 _ (2 * L2) cap2 _ r2 (by omega)).mono ?_
                              rintro e w3 ⟨rfl, rfl⟩
                              rw [hlen.out]
                              have dfin : (((h - l : Nat) : Int) == hi - LO1) = true := by simp; omega
                              go_wp2
                              go_ret
                              exact ⟨by simp; omega, hgw.trans hgr2.g⟩
                            · obtain ⟨l, hl⟩ := Int.eq_ofNat_of_zero_le hA
                              obtain ⟨h, hh⟩ := Int.eq_ofNat_of_zero_le (show 0 ≤ hi by omega)
                              have hlh : l ≤ h := by omega
                              have hhS : S < h := by omega
                              have dC : decide (h ≤ S) = false := by simp; omega
                              go_wp2_with fail
                              refine (slice_in a' F N cap' l h _ hrdE (by omega) hpar hnz.out hlh (by omega)).mono ?_
                              rintro e w2 hres
                              rcases hres with ⟨_, rfl, hg2⟩ | ⟨x, _⟩
                              · go_wp2
                                go_ret
                                exact ⟨rfl, hgw.trans hg2⟩
                              · rw [HSS.out] at x; omega
                          · go_wp2_with fail
                            refine (slice_neg a' F N cap' LO1 hi _ hrdE (by omega) hpar hnz.out (.inr (by omega))).mono ?_
                            rintro e w2 ⟨rfl, rfl⟩
                            go_wp2
                            go_ret
                            exact ⟨rfl, hgw⟩
                        · go_wp2_with fail
                          refine (slice_neg a' F N cap' LO1 hi _ hrdE (by omega) hpar hnz.out (.inl (by omega))).mono ?_
                          rintro e w2 ⟨rfl, rfl⟩
                          go_wp2
                          go_ret
                          exact ⟨rfl, hgw⟩
                    · have dpar : ((N : Int) % 2 == 1) = true := by simp; omega
                      have HCI : Hid (ChkIs F N 1) := .inl ⟨hpar, rfl⟩
                      clear hzN
                      go_wp2_with fail
                      refine (slice_bad a' F N cap' LO1 hi _ hrdE (by omega) 1 HCI.out (by omega)).mono ?_
                      rintro e w2 ⟨rfl, rfl⟩
                      go_wp2
                      go_ret
                      exact ⟨rfl, hgw⟩
              | true =>
                go_wp2
                go_loop [17, 18] (fun z p => ∃ (j : Nat) (zb : Bool), 2 * j ≤ N + 1 ∧ p = .int .i64 (2 * (j : Int)) ∧ z = .bool zb ∧ (zb = true ↔ HasZero F (2 * j))) (fun _ p => N + 1 - (intOf p).toNat)
                case atStart => exact ⟨0, false, by omega, rfl, rfl, by simp [hz_nil]⟩
                case round =>
                  obtain ⟨j, zb, hj, rfl, rfl, hzb⟩ := hrel
                  have HZB : Hid (zb = true ↔ HasZero F (2 * j)) := hzb
                  clear hzb
                  by_cases hjN : 2 * j < N
                  · obtain ⟨b2, off2, rfl, hcc⟩ := hrdE.at hjN
                    have c2 := hcc (2 * j) hjN
                    clear hcc
                    by_cases hz0 : F (2 * j) = 0
                    · have dz : (F (2 * j) == 0) = true := by simpa using hz0
                      have HZ0 : Hid _ := hz0
                      clear hz0
                      go_wp2
                      go_round
                      case rel => exact ⟨j + 1, true, by omega, by go_num, rfl, by rw [hz_pair]; exact ⟨fun _ => .inr HZ0.out, fun _ => rfl⟩⟩
                      case measure => simp [intOf]; omega
                    · have dz : (F (2 * j) == 0) = false := by simpa using hz0
                      have HZ0 : Hid _ := hz0
                      clear hz0
                      go_wp2
                      go_round
                      case rel => exact ⟨j + 1, zb, by omega, by go_num, rfl, by rw [hz_pair, HZB.out]; exact ⟨fun h => .inl h, fun h => h.elim id (fun x => absurd x HZ0.out)⟩⟩
                      case measure => simp [intOf]; omega
                  · have hzN : Hid (zb = true ↔ HasZero F N) := by
                      rw [Hid, HZB.out]
                      constructor
                      · rintro ⟨i, i1, i2⟩; exact ⟨i, by omega, i2⟩
                      · rintro ⟨i, i1, i2⟩; exact ⟨i, by omega, i2⟩
                    clear HZB
                    have hnil := nil_eqa
                    rcases Nat.mod_two_eq_zero_or_one N with hpar | hpar
                    · have dpar : ((N : Int) % 2 == 1) = false := by simp; omega
                      cases zb with
                      | true =>
                        have HCI : Hid (ChkIs F N 2) := .inr (.inl ⟨hpar, hzN.out.1 rfl, rfl⟩)
                        clear hzN
                        go_wp2_with fail
                        refine (slice_bad a' F N cap' LO1 HI1 _ hrdE (by omega) 2 HCI.out (by omega)).mono ?_
                        rintro e w2 ⟨rfl, rfl⟩
                        go_wp2
                        go_ret
                        exact ⟨rfl, hgw⟩
                      | false =>
                        have hnz : Hid (¬ HasZero F N) := fun h => by have := hzN.out.2 h; cases this
                        clear hzN
                        by_cases hA : 0 ≤ LO1
                        · by_cases hB : LO1 ≤ HI1
                          · by_cases hC : HI1 ≤ (S : Int)
                            · obtain ⟨l, hl⟩ := Int.eq_ofNat_of_zero_le hA
                              obtain ⟨h, hh⟩ := Int.eq_ofNat_of_zero_le (show 0 ≤ HI1 by omega)
                              have hlh : l ≤ h := by omega
                              have hhS : h ≤ S := by omega
                              have hwin : Hid ((((exN F (N / 2)).drop l).take (h - l)).length = h - l) := by rw [Hid, List.length_take, List.length_drop, HSS.out]; omega
                              go_wp2_with fail
                              refine (slice_in a' F N cap' l h _ hrdE (by omega) hpar hnz.out hlh (by omega)).mono ?_
                              rintro e w2 hres
                              rcases hres with ⟨x, _⟩ | ⟨_, a2, L2, cap2, qs, rfl, ho2, hl2, hle2, hc2, hex2, hgr2⟩
                              · rw [HSS.out] at x; omega
                              have r2 := ho2.rd
                              rw [flat_length, hl2] at r2
                              have hq := exN_flat qs
                              rw [hl2] at hq
                              have hlen : Hid ((exN (gl (flat qs)) (2 * L2 / 2)).length = h - l) := by rw [Hid, show 2 * L2 / 2 = L2 by omega, hq, hex2]; exact hwin.out
                              clear hex2 hc2 hq ho2 hwin
                              go_wp2_with fail
                              refine (atotal_calls a2 _ (2 * L2) cap2 _ r2 (by omega)).mono ?_
                              rintro e w3 ⟨rfl, rfl⟩
                              rw [hlen.out]
                              have dfin : (((h - l : Nat) : Int) == HI1 - LO1) = true := by simp; omega
                              go_wp2
                              go_ret
                              exact ⟨by simp; omega, hgw.trans hgr2.g⟩
                            · obtain ⟨l, hl⟩ := Int.eq_ofNat_of_zero_le hA
                              obtain ⟨h, hh⟩ := Int.eq_ofNat_of_zero_le (show 0 ≤ HI1 by omega)
                              have hlh : l ≤ h := by omega
                              have hhS : S < h := by omega
                              have dC : decide (h ≤ S) = false := by simp; omega
                              go_wp2_with fail
                              refine (slice_in a' F N cap' l h _ hrdE (by omega) hpar hnz.out hlh (by omega)).mono ?_
                              rintro e w2 hres
                              rcases hres with ⟨_, rfl, hg2⟩ | ⟨x, _⟩
                              · go_wp2
                                go_ret
                                exact ⟨rfl, hgw.trans hg2⟩
                              · rw [HSS.out] at x; omega
                          · go_wp2_with fail
                            refine (slice_neg a' F N cap' LO1 HI1 _ hrdE (by omega) hpar hnz.out (.inr (by omega))).mono ?_
                            rintro e w2 ⟨rfl, rfl⟩
                            go_wp2
                            go_ret
                            exact ⟨rfl, hgw⟩
                        · go_wp2_with fail
                          refine (slice_neg a' F N cap' LO1 HI1 _ hrdE (by omega) hpar hnz.out (.inl (by omega))).mono ?_
                          rintro e w2 ⟨rfl, rfl⟩
                          go_wp2
                          go_ret
                          exact ⟨rfl, hgw⟩
                    · have dpar : ((N : Int) % 2 == 1) = true := by simp; omega
                      have HCI : Hid (ChkIs F N 1) := .inl ⟨hpar, rfl⟩
                      clear hzN
                      go_wp2_with fail
                      refine (slice_bad a' F N cap' LO1 HI1 _ hrdE (by omega) 1 HCI.out (by omega)).mono ?_
                      rintro e w2 ⟨rfl, rfl⟩
                      go_wp2
                      go_ret
                      exact ⟨rfl, hgw⟩
          · have dl : ((k : Int) + 1 == (n : Int)) = false := by simp; omega
            clear hlast
            by_cases hz : f k = 0
            · have dz : (f k == 0) = true := by simpa using hz
              clear hz
              go_wp2_with (at_builtin; refine wpList_app1 (w := wr) rfl _ _ rfl a' _ cap' E rfl rfl hown 1 rfl (by omega) (by omega) ?_)
              intro a2 cap2 w2 hown2 hgr2
              go_wp2
              go_roundw
              case rel => exact ⟨k + 1, a2, cap2, E ++ [1], by omega, by go_num, by simp, by simp; omega, hown2, hgr.trans hgr2⟩
              case measure => simp [intOf]; omega
            · have dz : (f k == 0) = false := by simpa using hz
              clear hz
              go_wp2_with (at_builtin; refine wpList_app1 (w := wr) rfl _ _ rfl a' _ cap' E rfl rfl hown (f k) rfl hb (by omega) ?_)
              intro a2 cap2 w2 hown2 hgr2
              go_wp2
              go_roundw
              case rel => exact ⟨k + 1, a2, cap2, E ++ [f k], by omega, by go_num, by simp, by simp; omega, hown2, hgr.trans hgr2⟩
              case measure => simp [intOf]; omega
        · have dp : ((k : Int) % 2 == 0) = false := by simp; omega
          go_wp2_with (at_builtin; refine wpList_app1 (w := wr) rfl _ _ rfl a' _ cap' E rfl rfl hown (f k) rfl hb (by omega) ?_)
          intro a2 cap2 w2 hown2 hgr2
          go_wp2
          go_roundw
          case rel => exact ⟨k + 1, a2, cap2, E ++ [f k], by omega, by go_num, by simp, by simp; omega, hown2, hgr.trans hgr2⟩
          case measure => simp [intOf]; omega
    · have hlti : ¬ (k : Int) < (n : Int) := by omega
      have hrdE := hown.rd
      have hgw := hgr.g
      obtain ⟨N, hN⟩ : ∃ N, E.length = N := ⟨_, rfl⟩
      rw [hN] at hrdE hE ⊢
      have hN1 : N ≤ 1024 := by omega
      clear hown hgr hN
      generalize gl E = F at *
      generalize wr = w5 at *
      go_wp2_with fail
      refine (atotal_calls a' F N cap' _ hrdE (by omega)).mono ?_
      rintro e w1 ⟨rfl, rfl⟩
      have hS0 := exN_length_le hrdE.1 (N / 2)
      obtain ⟨S, hS⟩ : ∃ S, (exN F (N / 2)).length = S := ⟨_, rfl⟩
      have HSS : Hid ((exN F (N / 2)).length = S) := hS
      rw [hS] at hS0 ⊢
      clear hS
      have hm1 : -2 ≤ lo.tmod 3 ∧ lo.tmod 3 ≤ 2 := tmod3 lo
      have hm2 : -2 ≤ hi.tmod 3 ∧ hi.tmod 3 ≤ 2 := tmod3 hi
      obtain ⟨LO1, hLO1⟩ : ∃ x, (S : Int) + lo.tmod 3 = x := ⟨_, rfl⟩
      obtain ⟨HI1, hHI1⟩ : ∃ x, (S : Int) + hi.tmod 3 = x := ⟨_, rfl⟩
      have bL : -2 ≤ LO1 ∧ LO1 ≤ 200000 := by omega
      have bH : -2 ≤ HI1 ∧ HI1 ≤ 200000 := by omega
      cases nl with
      | false =>
        cases nh with
        | false =>
          go_wp2
          go_loop [17, 18] (fun z p => ∃ (j : Nat) (zb : Bool), 2 * j ≤ N + 1 ∧ p = .int .i64 (2 * (j : Int)) ∧ z = .bool zb ∧ (zb = true ↔ HasZero F (2 * j))) (fun _ p => N + 1 - (intOf p).toNat)
          case atStart => exact ⟨0, false, by omega, rfl, rfl, by simp [hz_nil]⟩
          case round =>
            obtain ⟨j, zb, hj, rfl, rfl, hzb⟩ := hrel
            have HZB : Hid (zb = true ↔ HasZero F (2 * j)) := hzb
            clear hzb
            by_cases hjN : 2 * j < N
            · obtain ⟨b2, off2, rfl, hcc⟩ := hrdE.at hjN
              have c2 := hcc (2 * j) hjN
              clear hcc
              by_cases hz0 : F (2 * j) = 0
              · have dz : (F (2 * j) == 0) = true := by simpa using hz0
                have HZ0 : Hid _ := hz0
                clear hz0
                go_wp2
                go_round
                case rel => exact ⟨j + 1, true, by omega, by go_num, rfl, by rw [hz_pair]; exact ⟨fun _ => .inr HZ0.out, fun _ => rfl⟩⟩
                case measure => simp [intOf]; omega
              · have dz : (F (2 * j) == 0) = false := by simpa using hz0
                have HZ0 : Hid _ := hz0
                clear hz0
                go_wp2
                go_round
                case rel => exact ⟨j + 1, zb, by omega, by go_num, rfl, by rw [hz_pair, HZB.out]; exact ⟨fun h => .inl h, fun h => h.elim id (fun x => absurd x HZ0.out)⟩⟩
                case measure => simp [intOf]; omega
            · have hzN : Hid (zb = true ↔ HasZero F N) := by
                rw [Hid, HZB.out]
                constructor
                · rintro ⟨i, i1, i2⟩; exact ⟨i, by omega, i2⟩
                · rintro ⟨i, i1, i2⟩; exact ⟨i, by omega, i2⟩
              clear HZB
              have hnil := nil_eqa
              rcases Nat.mod_two_eq_zero_or_one N with hpar | hpar
              · have dpar : ((N : Int) % 2 == 1) = false := by simp; omega
                cases zb with
                | true =>
                  have HCI : Hid (ChkIs F N 2) := .inr (.inl ⟨hpar, hzN.out.1 rfl, rfl⟩)
                  clear hzN
                  go_wp2_with fail
                  refine (slice_bad a' F N cap' lo hi _ hrdE (by omega) 2 HCI.out (by omega)).mono ?_
                  rintro e w2 ⟨rfl, rfl⟩
                  go_wp2
                  go_ret
                  exact ⟨rfl, hgw⟩
                | false =>
                  have hnz : Hid (¬ HasZero F N) := fun h => by have := hzN.out.2 h; cases this
                  clear hzN
                  by_cases hA : 0 ≤ lo
                  · by_cases hB : lo ≤ hi
                    · by_cases hC : hi ≤ (S : Int)
                      · obtain ⟨l, hl⟩ := Int.eq_ofNat_of_zero_le hA
                        obtain ⟨h, hh⟩ := Int.eq_ofNat_of_zero_le (show 0 ≤ hi by omega)
                        have hlh : l ≤ h := by omega
                        have hhS : h ≤ S := by omega
                        have hwin : Hid ((((exN F (N / 2)).drop l).take (h - l)).length = h - l) := by rw [Hid, List.length_take, List.length_drop, HSS.out]; omega
                        go_wp2_with fail
                        refine (slice_in a' F N cap' l h _ hrdE (by omega) hpar hnz.out hlh (by omega)).mono ?_
                        rintro e w2 hres
                        rcases hres with ⟨x, _⟩ | ⟨_, a2, L2, cap2, qs, rfl, ho2, hl2, hle2, hc2, hex2, hgr2⟩
                        · rw [HSS.out] at x; omega
                        have r2 := ho2.rd
                        rw [flat_length, hl2] at r2
                        have hq := exN_flat qs
                        rw [hl2] at hq
                        have hlen : Hid ((exN (gl (flat qs)) (2 * L2 / 2)).length = h - l) := by rw [Hid, show 2 * L2 / 2 = L2 by omega, hq, hex2]; exact hwin.out
                        clear hex2 hc2 hq ho2 hwin
                        go_wp2_with fail
                        refine (atotal_calls a2 _ (2 * L2) cap2 _ r2 (by omega)).mono ?_
                        rintro e w3 ⟨rfl, rfl⟩
                        rw [hlen.out]
                        have dfin : (((h - l : Nat) : Int) == hi - lo) = true := by simp; omega
                        go_wp2
                        go_ret
                        exact ⟨by simp; omega, hgw.trans hgr2.g⟩
                      · obtain ⟨l, hl⟩ := Int.eq_ofNat_of_zero_le hA
                        obtain ⟨h, hh⟩ := Int.eq_ofNat_of_zero_le (show 0 ≤ hi by omega)
                        have hlh : l ≤ h := by omega
                        have hhS : S < h := by omega
                        have dC : decide (h ≤ S) = false := by simp; omega
                        go_wp2_with fail
                        refine (slice_in a' F N cap' l h _ hrdE (by omega) hpar hnz.out hlh (by omega)).mono ?_
                        rintro e w2 hres
                        rcases hres with ⟨_, rfl, hg2⟩ | ⟨x, _⟩
                        · go_wp2
                          go_ret
                          exact ⟨rfl, hgw.trans hg2⟩
                        · rw [HSS.out] at x; omega
                    · go_wp2_with fail
                      refine (slice_neg a' F N cap' lo hi _ hrdE (by omega) hpar hnz.out (.inr (by omega))).mono ?_
                      rintro e w2 ⟨rfl, rfl⟩
                      go_wp2
                      go_ret
                      exact ⟨rfl, hgw⟩
                  · go_wp2_with fail
                    refine (slice_neg a' F N cap' lo hi _ hrdE (by omega) hpar hnz.out (.inl (by omega))).mono ?_
                    rintro e w2 ⟨rfl, rfl⟩
                    go_wp2
                    go_ret
                    exact ⟨rfl, hgw⟩
              · have dpar : ((N : Int) % 2 == 1) = true := by simp; omega
                have HCI : Hid (ChkIs F N 1) := .inl ⟨hpar, rfl⟩
                clear hzN
                go_wp2_with fail
                refine (slice_bad a' F N cap' lo hi _ hrdE (by omega) 1 HCI.out (by omega)).mono ?_
                rintro e w2 ⟨rfl, rfl⟩
                go_wp2
                go_ret
                exact ⟨rfl, hgw⟩
        | true =>
          go_wp2
          go_loop [17, 18] (fun z p => ∃ (j : Nat) (zb : Bool), 2 * j ≤ N + 1 ∧ p = .int .i64 (2 * (j : Int)) ∧ z = .bool zb ∧ (zb = true ↔ HasZero F (2 * j))) (fun _ p => N + 1 - (intOf p).toNat)
          case atStart => exact ⟨0, false, by omega, rfl, rfl, by simp [hz_nil]⟩
          case round =>
            obtain ⟨j, zb, hj, rfl, rfl, hzb⟩ := hrel
            have HZB : Hid (zb = true ↔ HasZero F (2 * j)) := hzb
            clear hzb
            by_cases hjN : 2 * j < N
            · obtain ⟨b2, off2, rfl, hcc⟩ := hrdE.at hjN
              have c2 := hcc (2 * j) hjN
              clear hcc
              by_cases hz0 : F (2 * j) = 0
              · have dz : (F (2 * j) == 0) = true := by simpa using hz0
                have HZ0 : Hid _ := hz0
                clear hz0
                go_wp2
                go_round
                case rel => exact ⟨j + 1, true, by omega, by go_num, rfl, by rw [hz_pair]; exact ⟨fun _ => .inr HZ0.out, fun _ => rfl⟩⟩
                case measure => simp [intOf]; omega
              · have dz : (F (2 * j) == 0) = false := by simpa using hz0
                have HZ0 : Hid _ := hz0
                clear hz0
                go_wp2
                go_round
                case rel => exact ⟨j + 1, zb, by omega, by go_num, rfl, by rw [hz_pair, HZB.out]; exact ⟨fun h => .inl h, fun h => h.elim id (fun x => absurd x HZ0.out)⟩⟩
                case measure => simp [intOf]; omega
            · have hzN : Hid (zb = true ↔ HasZero F N) := by
                rw [Hid, HZB.out]
                constructor
                · rintro ⟨i, i1, i2⟩; exact ⟨i, by omega, i2⟩
                · rintro ⟨i, i1, i2⟩; exact ⟨i, by omega, i2⟩
              clear HZB
              have hnil := nil_eqa
              rcases Nat.mod_two_eq_zero_or_one N with hpar | hpar
              · have dpar : ((N : Int) % 2 == 1) = false := by simp; omega
                cases zb with
                | true =>
                  have HCI : Hid (ChkIs F N 2) := .inr (.inl ⟨hpar, hzN.out.1 rfl, rfl⟩)
                  clear hzN
                  go_wp2_with fail
                  refine (slice_bad a' F N cap' lo HI1 _ hrdE (by omega) 2 HCI.out (by omega)).mono ?_
                  rintro e w2 ⟨rfl, rfl⟩
                  go_wp2
                  go_ret
                  exact ⟨rfl, hgw⟩
                | false =>
                  have hnz : Hid (¬ HasZero F N) := fun h => by have := hzN.out.2 h; cases this
                  clear hzN
                  by_cases hA : 0 ≤ lo
                  · by_cases hB : lo ≤ HI1
                    · by_cases hC : HI1 ≤ (S : Int)
                      · obtain ⟨l, hl⟩ := Int.eq_ofNat_of_zero_le hA
                        obtain ⟨h, hh⟩ := Int.eq_ofNat_of_zero_le (show 0 ≤ HI1 by omega)
                        have hlh : l ≤ h := by omega
                        have hhS : h ≤ S := by omega
                        have hwin : Hid ((((exN F (N / 2)).drop l).take (h - l)).length = h - l) := by rw [Hid, List.length_take, List.length_drop, HSS.out]; omega
                        go_wp2_with fail
                        refine (slice_in a' F N cap' l h _ hrdE (by omega) hpar hnz.out hlh (by omega)).mono ?_
                        rintro e w2 hres
                        rcases hres with ⟨x, _⟩ | ⟨_, a2, L2, cap2, qs, rfl, ho2, hl2, hle2, hc2, hex2, hgr2⟩
                        · rw [HSS.out] at x; omega
                        have r2 := ho2.rd
                        rw [flat_length, hl2] at r2
                        have hq := exN_flat qs
                        rw [hl2] at hq
                        have hlen : Hid ((exN (gl (flat qs)) (2 * L2 / 2)).length = h - l) := by rw [Hid, show 2 * L2 / 2 = L2 by omega, hq, hex2]; exact hwin.out
                        clear hex2 hc2 hq ho2 hwin
                        go_wp2_with fail
                        refine (atotal_calls a2 _ (2 * L2) cap2 _ r2 (by omega)).mono ?_
                        rintro e w3 ⟨rfl, rfl⟩
                        rw [hlen.out]
                        have dfin : (((h - l : Nat) : Int) == HI1 - lo) = true := by simp; omega
                        go_wp2
                        go_ret
                        exact ⟨by simp; omega, hgw.trans hgr2.g⟩
                      · obtain ⟨l, hl⟩ := Int.eq_ofNat_of_zero_le hA
                        obtain ⟨h, hh⟩ := Int.eq_ofNat_of_zero_le (show 0 ≤ HI1 by omega)
                        have hlh : l ≤ h := by omega
                        have hhS : S < h := by omega
                        have dC : decide (h ≤ S) = false := by simp; omega
                        go_wp2_with fail
                        refine (slice_in a' F N cap' l h _ hrdE (by omega) hpar hnz.out hlh (by omega)).mono ?_
                        rintro e w2 hres
                        rcases hres with ⟨_, rfl, hg2⟩ | ⟨x, _⟩
                        · go_wp2
                          go_ret
                          exact ⟨rfl, hgw.trans hg2⟩
                        · rw [HSS.out] at x; omega
                    · go_wp2_with fail
                      refine (slice_neg a' F N cap' lo HI1 _ hrdE (by omega) hpar hnz.out (.inr (by omega))).mono ?_
                      rintro e w2 ⟨rfl, rfl⟩
                      go_wp2
                      go_ret
                      exact ⟨rfl, hgw⟩
                  · go_wp2_with fail
                    refine (slice_neg a' F N cap' lo HI1 _ hrdE (by omega) hpar hnz.out (.inl (by omega))).mono ?_
                    rintro e w2 ⟨rfl, rfl⟩
                    go_wp2
                    go_ret
                    exact ⟨rfl, hgw⟩
              · have dpar : ((N : Int) % 2 == 1) = true := by simp; omega
                have HCI : Hid (ChkIs F N 1) := .inl ⟨hpar, rfl⟩
                clear hzN
                go_wp2_with fail
                refine (slice_bad a' F N cap' lo HI1 _ hrdE (by omega) 1 HCI.out (by omega)).mono ?_
                rintro e w2 ⟨rfl, rfl⟩
                go_wp2
                go_ret
                exact ⟨rfl, hgw⟩
      | true =>
        cases nh with
        | false =>
          go_wp2
          go_loop [17, 18] (fun z p => ∃ (j : Nat) (zb : Bool), 2 * j ≤ N + 1 ∧ p = .int .i64 (2 * (j : Int)) ∧ z = .bool zb ∧ (zb = true ↔ HasZero F (2 * j))) (fun _ p => N + 1 - (intOf p).toNat)
          case atStart => exact ⟨0, false, by omega, rfl, rfl, by simp [hz_nil]⟩
          case round =>
            obtain ⟨j, zb, hj, rfl, rfl, hzb⟩ := hrel
            have HZB : Hid (zb = true ↔ HasZero F (2 * j)) := hzb
            clear hzb
            by_cases hjN : 2 * j < N
            · obtain ⟨b2, off2, rfl, hcc⟩ := hrdE.at hjN
              have c2 := hcc (2 * j) hjN
              clear hcc
              by_cases hz0 : F (2 * j) = 0
              · have dz : (F (2 * j) == 0) = true := by simpa using hz0
                have HZ0 : Hid _ := hz0
                clear hz0
                go_wp2
                go_round
                case rel => exact ⟨j + 1, true, by omega, by go_num, rfl, by rw [hz_pair]; exact ⟨fun _ => .inr HZ0.out, fun _ => rfl⟩⟩
                case measure => simp [intOf]; omega
              · have dz : (F (2 * j) == 0) = false := by simpa using hz0
                have HZ0 : Hid _ := hz0
                clear hz0
                go_wp2
                go_round
                case rel => exact ⟨j + 1, zb, by omega, by go_num, rfl, by rw [hz_pair, HZB.out]; exact ⟨fun h => .inl h, fun h => h.elim id (fun x => absurd x HZ0.out)⟩⟩
                case measure => simp [intOf]; omega
            · have hzN : Hid (zb = true ↔ HasZero F N) := by
                rw [Hid, HZB.out]
                constructor
                · rintro ⟨i, i1, i2⟩; exact ⟨i, by omega, i2⟩
                · rintro ⟨i, i1, i2⟩; exact ⟨i, by omega, i2⟩
              clear HZB
              have hnil := nil_eqa
              rcases Nat.mod_two_eq_zero_or_one N with hpar | hpar
              · have dpar : ((N : Int) % 2 == 1) = false := by simp; omega
                cases zb with
                | true =>
                  have HCI : Hid (ChkIs F N 2) := .inr (.inl ⟨hpar, hzN.out.1 rfl, rfl⟩)
                  clear hzN
                  go_wp2_with fail
                  refine (slice_bad a' F N cap' LO1 hi _ hrdE (by omega) 2 HCI.out (by omega)).mono ?_
                  rintro e w2 ⟨rfl, rfl⟩
                  go_wp2
                  go_ret
                  exact ⟨rfl, hgw⟩
                | false =>
                  have hnz : Hid (¬ HasZero F N) := fun h => by have := hzN.out.2 h; cases this
                  clear hzN
                  by_cases hA : 0 ≤ LO1
                  · by_cases hB : LO1 ≤ hi
                    · by_cases hC : hi ≤ (S : Int)
                      · obtain ⟨l, hl⟩ := Int.eq_ofNat_of_zero_le hA
                        obtain ⟨h, hh⟩ := Int.eq_ofNat_of_zero_le (show 0 ≤ hi by omega)
                        have hlh : l ≤ h := by omega
                        have hhS : h ≤ S := by omega
                        have hwin : Hid ((((exN F (N / 2)).drop l).take (h - l)).length = h - l) := by rw [Hid, List.length_take, List.length_drop, HSS.out]; omega
                        go_wp2_with fail
                        refine (slice_in a' F N cap' l h _ hrdE (by omega) hpar hnz.out hlh (by omega)).mono ?_
                        rintro e w2 hres
                        rcases hres with ⟨x, _⟩ | ⟨_, a2, L2, cap2, qs, rfl, ho2, hl2, hle2, hc2, hex2, hgr2⟩
                        · rw [HSS.out] at x; omega
                        have r2 := ho2.rd
                        rw [flat_length, hl2] at r2
                        have hq := exN_flat qs
                        rw [hl2] at hq
                        have hlen : Hid ((exN (gl (flat qs)) (2 * L2 / 2)).length = h - l) := by rw [Hid, show 2 * L2 / 2 = L2 by omega, hq, hex2]; exact hwin.out
                        clear hex2 hc2 hq ho2 hwin
                        go_wp2_with fail
                        refine (atotal_calls a2 _ (2 * L2) cap2 _ r2 (by omega)).mono ?_
                        rintro e w3 ⟨rfl, rfl⟩
                        rw [hlen.out]
                        have dfin : (((h - l : Nat) : Int) == hi - LO1) = true := by simp; omega
                        go_wp2
                        go_ret
                        exact ⟨by simp; omega, hgw.trans hgr2.g⟩
                      · obtain ⟨l, hl⟩ := Int.eq_ofNat_of_zero_le hA
                        obtain ⟨h, hh⟩ := Int.eq_ofNat_of_zero_le (show 0 ≤ hi by omega)
                        have hlh : l ≤ h := by omega
                        have hhS : S < h := by omega
                        have dC : decide (h ≤ S) = false := by simp; omega
                        go_wp2_with fail
                        refine (slice_in a' F N cap' l h _ hrdE (by omega) hpar hnz.out hlh (by omega)).mono ?_
                        rintro e w2 hres
                        rcases hres with ⟨_, rfl, hg2⟩ | ⟨x, _⟩
                        · go_wp2
                          go_ret
                          exact ⟨rfl, hgw.trans hg2⟩
                        · rw [HSS.out] at x; omega
                    · go_wp2_with fail
                      refine (slice_neg a' F N cap' LO1 hi _ hrdE (by omega) hpar hnz.out (.inr (by omega))).mono ?_
                      rintro e w2 ⟨rfl, rfl⟩
                      go_wp2
                      go_ret
                      exact ⟨rfl, hgw⟩
                  · go_wp2_with fail
                    refine (slice_neg a' F N cap' LO1 hi _ hrdE (by omega) hpar hnz.out (.inl (by omega))).mono ?_
                    rintro e w2 ⟨rfl, rfl⟩
                    go_wp2
                    go_ret
                    exact ⟨rfl, hgw⟩
              · have dpar : ((N : Int) % 2 == 1) = true := by simp; omega
                have HCI : Hid (ChkIs F N 1) := .inl ⟨hpar, rfl⟩
                clear hzN
                go_wp2_with fail
                refine (slice_bad a' F N cap' LO1 hi _ hrdE (by omega) 1 HCI.out (by omega)).mono ?_
                rintro e w2 ⟨rfl, rfl⟩
                go_wp2
                go_ret
                exact ⟨rfl, hgw⟩
        | true =>
          go_wp2
          go_loop [17, 18] (fun z p => ∃ (j : Nat) (zb : Bool), 2 * j ≤ N + 1 ∧ p = .int .i64 (2 * (j : Int)) ∧ z = .bool zb ∧ (zb = true ↔ HasZero F (2 * j))) (fun _ p => N + 1 - (intOf p).toNat)
          case atStart => exact ⟨0, false, by omega, rfl, rfl, by simp [hz_nil]⟩
          case round =>
            obtain ⟨j, zb, hj, rfl, rfl, hzb⟩ := hrel
            have HZB : Hid (zb = true ↔ HasZero F (2 * j)) := hzb
            clear hzb
            by_cases hjN : 2 * j < N
            · obtain ⟨b2, off2, rfl, hcc⟩ := hrdE.at hjN
              have c2 := hcc (2 * j) hjN
              clear hcc
              by_cases hz0 : F (2 * j) = 0
              · have dz : (F (2 * j) == 0) = true := by simpa using hz0
                have HZ0 : Hid _ := hz0
                clear hz0
                go_wp2
                go_round
                case rel => exact ⟨j + 1, true, by omega, by go_num, rfl, by rw [hz_pair]; exact ⟨fun _ => .inr HZ0.out, fun _ => rfl⟩⟩
                case measure => simp [intOf]; omega
              · have dz : (F (2 * j) == 0) = false := by simpa using hz0
                have HZ0 : Hid _ := hz0
                clear hz0
                go_wp2
                go_round
                case rel => exact ⟨j + 1, zb, by omega, by go_num, rfl, by rw [hz_pair, HZB.out]; exact ⟨fun h => .inl h, fun h => h.elim id (fun x => absurd x HZ0.out)⟩⟩
                case measure => simp [intOf]; omega
            · have hzN : Hid (zb = true ↔ HasZero F N) := by
                rw [Hid, HZB.out]
                constructor
                · rintro ⟨i, i1, i2⟩; exact ⟨i, by omega, i2⟩
                · rintro ⟨i, i1, i2⟩; exact ⟨i, by omega, i2⟩
              clear HZB
              have hnil := nil_eqa
              rcases Nat.mod_two_eq_zero_or_one N with hpar | hpar
              · have dpar : ((N : Int) % 2 == 1) = false := by simp; omega
                cases zb with
                | true =>
                  have HCI : Hid (ChkIs F N 2) := .inr (.inl ⟨hpar, hzN.out.1 rfl, rfl⟩)
                  clear hzN
                  go_wp2_with fail
                  refine (slice_bad a' F N cap' LO1 HI1 _ hrdE (by omega) 2 HCI.out (by omega)).mono ?_
                  rintro e w2 ⟨rfl, rfl⟩
                  go_wp2
                  go_ret
                  exact ⟨rfl, hgw⟩
                | false =>
                  have hnz : Hid (¬ HasZero F N) := fun h => by have := hzN.out.2 h; cases this
                  clear hzN
                  by_cases hA : 0 ≤ LO1
                  · by_cases hB : LO1 ≤ HI1
                    · by_cases hC : HI1 ≤ (S : Int)
                      · obtain ⟨l, hl⟩ := Int.eq_ofNat_of_zero_le hA
                        obtain ⟨h, hh⟩ := Int.eq_ofNat_of_zero_le (show 0 ≤ HI1 by omega)
                        have hlh : l ≤ h := by omega
                        have hhS : h ≤ S := by omega
                        have hwin : Hid ((((exN F (N / 2)).drop l).take (h - l)).length = h - l) := by rw [Hid, List.length_take, List.length_drop, HSS.out]; omega
                        go_wp2_with fail
                        refine (slice_in a' F N cap' l h _ hrdE (by omega) hpar hnz.out hlh (by omega)).mono ?_
                        rintro e w2 hres
                        rcases hres with ⟨x, _⟩ | ⟨_, a2, L2, cap2, qs, rfl, ho2, hl2, hle2, hc2, hex2, hgr2⟩
                        · rw [HSS.out] at x; omega
                        have r2 := ho2.rd
                        rw [flat_length, hl2] at r2
                        have hq := exN_flat qs
                        rw [hl2] at hq
                        have hlen : Hid ((exN (gl (flat qs)) (2 * L2 / 2)).length = h - l) := by rw [Hid, show 2 * L2 / 2 = L2 by omega, hq, hex2]; exact hwin.out
                        clear hex2 hc2 hq ho2 hwin
                        go_wp2_with fail
                        refine (atotal_calls a2 _ (2 * L2) cap2 _ r2 (by omega)).mono ?_
                        rintro e w3 ⟨rfl, rfl⟩
                        rw [hlen.out]
                        have dfin : (((h - l : Nat) : Int) == HI1 - LO1) = true := by simp; omega
                        go_wp2
                        go_ret
                        exact ⟨by simp; omega, hgw.trans hgr2.g⟩
                      · obtain ⟨l, hl⟩ := Int.eq_ofNat_of_zero_le hA
                        obtain ⟨h, hh⟩ := Int.eq_ofNat_of_zero_le (show 0 ≤ HI1 by omega)
                        have hlh : l ≤ h := by omega
                        have hhS : S < h := by omega
                        have dC : decide (h ≤ S) = false := by simp; omega
                        go_wp2_with fail
                        refine (slice_in a' F N cap' l h _ hrdE (by omega) hpar hnz.out hlh (by omega)).mono ?_
                        rintro e w2 hres
                        rcases hres with ⟨_, rfl, hg2⟩ | ⟨x, _⟩
                        · go_wp2
                          go_ret
                          exact ⟨rfl, hgw.trans hg2⟩
                        · rw [HSS.out] at x; omega
                    · go_wp2_with fail
                      refine (slice_neg a' F N cap' LO1 HI1 _ hrdE (by omega) hpar hnz.out (.inr (by omega))).mono ?_
                      rintro e w2 ⟨rfl, rfl⟩
                      go_wp2
                      go_ret
                      exact ⟨rfl, hgw⟩
                  · go_wp2_with fail
                    refine (slice_neg a' F N cap' LO1 HI1 _ hrdE (by omega) hpar hnz.out (.inl (by omega))).mono ?_
                    rintro e w2 ⟨rfl, rfl⟩
                    go_wp2
                    go_ret
                    exact ⟨rfl, hgw⟩
              · have dpar : ((N : Int) % 2 == 1) = true := by simp; omega
                have HCI : Hid (ChkIs F N 1) := .inl ⟨hpar, rfl⟩
                clear hzN
                go_wp2_with fail
                refine (slice_bad a' F N cap' LO1 HI1 _ hrdE (by omega) 1 HCI.out (by omega)).mono ?_
                rintro e w2 ⟨rfl, rfl⟩
                go_wp2
                go_ret
                exact ⟨rfl, hgw⟩

end Go.Proofs.Ymbrcl
