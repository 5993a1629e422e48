import Derived.Test.YmbrcnDecode
import Derived.Test.YmbrcnEnc
set_option linter.unusedVariables false
namespace Go.Proofs.Ymbrcn
open Go.RowKit

/-- canonical pairs, laid as bytes, are what CheckCanonical lets pass -/
theorem canon_can {ps : List (Int × Int)} (h : Canon ps) (hb : ∀ x ∈ flat ps, 0 ≤ x ∧ x ≤ 255) : CanIs (gl (flat ps)) (2 * ps.length) 0 := by
  have := (canon_pairsOf (gl_byte hb) ps.length).1 (by rw [pairsOf_flat]; exact h)
  exact .inr (.inr (.inr ⟨by omega, this.1, this.2, rfl⟩))

set_option maxRecDepth 100000 in
set_option maxHeartbeats 1600000 in
theorem iround_calls (hd nn : Int) (a : Option Addr) (f : Nat → Int) (m cap : Nat) (w : World) (hh : 0 ≤ hd ∧ hd ≤ 255) (hn : 0 ≤ nn ∧ nn ≤ 65535) (hr : Rd w a m f) :
    Calls Ycnm.prog 4 #[.int .u8 hd, .int .u16 nn, .slice a m cap] w fun e w' => e = .returned (.bool true) ∧ G w w' := by
  by_cases h0 : 1024 < m
  · have e0 : (1024 : Int) < m := by omega
    go_enter Ycnm.func4, Ycnm.ntmps4
    go_wp2
    go_ret
    exact ⟨rfl, G.refl _⟩
  have e0 : ¬ (1024 : Int) < m := by omega
  obtain ⟨t, ht⟩ : ∃ t : Nat, nn % 1024 = (t : Int) := ⟨(nn % 1024).toNat, by omega⟩
  have ht1 : t ≤ 1023 := by omega
  go_enter Ycnm.func4, Ycnm.ntmps4
  go_wp2
  go_loopw [7, 8] (fun v i wr => ∃ (k : Nat) (a' : Option Addr) (cap' : Nat) (T : List Int), k ≤ t ∧ i = .int .i64 k ∧ v = .slice a' T.length cap' ∧ T.length ≤ k ∧ Own wr a' cap' T ∧ Gr w wr none a') (fun _ i _ => t - (intOf i).toNat)
  case atStart => exact ⟨0, none, 0, [], by omega, rfl, rfl, by simp, Own.nil _, Gr.refl _ _⟩
  case round =>
    obtain ⟨k, a', cap', T, hk, rfl, rfl, hT, hown, hgr⟩ := hrel
    by_cases hlt : k < t
    · go_wp2_with (at_builtin; refine wpList_app1 (w := wr) rfl _ _ rfl a' _ cap' T rfl rfl hown hd rfl hh (by omega) ?_)
      intro a2 cap2 w2 hown2 hgr2
      go_wp2
      go_roundw
      case rel => exact ⟨k + 1, a2, cap2, T ++ [hd], by omega, by go_num, by simp, by simp; omega, hown2, hgr.trans hgr2⟩
      case measure => simp [intOf]; omega
    · have hki : ¬ (k : Int) < (t : Int) := by omega
      go_wp2
      go_loopw [7, 9] (fun v i wr => ∃ (q : Nat) (a' : Option Addr) (cap' : Nat) (T : List Int), q ≤ m ∧ i = .int .i64 q ∧ v = .slice a' T.length cap' ∧ T.length ≤ t + q ∧ Own wr a' cap' T ∧ Gr w wr none a') (fun _ i _ => m - (intOf i).toNat)
      case atStart => exact ⟨0, a', cap', T, by omega, rfl, rfl, by omega, hown, hgr⟩
      case round =>
        clear hown hgr hT
        obtain ⟨q, a', cap', T, hq, rfl, rfl, hT, hown, hgr⟩ := hrel
        by_cases hlt2 : q < m
        · obtain ⟨b, off, rfl, hcc⟩ := hr.at hlt2
          clear hcc
          have hb := hr.1 q
          have c1 := (hr.keep hgr.g).cell hlt2
          go_wp2_with (at_builtin; refine wpList_app1 (w := wr) rfl _ _ rfl a' _ cap' T rfl rfl hown (f q) rfl hb (by omega) ?_)
          intro a2 cap2 w2 hown2 hgr2
          go_wp2
          go_roundw
          case rel => exact ⟨q + 1, a2, cap2, T ++ [f q], by omega, by go_num, by simp, by simp; omega, hown2, hgr.trans hgr2⟩
          case measure => simp [intOf]; omega
        · have hrd := hown.rd
          have hgw := hgr.g
          obtain ⟨N, hN⟩ : ∃ N, T.length = N := ⟨_, rfl⟩
          have hTT : Hid (lst (gl T) N = T) := by rw [Hid, ← hN]; exact lst_gl T
          rw [hN] at hrd hT ⊢
          generalize hF : gl T = F at *
          clear hF hown hgr hN
          have hki2 : ¬ (q : Int) < (m : Int) := by omega
          generalize wr = w5 at *
          go_wp2
          go_loopw [10, 11, 12] (fun v i _ wr => ∃ (k : Nat) (a2 : Option Addr) (cap2 L : Nat) (ps : List (Int × Int)), k ≤ N ∧ i = .int .i64 k ∧ v = .slice a2 (2 * L) cap2 ∧ ps.length = L ∧ L ≤ k ∧ Own wr a2 cap2 (flat ps) ∧ EncAt F N k ps ∧ Gr w5 wr none a2) (fun _ i _ _ => N - (intOf i).toNat)
          case atStart => exact ⟨0, none, 0, 0, [], by omega, rfl, rfl, rfl, by omega, Own.nil _, ⟨trivial, rfl, by simp [flat], by simp, by simp⟩, Gr.refl _ _⟩
          case round =>
            obtain ⟨i, a2, cap2, L, ps, hi, rfl, rfl, hps, hLi, hown, hat, hgr⟩ := hrel
            have HPS : Hid (ps.length = L) := hps
            have HAt : Hid (EncAt F N i ps) := hat
            clear hps hat
            by_cases hlt3 : i < N
            · have hi3 : (i : Int) < (N : Int) := by omega
              have r1 := hrd.keep hgr.g
              obtain ⟨b, off, rfl, hcc⟩ := r1.at hlt3
              have ci := hcc i hlt3
              have HC : Hid (∀ j, j < N → wr.cell? ⟨b, off + j, none⟩ = some (.int .u8 (F j))) := hcc
              clear hcc
              have hb := hrd.1 i
              generalize wr = w6 at *
              go_wp2
              go_loopw [12] (fun j wr => ∃ (c : Nat), j = .int .i64 ((i + c : Nat) : Int) ∧ 1 ≤ c ∧ c ≤ 255 ∧ i + c ≤ N ∧ (∀ t, t < c → F (i + t) = F i) ∧ ∃ q, wr = w6.drewN q) (fun j _ => N - (intOf j).toNat)
              case atStart => exact ⟨1, by go_num, by omega, by omega, by omega, fun j hj => by rw [show j = 0 by omega]; rfl, 0, rfl⟩
              case round =>
                obtain ⟨c, rfl, h1, h2, h3, h4, d, rfl⟩ := hrel
                have H4 : Hid (∀ t, t < c → F (i + t) = F i) := h4
                clear h4
                have hsub : (i : Int) + (c : Int) - (i : Int) = (c : Int) := by omega
                by_cases hA : i + c < N
                · have dA : (i : Int) + (c : Int) < (N : Int) := by omega
                  have c1 := HC.out (i + c) hA
                  by_cases hB : F (i + c) = F i
                  · have dB : (F (i + c) == F i) = true := by simpa using hB
                    by_cases hC : c < 255
                    · have dC : (c : Int) < 255 := by omega
                      have HB : Hid _ := hB
                      clear hB
                      go_wp2
                      go_quiet (fail)
                      go_wp2
                      go_roundw
                      case rel =>
                        refine ⟨c + 1, by go_num, by omega, by omega, by omega, fun t ht => ?_, _, rfl⟩
                        by_cases e : t = c
                        · subst e; exact HB.out
                        · exact H4.out t (by omega)
                      case measure => simp [intOf]; omega
                    · have dC : decide ((c : Int) < 255) = false := by simp; omega
                      have R : Hid (RunIs F N i c) := ⟨h1, h2, h3, H4.out, .inl (by omega)⟩
                      clear hB
                      go_wp2
                      go_quiet (fail)
                      go_wp2_with (at_builtin; refine wpList_app2 (w := w6.drewN _) rfl _ _ rfl a2 _ cap2 (flat ps) rfl (by rw [flat_length, HPS.out]) (hown.keep (G.drewN _ _)) (c : Int) (F i) rfl (by omega) hb (by omega) ?_)
                      intro a3 cap3 w7 ho3 hg3
                      have hf : flat (ps ++ [((c : Int), F i)]) = flat ps ++ [(c : Int), F i] := by rw [flat_append]; rfl
                      rw [← hf] at ho3
                      have RA : Hid _ := HAt.out.step R.out hb hlt3
                      clear hf
                      go_wp2
                      go_roundw
                      case rel => exact ⟨i + c, a3, cap3, L + 1, _, by omega, by go_num, rfl, by rw [List.length_append, HPS.out]; rfl, by omega, ho3, RA.out, (hgr.then (G.drewN _ _)).trans hg3⟩
                      case measure => simp [intOf]; omega
                  · have dB : (F (i + c) == F i) = false := by simpa using hB
                    have R : Hid (RunIs F N i c) := ⟨h1, h2, h3, H4.out, .inr (.inr hB)⟩
                    clear hB
                    go_wp2
                    go_quiet (fail)
                    go_wp2_with (at_builtin; refine wpList_app2 (w := w6.drewN _) rfl _ _ rfl a2 _ cap2 (flat ps) rfl (by rw [flat_length, HPS.out]) (hown.keep (G.drewN _ _)) (c : Int) (F i) rfl (by omega) hb (by omega) ?_)
                    intro a3 cap3 w7 ho3 hg3
                    have hf : flat (ps ++ [((c : Int), F i)]) = flat ps ++ [(c : Int), F i] := by rw [flat_append]; rfl
                    rw [← hf] at ho3
                    have RA : Hid _ := HAt.out.step R.out hb hlt3
                    clear hf
                    go_wp2
                    go_roundw
                    case rel => exact ⟨i + c, a3, cap3, L + 1, _, by omega, by go_num, rfl, by rw [List.length_append, HPS.out]; rfl, by omega, ho3, RA.out, (hgr.then (G.drewN _ _)).trans hg3⟩
                    case measure => simp [intOf]; omega
                · have dA : decide ((i : Int) + (c : Int) < (N : Int)) = false := by simp; omega
                  have R : Hid (RunIs F N i c) := ⟨h1, h2, h3, H4.out, .inr (.inl (by omega))⟩
                  go_wp2
                  go_quiet (fail)
                  go_wp2_with (at_builtin; refine wpList_app2 (w := w6.drewN _) rfl _ _ rfl a2 _ cap2 (flat ps) rfl (by rw [flat_length, HPS.out]) (hown.keep (G.drewN _ _)) (c : Int) (F i) rfl (by omega) hb (by omega) ?_)
                  intro a3 cap3 w7 ho3 hg3
                  have hf : flat (ps ++ [((c : Int), F i)]) = flat ps ++ [(c : Int), F i] := by rw [flat_append]; rfl
                  rw [← hf] at ho3
                  have RA : Hid _ := HAt.out.step R.out hb hlt3
                  clear hf
                  go_wp2
                  go_roundw
                  case rel => exact ⟨i + c, a3, cap3, L + 1, _, by omega, by go_num, rfl, by rw [List.length_append, HPS.out]; rfl, by omega, ho3, RA.out, (hgr.then (G.drewN _ _)).trans hg3⟩
                  case measure => simp [intOf]; omega
            · obtain rfl : i = N := by omega
              have hi3 : ¬ (i : Int) < (i : Int) := by omega
              have hcan := HAt.out.canon
              have hex := HAt.out.ex
              have hCI : CanIs (gl (flat ps)) (2 * L) 0 := by rw [← HPS.out]; exact canon_can hcan HAt.out.byte
              have hXF := exN_flat ps
              have hrdE := hown.rd
              rw [flat_length] at hrdE
              have hsum : sumc (gl (flat ps)) ps.length = (i : Int) := by rw [← exN_len hrdE.1, hXF, hex, lst_length]
              rw [hex] at hXF
              rw [HPS.out] at hXF hrdE hsum
              have r1 := hrd.keep hgr.g
              have hgg := hgw.trans hgr.g
              have hLL : 2 * L / 2 = L := by omega
              have HCI : Hid (CanIs (gl (flat ps)) (2 * L) 0) := hCI
              have HXF : Hid _ := hXF
              have HSU : Hid _ := hsum
              clear hcan hex hCI hXF hsum HAt HPS hown hgr hgw hrd
              generalize gl (flat ps) = E at *
              go_wp2_with fail
              refine (igives_ok a2 a' E F (2 * L) cap2 i cap' i _ hrdE r1 (by omega) (by omega) HCI.out (by rw [hLL, HSU.out]; omega) (by rw [hLL, HXF.out])).mono ?_
              rintro e w7 ⟨rfl, hg7⟩
              go_wp2_with fail
              refine (igives_bad a2 none E (2 * L) cap2 0 0 (i - 1) 4 _ (hrdE.keep hg7) (by omega) (by omega) (.inr ⟨HCI.out, by rw [hLL, HSU.out]; omega, rfl⟩)).mono ?_
              rintro e w8 ⟨rfl, hg8⟩
              go_wp2
              go_ret
              exact ⟨rfl, (hgg.trans hg7).trans hg8⟩

end Go.Proofs.Ymbrcn
