import Derived.Test.YmbrclABuild
import Derived.Test.YmbrclEnc
import Derived.Test.YmbrclExpand
import Derived.Test.YmbrclSlice
import Derived.Test.YmbrclEq
set_option linter.unusedVariables false
namespace Go.Proofs.Ymbrcl
open Go.RowKit

set_option maxRecDepth 100000 in
set_option maxHeartbeats 1600000 in
theorem agreedy_calls (a : Option Addr) (F : Nat → Int) (N cap : Nat) (w : World) (hrd : Rd w a N F) (hN : N ≤ 70368744177664) :
    Calls Yclm.prog 19 #[.slice a N cap] w fun e w' => ∃ a' cap' qs, e = .returned (.slice a' (2 * qs.length) cap') ∧ qs.length ≤ N ∧ Own w' a' cap' (flat qs) ∧ Canon qs ∧ ex qs = lst F N ∧ Gr w w' none a' := by
  go_enter Yclm.func19, Yclm.ntmps19
  go_wp2
  go_loopw [3, 4, 5] (fun v i _ wr => ∃ (k : Nat) (a2 : Option Addr) (cap2 L : Nat) (ps : List (Int × Int)), k ≤ N ∧ i = .int .i64 k ∧ v = .slice a2 (2 * L) cap2 ∧ ps.length = L ∧ L ≤ k ∧ Own wr a2 cap2 (flat ps) ∧ EncAt F N k ps ∧ Gr w wr none a2) (fun _ i _ _ => N - (intOf i).toNat)
  case atStart => exact ⟨0, none, 0, 0, [], by omega, rfl, rfl, rfl, by omega, Own.nil _, ⟨trivial, rfl, by simp [flat], by simp, by simp⟩, Gr.refl _ _⟩
  case round =>
    obtain ⟨i, a2, cap2, L, ps, hi, rfl, rfl, hps, hLi, hown, hat, hgr⟩ := hrel
    have HPS : Hid (ps.length = L) := hps
    have HAt : Hid (EncAt F N i ps) := hat
    clear hps hat
    by_cases hlt3 : i < N
    · have hi3 : (i : Int) < (N : Int) := by omega
      have r1 := hrd.keep hgr.g
      obtain ⟨b, off, rfl, hcc⟩ := r1.at hlt3
      have ci := hcc i hlt3
      have HC : Hid (∀ j, j < N → wr.cell? ⟨b, off + j, none⟩ = some (.int .u8 (F j))) := hcc
      clear hcc
      have hb := hrd.1 i
      generalize wr = w6 at *
      go_wp2
      go_loopw [5] (fun j wr => ∃ (c : Nat), j = .int .i64 (c : Int) ∧ 1 ≤ c ∧ c ≤ 255 ∧ i + c ≤ N ∧ (∀ t, t < c → F (i + t) = F i) ∧ ∃ q, wr = w6.drewN q) (fun j _ => N - (intOf j).toNat)
      case atStart => exact ⟨1, rfl, by omega, by omega, by omega, fun j hj => by rw [show j = 0 by omega]; rfl, 0, rfl⟩
      case round =>
        obtain ⟨c, rfl, h1, h2, h3, h4, d, rfl⟩ := hrel
        have H4 : Hid (∀ t, t < c → F (i + t) = F i) := h4
        clear h4
        by_cases hC : c < 255
        · have dC : (c : Int) < 255 := by omega
          by_cases hA : i + c < N
          · have dA : (i : Int) + (c : Int) < (N : Int) := by omega
            have c1 := HC.out (i + c) hA
            by_cases hB : F (i + c) = F i
            · have dB : (F (i + c) == F i) = true := by simpa using hB
              have HB : Hid _ := hB
              clear hB
              go_wp2
              go_quiet (fail)
              go_wp2
              go_roundw
              case rel =>
                refine ⟨c + 1, by go_num, by omega, by omega, by omega, fun t ht => ?_, _, rfl⟩
                by_cases e : t = c
                · subst e; exact HB.out
                · exact H4.out t (by omega)
              case measure => simp [intOf]; omega
            · have dB : (F (i + c) == F i) = false := by simpa using hB
              have HB : Hid (F (i + c) ≠ F i) := hB
              clear hB
              have R : Hid (RunIs F N i c) := ⟨h1, h2, h3, H4.out, .inr (.inr HB.out)⟩
              go_wp2
              go_quiet (fail)
              go_wp2_with (at_builtin; refine wpList_app2 (w := w6.drewN _) rfl _ _ rfl a2 _ cap2 (flat ps) rfl (by rw [flat_length, HPS.out]) (hown.keep (G.drewN _ _)) (c : Int) (F i) rfl (by omega) hb (by omega) ?_)
              intro a3 cap3 w7 ho3 hg3
              have hf : flat (ps ++ [((c : Int), F i)]) = flat ps ++ [(c : Int), F i] := by rw [flat_append]; rfl
              rw [← hf] at ho3
              have RA : Hid _ := HAt.out.step R.out hb hlt3
              clear hf
              go_wp2
              go_roundw
              case rel => exact ⟨i + c, a3, cap3, L + 1, _, by omega, by go_num, rfl, by rw [List.length_append, HPS.out]; rfl, by omega, ho3, RA.out, (hgr.then (G.drewN _ _)).trans hg3⟩
              case measure => simp [intOf]; omega
          · have dA : decide ((i : Int) + (c : Int) < (N : Int)) = false := by simp; omega
            have R : Hid (RunIs F N i c) := ⟨h1, h2, h3, H4.out, .inr (.inl (by omega))⟩
            go_wp2
            go_quiet (fail)
            go_wp2_with (at_builtin; refine wpList_app2 (w := w6.drewN _) rfl _ _ rfl a2 _ cap2 (flat ps) rfl (by rw [flat_length, HPS.out]) (hown.keep (G.drewN _ _)) (c : Int) (F i) rfl (by omega) hb (by omega) ?_)
            intro a3 cap3 w7 ho3 hg3
            have hf : flat (ps ++ [((c : Int), F i)]) = flat ps ++ [(c : Int), F i] := by rw [flat_append]; rfl
            rw [← hf] at ho3
            have RA : Hid _ := HAt.out.step R.out hb hlt3
            clear hf
            go_wp2
            go_roundw
            case rel => exact ⟨i + c, a3, cap3, L + 1, _, by omega, by go_num, rfl, by rw [List.length_append, HPS.out]; rfl, by omega, ho3, RA.out, (hgr.then (G.drewN _ _)).trans hg3⟩
            case measure => simp [intOf]; omega
        · have dC : decide ((c : Int) < 255) = false := by simp; omega
          have R : Hid (RunIs F N i c) := ⟨h1, h2, h3, H4.out, .inl (by omega)⟩
          go_wp2
          go_quiet (fail)
          go_wp2_with (at_builtin; refine wpList_app2 (w := w6.drewN _) rfl _ _ rfl a2 _ cap2 (flat ps) rfl (by rw [flat_length, HPS.out]) (hown.keep (G.drewN _ _)) (c : Int) (F i) rfl (by omega) hb (by omega) ?_)
          intro a3 cap3 w7 ho3 hg3
          have hf : flat (ps ++ [((c : Int), F i)]) = flat ps ++ [(c : Int), F i] := by rw [flat_append]; rfl
          rw [← hf] at ho3
          have RA : Hid _ := HAt.out.step R.out hb hlt3
          clear hf
          go_wp2
          go_roundw
          case rel => exact ⟨i + c, a3, cap3, L + 1, _, by omega, by go_num, rfl, by rw [List.length_append, HPS.out]; rfl, by omega, ho3, RA.out, (hgr.then (G.drewN _ _)).trans hg3⟩
          case measure => simp [intOf]; omega
    · obtain rfl : i = N := by omega
      have hi3 : ¬ (i : Int) < (i : Int) := by omega
      go_wp2
      go_ret
      exact ⟨a2, cap2, ps, by simp [HPS.out], by rw [HPS.out]; exact hLi, hown, HAt.out.canon, HAt.out.ex, hgr⟩

theorem Rd.sub {w : World} {a : Option Addr} {m lo hi : Nat} {f : Nat → Int} (h : Rd w a m f) (h2 : hi ≤ m) : Rd w (Option.map (fun x => x.add lo) a) (hi - lo) (fun i => f (lo + i)) := by
  refine ⟨fun i => h.1 _, ?_⟩
  by_cases h0 : hi - lo = 0
  · exact .inl h0
  · obtain ⟨b, off, rfl, hc⟩ := h.at (show lo < m by omega)
    refine .inr ⟨b, off + lo, by simp [Addr.add_lit], fun i hi => ?_⟩
    have := hc (lo + i) (by omega)
    rw [← Nat.add_assoc] at this; exact this

theorem lst_window {T : List Int} {lo m : Nat} (h : lo + m ≤ T.length) : lst (fun i => gl T (lo + i)) m = (T.drop lo).take m := by
  apply List.ext_getElem
  · simp [lst]; omega
  · intro i h1 h2
    have : lo + i < T.length := by simp [lst] at h1; omega
    simp [lst, gl, List.getD_eq_getElem?_getD, this]

set_option maxRecDepth 100000 in
set_option maxHeartbeats 1600000 in
theorem aexact_calls (a : Option Addr) (c v : Nat → Int) (n cap : Nat) (mask x y : Int) (fe : Bool) (w : World) (bc : ∀ i, 0 ≤ c i ∧ c i ≤ 255) (bv : ∀ i, 0 ≤ v i ∧ v i ≤ 255)
    (h0 : Fld w a n 2 0 (fun i => .int .u8 (c i))) (h1 : Fld w a n 2 1 (fun i => .int .u8 (v i))) (hm : 0 ≤ mask ∧ mask ≤ 255) (hx : 0 ≤ x ∧ x ≤ 18446744073709551615) (hy : 0 ≤ y ∧ y ≤ 18446744073709551615) :
    Calls Yclm.prog 3 #[.slice a n cap, .int .u8 mask, .int .u64 x, .int .u64 y, .bool fe] w fun e w' => e = .returned (.bool true) ∧ G w w' := by
  by_cases hbig : 512 < n
  · have e0 : (512 : Int) < n := by omega
    go_enter Yclm.func3, Yclm.ntmps3
    go_wp2
    go_ret
    exact ⟨rfl, G.refl _⟩
  have e0 : ¬ (512 : Int) < n := by omega
  have hz : ¬ HasZero (gl (flat (bl (aF c v mask) n))) (2 * n) := bl_zeroless fun i => (ac_bounds (bc i)).1
  have z1 : Hid (¬ HasZero (gl (flat (bl (aF c v mask) n))) (2 * n)) := hz
  clear hz
  generalize hFL : flat (bl (aF c v mask) n) = FL at z1
  have HFLn : Hid (FL.length = 2 * n) := by rw [Hid, ← hFL]; exact bl_flat_length _ _
  have hLL : 2 * n / 2 = n := by omega
  go_enter Yclm.func3, Yclm.ntmps3
  go_wp2_with fail
  refine (abuild_calls a c v n cap mask _ (by omega) bc bv h0 h1 hm).mono ?_
  rintro e w1 ⟨a1, p1, rfl, ho1, hg1⟩
  rw [hFL] at ho1
  have r1 := ho1.rd
  rw [HFLn.out] at r1
  go_wp2_with fail
  refine (aplain_calls a1 (gl FL) (2 * n) p1 _ r1 (by omega)).mono ?_
  rintro e w2 ⟨a2, p2, rfl, ho2, hg2⟩
  rw [hLL] at ho2 ⊢
  have hle2 := exN_length_le r1.1 n
  have r1' := r1.keep hg2.g
  have r2 := ho2.rd
  have hcap := ho2.len
  have gA := hg1.g.trans hg2.g
  clear r1 ho1
  generalize hTT : exN (gl FL) n = T at *
  obtain ⟨lo, hlo⟩ : ∃ lo : Nat, x % ((T.length : Int) + 1) = (lo : Int) := ⟨(x % ((T.length : Int) + 1)).toNat, by have := Int.emod_nonneg x (show (T.length : Int) + 1 ≠ 0 by omega); omega⟩
  have hlo1 : lo ≤ T.length := by have := Int.emod_lt_of_pos x (show 0 < (T.length : Int) + 1 by omega); omega
  obtain ⟨k, hk⟩ : ∃ k : Nat, y % ((T.length : Int) - (lo : Int) + 1) = (k : Int) := ⟨(y % ((T.length : Int) - (lo : Int) + 1)).toNat, by have := Int.emod_nonneg y (show (T.length : Int) - (lo : Int) + 1 ≠ 0 by omega); omega⟩
  have hk1 : k ≤ T.length - lo := by have := Int.emod_lt_of_pos y (show 0 < (T.length : Int) - (lo : Int) + 1 by omega); omega
  obtain ⟨hi, hhi⟩ : ∃ hi : Nat, (if fe then (T.length : Int) - k else (lo : Int) + k) = (hi : Int) := by
    cases fe
    · exact ⟨lo + k, by simp⟩
    · exact ⟨T.length - k, by simp; omega⟩
  have hhi1 : lo ≤ hi ∧ hi ≤ T.length := by cases fe <;> simp at hhi <;> omega
  cases fe with
  | false =>
    simp only [Bool.false_eq_true, if_false] at hhi
    go_wp2_with fail
    refine (slice_in a1 (gl FL) (2 * n) p1 lo hi _ r1' (by omega) (by omega) z1.out hhi1.1 (by omega)).mono ?_
    rw [hLL, hTT]
    rintro e w3 (⟨hbad, _⟩ | ⟨_, a3, L, p3, qs, rfl, ho3, hl3, hL3, hcq, hex, hg3⟩)
    · omega
    have gB := gA.trans hg3.g
    go_wp2_with fail
    refine (abuild_calls a c v n cap mask _ (by omega) bc bv (h0.keep gB) (h1.keep gB) hm).mono ?_
    rintro e w4 ⟨a4, p4, rfl, ho4, hg4⟩
    rw [hFL] at ho4
    have r4 := ho4.rd
    rw [HFLn.out] at r4
    have r5 := (r1'.keep hg3.g).keep hg4.g
    go_wp2_with fail
    refine (aeq_calls a1 a4 _ _ _ _ p1 p4 _ r5 r4 (by omega)).mono ?_
    rintro e w5 ⟨r, rfl, hrr, hg5⟩
    obtain rfl := hrr.2 rfl
    clear hrr
    have r6 := ((r2.keep hg3.g).keep hg4.g).keep hg5
    have r7 := (((ho3.keep hg4.g).keep hg5)).rd
    rw [flat_length, hl3] at r7
    clear r1' r2 ho2 ho3 ho4 r4 r5
    go_wp2_with fail
    · refine (agreedy_calls _ (fun i => gl T (lo + i)) (hi - lo) _ _ ⟨fun i => r6.1 _, .inl (by omega)⟩ (by omega)).mono ?_
      rintro e w6 ⟨a6, p6, rs, rfl, hr6, ho6, hc6, he6, hg6⟩
      rw [lst_window (by omega)] at he6
      obtain rfl : qs = rs := canon_unique hcq hc6 (hex.trans he6.symm)
      have r8 := ho6.rd
      rw [flat_length, hl3] at r8
      rw [hl3]
      have r9 := r7.keep hg6.g
      go_wp2_with fail
      refine (aeq_calls a3 a6 _ _ _ _ p3 p6 _ r9 r8 (by omega)).mono ?_
      rintro e w7 ⟨r, rfl, hrr, hg7⟩
      obtain rfl := hrr.2 rfl
      clear hrr
      go_wp2
      go_ret
      exact ⟨rfl, (((gB.trans hg4.g).trans hg5).trans hg6.g).trans hg7⟩
    · refine (agreedy_calls _ (fun i => gl T (lo + i)) (hi - lo) _ _ (r6.sub hhi1.2) (by omega)).mono ?_
      rintro e w6 ⟨a6, p6, rs, rfl, hr6, ho6, hc6, he6, hg6⟩
      rw [lst_window (by omega)] at he6
      obtain rfl : qs = rs := canon_unique hcq hc6 (hex.trans he6.symm)
      have r8 := ho6.rd
      rw [flat_length, hl3] at r8
      rw [hl3]
      have r9 := r7.keep hg6.g
      go_wp2_with fail
      refine (aeq_calls a3 a6 _ _ _ _ p3 p6 _ r9 r8 (by omega)).mono ?_
      rintro e w7 ⟨r, rfl, hrr, hg7⟩
      obtain rfl := hrr.2 rfl
      clear hrr
      go_wp2
      go_ret
      exact ⟨rfl, (((gB.trans hg4.g).trans hg5).trans hg6.g).trans hg7⟩
  | true =>
    simp only [if_true] at hhi
    go_wp2_with fail
    refine (slice_in a1 (gl FL) (2 * n) p1 lo hi _ r1' (by omega) (by omega) z1.out hhi1.1 (by omega)).mono ?_
    rw [hLL, hTT]
    rintro e w3 (⟨hbad, _⟩ | ⟨_, a3, L, p3, qs, rfl, ho3, hl3, hL3, hcq, hex, hg3⟩)
    · omega
    have gB := gA.trans hg3.g
    go_wp2_with fail
    refine (abuild_calls a c v n cap mask _ (by omega) bc bv (h0.keep gB) (h1.keep gB) hm).mono ?_
    rintro e w4 ⟨a4, p4, rfl, ho4, hg4⟩
    rw [hFL] at ho4
    have r4 := ho4.rd
    rw [HFLn.out] at r4
    have r5 := (r1'.keep hg3.g).keep hg4.g
    go_wp2_with fail
    refine (aeq_calls a1 a4 _ _ _ _ p1 p4 _ r5 r4 (by omega)).mono ?_
    rintro e w5 ⟨r, rfl, hrr, hg5⟩
    obtain rfl := hrr.2 rfl
    clear hrr
    have r6 := ((r2.keep hg3.g).keep hg4.g).keep hg5
    have r7 := (((ho3.keep hg4.g).keep hg5)).rd
    rw [flat_length, hl3] at r7
    clear r1' r2 ho2 ho3 ho4 r4 r5
    go_wp2_with fail
    · refine (agreedy_calls _ (fun i => gl T (lo + i)) (hi - lo) _ _ ⟨fun i => r6.1 _, .inl (by omega)⟩ (by omega)).mono ?_
      rintro e w6 ⟨a6, p6, rs, rfl, hr6, ho6, hc6, he6, hg6⟩
      rw [lst_window (by omega)] at he6
      obtain rfl : qs = rs := canon_unique hcq hc6 (hex.trans he6.symm)
      have r8 := ho6.rd
      rw [flat_length, hl3] at r8
      rw [hl3]
      have r9 := r7.keep hg6.g
      go_wp2_with fail
      refine (aeq_calls a3 a6 _ _ _ _ p3 p6 _ r9 r8 (by omega)).mono ?_
      rintro e w7 ⟨r, rfl, hrr, hg7⟩
      obtain rfl := hrr.2 rfl
      clear hrr
      go_wp2
      go_ret
      exact ⟨rfl, (((gB.trans hg4.g).trans hg5).trans hg6.g).trans hg7⟩
    · refine (agreedy_calls _ (fun i => gl T (lo + i)) (hi - lo) _ _ (r6.sub hhi1.2) (by omega)).mono ?_
      rintro e w6 ⟨a6, p6, rs, rfl, hr6, ho6, hc6, he6, hg6⟩
      rw [lst_window (by omega)] at he6
      obtain rfl : qs = rs := canon_unique hcq hc6 (hex.trans he6.symm)
      have r8 := ho6.rd
      rw [flat_length, hl3] at r8
      rw [hl3]
      have r9 := r7.keep hg6.g
      go_wp2_with fail
      refine (aeq_calls a3 a6 _ _ _ _ p3 p6 _ r9 r8 (by omega)).mono ?_
      rintro e w7 ⟨r, rfl, hrr, hg7⟩
      obtain rfl := hrr.2 rfl
      clear hrr
      go_wp2
      go_ret
      exact ⟨rfl, (((gB.trans hg4.g).trans hg5).trans hg6.g).trans hg7⟩

end Go.Proofs.Ymbrcl
