import Derived.Test.YmbrclWCExact
import Derived.Test.YmbrclOwn
import Derived.Test.YmbrclGl
set_option linter.unusedVariables false
namespace Go.Proofs.Ymbrcl
open Go.RowKit

theorem xor_one (v : Nat) (h : v < 256) : v ^^^ 1 < 256 ∧ v ^^^ 1 ≠ v := by
  revert v; decide +kernel

theorem bit_cases (v x : Int) (hv : 0 ≤ v ∧ v ≤ 255) (hx : 0 ≤ x ∧ x ≤ 255) :
    (bits .and .u8 x 1 = 0 ∧ bits .xor .u8 v 0 = v) ∨ (bits .and .u8 x 1 = 1 ∧ ∃ y, bits .xor .u8 v 1 = y ∧ (0 ≤ y ∧ y ≤ 255) ∧ y ≠ v) := by
  have e1 : bits .and .u8 x 1 = ((x.toNat % 2 : Nat) : Int) := by
    rw [u8_and x 1 hx.1 (by omega) (by omega) (by omega)]; simp
  rcases Nat.mod_two_eq_zero_or_one x.toNat with h | h
  · left
    refine ⟨by rw [e1, h]; rfl, ?_⟩
    rw [u8_xor v 0 hv.1 (by omega) (by omega) (by omega)]; simp; omega
  · right
    refine ⟨by rw [e1, h]; rfl, _, rfl, ?_⟩
    have := xor_one v.toNat (by omega)
    rw [u8_xor v 1 hv.1 (by omega) (by omega) (by omega)]
    simp
    omega

/-- what the second loop holds behind q signs -/
structure BAt (l : List Int) (v : Int) (len C q L : Nat) (ob : Bool) : Prop where
  size : l.length = len + C + q
  le : L ≤ q
  run : ∀ j, j < C + L → gl l (len + j) = v
  op : ob = true → L = q
  shut : ob = false → L < q ∧ gl l (len + C + L) ≠ v

theorem BAt.more {l : List Int} {v : Int} {len C q L : Nat} (h : BAt l v len C q L true) : BAt (l ++ [v]) v len C (q + 1) (L + 1) true := by
  have h1 := h.size
  have h2 := h.op rfl
  refine ⟨by simp; omega, by omega, fun j hj => ?_, fun _ => by omega, by simp⟩
  by_cases e : j = C + q
  · exact gl_snoc_eq (by omega)
  · rw [gl_snoc_lt (by omega)]; exact h.run j (by omega)

theorem BAt.close {l : List Int} {v y : Int} {len C q L : Nat} (h : BAt l v len C q L true) (hy : y ≠ v) : BAt (l ++ [y]) v len C (q + 1) L false := by
  have h1 := h.size
  have h2 := h.op rfl
  exact ⟨by simp; omega, by omega, fun j hj => by rw [gl_snoc_lt (by omega)]; exact h.run j hj, by simp, fun _ => ⟨by omega, by rw [gl_snoc_eq (by omega)]; exact hy⟩⟩

theorem BAt.on {l : List Int} {v y : Int} {len C q L : Nat} (h : BAt l v len C q L false) : BAt (l ++ [y]) v len C (q + 1) L false := by
  have h1 := h.size
  have h2 := h.shut rfl
  exact ⟨by simp; omega, by omega, fun j hj => by rw [gl_snoc_lt (by omega)]; exact h.run j hj, by simp, fun _ => ⟨by omega, by rw [gl_snoc_lt (by omega)]; exact h2.2⟩⟩

/-- the run that the law tells of -/
theorem BAt.full {l : List Int} {v : Int} {len C O L lt : Nat} {ob : Bool} (h : BAt l v len C lt L ob) (hO : O < C) : FullRun (gl l) (len + C + lt) (len + O) (C - O + L) := by
  have e : gl l (len + O) = v := h.run O (by omega)
  have hL := h.le
  refine ⟨by omega, by omega, fun j hj => ?_, ?_⟩
  · rw [e, show len + O + j = len + (O + j) by omega]; exact h.run _ (by omega)
  · cases ob with
    | true => left; have := h.op rfl; omega
    | false => right; rw [e, show len + O + (C - O + L) = len + C + L by omega]; exact (h.shut rfl).2

set_option maxRecDepth 100000 in
set_option maxHeartbeats 800000 in
theorem cbuilt_calls (a : Option Addr) (f : Nat → Int) (len cap : Nat) (v c o : Int) (at' : Option Addr) (ft : Nat → Int) (lt ct : Nat) (w : World) (hr : Rd w a len f) (hnil : a = none → cap = 0) (hrt : Rd w at' lt ft)
    (hv : 0 ≤ v ∧ v ≤ 255) (hc : 0 ≤ c ∧ c ≤ 65535) (ho : 0 ≤ o ∧ o ≤ 65535) :
    Calls Yclm.prog 10 #[.slice a len cap, .int .u8 v, .int .u16 c, .int .u16 o, .slice at' lt ct] w fun e w' => e = .returned (.bool true) ∧ G w w' := by
  by_cases h0 : 1024 < len
  · have e0 : (1024 : Int) < len := by omega
    go_enter Yclm.func10, Yclm.ntmps10
    go_wp2
    go_ret
    exact ⟨rfl, G.refl _⟩
  by_cases h1 : 1024 < lt
  · have e0 : decide ((1024 : Int) < len) = false := by simp; omega
    have e1 : (1024 : Int) < lt := by omega
    go_enter Yclm.func10, Yclm.ntmps10
    go_wp2
    go_ret
    exact ⟨rfl, G.refl _⟩
  have e0 : decide ((1024 : Int) < len) = false := by simp; omega
  have e1 : decide ((1024 : Int) < lt) = false := by simp; omega
  obtain ⟨C, hC⟩ : ∃ C : Nat, 1 + c * 85 % 600 = (C : Int) := ⟨(1 + c * 85 % 600).toNat, by omega⟩
  have hC1 : 1 ≤ C ∧ C ≤ 600 := by omega
  have m1 : o % (C : Int) < C := Int.emod_lt_of_pos _ (by omega)
  obtain ⟨O, hO⟩ := Int.eq_ofNat_of_zero_le (Int.emod_nonneg o (show (C : Int) ≠ 0 by omega))
  rw [hO] at m1
  go_enter Yclm.func10, Yclm.ntmps10
  go_wp2_with (at_make; refine wpList_mk0 rfl _ _ rfl _ _ _ (len + C + lt) rfl rfl (by omega) (by omega) ?_)
  intro a1 w1 hown1 hgr1
  go_wp2_with (at_builtin; refine wpList_app_rd rfl _ _ rfl a1 _ _ [] rfl rfl hown1 a len cap f rfl hnil (hr.keep hgr1.g) (by omega) ?_)
  intro a2 cap2 w2 hown2 hgr2
  go_wp2
  have st1 : len + 0 = len := rfl
  go_loopw [13, 14] (fun s i wr => ∃ (k : Nat) (a' : Option Addr) (cap' : Nat) (l : List Int), k ≤ C ∧ i = .int .i64 k ∧ s = .slice a' (len + k) cap' ∧ l.length = len + k ∧ (∀ j, j < k → gl l (len + j) = v) ∧ Own wr a' cap' l ∧ Gr w wr none a') (fun _ i _ => C - (intOf i).toNat)
  case atStart => exact ⟨0, a2, cap2, _, by omega, rfl, rfl, by simp, by omega, hown2, hgr1.trans hgr2⟩
  case round =>
    clear hown1 hgr1 hown2 hgr2 st1
    obtain ⟨k, a', cap', l, hk, rfl, rfl, hl, hv1, hown, hgr⟩ := hrel
    have HL : Hid (l.length = len + k) := hl
    have HV : Hid (∀ j, j < k → gl l (len + j) = v) := hv1
    clear hl hv1
    by_cases hlt : k < C
    · go_wp2_with (at_builtin; refine wpList_app1 (w := wr) rfl _ _ rfl a' _ cap' l rfl HL.out.symm hown v rfl hv (by omega) ?_)
      intro a3 cap3 w3 hown3 hgr3
      go_wp2
      go_roundw
      case rel =>
        refine ⟨k + 1, a3, cap3, l ++ [v], by omega, by go_num, rfl, by have := HL.out; simp; omega, fun j hj => ?_, hown3, hgr.trans hgr3⟩
        have := HL.out
        by_cases e : j = k
        · exact gl_snoc_eq (by omega)
        · rw [gl_snoc_lt (by omega)]; exact HV.out j (by omega)
      case measure => simp [intOf]; omega
    · obtain rfl : k = C := by omega
      go_wp2
      go_loopw [13, 15, 16, 17] (fun s ld op i wr => ∃ (q L : Nat) (ob : Bool) (a' : Option Addr) (cap' : Nat) (l : List Int), q ≤ lt ∧ i = .int .i64 q ∧ ld = .int .i64 L ∧ op = .bool ob ∧ s = .slice a' (len + k + q) cap' ∧
          BAt l v len k q L ob ∧ Own wr a' cap' l ∧ Gr w wr none a') (fun _ _ _ i _ => lt - (intOf i).toNat)
      case atStart => exact ⟨0, 0, true, a', cap', l, by omega, rfl, rfl, rfl, rfl, ⟨HL.out, by omega, HV.out, fun _ => rfl, by simp⟩, hown, hgr⟩
      case round =>
        clear hown hgr HL HV
        obtain ⟨q, L, ob, a', cap', l, hq, rfl, rfl, rfl, rfl, hat, hown, hgr⟩ := hrel
        have HL : Hid (len + k + q = l.length) := hat.size.symm
        have hLq := hat.le
        by_cases hlt2 : q < lt
        · obtain ⟨b, off, rfl, hcc⟩ := hrt.at hlt2
          clear hcc
          have c1 := (hrt.keep hgr.g).cell hlt2
          have hb := hrt.1 q
          rcases bit_cases v (ft q) hv hb with ⟨b1, b2⟩ | ⟨b1, y, b2, b3, b4⟩
          · cases ob with
            | true =>
              go_wp2_with (at_builtin; refine wpList_app1 (w := wr) rfl _ _ rfl a' _ cap' l rfl HL.out hown v rfl hv (by omega) ?_)
              intro a3 cap3 w3 hown3 hgr3
              go_wp2
              go_roundw
              case rel => exact ⟨q + 1, L + 1, true, a3, cap3, l ++ [v], by omega, by go_num, by go_num, rfl, rfl, hat.more, hown3, hgr.trans hgr3⟩
              case measure => simp [intOf]; omega
            | false =>
              go_wp2_with (at_builtin; refine wpList_app1 (w := wr) rfl _ _ rfl a' _ cap' l rfl HL.out hown v rfl hv (by omega) ?_)
              intro a3 cap3 w3 hown3 hgr3
              go_wp2
              go_roundw
              case rel => exact ⟨q + 1, L, false, a3, cap3, l ++ [v], by omega, by go_num, by go_num, rfl, rfl, hat.on, hown3, hgr.trans hgr3⟩
              case measure => simp [intOf]; omega
          · have B4 : Hid (y ≠ v) := b4
            clear b4
            go_wp2_with (at_builtin; refine wpList_app1 (w := wr) rfl _ _ rfl a' _ cap' l rfl HL.out hown y rfl b3 (by omega) ?_)
            intro a3 cap3 w3 hown3 hgr3
            go_wp2
            go_roundw
            case rel =>
              refine ⟨q + 1, L, false, a3, cap3, l ++ [y], by omega, by go_num, by go_num, rfl, rfl, ?_, hown3, hgr.trans hgr3⟩
              cases ob with
              | true => exact hat.close B4.out
              | false => exact hat.on
            case measure => simp [intOf]; omega
        · obtain rfl : q = lt := by omega
          go_wp2_with fail
          all_goals
            refine (runAt_calls _ (gl l) (len + k + q) cap' (len + O) _ (by rw [HL.out]; exact hown.rd) (by omega) (by omega)).mono ?_
            rintro e w4 ⟨n, rfl, hn, hg⟩
            have hcut := full_cut (hat.full (O := O) (by omega)) hn
            have HC : Hid (n = if 255 < k - O + L then 255 else k - O + L) := hcut
            clear hcut hn
            go_wp2
            go_ret
            refine ⟨?_, hgr.g.trans hg⟩
            have := HC.out
            split at this <;> simp <;> omega

end Go.Proofs.Ymbrcl
