import Derived.Test.YmbrcmWant
import Derived.Test.YmbrcmOwn
set_option linter.unusedVariables false
namespace Go.Proofs.Ymbrcm
open Go.RowKit

set_option maxRecDepth 100000 in
set_option maxHeartbeats 800000 in
theorem ewant_calls (a : Option Addr) (f : Nat → Int) (n cap : Nat) (w : World) (hr : Rd w a n f) (hn : n ≤ 35184372088832) (hev : n % 2 = 0) (hz : ¬ HasZero f n) :
    Calls Ycmm.prog 17 #[.slice a n cap] w fun e w' => ∃ a' cap' qs, e = .returned (.slice a' (flat qs).length cap') ∧ Own w' a' cap' (flat qs) ∧ Canon qs ∧ ex qs = exN f (n / 2) ∧ Gr w w' none a' := by
  have HE : Hid (n % 2 = 0) := hev
  have HZ : Hid (¬ HasZero f n) := hz
  clear hz
  go_enter Ycmm.func17, Ycmm.ntmps17
  go_wp2
  go_loopw [3, 4, 6] (fun v p _ wr => ∃ (k : Nat) (a' : Option Addr) (cap' : Nat) (qs : List (Int × Int)), 2 * k ≤ n ∧ p = .int .i64 (2 * (k : Int)) ∧ v = .slice a' (flat qs).length cap' ∧ Own wr a' cap' (flat qs) ∧ WantAt f n k qs ∧ Gr w wr none a') (fun _ p _ _ => n - (intOf p).toNat)
  case atStart => exact ⟨0, none, 0, [], by omega, rfl, rfl, Own.nil _, want_nil f n, Gr.refl _ _⟩
  case round =>
    obtain ⟨k, a', cap', qs, hk, rfl, rfl, hown, hat, hgr⟩ := hrel
    by_cases hlt : 2 * k < n
    · have hr1 := hr.keep hgr.g
      obtain ⟨b, off, rfl, hcc⟩ := hr1.at hlt
      have c0 := hcc (2 * k + 1) (by have := HE.out; omega)
      obtain ⟨v, hv⟩ : ∃ v, f (2 * k + 1) = v := ⟨_, rfl⟩
      rw [hv] at c0
      have hvb : 0 ≤ v ∧ v ≤ 255 := by rw [← hv]; exact hr.1 _
      have HV : Hid (f (2 * k + 1) = v) := hv
      have HC : Hid (∀ i, i < n → wr.cell? ⟨b, off + i, none⟩ = some (.int .u8 (f i))) := hcc
      clear hv hcc
      go_wp2
      go_loop [4, 6] (fun p s => ∃ (k' t : Nat), 2 * k' ≤ n ∧ p = .int .i64 (2 * (k' : Int)) ∧ s = .int .i64 t ∧ Grp f k k' v t) (fun p _ => n - (intOf p).toNat)
      case atStart => exact ⟨k, 0, by omega, rfl, rfl, Grp.start _ _ _⟩
      case round =>
        clear c0
        obtain ⟨k', t, hk', rfl, rfl, hg⟩ := hrel
        have hg1 := hg.le
        have hg2 := hg.lo
        have hg3 := hg.hi
        have HG : Hid (Grp f k k' v t) := hg
        clear hg
        have hdone : 2 * k' = n ∨ (2 * k' < n ∧ f (2 * k' + 1) = v) ∨ (2 * k' < n ∧ ¬ f (2 * k' + 1) = v) := by
          by_cases h1 : 2 * k' = n
          · exact .inl h1
          · by_cases h2 : f (2 * k' + 1) = v
            · exact .inr (.inl ⟨by omega, h2⟩)
            · exact .inr (.inr ⟨by omega, h2⟩)
        rcases hdone with h1 | ⟨h1, h2⟩ | ⟨h1, h2⟩
        · have HW : Hid (WantAt f n k' (qs ++ emit t v)) := hat.step HG.out (by omega) hlt HV.out (.inl h1)
          have h1' : n ≤ 2 * k' := by omega
          have hkk : k < k' := by omega
          clear h1 hat HG
          go_wp2
          go_loopw [3, 6] (fun x s wr' => ∃ (t' : Nat) (a2 : Option Addr) (cap2 : Nat) (rs : List (Int × Int)), x = .slice a2 (flat rs).length cap2 ∧ s = .int .i64 t' ∧ 1 ≤ t' ∧ t' ≤ t ∧ Own wr' a2 cap2 (flat rs) ∧ rs ++ emit t' v = qs ++ emit t v ∧ Gr w wr' none a2) (fun _ s _ => (intOf s).toNat)
          case atStart => exact ⟨t, a', cap', qs, rfl, rfl, by omega, by omega, hown, rfl, hgr⟩
          case round =>
            clear hown hgr hr1
            obtain ⟨t', a2, cap2, rs, rfl, rfl, ht1, ht2, hown, hrs, hgr⟩ := hrel
            have hln : (flat rs).length ≤ n := by
              have h1 := HW.out.len
              rw [← hrs, List.length_append] at h1
              rw [flat_length]; omega
            have HR : Hid (rs ++ emit t' v = qs ++ emit t v) := hrs
            clear hrs
            by_cases hbig : 255 < t'
            · go_wp2_with (at_builtin; refine wpList_app2 (w := wr) rfl _ _ rfl a2 _ cap2 (flat rs) rfl rfl hown 255 v rfl (by omega) hvb (by omega) ?_)
              intro a3 cap3 w3 hown3 hgr3
              have hf : flat (rs ++ [(255, v)]) = flat rs ++ [255, v] := by rw [flat_append]; rfl
              rw [← hf] at hown3
              have hls : (flat rs).length + 2 = (flat (rs ++ [(255, v)])).length := by rw [hf]; simp
              have HLs : Hid _ := hls
              clear hf hls
              go_wp2
              go_roundw
              case rel => exact ⟨t' - 255, a3, cap3, rs ++ [(255, v)], by rw [HLs.out], by congr 1; omega, by omega, by omega, hown3, by rw [← HR.out, emit_step hbig]; simp, hgr.trans hgr3⟩
              case measure => simp [intOf]; omega
            · go_wp2_with (at_builtin; refine wpList_app2 (w := wr) rfl _ _ rfl a2 _ cap2 (flat rs) rfl rfl hown (t' : Int) v rfl (by omega) hvb (by omega) ?_)
              intro a3 cap3 w3 hown3 hgr3
              have he : rs ++ [((t' : Int), v)] = qs ++ emit t v := by rw [← HR.out, emit_small ht1 (by omega)]
              have hf : flat (qs ++ emit t v) = flat rs ++ [(t' : Int), v] := by rw [← he, flat_append]; rfl
              rw [← hf] at hown3
              have hls : (flat rs).length + 2 = (flat (qs ++ emit t v)).length := by rw [hf]; simp
              have HLs : Hid _ := hls
              clear hf hls he
              go_wp2
              go_roundw
              case rel => exact ⟨k', a3, cap3, qs ++ emit t v, by omega, rfl, by rw [HLs.out], hown3, HW.out, hgr.trans hgr3⟩
              case measure => simp [intOf]; omega
        · have c1 := HC.out (2 * k') h1
          have c2 := HC.out (2 * k' + 1) (by have := HE.out; omega)
          rw [h2] at c2
          have hb := hr.1 (2 * k')
          have hnz := hz_all HZ.out k' h1
          obtain ⟨c, hc⟩ : ∃ c : Nat, f (2 * k') = (c : Int) := ⟨(f (2 * k')).toNat, by omega⟩
          rw [hc] at c1 hb hnz
          have R : Hid (Grp f k (k' + 1) v (t + c)) := HG.out.step h2 hc (by omega) (by omega)
          clear hc h2
          go_wp2
          go_round
          case rel => first | exact ⟨k' + 1, t + c, by have := HE.out; omega, by go_num, by go_num, R.out⟩ | exact ⟨k' + 1, by have := HE.out; omega, by omega, t + c, by omega, R.out⟩
          case measure => simp [intOf]; omega
        · have hkk : k < k' := by
            rcases Nat.lt_or_ge k k' with h | h
            · exact h
            · obtain rfl : k = k' := by omega
              exact absurd HV.out h2
          have HW : Hid (WantAt f n k' (qs ++ emit t v)) := hat.step HG.out hkk hlt HV.out (.inr h2)
          have c2 := HC.out (2 * k' + 1) (by have := HE.out; omega)
          have d2 : (f (2 * k' + 1) == v) = false := by simpa using h2
          clear h2 hat HG
          go_wp2
          go_loopw [3, 6] (fun x s wr' => ∃ (t' : Nat) (a2 : Option Addr) (cap2 : Nat) (rs : List (Int × Int)), x = .slice a2 (flat rs).length cap2 ∧ s = .int .i64 t' ∧ 1 ≤ t' ∧ t' ≤ t ∧ Own wr' a2 cap2 (flat rs) ∧ rs ++ emit t' v = qs ++ emit t v ∧ Gr w wr' none a2) (fun _ s _ => (intOf s).toNat)
          case atStart => exact ⟨t, a', cap', qs, rfl, rfl, by omega, by omega, hown, rfl, hgr⟩
          case round =>
            clear hown hgr hr1
            obtain ⟨t', a2, cap2, rs, rfl, rfl, ht1, ht2, hown, hrs, hgr⟩ := hrel
            have hln : (flat rs).length ≤ n := by
              have h1 := HW.out.len
              rw [← hrs, List.length_append] at h1
              rw [flat_length]; omega
            have HR : Hid (rs ++ emit t' v = qs ++ emit t v) := hrs
            clear hrs
            by_cases hbig : 255 < t'
            · go_wp2_with (at_builtin; refine wpList_app2 (w := wr) rfl _ _ rfl a2 _ cap2 (flat rs) rfl rfl hown 255 v rfl (by omega) hvb (by omega) ?_)
              intro a3 cap3 w3 hown3 hgr3
              have hf : flat (rs ++ [(255, v)]) = flat rs ++ [255, v] := by rw [flat_append]; rfl
              rw [← hf] at hown3
              have hls : (flat rs).length + 2 = (flat (rs ++ [(255, v)])).length := by rw [hf]; simp
              have HLs : Hid _ := hls
              clear hf hls
              go_wp2
              go_roundw
              case rel => exact ⟨t' - 255, a3, cap3, rs ++ [(255, v)], by rw [HLs.out], by congr 1; omega, by omega, by omega, hown3, by rw [← HR.out, emit_step hbig]; simp, hgr.trans hgr3⟩
              case measure => simp [intOf]; omega
            · go_wp2_with (at_builtin; refine wpList_app2 (w := wr) rfl _ _ rfl a2 _ cap2 (flat rs) rfl rfl hown (t' : Int) v rfl (by omega) hvb (by omega) ?_)
              intro a3 cap3 w3 hown3 hgr3
              have he : rs ++ [((t' : Int), v)] = qs ++ emit t v := by rw [← HR.out, emit_small ht1 (by omega)]
              have hf : flat (qs ++ emit t v) = flat rs ++ [(t' : Int), v] := by rw [← he, flat_append]; rfl
              rw [← hf] at hown3
              have hls : (flat rs).length + 2 = (flat (qs ++ emit t v)).length := by rw [hf]; simp
              have HLs : Hid _ := hls
              clear hf hls he
              go_wp2
              go_roundw
              case rel => exact ⟨k', a3, cap3, qs ++ emit t v, by omega, rfl, by rw [HLs.out], hown3, HW.out, hgr.trans hgr3⟩
              case measure => simp [intOf]; omega
    · obtain rfl : n = 2 * k := by omega
      go_wp2
      go_ret
      rw [show 2 * k / 2 = k by omega]
      exact ⟨a', cap', qs, rfl, hown, hat.canon, hat.ex, hgr⟩

end Go.Proofs.Ymbrcm
