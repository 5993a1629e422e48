import Derived.Test.YmbrcnWant
import Derived.Test.YmbrcnOwn
set_option linter.unusedVariables false
namespace Go.Proofs.Ymbrcn
open Go.RowKit

/-- two rows of pairs laid end to end -/
theorem pairs_join {f g : Nat → Int} {n m : Nat} (hn : n % 2 = 0) (hm : m % 2 = 0) : pairsOf (gl (lst f n ++ lst g m)) ((n + m) / 2) = pairsOf f (n / 2) ++ pairsOf g (m / 2) := by
  apply flat_inj
  rw [flat_pairsOf, flat_append, flat_pairsOf, flat_pairsOf, show 2 * ((n + m) / 2) = n + m by omega, show 2 * (n / 2) = n by omega, show 2 * (m / 2) = m by omega]
  have := lst_gl (lst f n ++ lst g m)
  rwa [List.length_append, lst_length, lst_length] at this

theorem join_ex {f g : Nat → Int} {n m : Nat} (hn : n % 2 = 0) (hm : m % 2 = 0) : exN (gl (lst f n ++ lst g m)) ((n + m) / 2) = exN f (n / 2) ++ exN g (m / 2) := by
  unfold exN; rw [pairs_join hn hm, ex_append]

theorem join_zero {f g : Nat → Int} {n m : Nat} (hn : n % 2 = 0) (h1 : ¬ HasZero f n) (h2 : ¬ HasZero g m) : ¬ HasZero (gl (lst f n ++ lst g m)) (n + m) := by
  rintro ⟨j, j1, j2⟩
  by_cases h : 2 * j < n
  · rw [gl_app_lt (by rw [lst_length]; exact h), gl_lst h] at j2
    exact h1 ⟨j, h, j2⟩
  · obtain ⟨d, hd⟩ : ∃ d, 2 * j = (lst f n).length + d := ⟨2 * j - n, by rw [lst_length]; omega⟩
    rw [hd, gl_app_ge] at j2
    rw [lst_length] at hd
    rw [gl_lst (by omega)] at j2
    exact h2 ⟨d / 2, by omega, by rw [show 2 * (d / 2) = d by omega]; exact j2⟩

set_option maxRecDepth 100000 in
set_option maxHeartbeats 800000 in
theorem jmodel_calls (a b : Option Addr) (f g : Nat → Int) (n m ca cb : Nat) (w : World) (hr : Rd w a n f) (hq : Rd w b m g) (na : a = none → ca = 0) (nb : b = none → cb = 0) (hnm : n + m ≤ 35184372088832)
    (hn : n % 2 = 0) (hm : m % 2 = 0) (hzf : ¬ HasZero f n) (hzg : ¬ HasZero g m) :
    Calls Ycnm.prog 18 #[.slice a n ca, .slice b m cb] w fun e w' => ∃ a' cap' qs, e = .returned (.slice a' (flat qs).length cap') ∧ Own w' a' cap' (flat qs) ∧ Canon qs ∧ ex qs = exN f (n / 2) ++ exN g (m / 2) ∧ Gr w w' none a' := by
  have hz := join_zero hn hzf hzg
  have hx := join_ex (f := f) (g := g) hn hm
  go_enter Ycnm.func18, Ycnm.ntmps18
  go_wp2_with (at_builtin; refine wpList_app_rd rfl _ _ rfl none _ 0 [] rfl rfl (Own.nil w) a n ca f rfl na hr (by omega) ?_)
  intro a1 cap1 w1 hown1 hgr1
  go_wp2_with (at_builtin; refine wpList_app_rd rfl _ _ rfl a1 _ cap1 _ rfl (by simp) hown1 b m cb g rfl nb (hq.keep hgr1.g) (by omega) ?_)
  intro aa capa w2 hown2 hgr2
  have hr2 : Rd w2 aa (n + m) (gl (lst f n ++ lst g m)) := by
    have h := hown2.rd
    simp only [List.length_append, List.length_map, List.length_range] at h
    exact h
  have hg2 := (hgr1.trans hgr2).g
  obtain ⟨N, hN⟩ : ∃ N, n + m = N := ⟨_, rfl⟩
  have hev : N % 2 = 0 := by omega
  have FIN : Hid (∀ (w' : World) (a' : Option Addr) (cap' : Nat) (qs : List (Int × Int)), Own w' a' cap' (flat qs) → Canon qs → ex qs = exN f (n / 2) ++ exN g (m / 2) → Gr w2 w' none a' → ∃ a'' cap'' qs', Ending.returned (.slice a' (flat qs).length cap') = .returned (.slice a'' (flat qs').length cap'') ∧ Own w' a'' cap'' (flat qs') ∧ Canon qs' ∧ ex qs' = exN f (n / 2) ++ exN g (m / 2) ∧ Gr w w' none a'') :=
    fun w' a' cap' qs h1 h2 h3 h4 => ⟨a', cap', qs, rfl, h1, h2, h3, hg2.then h4⟩
  rw [hN] at hr2 hz hx ⊢
  generalize hF : gl (lst f n ++ lst g m) = F at *
  have HE : Hid (N % 2 = 0) := hev
  have HZ : Hid (¬ HasZero F N) := hz
  have HX : Hid (exN F (N / 2) = exN f (n / 2) ++ exN g (m / 2)) := hx
  have hnN : N ≤ 35184372088832 := by omega
  clear hz hx hev hF hown1 hown2 hgr1 hgr2 hg2 hr hq hzf hzg hn hm na nb hN hnm
  go_wp2
  go_loopw [6, 7, 9] (fun v p _ wr => ∃ (k : Nat) (a' : Option Addr) (cap' : Nat) (qs : List (Int × Int)), 2 * k ≤ N ∧ p = .int .i64 (2 * (k : Int)) ∧ v = .slice a' (flat qs).length cap' ∧ Own wr a' cap' (flat qs) ∧ WantAt F N k qs ∧ Gr w2 wr none a') (fun _ p _ _ => N - (intOf p).toNat)
  case atStart => exact ⟨0, none, 0, [], by omega, rfl, rfl, Own.nil _, want_nil F N, Gr.refl _ _⟩
  case round =>
    obtain ⟨k, a', cap', qs, hk, rfl, rfl, hown, hat, hgr⟩ := hrel
    by_cases hlt : 2 * k + 1 < N
    · have hr1 := hr2.keep hgr.g
      obtain ⟨b, off, rfl, hcc⟩ := hr1.at (show 2 * k < N by omega)
      have c0 := hcc (2 * k + 1) (by have := HE.out; omega)
      obtain ⟨v, hv⟩ : ∃ v, F (2 * k + 1) = v := ⟨_, rfl⟩
      rw [hv] at c0
      have hvb : 0 ≤ v ∧ v ≤ 255 := by rw [← hv]; exact hr2.1 _
      have HV : Hid (F (2 * k + 1) = v) := hv
      have HC : Hid (∀ i, i < N → wr.cell? ⟨b, off + i, none⟩ = some (.int .u8 (F i))) := hcc
      clear hv hcc
      go_wp2
      go_loop [7, 9] (fun p s => ∃ (k' t : Nat), 2 * k' ≤ N ∧ p = .int .i64 (2 * (k' : Int)) ∧ s = .int .i64 t ∧ Grp F k k' v t) (fun p _ => N - (intOf p).toNat)
      case atStart => exact ⟨k, 0, by omega, rfl, rfl, Grp.start _ _ _⟩
      case round =>
        clear c0
        obtain ⟨k', t, hk', rfl, rfl, hg⟩ := hrel
        have hg1 := hg.le
        have hg2 := hg.lo
        have hg3 := hg.hi
        have HG : Hid (Grp F k k' v t) := hg
        clear hg
        have hdone : 2 * k' = N ∨ (2 * k' < N ∧ F (2 * k' + 1) = v) ∨ (2 * k' < N ∧ ¬ F (2 * k' + 1) = v) := by
          by_cases h1 : 2 * k' = N
          · exact .inl h1
          · by_cases h2 : F (2 * k' + 1) = v
            · exact .inr (.inl ⟨by omega, h2⟩)
            · exact .inr (.inr ⟨by omega, h2⟩)
        rcases hdone with h1 | ⟨h1, h2⟩ | ⟨h1, h2⟩
        · have HW : Hid (WantAt F N k' (qs ++ emit t v)) := hat.step HG.out (by omega) (by omega) HV.out (.inl h1)
          have h1' : N ≤ 2 * k' := by omega
          have hkk : k < k' := by omega
          clear h1 hat HG
          go_wp2
          go_loopw [6, 9] (fun x s wr' => ∃ (t' : Nat) (a2 : Option Addr) (cap2 : Nat) (rs : List (Int × Int)), x = .slice a2 (flat rs).length cap2 ∧ s = .int .i64 t' ∧ 1 ≤ t' ∧ t' ≤ t ∧ Own wr' a2 cap2 (flat rs) ∧ rs ++ emit t' v = qs ++ emit t v ∧ Gr w2 wr' none a2) (fun _ s _ => (intOf s).toNat)
          case atStart => exact ⟨t, a', cap', qs, rfl, rfl, by omega, by omega, hown, rfl, hgr⟩
          case round =>
            clear hown hgr hr1
            obtain ⟨t', a2, cap2, rs, rfl, rfl, ht1, ht2, hown, hrs, hgr⟩ := hrel
            have hln : (flat rs).length ≤ N := by
              have h1 := HW.out.len
              rw [← hrs, List.length_append] at h1
              rw [flat_length]; omega
            have HR : Hid (rs ++ emit t' v = qs ++ emit t v) := hrs
            clear hrs
            by_cases hbig : 255 < t'
            · go_wp2_with (at_builtin; refine wpList_app2 (w := wr) rfl _ _ rfl a2 _ cap2 (flat rs) rfl rfl hown 255 v rfl (by omega) hvb (by omega) ?_)
              intro a3 cap3 w3 hown3 hgr3
              have hf : flat (rs ++ [(255, v)]) = flat rs ++ [255, v] := by rw [flat_append]; rfl
              rw [← hf] at hown3
              have hls : (flat rs).length + 2 = (flat (rs ++ [(255, v)])).length := by rw [hf]; simp
              have HLs : Hid _ := hls
              clear hf hls
              go_wp2
              go_roundw
              case rel => exact ⟨t' - 255, a3, cap3, rs ++ [(255, v)], by rw [HLs.out], by congr 1; omega, by omega, by omega, hown3, by rw [← HR.out, emit_step hbig]; simp, hgr.trans hgr3⟩
              case measure => simp [intOf]; omega
            · go_wp2_with (at_builtin; refine wpList_app2 (w := wr) rfl _ _ rfl a2 _ cap2 (flat rs) rfl rfl hown (t' : Int) v rfl (by omega) hvb (by omega) ?_)
              intro a3 cap3 w3 hown3 hgr3
              have he : rs ++ [((t' : Int), v)] = qs ++ emit t v := by rw [← HR.out, emit_small ht1 (by omega)]
              have hf : flat (qs ++ emit t v) = flat rs ++ [(t' : Int), v] := by rw [← he, flat_append]; rfl
              rw [← hf] at hown3
              have hls : (flat rs).length + 2 = (flat (qs ++ emit t v)).length := by rw [hf]; simp
              have HLs : Hid _ := hls
              clear hf hls he
              go_wp2
              go_roundw
              case rel => exact ⟨k', a3, cap3, qs ++ emit t v, by omega, rfl, by rw [HLs.out], hown3, HW.out, hgr.trans hgr3⟩
              case measure => simp [intOf]; omega
        · have h1p : 2 * k' + 1 < N := by have := HE.out; omega
          have c1 := HC.out (2 * k') h1
          have c2 := HC.out (2 * k' + 1) (by have := HE.out; omega)
          rw [h2] at c2
          have hb := hr2.1 (2 * k')
          have hnz := hz_all HZ.out k' h1
          obtain ⟨c, hc⟩ : ∃ c : Nat, F (2 * k') = (c : Int) := ⟨(F (2 * k')).toNat, by omega⟩
          rw [hc] at c1 hb hnz
          have R : Hid (Grp F k (k' + 1) v (t + c)) := HG.out.step h2 hc (by omega) (by omega)
          clear hc h2
          go_wp2
          go_round
          case rel => first | exact ⟨k' + 1, t + c, by have := HE.out; omega, by go_num, by go_num, R.out⟩ | exact ⟨k' + 1, by have := HE.out; omega, by omega, t + c, by omega, R.out⟩
          case measure => simp [intOf]; omega
        · have h1p : 2 * k' + 1 < N := by have := HE.out; omega
          have hkk : k < k' := by
            rcases Nat.lt_or_ge k k' with h | h
            · exact h
            · obtain rfl : k = k' := by omega
              exact absurd HV.out h2
          have HW : Hid (WantAt F N k' (qs ++ emit t v)) := hat.step HG.out hkk (by omega) HV.out (.inr h2)
          have c2 := HC.out (2 * k' + 1) (by have := HE.out; omega)
          have d2 : (F (2 * k' + 1) == v) = false := by simpa using h2
          clear h2 hat HG
          go_wp2
          go_loopw [6, 9] (fun x s wr' => ∃ (t' : Nat) (a2 : Option Addr) (cap2 : Nat) (rs : List (Int × Int)), x = .slice a2 (flat rs).length cap2 ∧ s = .int .i64 t' ∧ 1 ≤ t' ∧ t' ≤ t ∧ Own wr' a2 cap2 (flat rs) ∧ rs ++ emit t' v = qs ++ emit t v ∧ Gr w2 wr' none a2) (fun _ s _ => (intOf s).toNat)
          case atStart => exact ⟨t, a', cap', qs, rfl, rfl, by omega, by omega, hown, rfl, hgr⟩
          case round =>
            clear hown hgr hr1
            obtain ⟨t', a2, cap2, rs, rfl, rfl, ht1, ht2, hown, hrs, hgr⟩ := hrel
            have hln : (flat rs).length ≤ N := by
              have h1 := HW.out.len
              rw [← hrs, List.length_append] at h1
              rw [flat_length]; omega
            have HR : Hid (rs ++ emit t' v = qs ++ emit t v) := hrs
            clear hrs
            by_cases hbig : 255 < t'
            · go_wp2_with (at_builtin; refine wpList_app2 (w := wr) rfl _ _ rfl a2 _ cap2 (flat rs) rfl rfl hown 255 v rfl (by omega) hvb (by omega) ?_)
              intro a3 cap3 w3 hown3 hgr3
              have hf : flat (rs ++ [(255, v)]) = flat rs ++ [255, v] := by rw [flat_append]; rfl
              rw [← hf] at hown3
              have hls : (flat rs).length + 2 = (flat (rs ++ [(255, v)])).length := by rw [hf]; simp
              have HLs : Hid _ := hls
              clear hf hls
              go_wp2
              go_roundw
              case rel => exact ⟨t' - 255, a3, cap3, rs ++ [(255, v)], by rw [HLs.out], by congr 1; omega, by omega, by omega, hown3, by rw [← HR.out, emit_step hbig]; simp, hgr.trans hgr3⟩
              case measure => simp [intOf]; omega
            · go_wp2_with (at_builtin; refine wpList_app2 (w := wr) rfl _ _ rfl a2 _ cap2 (flat rs) rfl rfl hown (t' : Int) v rfl (by omega) hvb (by omega) ?_)
              intro a3 cap3 w3 hown3 hgr3
              have he : rs ++ [((t' : Int), v)] = qs ++ emit t v := by rw [← HR.out, emit_small ht1 (by omega)]
              have hf : flat (qs ++ emit t v) = flat rs ++ [(t' : Int), v] := by rw [← he, flat_append]; rfl
              rw [← hf] at hown3
              have hls : (flat rs).length + 2 = (flat (qs ++ emit t v)).length := by rw [hf]; simp
              have HLs : Hid _ := hls
              clear hf hls he
              go_wp2
              go_roundw
              case rel => exact ⟨k', a3, cap3, qs ++ emit t v, by omega, rfl, by rw [HLs.out], hown3, HW.out, hgr.trans hgr3⟩
              case measure => simp [intOf]; omega
    · obtain rfl : N = 2 * k := by have := HE.out; omega
      go_wp2
      go_ret
      rw [show 2 * k / 2 = k from by omega] at HX
      exact FIN.out _ _ _ _ hown hat.canon (by rw [hat.ex, ← HX.out]) hgr

end Go.Proofs.Ymbrcn
