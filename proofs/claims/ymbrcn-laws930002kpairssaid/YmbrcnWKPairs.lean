import Derived.Test.YmbrcnRecs
import Derived.Test.YmbrcnZero
import Derived.Test.YmbrcnGl
set_option linter.unusedVariables false
namespace Go.Proofs.Ymbrcn
open Go.RowKit

set_option maxRecDepth 100000 in
set_option maxHeartbeats 800000 in
theorem kpairs_calls (a : Option Addr) (c v : Nat → Int) (n cap : Nat) (t : Int) (w : World) (bc : ∀ i, 0 ≤ c i ∧ c i ≤ 255) (bv : ∀ i, 0 ≤ v i ∧ v i ≤ 255)
    (h0 : Fld w a n 2 0 (fun i => .int .u8 (c i))) (h1 : Fld w a n 2 1 (fun i => .int .u8 (v i))) (ht : 0 ≤ t ∧ t ≤ 255) :
    Calls Ycnm.prog 9 #[.slice a n cap, .int .u8 t] w fun e w' => e = .returned (.bool true) ∧ G w w' := by
  by_cases hbig : 1024 < n
  · have e0 : (1024 : Int) < n := by omega
    go_enter Ycnm.func9, Ycnm.ntmps9
    go_wp2
    go_ret
    exact ⟨rfl, G.refl _⟩
  have e0 : ¬ (1024 : Int) < n := by omega
  go_enter Ycnm.func9, Ycnm.ntmps9
  go_wp2_with (at_make; refine wpList_mk0 rfl _ _ rfl _ _ _ (2 * n + 1) rfl rfl (by omega) (by omega) ?_)
  intro a1 w1 ho1 hg1
  go_wp2
  go_loopw [5, 6, 8, 19] (fun x wt _ i wr => ∃ (k : Nat) (a' : Option Addr) (cap' : Nat) (E : List Int) (wc : Int), k ≤ n ∧ i = .int .i64 k ∧ x = .slice a' (2 * k) cap' ∧ wt = .int .i64 wc ∧ E.length = 2 * k ∧ Own wr a' cap' E ∧ (wc = 2 ∧ HasZero (gl E) (2 * k) ∨ wc = 0 ∧ ¬ HasZero (gl E) (2 * k)) ∧ Gr w wr none a') (fun _ _ _ i _ => n - (intOf i).toNat)
  case atStart => exact ⟨0, a1, 2 * n + 1, [], 0, by omega, rfl, rfl, rfl, rfl, ho1, .inr ⟨rfl, hz_nil⟩, hg1⟩
  case round =>
    clear ho1 hg1
    obtain ⟨k, a', cap', E, wc, hk, rfl, rfl, rfl, hE, hown, hwc, hgr⟩ := hrel
    have HE : Hid (E.length = 2 * k) := hE
    have HW : Hid _ := hwc
    clear hE hwc
    by_cases hlt : k < n
    · obtain ⟨b, off, rfl⟩ := h0.at hlt
      have c1 := (h0.keep hgr.g).cell hlt
      have c2 := (h1.keep hgr.g).cell hlt
      simp only [Nat.add_zero] at c1
      have b1 := bc k
      have b2 := bv k
      have ho0 := hown.keep (G.alloc wr (.cells #[.int .u8 (c k), .int .u8 (v k)] 41))
      have g0 : Gr wr (wr.alloc (.cells #[.int .u8 (c k), .int .u8 (v k)] 41)) a' a' := (G.alloc _ _).gr a'
      have hap : blk a' ≠ some wr.heap.size := fun e => by have := hown.lt _ e; omega
      go_wp2_with (at_builtin; refine wpList_app2s (w := wr.alloc (.cells #[.int .u8 (c k), .int .u8 (v k)] 41)) (wr.heap.size + 1) (by simp) rfl _ _ rfl a' _ cap' E rfl HE.out.symm ho0 (c k) (v k) rfl b1 b2 (by omega) ?_)
      intro a2 cap2 w2 ho2 hg2
      have cp : w2.cell? ⟨wr.heap.size, 0, none⟩ = some (.int .u8 (c k)) := hg2.cellApart (by simp) hap
      have hgl : ∀ i, i < 2 * k → gl (E ++ [c k, v k]) i = gl E i := fun i hi => gl_app_lt (by rw [HE.out]; exact hi)
      have hgk : gl (E ++ [c k, v k]) (2 * k) = c k := by rw [← HE.out]; exact gl_app_ge (i := 0)
      have hzz : HasZero (gl (E ++ [c k, v k])) (2 * (k + 1)) ↔ HasZero (gl E) (2 * k) ∨ c k = 0 := by
        rw [hz_pair, hgk]
        have : HasZero (gl (E ++ [c k, v k])) (2 * k) ↔ HasZero (gl E) (2 * k) := ⟨fun ⟨j, j1, j2⟩ => ⟨j, j1, by rw [← hgl _ j1]; exact j2⟩, fun ⟨j, j1, j2⟩ => ⟨j, j1, by rw [hgl _ j1]; exact j2⟩⟩
        rw [this]
      have HZZ : Hid _ := hzz
      clear hgl hgk hzz c1 c2 ho0 hap
      have hgr2 := hgr.trans (g0.trans hg2)
      by_cases hz : c k = 0
      · have dz : (c k == 0) = true := by simpa using hz
        have HZ : Hid (c k = 0) := hz
        clear hz
        go_wp2
        go_roundw
        case rel => exact ⟨k + 1, a2, cap2, E ++ [c k, v k], 2, by omega, by go_num, rfl, rfl, by rw [List.length_append, HE.out]; rfl, ho2, .inl ⟨rfl, HZZ.out.2 (.inr HZ.out)⟩, hgr2⟩
        case measure => simp [intOf]; omega
      · have dz : (c k == 0) = false := by simpa using hz
        have HZ : Hid (¬ c k = 0) := hz
        clear hz
        go_wp2
        go_roundw
        case rel =>
          refine ⟨k + 1, a2, cap2, E ++ [c k, v k], wc, by omega, by go_num, rfl, rfl, by rw [List.length_append, HE.out]; rfl, ho2, ?_, hgr2⟩
          rcases HW.out with ⟨e1, e2⟩ | ⟨e1, e2⟩
          · exact .inl ⟨e1, HZZ.out.2 (.inl e2)⟩
          · exact .inr ⟨e1, fun h => (HZZ.out.1 h).elim e2 HZ.out⟩
        case measure => simp [intOf]; omega
    · have hki : ¬ (k : Int) < (n : Int) := by omega
      have rd := hown.rd
      rw [HE.out] at rd
      have hcI : ChkIs (gl E) (2 * k) wc := by
        rcases HW.out with ⟨e1, e2⟩ | ⟨e1, e2⟩
        · exact .inr (.inl ⟨by omega, e2, e1⟩)
        · exact .inr (.inr ⟨by omega, e2, e1⟩)
      have HCI : Hid (ChkIs (gl E) (2 * k) wc) := hcI
      have dw : (wc != wc) = false := by simp
      clear hcI HW
      go_wp2_with fail
      refine (check_calls a' (gl E) (2 * k) cap' _ rd (by omega)).mono ?_
      rintro e w2 ⟨c', rfl, hc', rfl⟩
      have e : c' = wc := by
        rcases HCI.out with ⟨h1, h2⟩ | ⟨h1, h2, h3⟩ | ⟨h1, h2, h3⟩ <;> rcases hc' with ⟨k1, k2⟩ | ⟨k1, k2, k3⟩ | ⟨k1, k2, k3⟩
        all_goals first | omega | exact absurd h2 k2 | exact absurd k2 h2
      subst e
      clear hc' HCI
      go_wp2_with (at_builtin; refine wpList_app1 (w := w2) rfl _ _ rfl a' _ cap' E rfl HE.out.symm hown t rfl ht (by omega) ?_)
      intro a3 cap3 w3 ho3 hg3
      have rd3 := ho3.rd
      rw [List.length_append, HE.out] at rd3
      simp only [List.length_cons, List.length_nil, Nat.zero_add] at rd3
      go_wp2_with fail
      refine (check_calls a3 _ (2 * k + 1) cap3 _ rd3 (by omega)).mono ?_
      rintro e w4 ⟨c'', rfl, hc'', rfl⟩
      obtain rfl : c'' = 1 := by
        rcases hc'' with ⟨h1, h2⟩ | ⟨h1, h2, h3⟩ | ⟨h1, h2, h3⟩
        · exact h2
        · omega
        · omega
      clear hc''
      go_wp2
      go_ret
      exact ⟨rfl, (hgr.trans hg3).g⟩

end Go.Proofs.Ymbrcn
