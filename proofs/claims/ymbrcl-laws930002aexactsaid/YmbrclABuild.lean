import Derived.Test.YmbrclTwo
set_option linter.unusedVariables false
namespace Go.Proofs.Ymbrcl
open Go.RowKit

def ac (x : Int) : Int := if x = 0 then 255 else x
theorem ac_bounds {x : Int} (h : 0 ≤ x ∧ x ≤ 255) : 1 ≤ ac x ∧ ac x ≤ 255 := by unfold ac; split <;> omega

theorem and_bounds (x y : Int) : 0 ≤ bits .and .u8 x y ∧ bits .and .u8 x y ≤ 255 := by
  unfold bits
  simp only [IntKind.wrap_u8]
  omega

def aF (c v : Nat → Int) (mask : Int) (i : Nat) : Int × Int := (ac (c i), bits .and .u8 (v i) mask)

set_option maxRecDepth 100000 in
set_option maxHeartbeats 800000 in
theorem abuild_calls (a : Option Addr) (c v : Nat → Int) (n cap : Nat) (t : Int) (w : World) (hn : n ≤ 17592186044416) (bc : ∀ i, 0 ≤ c i ∧ c i ≤ 255) (bv : ∀ i, 0 ≤ v i ∧ v i ≤ 255)
    (h0 : Fld w a n 2 0 (fun i => .int .u8 (c i))) (h1 : Fld w a n 2 1 (fun i => .int .u8 (v i))) (ht : 0 ≤ t ∧ t ≤ 255) :
    Calls Yclm.prog 15 #[.slice a n cap, .int .u8 t] w fun e w' => ∃ a' cap', e = .returned (.slice a' (2 * n : Nat) cap') ∧ Own w' a' cap' (flat (bl (aF c v t) n)) ∧ Gr w w' none a' := by
  go_enter Yclm.func15, Yclm.ntmps15
  go_wp2_with (at_make; refine wpList_mk0 rfl _ _ rfl _ _ _ (2 * n) rfl rfl (by omega) (by omega) ?_)
  intro a1 w1 ho1 hg1
  go_wp2
  go_loopw [5, 7, 8, 15] (fun x _ _ i wr => ∃ (k : Nat) (a' : Option Addr) (cap' : Nat), k ≤ n ∧ i = .int .i64 k ∧ x = .slice a' (2 * k) cap' ∧ Own wr a' cap' (flat (bl (aF c v t) k)) ∧ Gr w wr none a') (fun _ _ _ i _ => n - (intOf i).toNat)
  case atStart => exact ⟨0, a1, 2 * n, by omega, rfl, rfl, ho1, hg1⟩
  case round =>
    clear ho1 hg1
    obtain ⟨k, a', cap', hk, rfl, rfl, hown, hgr⟩ := hrel
    by_cases hlt : k < n
    · obtain ⟨b, off, rfl⟩ := h0.at hlt
      have c1 := (h0.keep hgr.g).cell hlt
      have c2 := (h1.keep hgr.g).cell hlt
      simp only [Nat.add_zero] at c1
      have b1 := bc k
      have b2 := bv k
      have b3 := and_bounds (v k) t
      have HL : Hid ((flat (bl (aF c v t) k)).length = 2 * k) := bl_flat_length _ _
      have ho0 := hown.keep (G.alloc wr (.cells #[.int .u8 (c k), .int .u8 (v k)] 58))
      have g0 : Gr wr (wr.alloc (.cells #[.int .u8 (c k), .int .u8 (v k)] 58)) a' a' := (G.alloc _ _).gr a'
      have hN := bl_flat_succ (aF c v t) k
      simp only [aF, ac] at hN
      by_cases hz : c k = 0
      · have dz : (c k == 0) = true := by simpa using hz
        have HN : Hid (flat (bl (aF c v t) (k + 1)) = flat (bl (aF c v t) k) ++ [255, bits .and .u8 (v k) t]) := by simp only [hz, if_true] at hN; exact hN
        clear hz hN
        go_wp2_with (at_builtin; refine wpList_app2s (w := wr.alloc (.cells #[.int .u8 (c k), .int .u8 (v k)] 58)) (wr.heap.size + 1) (by simp) rfl _ _ rfl a' _ cap' _ rfl HL.out.symm ho0 255 (bits .and .u8 (v k) t) rfl (by omega) b3 (by omega) ?_)
        intro a2 cap2 w2 ho2 hg2
        rw [← HN.out] at ho2
        clear c1 c2 ho0
        go_wp2
        go_roundw
        case rel => exact ⟨k + 1, a2, cap2, by omega, by go_num, rfl, ho2, hgr.trans (g0.trans hg2)⟩
        case measure => simp [intOf]; omega
      · have dz : (c k == 0) = false := by simpa using hz
        have HN : Hid (flat (bl (aF c v t) (k + 1)) = flat (bl (aF c v t) k) ++ [c k, bits .and .u8 (v k) t]) := by simp only [hz, if_false] at hN; exact hN
        clear hz hN
        go_wp2_with (at_builtin; refine wpList_app2s (w := wr.alloc (.cells #[.int .u8 (c k), .int .u8 (v k)] 58)) (wr.heap.size + 1) (by simp) rfl _ _ rfl a' _ cap' _ rfl HL.out.symm ho0 (c k) (bits .and .u8 (v k) t) rfl (by omega) b3 (by omega) ?_)
        intro a2 cap2 w2 ho2 hg2
        rw [← HN.out] at ho2
        clear c1 c2 ho0
        go_wp2
        go_roundw
        case rel => exact ⟨k + 1, a2, cap2, by omega, by go_num, rfl, ho2, hgr.trans (g0.trans hg2)⟩
        case measure => simp [intOf]; omega
    · have hki : ¬ (k : Int) < (n : Int) := by omega
      obtain rfl : k = n := by omega
      go_wp2
      go_ret
      exact ⟨_, _, rfl, hown, hgr⟩

end Go.Proofs.Ymbrcl
