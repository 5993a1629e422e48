import Derived.Test.YmbrclPairs
import Derived.Test.YmbrclOwn
set_option linter.unusedVariables false
namespace Go.Proofs.Ymbrcl
open Go.RowKit

set_option maxRecDepth 100000 in
set_option maxHeartbeats 800000 in
theorem aplain_calls (a : Option Addr) (f : Nat → Int) (n cap : Nat) (w : World) (hr : Rd w a n f) (hn : n ≤ 549755813888) :
    Calls Yclm.prog 16 #[.slice a n cap] w fun e w' => ∃ a' cap', e = .returned (.slice a' (exN f (n / 2)).length cap') ∧ Own w' a' cap' (exN f (n / 2)) ∧ Gr w w' none a' := by
  go_enter Yclm.func16, Yclm.ntmps16
  go_wp2
  go_loopw [3, 4] (fun v p wr => ∃ (k : Nat) (a' : Option Addr) (cap' : Nat), 2 * k ≤ n ∧ p = .int .i64 (2 * (k : Int)) ∧ v = .slice a' (exN f k).length cap' ∧ Own wr a' cap' (exN f k) ∧ Gr w wr none a') (fun _ p _ => n + 1 - (intOf p).toNat)
  case atStart => exact ⟨0, none, 0, by omega, rfl, rfl, Own.nil _, Gr.refl _ _⟩
  case round =>
    obtain ⟨k, a', cap', hk, rfl, rfl, hown, hgr⟩ := hrel
    have hle := exN_length_le hr.1 k
    by_cases hlt : 2 * k + 1 < n
    · have hlti : 2 * (k : Int) + 1 < (n : Int) := by omega
      have hr0 := hr.at hlt
      obtain ⟨b, off, rfl, hcc⟩ := hr0
      clear hcc
      have b0 := hr.1 (2 * k)
      have b1 := hr.1 (2 * k + 1)
      obtain ⟨c, hc⟩ : ∃ c : Nat, f (2 * k) = (c : Int) := ⟨(f (2 * k)).toNat, by omega⟩
      have hsu : Hid (exN f (k + 1) = exN f k ++ List.replicate c (f (2 * k + 1))) := by rw [Hid, exN_succ, hc]; rfl
      have HC : Hid (∀ wx, G w wx → wx.cell? ⟨b, off + 2 * k, none⟩ = some (.int .u8 (c : Int)) ∧ wx.cell? ⟨b, off + (2 * k + 1), none⟩ = some (.int .u8 (f (2 * k + 1)))) := fun wx g => ⟨by rw [← hc]; exact (hr.keep g).cell (by omega), (hr.keep g).cell hlt⟩
      rw [hc] at b0
      clear hc
      generalize exN f k = l at *
      have hc0 := (HC.out wr hgr.g).1
      go_wp2
      go_loopw [3, 5] (fun v i wr => ∃ (j : Nat) (a' : Option Addr) (cap' : Nat), j ≤ c ∧ i = .int .i64 j ∧ v = .slice a' (l.length + j) cap' ∧ Own wr a' cap' (l ++ List.replicate j (f (2 * k + 1))) ∧ Gr w wr none a') (fun _ i _ => c - (intOf i).toNat)
      case atStart => exact ⟨0, a', cap', by omega, rfl, rfl, by simpa using hown, hgr⟩
      case round =>
        clear hown hgr hc0
        obtain ⟨j, a', cap', hj, rfl, rfl, hown, hgr⟩ := hrel
        have hc2 := HC.out wr hgr.g
        obtain ⟨hc2, hc3⟩ := hc2
        by_cases hjc : j < c
        · go_wp2_with (at_builtin; refine wpList_app1 (w := wr) rfl _ _ rfl a' _ cap' (l ++ List.replicate j (f (2 * k + 1))) rfl (by simp) hown (f (2 * k + 1)) rfl b1 (by omega) ?_)
          intro a2 cap2 w2 hown2 hgr2
          clear hc2 hc3
          go_wp2
          go_roundw
          case rel => exact ⟨j + 1, a2, cap2, by omega, by go_num, rfl, by rw [List.replicate_succ']; simpa using hown2, hgr.trans hgr2⟩
          case measure => simp [intOf]; omega
        · obtain rfl : j = c := by omega
          go_wp2
          go_roundw
          case rel => exact ⟨k + 1, a', cap', by omega, by go_num, by rw [hsu.out]; simp, by rw [hsu.out]; exact hown, hgr⟩
          case measure => simp [intOf]; omega
    · have hk2 : n / 2 = k := by omega
      have HK : Hid (n / 2 = k) := hk2
      clear hk2
      go_wp2
      go_ret
      rw [HK.out]
      exact ⟨a', cap', rfl, hown, hgr⟩

end Go.Proofs.Ymbrcl
