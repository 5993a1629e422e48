import Derived.Test.YmbrcnDecLen
import Derived.Test.YmbrcnZero
import Derived.Test.YmbrcnOwn
import Derived.Test.YmbrcnGl
set_option linter.unusedVariables false
namespace Go.Proofs.Ymbrcn
open Go.RowKit

theorem sumc_congr {f g : Nat → Int} {k : Nat} (h : ∀ j, j < k → f (2 * j) = g (2 * j)) : sumc f k = sumc g k := by
  induction k with
  | zero => rfl
  | succ k ih => show sumc f k + f (2 * k) = sumc g k + g (2 * k); rw [ih (fun j hj => h j (by omega)), h k (by omega)]

/-- what the loop holds behind k counts -/
structure LbAt (l : List Int) (n k : Nat) (s : Int) : Prop where
  size : l.length = 2 * n
  pos : ∀ j, j < k → gl l (2 * j) ≠ 0
  sum : s = sumc (gl l) k

theorem LbAt.step {l : List Int} {n k : Nat} {s c x : Int} (h : LbAt l n k s) (hk : k < n) (hc : c ≠ 0) : LbAt ((l.set (2 * k) c).set (2 * k + 1) x) n (k + 1) (s + c) := by
  have h1 := h.size
  have e1 : ∀ j, j < k → gl ((l.set (2 * k) c).set (2 * k + 1) x) (2 * j) = gl l (2 * j) := fun j hj => by rw [gl_set_ne (by omega), gl_set_ne (by omega)]
  have e2 : gl ((l.set (2 * k) c).set (2 * k + 1) x) (2 * k) = c := by rw [gl_set_ne (by omega), gl_set_eq (by omega)]
  refine ⟨by simpa using h1, fun j hj => ?_, ?_⟩
  · by_cases e : j = k
    · subst e; rw [e2]; exact hc
    · rw [e1 j (by omega)]; exact h.pos j (by omega)
  · show _ = sumc _ k + gl _ (2 * k)
    rw [e2, sumc_congr e1, h.sum]

set_option maxRecDepth 100000 in
set_option maxHeartbeats 800000 in
theorem lboundary_calls (a : Option Addr) (f : Nat → Int) (n cap : Nat) (v d : Int) (w : World) (hr : Rd w a n f) (hv : 0 ≤ v ∧ v ≤ 255) (hd : -128 ≤ d ∧ d ≤ 127) :
    Calls Ycnm.prog 12 #[.slice a n cap, .int .u8 v, .int .i8 d] w fun e w' => e = .returned (.bool true) ∧ G w w' := by
  by_cases h0 : 1024 < n
  · have e0 : (1024 : Int) < n := by omega
    go_enter Ycnm.func12, Ycnm.ntmps12
    go_wp2
    go_ret
    exact ⟨rfl, G.refl _⟩
  have e0 : ¬ (1024 : Int) < n := by omega
  go_enter Ycnm.func12, Ycnm.ntmps12
  go_wp2_with (at_make; refine wpList_mkn rfl _ _ rfl _ _ _ _ (2 * n) rfl rfl (by omega) (by omega) (by omega) ?_)
  intro g w1 hown hgr
  go_wp2
  go_loopw [8, 9] (fun s i wr => ∃ (k : Nat) (S : Int) (l : List Int), k ≤ n ∧ i = .int .i64 k ∧ s = .int .i64 S ∧ 0 ≤ S ∧ S ≤ 255 * k ∧ LbAt l n k S ∧ Own wr (some ⟨g, 0, none⟩) (2 * n) l ∧ Gr w wr none (some ⟨g, 0, none⟩)) (fun _ i _ => n - (intOf i).toNat)
  case atStart => exact ⟨0, 0, _, by omega, rfl, rfl, by omega, by omega, ⟨by simp, by omega, rfl⟩, hown, hgr⟩
  case round =>
    clear hown hgr
    obtain ⟨k, S, l, hk, rfl, rfl, hS0, hS1, hat, hown, hgr⟩ := hrel
    by_cases hlt : k < n
    · obtain ⟨b, off, rfl, hc⟩ := hr.at hlt
      clear hc
      have c1 := (hr.keep hgr.g).cell hlt
      have hb := hr.1 k
      obtain ⟨g', e, hcs, hfz⟩ := hown.shape (by rw [hat.size]; omega)
      simp only [Option.some.injEq, Addr.mk.injEq, and_true] at e
      subst e
      have c2 := hcs (2 * k) (by rw [hat.size]; omega)
      have c3 := hcs (2 * k + 1) (by rw [hat.size]; omega)
      have f2 := hfz (2 * k)
      have f3 := hfz (2 * k + 1)
      clear hcs hfz
      go_wp2
      · have o1 := hown.stored (2 * k) 1 (by omega)
        go_roundw
        case rel =>
          refine ⟨k + 1, S + 1, _, by omega, by go_num, rfl, by omega, by omega, hat.step hlt (by omega), (o1.1.stored (2 * k + 1) _ ?_).1, (hgr.trans o1.2).trans (o1.1.stored (2 * k + 1) _ ?_).2⟩
          all_goals omega
        case measure => simp [intOf]; omega
      · have ht : (f k == 0) = false := by assumption
        have o1 := hown.stored (2 * k) (f k) hb
        simp at ht
        go_roundw
        case rel =>
          refine ⟨k + 1, S + f k, _, by omega, by go_num, rfl, by omega, by omega, hat.step hlt ht, (o1.1.stored (2 * k + 1) _ ?_).1, (hgr.trans o1.2).trans (o1.1.stored (2 * k + 1) _ ?_).2⟩
          all_goals omega
        case measure => simp [intOf]; omega
    · obtain rfl : k = n := by omega
      have hrd := hown.rd
      rw [hat.size] at hrd
      have HS : Hid (S = sumc (gl l) k) := hat.sum
      have HZ : Hid (¬ HasZero (gl l) (2 * k)) := fun ⟨j, h1, h2⟩ => hat.pos j (by omega) h2
      go_wp2_with fail
      refine (decLen_calls _ (gl l) (2 * k) (2 * k) (S + d) _ hrd (by omega) (by omega)).mono ?_
      rintro e w2 ⟨r, c, rfl, hdd, rfl⟩
      have h2k : 2 * k / 2 = k := by omega
      rcases hdd with ⟨h1, rfl, rfl⟩ | ⟨h1, h2, rfl, rfl⟩ | ⟨h1, h2, h3, rfl, rfl⟩ | ⟨h1, h2, h3, rfl, rfl⟩
      · omega
      · exact absurd h2 HZ.out
      · rw [h2k, ← HS.out] at h3
        have hd0 : d < 0 := by omega
        clear h2
        go_wp2
        go_ret
        exact ⟨rfl, hgr.g⟩
      · rw [h2k, ← HS.out] at h3 ⊢
        have hd0 : 0 ≤ d := by omega
        clear h2
        go_wp2
        go_ret
        exact ⟨by simp, hgr.g⟩

end Go.Proofs.Ymbrcn
