import Derived.Test.YmbrclOwn
import Derived.Test.YmbrclBm
set_option linter.unusedVariables false
namespace Go.Proofs.Ymbrcl
open Go.RowKit

/-- ps with n copies of v behind it, canonical -/
structure Pushed (ps : List (Int × Int)) (n v : Int) (qs : List (Int × Int)) : Prop where
  canon : Canon qs
  ex : ex qs = ex ps ++ List.replicate n.toNat v
  len : qs.length ≤ ps.length + 1

theorem pushed_new {ps : List (Int × Int)} {n v : Int} (h : Canon ps) (h1 : 1 ≤ n) (h2 : n ≤ 255) (hl : ∀ q, ps.getLast? = some q → q.2 = v → q.1 = 255) : Pushed ps n v (ps ++ [(n, v)]) :=
  ⟨canon_snoc h h1 h2 hl, by rw [ex_append]; simp [Go.Proofs.Ymbrcl.ex], by simp⟩

theorem pushed_more {qs : List (Int × Int)} {m n v : Int} (h : Canon (qs ++ [(m, v)])) (h1 : 1 ≤ n) (h2 : m + n ≤ 255) : Pushed (qs ++ [(m, v)]) n v (qs ++ [(m + n, v)]) := by
  have hm := h.well (m, v) (by simp)
  simp only at hm
  refine ⟨canon_last h (by omega) h2, ?_, by simp⟩
  rw [ex_append, ex_append, List.append_assoc]
  simp only [Go.Proofs.Ymbrcl.ex, List.append_nil]
  rw [List.replicate_append_replicate, show (m + n).toNat = m.toNat + n.toNat by omega]

theorem pushed_over {qs : List (Int × Int)} {m n v : Int} (h : Canon (qs ++ [(m, v)])) (h1 : 255 < m + n) (h2 : n ≤ 255) : Pushed (qs ++ [(m, v)]) n v (qs ++ [(255, v)] ++ [(n - (255 - m), v)]) := by
  have hm := h.well (m, v) (by simp)
  simp only at hm
  refine ⟨canon_snoc (canon_last h (by omega) (by omega)) (by omega) (by omega) ?_, ?_, by simp⟩
  · intro q hq e; simp at hq; subst hq; rfl
  · rw [ex_append, ex_append, ex_append, List.append_assoc, List.append_assoc]
    simp only [Go.Proofs.Ymbrcl.ex, List.append_nil]
    rw [List.replicate_append_replicate, List.replicate_append_replicate, show (255 : Int).toNat + (n - (255 - m)).toNat = m.toNat + n.toNat by omega]

set_option maxRecDepth 100000 in
set_option maxHeartbeats 800000 in
theorem pushRun_calls (a : Option Addr) (L cap : Nat) (ps : List (Int × Int)) (n v : Int) (w : World) (hown : Own w a cap (flat ps)) (hL : ps.length = L) (hLb : L ≤ 35184372088832) (hc : Canon ps) (hn : 1 ≤ n ∧ n ≤ 255) (hv : 0 ≤ v ∧ v ≤ 255) :
    Calls Yclm.prog 31 #[.slice a (2 * L) cap, .int .i64 n, .int .u8 v] w fun e w' => ∃ a' L' cap' qs, e = .returned (.slice a' (2 * L') cap') ∧ Own w' a' cap' (flat qs) ∧ qs.length = L' ∧ L' ≤ L + 1 ∧ Pushed ps n v qs ∧ Gr w w' a a' := by
  have hfl : Hid (2 * L = (flat ps).length) := by rw [Hid, flat_length, hL]
  cases L with
  | zero =>
    obtain rfl : ps = [] := List.eq_nil_of_length_eq_zero hL
    have hp := pushed_new (n := n) (v := v) hc hn.1 hn.2 (by simp)
    have HP : Hid _ := hp
    clear hp
    go_enter Yclm.func31, Yclm.ntmps31
    go_wp2_with (at_builtin; refine wpList_app2 (w := w) rfl _ _ rfl a _ cap [] rfl rfl hown n v rfl (by omega) hv (by simp) ?_)
    intro a2 cap2 w2 hown2 hgr2
    go_wp2
    go_ret
    exact ⟨a2, 1, cap2, [(n, v)], rfl, hown2, rfl, by omega, HP.out, hgr2⟩
  | succ Q =>
    obtain ⟨qs, m, u, rfl, hqs⟩ := last_split hL
    have hm := hc.well (m, u) (by simp)
    simp only at hm
    obtain ⟨g, rfl, hcs, hfz⟩ := hown.shape (by rw [← hfl.out]; omega)
    have l1 := flat_last hqs m u
    have c2 := hcs (2 * Q) (by rw [← hfl.out]; omega)
    have c3 := hcs (2 * Q + 1) (by rw [← hfl.out]; omega)
    rw [l1.1] at c2
    rw [l1.2] at c3
    have f2 := hfz (2 * Q)
    clear hcs hfz l1 hL
    rw [show 2 * (Q + 1) = 2 * Q + 2 from by omega] at hfl ⊢
    by_cases he : u = v
    · subst he
      have d2 : (u == u) = true := by simp
      by_cases hroom : n ≤ 255 - m
      · have o2 := hown.stored (2 * Q) (m + n) (by omega)
        rw [flat_set hqs] at o2
        have hp := pushed_more hc hn.1 (show m + n ≤ 255 by omega)
        have HP : Hid _ := hp
        clear hp hown
        go_enter Yclm.func31, Yclm.ntmps31
        go_wp2
        go_ret
        exact ⟨_, Q + 1, cap, _, rfl, o2.1, by simp [hqs], by omega, HP.out, o2.2⟩
      · have hroom' : 255 - m < n := by omega
        have o2 := hown.stored (2 * Q) 255 (by omega)
        rw [flat_set hqs] at o2
        have hp := pushed_over hc (show 255 < m + n by omega) hn.2
        have HP : Hid _ := hp
        have hfl2 : Hid (2 * Q + 2 = (flat (qs ++ [(255, u)])).length) := by rw [Hid, flat_length]; simp [hqs]; omega
        clear hp hown hroom
        go_enter Yclm.func31, Yclm.ntmps31
        have hcell := cells_new (w.setCell ⟨g, 2 * Q, none⟩ (.int .u8 255)) [n - (255 - m), u]
        have hsize : (w.setCell ⟨g, 2 * Q, none⟩ (.int .u8 255)).heap.size = w.heap.size := by simp
        rw [hsize] at hcell
        have HC : Hid _ := hcell
        clear hcell hsize
        go_wp2_with (at_builtin; refine wpList_app_new (w := w.setCell ⟨g, 2 * Q, none⟩ (.int .u8 255)) rfl _ _ rfl _ _ cap (flat (qs ++ [(255, u)])) rfl hfl2.out o2.1 _ 2 [n - (255 - m), u] rfl (G.alloc _ _) HC.out rfl (by intro x hx; simp at hx; omega) (by omega) ?_)
        intro a2 cap2 w2 hown2 hgr2
        have hf2 : flat (qs ++ [(255, u)] ++ [(n - (255 - m), u)]) = flat (qs ++ [(255, u)]) ++ [n - (255 - m), u] := by rw [flat_append]; rfl
        rw [← hf2] at hown2
        go_wp2
        go_ret
        exact ⟨a2, Q + 1 + 1, cap2, _, rfl, hown2, by simp [hqs], by omega, HP.out, o2.2.trans hgr2⟩
    · have d2 : (u == v) = false := by simpa using he
      have hp := pushed_new (n := n) (v := v) hc hn.1 hn.2 (by intro q hq e; simp at hq; subst hq; exact absurd e he)
      have HP : Hid _ := hp
      clear hp he
      go_enter Yclm.func31, Yclm.ntmps31
      go_wp2_with (at_builtin; refine wpList_app2 (w := w) rfl _ _ rfl _ _ cap (flat (qs ++ [(m, u)])) rfl hfl.out hown n v rfl (by omega) hv (by omega) ?_)
      intro a2 cap2 w2 hown2 hgr2
      have hf2 : flat (qs ++ [(m, u)] ++ [(n, v)]) = flat (qs ++ [(m, u)]) ++ [n, v] := by rw [flat_append]; rfl
      rw [← hf2] at hown2
      go_wp2
      go_ret
      exact ⟨a2, Q + 1 + 1, cap2, _, rfl, hown2, by simp [hqs], by omega, HP.out, hgr2⟩

end Go.Proofs.Ymbrcl
