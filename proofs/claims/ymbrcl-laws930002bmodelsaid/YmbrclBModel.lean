import Derived.Test.YmbrclOwn
import Derived.Test.YmbrclGl
set_option linter.unusedVariables false
namespace Go.Proofs.Ymbrcl
open Go.RowKit

/-- what bmodel's loop holds behind i bytes: L pairs -/
structure BmAt (f : Nat → Int) (i L : Nat) (ps : List (Int × Int)) : Prop where
  len : ps.length = L
  canon : Canon ps
  ex : ex ps = lst f i
  size : L ≤ i

theorem last_split {ps : List (Int × Int)} {Q : Nat} (h : ps.length = Q + 1) : ∃ qs m v, ps = qs ++ [(m, v)] ∧ qs.length = Q := by
  have hne : ps ≠ [] := by intro e; subst e; simp at h
  refine ⟨ps.dropLast, (ps.getLast hne).1, (ps.getLast hne).2, ?_, by simp [h]⟩
  exact (List.dropLast_concat_getLast hne).symm

theorem flat_last {qs : List (Int × Int)} {Q : Nat} (h : qs.length = Q) (m v : Int) : gl (flat (qs ++ [(m, v)])) (2 * Q) = m ∧ gl (flat (qs ++ [(m, v)])) (2 * Q + 1) = v := by
  have e : (flat qs).length = 2 * Q := by rw [flat_length, h]
  rw [flat_append]
  constructor
  · rw [← e]; exact gl_app_ge (i := 0)
  · rw [← e]; exact gl_app_ge (i := 1)

theorem flat_set {qs : List (Int × Int)} {Q : Nat} (h : qs.length = Q) (m n v : Int) : (flat (qs ++ [(m, v)])).set (2 * Q) n = flat (qs ++ [(n, v)]) := by
  have e : (flat qs).length = 2 * Q := by rw [flat_length, h]
  rw [flat_append, flat_append, ← e, List.set_append]
  simp [flat]

theorem BmAt.more {f : Nat → Int} {i Q : Nat} {qs : List (Int × Int)} {m : Int} (h : BmAt f i (Q + 1) (qs ++ [(m, f i)])) (hm : m < 255) : BmAt f (i + 1) (Q + 1) (qs ++ [(m + 1, f i)]) := by
  have hw := h.canon.well (m, f i) (by simp)
  simp only at hw
  refine ⟨by simpa using h.len, canon_last h.canon (by omega) (by omega), ?_, by have := h.size; omega⟩
  have he := h.ex
  rw [ex_append] at he
  rw [ex_append, lst_succ, ← he, List.append_assoc]
  simp only [Go.Proofs.Ymbrcl.ex, List.append_nil]
  rw [show (m + 1).toNat = m.toNat + 1 by omega, List.replicate_succ']

theorem BmAt.new {f : Nat → Int} {i L : Nat} {ps : List (Int × Int)} (h : BmAt f i L ps) (hl : ∀ q, ps.getLast? = some q → q.2 = f i → q.1 = 255) : BmAt f (i + 1) (L + 1) (ps ++ [(1, f i)]) := by
  refine ⟨by simp [h.len], canon_snoc h.canon (by omega) (by omega) hl, ?_, by have := h.size; omega⟩
  rw [ex_append, h.ex, lst_succ]
  simp [Go.Proofs.Ymbrcl.ex]

set_option maxRecDepth 100000 in
set_option maxHeartbeats 800000 in
theorem bmodel_calls (a : Option Addr) (f : Nat → Int) (len cap : Nat) (w : World) (hr : Rd w a len f) (hlen : len ≤ 70368744177664) :
    Calls Yclm.prog 23 #[.slice a len cap] w fun e w' => ∃ a' cap' ps, e = .returned (.slice a' (flat ps).length cap') ∧ Own w' a' cap' (flat ps) ∧ Canon ps ∧ ex ps = lst f len ∧ Gr w w' none a' := by
  go_enter Yclm.func23, Yclm.ntmps23
  go_wp2
  go_loopw [3, 4] (fun v i wr => ∃ (k L : Nat) (a' : Option Addr) (cap' : Nat) (ps : List (Int × Int)), k ≤ len ∧ i = .int .i64 k ∧ v = .slice a' (2 * L) cap' ∧ Own wr a' cap' (flat ps) ∧ BmAt f k L ps ∧ Gr w wr none a') (fun _ i _ => len - (intOf i).toNat)
  case atStart => exact ⟨0, 0, none, 0, [], by omega, rfl, rfl, Own.nil _, ⟨rfl, trivial, rfl, by omega⟩, Gr.refl _ _⟩
  case round =>
    obtain ⟨k, L, a', cap', ps, hk, rfl, rfl, hown, hat, hgr⟩ := hrel
    have hsz := hat.size
    have hfl : Hid (2 * L = (flat ps).length) := by rw [Hid, flat_length, hat.len]
    by_cases hlt : k < len
    · obtain ⟨b, off, rfl, hcc⟩ := hr.at hlt
      clear hcc
      have c1 := (hr.keep hgr.g).cell hlt
      have hb := hr.1 k
      cases L with
      | zero =>
        have d1 : decide ((2 : Int) ≤ 0) = false := by decide
        obtain rfl : ps = [] := List.eq_nil_of_length_eq_zero hat.len
        go_wp2
        go_quiet (fail)
        go_wp2_with (at_builtin; refine wpList_app2 (w := wr.drewN _) rfl _ _ rfl a' _ cap' [] rfl rfl (hown.keep (G.drewN _ _)) 1 (f k) rfl (by omega) hb (by simp) ?_)
        intro a2 cap2 w2 hown2 hgr2
        have R := hat.new (by simp)
        go_wp2
        go_roundw
        case rel => exact ⟨k + 1, 1, a2, cap2, [(1, f k)], by omega, by go_num, rfl, hown2, R, (hgr.then (G.drewN _ _)).trans hgr2⟩
        case measure => simp [intOf]; omega
      | succ Q =>
        obtain ⟨qs, m, v, rfl, hqs⟩ := last_split hat.len
        have hm := hat.canon.well (m, v) (by simp)
        simp only at hm
        have hv : 0 ≤ v ∧ v ≤ 255 := hown.byte v (by rw [flat_append]; simp [flat])
        obtain ⟨g, rfl, hcs, hfz⟩ := hown.shape (by rw [← hfl.out]; omega)
        have l1 := flat_last hqs m v
        have c2 := hcs (2 * Q) (by rw [← hfl.out]; omega)
        have c3 := hcs (2 * Q + 1) (by rw [← hfl.out]; omega)
        rw [l1.1] at c2
        rw [l1.2] at c3
        have f2 := hfz (2 * Q)
        clear hcs hfz l1
        rw [show 2 * (Q + 1) = 2 * Q + 2 from by omega] at hfl ⊢
        have d1 : (2 : Int) ≤ 2 * (Q : Int) + 2 := by omega
        by_cases he : v = f k
        · have d2 : (v == f k) = true := by simpa using he
          have HE : Hid (v = f k) := he
          clear he
          by_cases h255 : m < 255
          · go_wp2
            go_quiet (fail)
            go_wp2
            have hat' : BmAt f k (Q + 1) (qs ++ [(m, f k)]) := by rw [← HE.out]; exact hat
            have o2 := (hown.keep (G.drewN wr nq)).stored (2 * Q) (m + 1) (by omega)
            rw [flat_set hqs, HE.out] at o2
            go_roundw
            case rel => exact ⟨k + 1, Q + 1, _, cap', _, by omega, by go_num, rfl, o2.1, hat'.more h255, (hgr.then (G.drewN _ _)).trans o2.2⟩
            case measure => simp [intOf]; omega
          · have d3 : decide (m < 255) = false := by simp; omega
            go_wp2
            go_quiet (fail)
            go_wp2_with (at_builtin; refine wpList_app2 (w := wr.drewN _) rfl _ _ rfl _ _ cap' (flat (qs ++ [(m, v)])) rfl hfl.out (hown.keep (G.drewN _ _)) 1 (f k) rfl (by omega) hb (by omega) ?_)
            intro a2 cap2 w2 hown2 hgr2
            have R := hat.new (by intro q hq e; simp at hq; subst hq; simp only at e ⊢; omega)
            have hf2 : flat (qs ++ [(m, v)] ++ [(1, f k)]) = flat (qs ++ [(m, v)]) ++ [1, f k] := by rw [flat_append]; rfl
            rw [← hf2] at hown2
            go_wp2
            go_roundw
            case rel => exact ⟨k + 1, Q + 1 + 1, a2, cap2, _, by omega, by go_num, rfl, hown2, R, (hgr.then (G.drewN _ _)).trans hgr2⟩
            case measure => simp [intOf]; omega
        · have d2 : (v == f k) = false := by simpa using he
          have HE : Hid (¬ v = f k) := he
          clear he
          go_wp2
          go_quiet (fail)
          go_wp2_with (at_builtin; refine wpList_app2 (w := wr.drewN _) rfl _ _ rfl _ _ cap' (flat (qs ++ [(m, v)])) rfl hfl.out (hown.keep (G.drewN _ _)) 1 (f k) rfl (by omega) hb (by omega) ?_)
          intro a2 cap2 w2 hown2 hgr2
          have R := hat.new (by intro q hq e; simp at hq; subst hq; simp only at e ⊢; exact absurd e HE.out)
          have hf2 : flat (qs ++ [(m, v)] ++ [(1, f k)]) = flat (qs ++ [(m, v)]) ++ [1, f k] := by rw [flat_append]; rfl
          rw [← hf2] at hown2
          go_wp2
          go_roundw
          case rel => exact ⟨k + 1, Q + 1 + 1, a2, cap2, _, by omega, by go_num, rfl, hown2, R, (hgr.then (G.drewN _ _)).trans hgr2⟩
          case measure => simp [intOf]; omega
    · obtain rfl : k = len := by omega
      go_wp2
      go_ret
      exact ⟨a', cap', ps, by simp only [hfl.out]; rfl, hown, hat.canon, hat.ex, hgr⟩

end Go.Proofs.Ymbrcl
