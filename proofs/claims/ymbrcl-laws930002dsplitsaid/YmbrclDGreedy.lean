import Derived.Test.YmbrclDrun
import Derived.Test.YmbrclRuns
set_option linter.unusedVariables false
namespace Go.Proofs.Ymbrcl
open Go.RowKit

def dc (x : Int) : Int := if x % 4 = 0 then 255 else if x % 4 = 2 then 254 else x
theorem dc_bounds {x : Int} (h : 0 ≤ x ∧ x ≤ 255) : 1 ≤ dc x ∧ dc x ≤ 255 := by
  unfold dc
  split
  · omega
  · split <;> omega

def dv (x : Int) : Int := if x % 3 = 0 then 0 else if x % 3 = 1 then 1 else 255
theorem dv_bounds (x : Int) : 0 ≤ dv x ∧ dv x ≤ 255 := by
  unfold dv
  split
  · omega
  · split <;> omega

set_option maxRecDepth 100000 in
theorem dcount_calls (x : Int) (w : World) (h : 0 ≤ x ∧ x ≤ 255) : Calls Yclm.prog 26 #[.int .u8 x] w fun e w' => e = .returned (.int .u8 (dc x)) ∧ w' = w := by
  by_cases h0 : x % 4 = 0
  · have e : dc x = 255 := by unfold dc; rw [if_pos h0]
    have d : (x % 4 == 0) = true := by simpa using h0
    rw [e]
    clear e h0
    go_enter Yclm.func26, Yclm.ntmps26
    go_wp2
    go_ret
    exact ⟨rfl, rfl⟩
  · have d : (x % 4 == 0) = false := by simpa using h0
    by_cases h2 : x % 4 = 2
    · have e : dc x = 254 := by unfold dc; rw [if_neg h0, if_pos h2]
      have d2 : (x % 4 == 2) = true := by simpa using h2
      rw [e]
      clear e h0 h2
      go_enter Yclm.func26, Yclm.ntmps26
      go_wp2
      go_ret
      exact ⟨rfl, rfl⟩
    · have e : dc x = x := by unfold dc; rw [if_neg h0, if_neg h2]
      have d2 : (x % 4 == 2) = false := by simpa using h2
      rw [e]
      clear e h0 h2
      go_enter Yclm.func26, Yclm.ntmps26
      go_wp2
      go_ret
      exact ⟨rfl, rfl⟩

set_option maxRecDepth 100000 in
theorem dval_calls (x : Int) (w : World) (h : 0 ≤ x ∧ x ≤ 255) : Calls Yclm.prog 27 #[.int .u8 x] w fun e w' => e = .returned (.int .u8 (dv x)) ∧ w' = w := by
  by_cases h0 : x % 3 = 0
  · have e : dv x = 0 := by unfold dv; rw [if_pos h0]
    have d : (x % 3 == 0) = true := by simpa using h0
    rw [e]
    clear e h0
    go_enter Yclm.func27, Yclm.ntmps27
    go_wp2
    go_ret
    exact ⟨rfl, rfl⟩
  · have d : (x % 3 == 0) = false := by simpa using h0
    by_cases h2 : x % 3 = 1
    · have e : dv x = 1 := by unfold dv; rw [if_neg h0, if_pos h2]
      have d2 : (x % 3 == 1) = true := by simpa using h2
      rw [e]
      clear e h0 h2
      go_enter Yclm.func27, Yclm.ntmps27
      go_wp2
      go_ret
      exact ⟨rfl, rfl⟩
    · have e : dv x = 255 := by unfold dv; rw [if_neg h0, if_neg h2]
      have d2 : (x % 3 == 1) = false := by simpa using h2
      rw [e]
      clear e h0 h2
      go_enter Yclm.func27, Yclm.ntmps27
      go_wp2
      go_ret
      exact ⟨rfl, rfl⟩

theorem emit_len_le (n : Nat) (v : Int) : (emit n v).length ≤ n := by rw [emit_len]; omega

theorem flat_snoc' (A : List (Int × Int)) (r v : Int) : flat A ++ [r, v] = flat (A ++ [(r, v)]) := by rw [flat_append]; rfl

set_option maxRecDepth 100000 in
set_option maxHeartbeats 800000 in
theorem demit_calls (a : Option Addr) (ps : List (Int × Int)) (L cap n : Nat) (v : Int) (w : World) (hown : Own w a cap (flat ps)) (hL : ps.length = L) (hb : L + n ≤ 17592186044416) (hv : 0 ≤ v ∧ v ≤ 255) :
    Calls Yclm.prog 32 #[.slice a (2 * L) cap, .int .i64 n, .int .u8 v] w fun e w' => ∃ a' cap', e = .returned (.slice a' (flat (ps ++ emit n v)).length cap') ∧ Own w' a' cap' (flat (ps ++ emit n v)) ∧ Gr w w' a a' := by
  have HL : Hid (ps.length = L) := hL
  clear hL
  go_enter Yclm.func32, Yclm.ntmps32
  go_wp2
  go_loopw [0, 1] (fun x j wr => ∃ (m : Nat) (a' : Option Addr) (cap' L' : Nat) (pre : List (Int × Int)), m ≤ n ∧ j = .int .i64 m ∧ x = .slice a' (2 * L') cap' ∧ (ps ++ pre).length = L' ∧ L' + m ≤ L + n ∧ emit n v = pre ++ emit m v ∧ Own wr a' cap' (flat (ps ++ pre)) ∧ Gr w wr a a') (fun _ j _ => (intOf j).toNat)
  case atStart => exact ⟨n, a, cap, L, [], by omega, rfl, rfl, by simpa using HL.out, by omega, rfl, by simpa using hown, Gr.refl _ _⟩
  case round =>
    clear hown
    obtain ⟨m, a', cap', L', pre, hm, rfl, rfl, hL', hbb, hem, hown, hgr⟩ := hrel
    have HL' : Hid ((ps ++ pre).length = L') := hL'
    have HE : Hid (emit n v = pre ++ emit m v) := hem
    have HF : Hid ((flat (ps ++ pre)).length = 2 * L') := by rw [Hid, flat_length, HL'.out]
    clear hL' hem
    by_cases hbig : 255 < m
    · have hbi : (255 : Int) < (m : Int) := by omega
      obtain ⟨m', hm'⟩ : ∃ m' : Nat, m' = m - 255 := ⟨_, rfl⟩
      have hmm : (m : Int) - 255 = (m' : Int) := by omega
      have HE2 : Hid (emit n v = pre ++ [(255, v)] ++ emit m' v) := by rw [Hid, HE.out, emit_step hbig, ← hm']; simp
      have hm1 : m' + 255 = m := by omega
      clear hm'
      go_wp2_with (at_builtin; refine wpList_app2 (w := wr) rfl _ _ rfl a' _ cap' _ rfl HF.out.symm hown 255 v rfl (by omega) hv (by omega) ?_)
      intro a2 cap2 w2 ho2 hg2
      rw [flat_snoc'] at ho2
      go_wp2
      go_roundw
      case rel => exact ⟨m', a2, cap2, L' + 1, pre ++ [(255, v)], by omega, by go_num, rfl, by rw [← List.append_assoc, List.length_append, HL'.out]; rfl, by omega, HE2.out, by rw [← List.append_assoc]; exact ho2, hgr.trans hg2⟩
      case measure => simp [intOf]; omega
    · have hbi : ¬ (255 : Int) < (m : Int) := by omega
      by_cases h0 : m = 0
      · subst h0
        have HE2 : Hid (emit n v = pre) := by rw [Hid, HE.out, emit_zero, List.append_nil]
        go_wp2
        go_ret
        rw [HE2.out]
        exact ⟨_, _, by rw [HF.out]; rfl, hown, hgr⟩
      · have h0i : (0 : Int) < (m : Int) := by omega
        have HE2 : Hid (emit n v = pre ++ [((m : Int), v)]) := by rw [Hid, HE.out, emit_small (by omega) (by omega)]
        go_wp2_with (at_builtin; refine wpList_app2 (w := wr) rfl _ _ rfl a' _ cap' _ rfl HF.out.symm hown (m : Int) v rfl (by omega) hv (by omega) ?_)
        intro a2 cap2 w2 ho2 hg2
        rw [flat_snoc'] at ho2
        go_wp2
        go_ret
        rw [HE2.out, ← List.append_assoc]
        exact ⟨_, _, by rw [flat_length, List.length_append, HL'.out]; rfl, ho2, hgr.trans hg2⟩

/-- what the merging loop knows behind k runs -/
structure DAt (l : List (Int × Int)) (k m : Nat) (ps : List (Int × Int)) (u : Int) : Prop where
  can : Canon ps
  last : ∀ q, ps.getLast? = some q → q.2 ≠ u
  ex' : ex ps ++ List.replicate m u = ex (l.take k)
  zero : m = 0 → ps = []

theorem DAt.start (l : List (Int × Int)) : DAt l 0 0 [] 0 := ⟨trivial, by simp, by simp [ex], fun _ => rfl⟩

theorem DAt.done {l : List (Int × Int)} {k m : Nat} {ps : List (Int × Int)} {u : Int} (h : DAt l k m ps u) : Canon (ps ++ emit m u) ∧ ex (ps ++ emit m u) = ex (l.take k) := by
  refine ⟨canon_append h.can (emit_canon m u) fun p q hp hq e => ?_, ?_⟩
  · have h1 := h.last p hp
    have h2 := emit_val m u q (List.mem_of_mem_head? hq)
    exact absurd (e.symm.trans h2) h1
  · rw [ex_append, emit_ex]; exact h.ex'

theorem take_snoc {l : List (Int × Int)} {k : Nat} (hk : k < l.length) : l.take (k + 1) = l.take k ++ [l.getD k (0, 0)] := by
  rw [List.take_succ_eq_append_getElem hk]; simp [List.getD_eq_getElem?_getD, hk]

theorem DAt.same {l : List (Int × Int)} {k m c : Nat} {ps : List (Int × Int)} {u : Int} (h : DAt l k m ps u) (hk : k < l.length) (hc : l.getD k (0, 0) = ((c : Int), u)) (h1 : 1 ≤ c) : DAt l (k + 1) (m + c) ps u := by
  refine ⟨h.can, h.last, ?_, fun e => by omega⟩
  rw [take_snoc hk, hc, ex_snoc, ← h.ex', List.append_assoc, List.replicate_append_replicate]

theorem DAt.other {l : List (Int × Int)} {k m c : Nat} {ps : List (Int × Int)} {u v : Int} (h : DAt l k m ps u) (hk : k < l.length) (hc : l.getD k (0, 0) = ((c : Int), v)) (h1 : 1 ≤ c) (hv : v ≠ u) : DAt l (k + 1) c (ps ++ emit m u) v := by
  have hd := h.done
  refine ⟨hd.1, ?_, ?_, fun e => by omega⟩
  · intro q hq
    by_cases hm : m = 0
    · subst hm
      rw [h.zero rfl, emit_zero] at hq
      simp at hq
    · have hne : emit m u ≠ [] := by
        intro e
        have := emit_len m u
        rw [e] at this
        simp at this
        omega
      obtain ⟨z, hz⟩ : ∃ z, (emit m u).getLast? = some z := ⟨_, List.getLast?_eq_some_getLast hne⟩
      rw [List.getLast?_append, hz] at hq
      simp at hq
      subst hq
      rw [emit_val m u z (List.mem_of_getLast? hz)]
      exact fun e => hv e.symm
  · rw [take_snoc hk, hc, ex_snoc, hd.2]

set_option maxRecDepth 100000 in
set_option maxHeartbeats 1600000 in
theorem dgreedy_calls (a : Option Addr) (l : List (Int × Int)) (N cap : Nat) (w : World) (hown : OwnR w a cap l) (hN : l.length = N) (hb : N ≤ 1048576) (hl : ∀ i, i < N → (1 ≤ (l.getD i (0, 0)).1 ∧ (l.getD i (0, 0)).1 ≤ 1000) ∧ 0 ≤ (l.getD i (0, 0)).2 ∧ (l.getD i (0, 0)).2 ≤ 255) :
    Calls Yclm.prog 29 #[.slice a N cap] w fun e w' => ∃ a' cap' qs, e = .returned (.slice a' (flat qs).length cap') ∧ Own w' a' cap' (flat qs) ∧ Canon qs ∧ ex qs = ex l ∧ qs.length ≤ 1000 * N ∧ Gr w w' none a' := by
  obtain ⟨f0, f1⟩ := hown.fld
  rw [hN] at f0 f1
  have HN : Hid (l.length = N) := hN
  have HB : Hid (∀ i, i < N → (1 ≤ (l.getD i (0, 0)).1 ∧ (l.getD i (0, 0)).1 ≤ 1000) ∧ 0 ≤ (l.getD i (0, 0)).2 ∧ (l.getD i (0, 0)).2 ≤ 255) := hl
  clear hN hown hl
  go_enter Yclm.func29, Yclm.ntmps29
  go_wp2
  go_loopw [3, 4, 5, 6] (fun x t z i wr => ∃ (k m : Nat) (a' : Option Addr) (cap' L : Nat) (ps : List (Int × Int)) (u : Int), k ≤ N ∧ i = .int .i64 k ∧ t = .int .i64 m ∧ z = .int .u8 u ∧ x = .slice a' (2 * L) cap' ∧ ps.length = L ∧ L + m ≤ 1000 * k ∧ 0 ≤ u ∧ u ≤ 255 ∧ DAt l k m ps u ∧ Own wr a' cap' (flat ps) ∧ Gr w wr none a') (fun _ _ _ i _ => N - (intOf i).toNat)
  case atStart => exact ⟨0, 0, none, 0, 0, [], 0, by omega, rfl, rfl, rfl, rfl, rfl, by omega, by omega, by omega, DAt.start l, Own.nil _, Gr.refl _ _⟩
  case round =>
    obtain ⟨k, m, a', cap', L, ps, u, hk, rfl, rfl, rfl, rfl, hps, hLm, hu0, hu1, hat, hown, hgr⟩ := hrel
    have HP : Hid (ps.length = L) := hps
    have HA : Hid (DAt l k m ps u) := hat
    clear hps hat
    by_cases hlt : k < N
    · have hki : (k : Int) < N := by omega
      obtain ⟨b, off, rfl⟩ := f0.at hlt
      have c1 := (f0.keep hgr.g).cell hlt
      have c2 := (f1.keep hgr.g).cell hlt
      simp only [Nat.add_zero] at c1
      have hbd := HB.out k hlt
      obtain ⟨c, hc⟩ : ∃ c : Nat, (l.getD k (0, 0)).1 = (c : Int) := ⟨((l.getD k (0, 0)).1).toNat, by omega⟩
      obtain ⟨v, hv⟩ : ∃ v : Int, (l.getD k (0, 0)).2 = v := ⟨_, rfl⟩
      have HC : Hid (l.getD k (0, 0) = ((c : Int), v)) := by rw [Hid, ← hc, ← hv]
      have hc1 : 1 ≤ c ∧ c ≤ 1000 := by omega
      have hv1 : 0 ≤ v ∧ v ≤ 255 := by omega
      simp only [hc] at c1
      simp only [hv] at c2
      clear hbd hc hv
      by_cases huv : v = u
      · subst huv
        have d1 : (v != v) = false := by simp
        have HA2 : Hid (DAt l (k + 1) (m + c) ps v) := HA.out.same (by rw [HN.out]; exact hlt) HC.out hc1.1
        go_wp2
        go_roundw
        case rel => exact ⟨k + 1, m + c, a', cap', L, ps, v, by omega, by go_num, by go_num, rfl, rfl, HP.out, by omega, hu0, hu1, HA2.out, hown, hgr⟩
        case measure => simp [intOf]; omega
      · have d1 : (v != u) = true := by simpa using huv
        have HA2 : Hid (DAt l (k + 1) c (ps ++ emit m u) v) := HA.out.other (by rw [HN.out]; exact hlt) HC.out hc1.1 huv
        clear huv
        go_wp2_with fail
        refine (demit_calls a' ps L cap' m u _ hown HP.out (by omega) ⟨hu0, hu1⟩).mono ?_
        rintro e w2 ⟨a2, cap2, rfl, ho2, hg2⟩
        have hgr2 := hgr.trans hg2
        have c1 := (f0.keep hgr2.g).cell hlt
        have c2 := (f1.keep hgr2.g).cell hlt
        simp only [Nat.add_zero, HC.out] at c1 c2
        have hle := emit_len_le m u
        obtain ⟨L2, hL2⟩ : ∃ L2, (ps ++ emit m u).length = L2 := ⟨_, rfl⟩
        have hLL : L2 ≤ L + m := by rw [← hL2, List.length_append, HP.out]; omega
        have HP2 : Hid ((ps ++ emit m u).length = L2) := hL2
        have hfl : (flat (ps ++ emit m u)).length = 2 * L2 := by rw [flat_length, hL2]
        rw [hfl]
        clear hfl hL2 hle
        go_wp2
        go_roundw
        case rel => exact ⟨k + 1, c, a2, cap2, L2, _, v, by omega, by go_num, by go_num, rfl, rfl, HP2.out, by omega, hv1.1, hv1.2, HA2.out, ho2, hgr2⟩
        case measure => simp [intOf]; omega
    · have hki : ¬ (k : Int) < (N : Int) := by omega
      obtain rfl : k = N := by omega
      have hd := HA.out.done
      have hle := emit_len_le m u
      have HD : Hid (Canon (ps ++ emit m u) ∧ ex (ps ++ emit m u) = ex l ∧ (ps ++ emit m u).length ≤ 1000 * k) := by
        refine ⟨hd.1, ?_, by rw [List.length_append, HP.out]; omega⟩
        rw [hd.2, ← HN.out, List.take_length]
      clear hd hle
      go_wp2_with fail
      refine (demit_calls a' ps L cap' m u _ hown HP.out (by omega) ⟨hu0, hu1⟩).mono ?_
      rintro e w2 ⟨a2, cap2, rfl, ho2, hg2⟩
      have hgr2 := hgr.trans hg2
      go_wp2
      go_ret
      exact ⟨_, _, _, rfl, ho2, HD.out.1, HD.out.2.1, HD.out.2.2, hgr2⟩

end Go.Proofs.Ymbrcl
