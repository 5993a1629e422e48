import Derived.Test.YmbrcmEncLen
import Derived.Test.YmbrcmOwn
import Derived.Test.YmbrcmRuns
set_option linter.unusedVariables false
namespace Go.Proofs.Ymbrcm
open Go.RowKit

theorem two_runs {g : Nat → Int} {n m : Nat} {v u : Int} (h1 : ∀ j, j < n → g j = v) (h2 : ∀ j, n ≤ j → j < n + m → g j = u) : lst g (n + m) = List.replicate n v ++ List.replicate m u := by
  rw [lst_run g n m u (fun j hj => h2 (n + j) (by omega) (by omega))]
  congr 1
  have := lst_run g 0 n v (fun j hj => by rw [Nat.zero_add]; exact h1 j hj)
  simpa [lst_zero] using this

set_option maxRecDepth 100000 in
set_option maxHeartbeats 800000 in
theorem fruns_calls (v : Int) (other : Bool) (k1 r1 k2 r2 : Int) (w : World) (hv : 0 ≤ v ∧ v ≤ 255) (h1 : 0 ≤ k1 ∧ k1 ≤ 255) (h2 : 0 ≤ r1 ∧ r1 ≤ 255) (h3 : 0 ≤ k2 ∧ k2 ≤ 255) (h4 : 0 ≤ r2 ∧ r2 ≤ 255) :
    Calls Ycmm.prog 7 #[.int .u8 v, .bool other, .int .u8 k1, .int .u8 r1, .int .u8 k2, .int .u8 r2] w fun e w' => e = .returned (.bool true) ∧ G w w' := by
  obtain ⟨n, hn⟩ : ∃ n : Nat, k1 % 3 * 255 + r1 = (n : Int) := ⟨(k1 % 3 * 255 + r1).toNat, by omega⟩
  obtain ⟨m, hm⟩ : ∃ m : Nat, k2 % 3 * 255 + r2 = (m : Int) := ⟨(k2 % 3 * 255 + r2).toNat, by omega⟩
  have hn1 : n ≤ 765 := by omega
  have hm1 : m ≤ 765 := by omega
  cases other with
  | true =>
    have e1 : (v + 1) % 256 ≠ v := by omega
    obtain ⟨u, hu⟩ : ∃ u, (v + 1) % 256 = u := ⟨_, rfl⟩
    have hub : 0 ≤ u ∧ u ≤ 255 := by omega
    rw [hu] at e1
    have E1 : Hid (u ≠ v) := e1
    clear e1
    go_enter Ycmm.func7, Ycmm.ntmps7
    go_wp2_with (at_make; refine wpList_mkn rfl _ _ rfl _ _ _ _ (n + m) rfl rfl (by omega) (by omega) (by omega) ?_)
    intro g w1 hown hgr
    go_wp2
    go_loopw [17] (fun i wr => ∃ (k : Nat) (l : List Int), k ≤ n + m ∧ i = .int .i64 k ∧ l.length = n + m ∧ (∀ j, j < k → (j < n → gl l j = v) ∧ (n ≤ j → gl l j = u)) ∧ Own wr (some ⟨g, 0, none⟩) (n + m) l ∧ Gr w wr none (some ⟨g, 0, none⟩)) (fun i _ => n + m - (intOf i).toNat)
    case atStart => exact ⟨0, _, by omega, rfl, by simp, by omega, hown, hgr⟩
    case round =>
      clear hown hgr
      obtain ⟨k, l, hk, rfl, hl, hval, hown, hgr⟩ := hrel
      have HV : Hid (∀ j, j < k → (j < n → gl l j = v) ∧ (n ≤ j → gl l j = u)) := hval
      clear hval
      by_cases hlt : k < n + m
      · obtain ⟨g', e, hcs, hfz⟩ := hown.shape (by omega)
        simp only [Option.some.injEq, Addr.mk.injEq, and_true] at e
        subst e
        have c2 := hcs k (by omega)
        have f2 := hfz k
        clear hcs hfz
        have hst : ∀ x, ((k < n → x = v) ∧ (n ≤ k → x = u)) → ∀ j, j < k + 1 → (j < n → gl (l.set k x) j = v) ∧ (n ≤ j → gl (l.set k x) j = u) := by
          intro x hx j hj
          by_cases e : j = k
          · subst e; rw [gl_set_eq (by omega)]; exact hx
          · rw [gl_set_ne (by omega)]; exact HV.out j (by omega)
        have HS : Hid _ := hst
        clear hst
        by_cases hkn : k < n
        · have o2 := hown.stored k v hv
          go_wp2
          go_roundw
          case rel => exact ⟨k + 1, l.set k v, by omega, by go_num, by simpa using hl, HS.out v ⟨fun _ => rfl, fun h => absurd h (by omega)⟩, o2.1, hgr.trans o2.2⟩
          case measure => simp [intOf]; omega
        · have o2 := hown.stored k u hub
          go_wp2
          go_roundw
          case rel => exact ⟨k + 1, l.set k u, by omega, by go_num, by simpa using hl, HS.out u ⟨fun h => absurd h (by omega), fun _ => rfl⟩, o2.1, hgr.trans o2.2⟩
          case measure => simp [intOf]; omega
      · obtain rfl : k = n + m := by omega
        have hrd := hown.rd
        rw [hl] at hrd
        have hl2 := two_runs (g := gl l) (n := n) (m := m) (fun j hj => (HV.out j (by omega)).1 hj) (fun j h1 h2 => (HV.out j h2).2 h1)
        have HL : Hid _ := hl2
        clear hl2 hl
        go_wp2_with fail
        refine (encLen_calls _ (gl l) (n + m) (n + m) _ hrd (by omega)).mono ?_
        rintro e w2 ⟨ps, r, ok, rfl, hc, he, hel, hg2⟩
        have hps : ps.length = (n + 254) / 255 + (m + 254) / 255 := by
          rw [HL.out] at he
          rw [canon_unique hc (canon_two (n := n) (m := m) (fun h => E1.out h.symm)) (by rw [he, ex_append, emit_ex, emit_ex])]
          rw [List.length_append, emit_len, emit_len]
        have hgg := hgr.g.trans hg2
        rw [hps] at hel
        clear hc he hps hrd
        rcases hel with ⟨h1, rfl, rfl⟩ | ⟨h1, rfl, rfl⟩
        · go_wp2
          go_ret
          exact ⟨by simp; try omega, hgg⟩
        · omega
  | false =>
    go_enter Ycmm.func7, Ycmm.ntmps7
    go_wp2_with (at_make; refine wpList_mkn rfl _ _ rfl _ _ _ _ (n + m) rfl rfl (by omega) (by omega) (by omega) ?_)
    intro g w1 hown hgr
    go_wp2
    go_loopw [17] (fun i wr => ∃ (k : Nat) (l : List Int), k ≤ n + m ∧ i = .int .i64 k ∧ l.length = n + m ∧ (∀ j, j < k → (j < n → gl l j = v) ∧ (n ≤ j → gl l j = v)) ∧ Own wr (some ⟨g, 0, none⟩) (n + m) l ∧ Gr w wr none (some ⟨g, 0, none⟩)) (fun i _ => n + m - (intOf i).toNat)
    case atStart => exact ⟨0, _, by omega, rfl, by simp, by omega, hown, hgr⟩
    case round =>
      clear hown hgr
      obtain ⟨k, l, hk, rfl, hl, hval, hown, hgr⟩ := hrel
      have HV : Hid (∀ j, j < k → (j < n → gl l j = v) ∧ (n ≤ j → gl l j = v)) := hval
      clear hval
      by_cases hlt : k < n + m
      · obtain ⟨g', e, hcs, hfz⟩ := hown.shape (by omega)
        simp only [Option.some.injEq, Addr.mk.injEq, and_true] at e
        subst e
        have c2 := hcs k (by omega)
        have f2 := hfz k
        clear hcs hfz
        have hst : ∀ x, ((k < n → x = v) ∧ (n ≤ k → x = v)) → ∀ j, j < k + 1 → (j < n → gl (l.set k x) j = v) ∧ (n ≤ j → gl (l.set k x) j = v) := by
          intro x hx j hj
          by_cases e : j = k
          · subst e; rw [gl_set_eq (by omega)]; exact hx
          · rw [gl_set_ne (by omega)]; exact HV.out j (by omega)
        have HS : Hid _ := hst
        clear hst
        by_cases hkn : k < n
        · have o2 := hown.stored k v hv
          go_wp2
          go_roundw
          case rel => exact ⟨k + 1, l.set k v, by omega, by go_num, by simpa using hl, HS.out v ⟨fun _ => rfl, fun h => absurd h (by omega)⟩, o2.1, hgr.trans o2.2⟩
          case measure => simp [intOf]; omega
        · have o2 := hown.stored k v hv
          go_wp2
          go_roundw
          case rel => exact ⟨k + 1, l.set k v, by omega, by go_num, by simpa using hl, HS.out v ⟨fun h => absurd h (by omega), fun _ => rfl⟩, o2.1, hgr.trans o2.2⟩
          case measure => simp [intOf]; omega
      · obtain rfl : k = n + m := by omega
        have hrd := hown.rd
        rw [hl] at hrd
        have hl2 := two_runs (g := gl l) (n := n) (m := m) (fun j hj => (HV.out j (by omega)).1 hj) (fun j h1 h2 => (HV.out j h2).2 h1)
        have HL : Hid _ := hl2
        clear hl2 hl
        go_wp2_with fail
        refine (encLen_calls _ (gl l) (n + m) (n + m) _ hrd (by omega)).mono ?_
        rintro e w2 ⟨ps, r, ok, rfl, hc, he, hel, hg2⟩
        have hps : ps.length = (n + m + 254) / 255 := by
          rw [HL.out] at he
          rw [List.replicate_append_replicate] at he
          rw [canon_unique hc (emit_canon (n + m) v) (by rw [he, emit_ex]), emit_len]
        have hgg := hgr.g.trans hg2
        rw [hps] at hel
        clear hc he hps hrd
        rcases hel with ⟨h1, rfl, rfl⟩ | ⟨h1, rfl, rfl⟩
        · go_wp2
          go_ret
          exact ⟨by simp; try omega, hgg⟩
        · omega

end Go.Proofs.Ymbrcm
