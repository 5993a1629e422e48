import Derived.Test.YmbrclRunAt
import Derived.Test.YmbrclOwn
set_option linter.unusedVariables false
namespace Go.Proofs.Ymbrcl
open Go.RowKit

/-- the plain law: a run of one more -/
theorem run_one {f : Nat → Int} {len s n : Nat} (h : RunIs f len s n) (e : s + 1 = len ∨ ¬ f (s + 1) = f s) : n = 1 := by
  obtain ⟨h1, h2, h3, h4, h5⟩ := h
  rcases e with e | e
  · omega
  · by_cases hn : n = 1
    · exact hn
    · exfalso; exact e (h4 1 (by omega))

theorem run_more {f : Nat → Int} {len s n m : Nat} (h : RunIs f len s n) (k : RunIs f len (s + 1) m) (e : f (s + 1) = f s) : n = if 255 < m + 1 then 255 else m + 1 := by
  obtain ⟨h1, h2, h3, h4, h5⟩ := h
  obtain ⟨k1, k2, k3, k4, k5⟩ := k
  have a1 : n ≤ m + 1 := by
    refine Nat.le_of_not_lt fun hlt => ?_
    rcases k5 with k5 | k5 | k5
    · omega
    · omega
    · apply k5
      rw [e, show s + 1 + m = s + (m + 1) by omega]; exact h4 (m + 1) hlt
  by_cases hn : n = m + 1
  · split <;> omega
  · have hlt : n < m + 1 := by omega
    rcases h5 with h5 | h5 | h5
    · split <;> omega
    · omega
    · exfalso
      apply h5
      obtain ⟨d, rfl⟩ : ∃ d, n = d + 1 := ⟨n - 1, by omega⟩
      rw [show s + (d + 1) = s + 1 + d by omega, k4 d (by omega), e]

set_option maxRecDepth 100000 in
set_option maxHeartbeats 800000 in
theorem cstep_calls (a : Option Addr) (f : Nat → Int) (len cap : Nat) (x : Int) (w : World) (hr : Rd w a len f) (hx0 : 0 ≤ x) (hx1 : x ≤ 18446744073709551615) :
    Calls Yclm.prog 11 #[.slice a len cap, .int .u64 x] w fun e w' => e = .returned (.bool true) ∧ G w w' := by
  by_cases h0 : len = 0
  · have e0 : ((len : Int) == 0) = true := by simp; omega
    go_enter Yclm.func11, Yclm.ntmps11
    go_wp2
    go_ret
    exact ⟨rfl, G.refl _⟩
  have e0 : ((len : Int) == 0) = false := by simp; omega
  by_cases hbig : 1024 < len
  · have e1 : (1024 : Int) < len := by omega
    go_enter Yclm.func11, Yclm.ntmps11
    go_wp2
    go_ret
    exact ⟨rfl, G.refl _⟩
  have e1 : ¬ (1024 : Int) < len := by omega
  have m1 : x % (len : Int) < len := Int.emod_lt_of_pos _ (by omega)
  obtain ⟨s, hs⟩ := Int.eq_ofNat_of_zero_le (Int.emod_nonneg x (show (len : Int) ≠ 0 by omega))
  rw [hs] at m1
  obtain ⟨b, off, rfl, hc⟩ := hr.at (show s < len by omega)
  clear hc
  go_enter Yclm.func11, Yclm.ntmps11
  go_wp2_with (at_make; refine wpList_mkn rfl _ _ rfl _ _ _ _ len rfl rfl rfl rfl (by omega) ?_)
  intro g w1 hown hgr
  go_wp2
  go_loopw [6] (fun i wr => ∃ (k : Nat) (l : List Int), k ≤ len ∧ i = .int .i64 k ∧ l.length = len ∧ Own wr (some ⟨g, 0, none⟩) len l ∧ Gr w wr none (some ⟨g, 0, none⟩)) (fun i _ => len - (intOf i).toNat)
  case atStart => exact ⟨0, _, by omega, rfl, by simp, hown, hgr⟩
  case round =>
    clear hown hgr
    obtain ⟨k, l, hk, rfl, hl, hown, hgr⟩ := hrel
    by_cases hlt : k < len
    · have c1 := (hr.keep hgr.g).cell hlt
      have hb := hr.1 k
      obtain ⟨g', e, hcs, hfz⟩ := hown.shape (by omega)
      simp only [Option.some.injEq, Addr.mk.injEq, and_true] at e
      subst e
      have c2 := hcs k (by omega)
      have f2 := hfz k
      clear hcs hfz
      go_wp2
      obtain ⟨o2, g2⟩ := hown.stored k (f k / 4) (by omega)
      go_roundw
      case rel => exact ⟨k + 1, l.set k (f k / 4), by omega, by go_num, by simpa using hl, o2, hgr.trans g2⟩
      case measure => simp [intOf]; omega
    · have HL : Hid (l.length = len) := hl
      have hrd := hown.rd
      rw [hl] at hrd
      clear hl
      go_wp2_with (go_at_call 24; refine (runAt_calls _ (gl l) len len s _ hrd (by omega) (by omega)).mono ?_)
      rintro e w2 ⟨n, rfl, hn, hg⟩
      have hrd2 := hrd.keep hg
      have HN : Hid (RunIs (gl l) len s n) := hn
      clear hn hrd hown
      go_wp2
      have hfr := hgr.g.trans hg
      clear hgr hg
      by_cases hse : s + 1 = len
      · have d1 : ((s : Int) + 1 == (len : Int)) = true := by simp; omega
        go_quiet (fail)
        go_wp2
        go_ret
        have := run_one HN.out (.inl hse)
        exact ⟨by simp [this], hfr.trans (G.drewN _ _)⟩
      · have d1 : ((s : Int) + 1 == (len : Int)) = false := by simp; omega
        have c1 := hrd2.cell (show s + 1 < len by omega)
        have c2 := hrd2.cell (show s < len by omega)
        simp only [Nat.zero_add] at c1 c2
        go_quiet (fail)
        go_wp2_with (go_at_call 24; refine (runAt_calls _ (gl l) len len (s + 1) _ (hrd2.keep (G.drewN _ _)) (by omega) (by omega)).mono ?_)
        · have ht : (gl l (s + 1) != gl l s) = true := by assumption
          go_ret
          have := run_one HN.out (.inr (by simpa using ht))
          exact ⟨by simp [this], hfr.trans (G.drewN _ _)⟩
        · have ht : (gl l (s + 1) != gl l s) = false := by assumption
          rintro e w3 ⟨m, rfl, hm, hg3⟩
          have hmb := hm.2.1
          have hq := run_more HN.out hm (by simpa using ht)
          have HQ : Hid (n = if 255 < m + 1 then 255 else m + 1) := hq
          clear hq hm ht
          go_wp2
          all_goals
            go_ret
            refine ⟨?_, (hfr.trans (G.drewN _ _)).trans hg3⟩
            have := HQ.out
            split at this <;> simp <;> omega

end Go.Proofs.Ymbrcl
