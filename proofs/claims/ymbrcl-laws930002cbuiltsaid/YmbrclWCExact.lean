import Derived.Test.YmbrclRunAt
set_option linter.unusedVariables false
namespace Go.Proofs.Ymbrcl
open Go.RowKit

/-- r is the length of the whole run of f that begins at s, in a row of 'len'. -/
def FullRun (f : Nat → Int) (len s r : Nat) : Prop :=
  1 ≤ r ∧ s + r ≤ len ∧ (∀ j, j < r → f (s + j) = f s) ∧ (s + r = len ∨ f (s + r) ≠ f s)

theorem full_cut {f : Nat → Int} {len s r n : Nat} (h : FullRun f len s r) (k : RunIs f len s n) : n = if 255 < r then 255 else r := by
  obtain ⟨h1, h2, h3, h4⟩ := h
  obtain ⟨k1, k2, k3, k4, k5⟩ := k
  have hnr : n ≤ r := by
    refine Nat.le_of_not_lt fun hlt => ?_
    rcases h4 with h4 | h4
    · omega
    · exact h4 (k4 r hlt)
  split
  · rcases k5 with k5 | k5 | k5
    · exact k5
    · omega
    · exfalso; exact k5 (h3 n (by omega))
  · rcases k5 with k5 | k5 | k5
    · omega
    · omega
    · by_cases e : n = r
      · exact e
      · exfalso; exact k5 (h3 n (by omega))

theorem full_start {f : Nat → Int} {len : Nat} (h : 1 ≤ len) : FullRun f len (len - 1) 1 :=
  ⟨by omega, by omega, fun j hj => by rw [show j = 0 by omega]; rfl, .inl (by omega)⟩

theorem full_more {f : Nat → Int} {len m r : Nat} (h : FullRun f len (m + 1) r) (e : f m = f (m + 1)) : FullRun f len m (r + 1) := by
  obtain ⟨h1, h2, h3, h4⟩ := h
  refine ⟨by omega, by omega, fun j hj => ?_, ?_⟩
  · cases j with
    | zero => rfl
    | succ j => rw [show m + (j + 1) = m + 1 + j by omega, h3 j (by omega), e]
  · rcases h4 with h4 | h4
    · exact .inl (by omega)
    · exact .inr (by rw [show m + (r + 1) = m + 1 + r by omega, e]; exact h4)

theorem full_new {f : Nat → Int} {len m : Nat} (hm : m + 1 < len) (e : ¬ f m = f (m + 1)) : FullRun f len m 1 :=
  ⟨by omega, by omega, fun j hj => by rw [show j = 0 by omega]; rfl, .inr fun h => e h.symm⟩

set_option maxRecDepth 100000 in
set_option maxHeartbeats 400000 in
theorem cexact_calls (a : Option Addr) (f : Nat → Int) (len cap : Nat) (x : Int) (w : World) (hr : Rd w a len f) (hlen : len ≤ 9223372036854775807) (hx0 : 0 ≤ x) (hx1 : x ≤ 18446744073709551615) :
    Calls Yclm.prog 9 #[.slice a len cap, .int .u64 x] w fun e w' => e = .returned (.bool true) ∧ G w w' := by
  by_cases h0 : len = 0
  · have e0 : ((len : Int) == 0) = true := by simp; omega
    go_enter Yclm.func9, Yclm.ntmps9
    go_wp2
    go_ret
    exact ⟨rfl, G.refl _⟩
  · have e0 : ((len : Int) == 0) = false := by simp; omega
    have m1 : x % (len : Int) < len := Int.emod_lt_of_pos _ (by omega)
    obtain ⟨s, hs⟩ := Int.eq_ofNat_of_zero_le (Int.emod_nonneg x (show (len : Int) ≠ 0 by omega))
    rw [hs] at m1
    obtain ⟨b, off, rfl, hc⟩ := hr.at (show s < len by omega)
    go_enter Yclm.func9, Yclm.ntmps9
    go_wp2
    go_loopw [6, 7] (fun r i wr => ∃ m k : Nat, s ≤ m ∧ m < len ∧ i = .int .i64 ((m : Int) - 1) ∧ r = .int .i64 k ∧ FullRun f len m k ∧ ∃ q, wr = w.drewN q) (fun _ i _ => (intOf i + 1 - s).toNat)
    case atStart => exact ⟨len - 1, 1, by omega, by omega, by go_num, rfl, full_start (by omega), 0, rfl⟩
    case round =>
      obtain ⟨m, k, hm1, hm2, rfl, rfl, hrun, q, rfl⟩ := hrel
      have hk := hrun.2.1
      have hk1 := hrun.1
      have H : Hid (FullRun f len m k) := hrun
      clear hrun
      by_cases hlt : s < m
      · obtain ⟨p, rfl⟩ : ∃ p, m = p + 1 := ⟨m - 1, by omega⟩
        have c1 := hc p (by omega)
        have c2 := hc (p + 1) (by omega)
        go_wp2
        go_quiet (fail)
        go_wp2
        · have ht : (f p == f (p + 1)) = true := by assumption
          go_roundw
          case rel => exact ⟨p, k + 1, by omega, by omega, rfl, by go_num, full_more H.out (by simpa using ht), _, rfl⟩
          case measure => simp [intOf]; omega
        · have ht : (f p == f (p + 1)) = false := by assumption
          go_roundw
          case rel => exact ⟨p, 1, by omega, by omega, rfl, rfl, full_new (by omega) (by simpa using ht), _, rfl⟩
          case measure => simp [intOf]; omega
      · have hms : m = s := by omega
        subst hms
        go_wp2_with fail
        all_goals
          refine (runAt_calls _ f len cap m _ (hr.keep (G.drewN _ _)) hm2 hlen).mono ?_
          rintro e w1 ⟨n, rfl, hn, hg⟩
          have hcut := full_cut H.out hn
          have HC : Hid (n = if 255 < k then 255 else k) := hcut
          clear hcut hn
          go_wp2
          go_ret
          refine ⟨?_, (G.drewN _ _).trans hg⟩
          have := HC.out
          split at this <;> simp <;> omega

end Go.Proofs.Ymbrcl
