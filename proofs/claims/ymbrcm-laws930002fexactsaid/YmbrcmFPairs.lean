import Derived.Test.YmbrcmEncLen
set_option linter.unusedVariables false
namespace Go.Proofs.Ymbrcm
open Go.RowKit

/-- what fpairs' loop holds behind k bytes -/
structure FpAt (f : Nat → Int) (k L : Nat) (run : Int) (ps : List (Int × Int)) : Prop where
  bm : BmAt f k L ps
  last : (k = 0 ∧ ps = []) ∨ (1 ≤ k ∧ ∃ qs, ps = qs ++ [(run, f (k - 1))])

theorem FpAt.new {f : Nat → Int} {k L : Nat} {run : Int} {ps : List (Int × Int)} (h : FpAt f k L run ps) (e : k = 0 ∨ f k ≠ f (k - 1) ∨ run = 255) : FpAt f (k + 1) (L + 1) 1 (ps ++ [(1, f k)]) := by
  refine ⟨h.bm.new ?_, .inr ⟨by omega, ps, by simp⟩⟩
  intro q hq eq
  rcases h.last with ⟨h1, rfl⟩ | ⟨h1, qs, rfl⟩
  · simp at hq
  · simp at hq; subst hq
    rcases e with e | e | e
    · omega
    · exact absurd eq.symm e
    · exact e

theorem FpAt.more {f : Nat → Int} {k L : Nat} {run : Int} {ps : List (Int × Int)} (h : FpAt f k L run ps) (hk : 1 ≤ k) (e : f k = f (k - 1)) (hrun : run ≠ 255) : ∃ qs, FpAt f (k + 1) L (run + 1) qs := by
  rcases h.last with ⟨h1, rfl⟩ | ⟨h1, qs, rfl⟩
  · omega
  · have hb := h.bm
    have hw := hb.canon.well (run, f (k - 1)) (by simp)
    simp only at hw
    rw [← e] at hb
    have hl := hb.len
    simp at hl
    subst hl
    exact ⟨_, hb.more (by omega), .inr ⟨by omega, qs, by simp⟩⟩

theorem FpAt.run {f : Nat → Int} {k L : Nat} {run : Int} {ps : List (Int × Int)} (h : FpAt f k L run ps) (hk : 1 ≤ k) : 1 ≤ run ∧ run ≤ 255 := by
  rcases h.last with ⟨h1, rfl⟩ | ⟨h1, qs, rfl⟩
  · omega
  · exact h.bm.canon.well (run, f (k - 1)) (by simp)

set_option maxRecDepth 100000 in
set_option maxHeartbeats 400000 in
theorem fpairs_calls (a : Option Addr) (f : Nat → Int) (len cap : Nat) (w : World) (hr : Rd w a len f) (hlen : len ≤ 9223372036854775807) :
    Calls Ycmm.prog 20 #[.slice a len cap] w fun e w' => ∃ (ps : List (Int × Int)), e = .returned (.int .i64 ps.length) ∧ Canon ps ∧ ex ps = lst f len ∧ ps.length ≤ len ∧ G w w' := by
  go_enter Ycmm.func20, Ycmm.ntmps20
  go_wp2
  go_loopw [3, 4, 5] (fun p r i wr => ∃ (k L : Nat) (run : Int) (ps : List (Int × Int)), k ≤ len ∧ i = .int .i64 k ∧ p = .int .i64 L ∧ r = .int .i64 run ∧ 0 ≤ run ∧ run ≤ 255 ∧ FpAt f k L run ps ∧ ∃ q, wr = w.drewN q) (fun _ _ i _ => len - (intOf i).toNat)
  case atStart => exact ⟨0, 0, 0, [], by omega, rfl, rfl, rfl, by omega, by omega, ⟨⟨rfl, trivial, rfl, by omega⟩, .inl ⟨rfl, rfl⟩⟩, 0, rfl⟩
  case round =>
    obtain ⟨k, L, run, ps, hk, rfl, rfl, rfl, hr0, hr1, hat, q, rfl⟩ := hrel
    have hL := hat.bm.size
    by_cases hlt : k < len
    · obtain ⟨b, off, rfl, hc⟩ := hr.at hlt
      have c1 := hc k hlt
      have c2 := hc (k - 1) (by omega)
      clear hc
      by_cases hk0 : k = 0
      · have d1 : ((k : Int) == 0) = true := by simp; omega
        have R := hat.new (.inl hk0)
        have HR : Hid _ := R
        clear R hk0 c2 hat
        go_wp2
        go_quiet (fail)
        go_wp2
        go_roundw
        case rel => exact ⟨k + 1, L + 1, 1, _, by omega, by go_num, by go_num, rfl, by omega, by omega, HR.out, _, rfl⟩
        case measure => simp [intOf]; omega
      have d1 : ((k : Int) == 0) = false := by simp; omega
      have hk1 : 1 ≤ k := by omega
      by_cases he : f k = f (k - 1)
      · have d2 : (f k != f (k - 1)) = false := by simpa using he
        by_cases h255 : run = 255
        · have d3 : (run == 255) = true := by simpa using h255
          have R := hat.new (.inr (.inr h255))
          have HR : Hid _ := R
          clear R h255 he hat
          go_wp2
          go_quiet (fail)
          go_wp2
          go_roundw
          case rel => exact ⟨k + 1, L + 1, 1, _, by omega, by go_num, by go_num, rfl, by omega, by omega, HR.out, _, rfl⟩
          case measure => simp [intOf]; omega
        · have d3 : (run == 255) = false := by simpa using h255
          obtain ⟨qs, R⟩ := hat.more hk1 he h255
          have HR : Hid _ := R
          have hr2 : run ≤ 254 := by omega
          clear R h255 he hat
          go_wp2
          go_quiet (fail)
          go_wp2
          go_roundw
          case rel => exact ⟨k + 1, L, run + 1, qs, by omega, by go_num, rfl, rfl, by omega, by omega, HR.out, _, rfl⟩
          case measure => simp [intOf]; omega
      · have d2 : (f k != f (k - 1)) = true := by simpa using he
        have R := hat.new (.inr (.inl he))
        have HR : Hid _ := R
        clear R he hat
        go_wp2
        go_quiet (fail)
        go_wp2
        go_roundw
        case rel => exact ⟨k + 1, L + 1, 1, _, by omega, by go_num, by go_num, rfl, by omega, by omega, HR.out, _, rfl⟩
        case measure => simp [intOf]; omega
    · obtain rfl : k = len := by omega
      go_wp2
      go_ret
      exact ⟨ps, by rw [hat.bm.len]; rfl, hat.bm.canon, hat.bm.ex, by rw [hat.bm.len]; exact hL, G.drewN _ _⟩

set_option maxRecDepth 100000 in
set_option maxHeartbeats 400000 in
theorem fexact_calls (a : Option Addr) (f : Nat → Int) (len cap : Nat) (w : World) (hr : Rd w a len f) (hlen : len ≤ 9223372036854775807) :
    Calls Ycmm.prog 6 #[.slice a len cap] w fun e w' => e = .returned (.bool true) ∧ G w w' := by
  go_enter Ycmm.func6, Ycmm.ntmps6
  go_wp2_with fail
  refine (fpairs_calls a f len cap _ hr hlen).mono ?_
  rintro e w1 ⟨ps, rfl, hc, he, hl, hg⟩
  go_wp2_with fail
  refine (encLen_calls a f len cap _ (hr.keep hg) hlen).mono ?_
  rintro e w2 ⟨qs, r, ok, rfl, hc2, he2, hel, hg2⟩
  obtain rfl : ps = qs := canon_unique hc hc2 (he.trans he2.symm)
  have hgg := hg.trans hg2
  clear hc hc2 he he2 hg hg2
  generalize ps.length = L at *
  rcases hel with ⟨h1, rfl, rfl⟩ | ⟨h1, rfl, rfl⟩
  · go_wp2
    go_ret
    exact ⟨by simp, hgg⟩
  · go_wp2
    go_ret
    exact ⟨rfl, hgg⟩

end Go.Proofs.Ymbrcm
