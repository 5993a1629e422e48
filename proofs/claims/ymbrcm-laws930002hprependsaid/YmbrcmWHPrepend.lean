import Derived.Test.YmbrcmTwo
import Derived.Test.YmbrcmAt
set_option linter.unusedVariables false
namespace Go.Proofs.Ymbrcm
open Go.RowKit

theorem sumc_step {f : Nat → Int} (hb : ∀ i, 0 ≤ f i ∧ f i ≤ 255) {p q : Nat} (h : p < q) : sumc f (p + 1) ≤ sumc f q := by
  obtain ⟨d, rfl⟩ : ∃ d, q = p + 1 + d := ⟨q - (p + 1), by omega⟩
  exact sumc_mono hb _ _

theorem at_one {f : Nat → Int} (hb : ∀ i, 0 ≤ f i ∧ f i ≤ 255) {n : Nat} {i v c v' c' : Int} (h : AtIs f n i v c) (k : AtIs f n i v' c') : v = v' ∧ c = c' := by
  have key : ∀ q, 2 * q < n → n % 2 = 0 → sumc f (q + 1) ≤ sumc f (n / 2) := fun q h1 h2 => sumc_step hb (by omega)
  rcases h with ⟨h1, h2, h3⟩ | ⟨h1, h2, h3, h4⟩ | ⟨h1, h2, h3, h4, h5⟩ | ⟨h1, h2, q, h3, h4, h5, h6, h7⟩ <;> rcases k with ⟨k1, k2, k3⟩ | ⟨k1, k2, k3, k4⟩ | ⟨k1, k2, k3, k4, k5⟩ | ⟨k1, k2, p, k3, k4, k5, k6, k7⟩
  all_goals first
    | omega
    | exact absurd ‹HasZero f n› ‹¬ HasZero f n›
    | skip
  · have := key p k3 k1; have := sumc_nonneg hb p; omega
  · have := key q h3 h1; have := sumc_nonneg hb q; omega
  · have e : q = p := by
      rcases Nat.lt_trichotomy q p with e | e | e
      · have := sumc_step hb e; omega
      · exact e
      · have := sumc_step hb e; omega
    subst e
    exact ⟨by rw [h6, k6], by omega⟩

/-- one pair put ahead -/
structure Ahead (f g : Nat → Int) (n : Nat) (t v : Int) : Prop where
  t0 : g 0 = t
  v0 : g 1 = v
  r : ∀ i, i < n → g (i + 2) = f i

theorem Ahead.sum {f g : Nat → Int} {n : Nat} {t v : Int} (h : Ahead f g n t v) (k : Nat) (hk : 2 * k ≤ n + 1) : sumc g (k + 1) = t + sumc f k := by
  induction k with
  | zero => simp [sumc, h.t0]
  | succ k ih =>
    show sumc g (k + 1) + g (2 * (k + 1)) = t + (sumc f k + f (2 * k))
    rw [ih (by omega), show 2 * (k + 1) = 2 * k + 2 by omega, h.r _ (by omega)]; omega

theorem Ahead.zero {f g : Nat → Int} {n : Nat} {t v : Int} (h : Ahead f g n t v) (ht : t ≠ 0) : HasZero g (n + 2) ↔ HasZero f n := by
  constructor
  · rintro ⟨j, h1, h2⟩
    cases j with
    | zero => rw [show 2 * 0 = 0 by omega, h.t0] at h2; exact absurd h2 ht
    | succ j => exact ⟨j, by omega, by rw [← h.r _ (by omega)]; exact h2⟩
  · rintro ⟨j, h1, h2⟩
    exact ⟨j + 1, by omega, by rw [show 2 * (j + 1) = 2 * j + 2 by omega, h.r _ h1]; exact h2⟩

theorem Ahead.shift {f g : Nat → Int} {n : Nat} {t v : Int} (h : Ahead f g n t v) (ht : 1 ≤ t) {i x c : Int} (hi : 0 ≤ i) (k : AtIs f n i x c) : AtIs g (n + 2) (t + i) x c := by
  have hz := h.zero (by omega)
  rcases k with ⟨k1, k2, k3⟩ | ⟨k1, k2, k3, k4⟩ | ⟨k1, k2, k3, k4, k5⟩ | ⟨k1, k2, p, k3, k4, k5, k6, k7⟩
  · exact .inl ⟨by omega, k2, k3⟩
  · exact .inr (.inl ⟨by omega, hz.2 k2, k3, k4⟩)
  · refine .inr (.inr (.inl ⟨by omega, fun e => k2 (hz.1 e), .inr ?_, k4, k5⟩))
    rw [show (n + 2) / 2 = n / 2 + 1 by omega, h.sum _ (by omega)]
    omega
  · refine .inr (.inr (.inr ⟨by omega, fun e => k2 (hz.1 e), p + 1, by omega, ?_, ?_, ?_, k7⟩))
    · rw [h.sum _ (by omega)]; omega
    · rw [h.sum _ (by omega)]; omega
    · rw [show 2 * (p + 1) + 1 = 2 * p + 1 + 2 by omega, h.r _ (by omega)]; exact k6

theorem Ahead.bad {f g : Nat → Int} {n : Nat} {t v : Int} (h : Ahead f g n t v) (ht : 1 ≤ t) (i : Int) {c : Int} (hc : ChkIs f n c) (h0 : c ≠ 0) : AtIs g (n + 2) i 0 c := by
  have hz := h.zero (by omega)
  rcases hc with ⟨h1, h2⟩ | ⟨h1, h2, h3⟩ | ⟨h1, h2, h3⟩
  · exact .inl ⟨by omega, rfl, h2⟩
  · exact .inr (.inl ⟨by omega, hz.2 h2, rfl, h3⟩)
  · exact absurd h3 h0

theorem Ahead.good {f g : Nat → Int} {n : Nat} {t v : Int} (h : Ahead f g n t v) (ht : 1 ≤ t) {i : Int} (hi : 0 ≤ i ∧ i < t) (hc : ChkIs f n 0) : AtIs g (n + 2) i v 0 := by
  have hz := h.zero (by omega)
  rcases hc with ⟨h1, h2⟩ | ⟨h1, h2, h3⟩ | ⟨h1, h2, h3⟩
  · omega
  · omega
  · refine .inr (.inr (.inr ⟨by omega, fun e => h2 (hz.1 e), 0, by omega, ?_, ?_, h.v0.symm, rfl⟩))
    · exact hi.1
    · rw [h.sum 0 (by omega)]; simp [sumc]; omega

set_option maxRecDepth 100000 in
set_option maxHeartbeats 1600000 in
theorem hprepend_calls (N V : Int) (a : Option Addr) (f : Nat → Int) (n cap : Nat) (j i : Int) (w : World) (bN : 0 ≤ N ∧ N ≤ 255) (bV : 0 ≤ V ∧ V ≤ 255) (hr : Rd w a n f) (bj : 0 ≤ j ∧ j ≤ 255) (bi : 0 ≤ i ∧ i ≤ 65535) :
    Calls Ycmm.prog 13 #[.agg #[.int .u8 N, .int .u8 V], .slice a n cap, .int .u8 j, .int .u16 i] w fun e w' => e = .returned (.bool true) ∧ G w w' := by
  by_cases hbig : 1024 < n
  · have e0 : (1024 : Int) < n := by omega
    go_enter Ycmm.func13, Ycmm.ntmps13
    go_wp2
    go_ret
    exact ⟨rfl, G.alloc _ _⟩
  have e0 : ¬ (1024 : Int) < n := by omega
  obtain ⟨t, ht⟩ : ∃ t : Nat, N % 255 + 1 = (t : Int) := ⟨(N % 255 + 1).toNat, by omega⟩
  have ht1 : 1 ≤ t ∧ t ≤ 255 := by omega
  have gB := G.alloc w (.cells #[.int .u8 N, .int .u8 V] 46)
  have cB : (w.alloc (.cells #[.int .u8 N, .int .u8 V] 46)).cell? ⟨w.heap.size, 1, none⟩ = some (.int .u8 V) := by simp
  go_enter Ycmm.func13, Ycmm.ntmps13
  go_wp2_with (at_make; refine wpList_mk0 rfl _ _ rfl _ _ _ (n + 2) rfl rfl (by omega) (by omega) ?_)
  intro a1 w1 ho1 hg1
  have cb1 := hg1.g.cell cB (by simp)
  have gw1 := gB.trans hg1.g
  go_wp2_with (at_builtin; refine wpList_app2 (w := w1) rfl _ _ rfl a1 0 (n + 2) [] rfl rfl ho1 (t : Int) V rfl (by omega) bV (by omega) ?_)
  intro a2 c2 w2 ho2 hg2
  have hg3 := hg1.trans hg2
  clear ho1 cb1 hg1 hg2
  go_wp2
  go_loopw [10, 11] (fun x y wr => ∃ (k : Nat) (a' : Option Addr) (cap' : Nat), k ≤ n ∧ y = .int .i64 k ∧ x = .slice a' (k + 2) cap' ∧ Own wr a' cap' ([(t : Int), V] ++ lst f k) ∧ Gr (w.alloc (.cells #[.int .u8 N, .int .u8 V] 46)) wr none a') (fun _ y _ => n - (intOf y).toNat)
  case atStart => exact ⟨0, a2, c2, by omega, rfl, rfl, by simpa [lst_zero] using ho2, hg3⟩
  case round =>
    clear ho2 hg3
    obtain ⟨k, a', cap', hk, rfl, rfl, hown, hgr⟩ := hrel
    have gw := gB.trans hgr.g
    by_cases hlt : k < n
    · have hki : (k : Int) < n := by omega
      obtain ⟨b, off, rfl, hcc⟩ := hr.at hlt
      clear hcc
      have hb := hr.1 k
      have c1 := (hr.keep gw).cell hlt
      have HL : Hid (([(t : Int), V] ++ lst f k).length = k + 2) := by simp [Hid, lst_length]
      go_wp2_with (at_builtin; refine wpList_app1 (w := wr) rfl _ _ rfl a' _ cap' _ rfl HL.out.symm hown (f k) rfl hb (by omega) ?_)
      intro a3 c3 w3 ho3 hg3
      rw [← lst_succ] at ho3
      clear c1
      go_wp2
      go_roundw
      case rel => exact ⟨k + 1, a3, c3, by omega, by go_num, rfl, ho3, hgr.trans hg3⟩
      case measure => simp [intOf]; omega
    · have hki : ¬ (k : Int) < (n : Int) := by omega
      obtain rfl : k = n := by omega
      have r1 := hr.keep gw
      have r2 := hown.rd
      have hA : Ahead f (gl ([(t : Int), V] ++ lst f k)) k t V := ⟨rfl, rfl, fun i hi => by
        have := gl_app_ge (l := [(t : Int), V]) (m := lst f k) (i := i)
        rw [show [(t : Int), V].length + i = i + 2 by simp; omega] at this
        rw [this, gl_lst hi]⟩
      have HL : ([(t : Int), V] ++ lst f k).length = k + 2 := by simp [lst_length]
      rw [HL] at r2
      generalize gl ([(t : Int), V] ++ lst f k) = g at r2 hA
      have HA : Hid (Ahead f g k t V) := hA
      have cv := hgr.g.cell cB (by simp)
      have m0 : 0 ≤ j % (t : Int) := Int.emod_nonneg _ (by omega)
      have m1 : j % (t : Int) < t := Int.emod_lt_of_pos _ (by omega)
      clear hA HL hown hr hgr cB gB
      generalize wr = w5 at *
      go_wp2_with fail
      refine (at_calls a f k cap i _ r1 (by omega) (by omega)).mono ?_
      rintro e w6 ⟨b1, c1, rfl, hat1, rfl⟩
      go_wp2_with fail
      refine (at_calls a' g (k + 2) cap' (t + i) _ r2 (by omega) (by omega)).mono ?_
      rintro e w7 ⟨b2, c2, rfl, hat2, rfl⟩
      obtain ⟨rfl, rfl⟩ := at_one r2.1 hat2 (HA.out.shift (by omega) bi.1 hat1)
      have d1 : (b2 != b2) = false := by simp
      have d2 : (c2 != c2) = false := by simp
      clear hat1 hat2
      go_wp2_with fail
      refine (at_calls a' g (k + 2) cap' (j % (t : Int)) _ r2 (by omega) (by omega)).mono ?_
      rintro e w8 ⟨b3, c3, rfl, hat3, rfl⟩
      go_wp2_with fail
      refine (check_calls a f k cap _ r1 (by omega)).mono ?_
      rintro e w9 ⟨c4, rfl, hc4, rfl⟩
      by_cases h4 : c4 = 0
      · subst h4
        obtain ⟨rfl, rfl⟩ := at_one r2.1 hat3 (HA.out.good (by omega) ⟨m0, m1⟩ hc4)
        have d3 : (b3 == b3) = true := by simp
        clear hat3 hc4
        go_wp2
        go_ret
        exact ⟨rfl, gw⟩
      · obtain ⟨rfl, rfl⟩ := at_one r2.1 hat3 (HA.out.bad (by omega) _ hc4 h4)
        have d3 : (c3 != 0) = true := by simpa using h4
        have d4 : (c3 == c3) = true := by simp
        clear hat3 hc4 h4
        go_wp2
        go_ret
        exact ⟨rfl, gw⟩

end Go.Proofs.Ymbrcm
