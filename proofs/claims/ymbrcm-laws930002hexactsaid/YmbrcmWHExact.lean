import Derived.Test.YmbrcmAt
set_option linter.unusedVariables false
namespace Go.Proofs.Ymbrcm
open Go.RowKit

/-- what the walk over the intervals holds behind q pairs -/
structure HxAt (f : Nat → Int) (i : Int) (q : Nat) (zb : Bool) (wv wc : Int) : Prop where
  z : zb = true ↔ HasZero f (2 * q)
  w : (∃ m, m < q ∧ sumc f m ≤ i ∧ i < sumc f (m + 1) ∧ wv = f (2 * m + 1) ∧ wc = 0) ∨ ((∀ m, m < q → ¬ (sumc f m ≤ i ∧ i < sumc f (m + 1))) ∧ wv = 0 ∧ wc = 5)

theorem HxAt.hit {f : Nat → Int} {i : Int} {q : Nat} {zb zb' : Bool} {wv wc : Int} (h : HxAt f i q zb wv wc) (hz : zb' = true ↔ zb = true ∨ f (2 * q) = 0) (h1 : sumc f q ≤ i) (h2 : i < sumc f q + f (2 * q)) : HxAt f i (q + 1) zb' (f (2 * q + 1)) 0 :=
  ⟨by rw [hz, h.z, ← hz_pair], .inl ⟨q, by omega, h1, h2, rfl, rfl⟩⟩

theorem HxAt.miss {f : Nat → Int} {i : Int} {q : Nat} {zb zb' : Bool} {wv wc : Int} (h : HxAt f i q zb wv wc) (hz : zb' = true ↔ zb = true ∨ f (2 * q) = 0) (h1 : ¬ (sumc f q ≤ i ∧ i < sumc f q + f (2 * q))) : HxAt f i (q + 1) zb' wv wc := by
  refine ⟨by rw [hz, h.z, ← hz_pair], ?_⟩
  rcases h.w with ⟨m, m1, m2⟩ | ⟨m1, m2⟩
  · exact .inl ⟨m, by omega, m2⟩
  · refine .inr ⟨fun m hm => ?_, m2⟩
    by_cases e : m = q
    · subst e; exact h1
    · exact m1 m (by omega)

theorem hx_end {f : Nat → Int} (hb : ∀ i, 0 ≤ f i ∧ f i ≤ 255) {i : Int} {q : Nat} {zb : Bool} {wv wc v c : Int} (h : HxAt f i q zb wv wc) (hz : ¬ HasZero f (2 * q)) (k : AtIs f (2 * q) i v c) : v = wv ∧ c = wc := by
  have e2 : 2 * q / 2 = q := by omega
  rcases k with ⟨k1, _⟩ | ⟨_, k2, _⟩ | ⟨_, _, k3, rfl, rfl⟩ | ⟨_, _, m, k3, k4, k5, rfl, rfl⟩
  · omega
  · exact absurd k2 hz
  · rw [e2] at k3
    rcases h.w with ⟨m, m1, m2, m3, _⟩ | ⟨_, rfl, rfl⟩
    · exfalso
      have a1 := sumc_nonneg hb m
      have a2 := sumc_mono hb (m + 1) (q - (m + 1))
      rw [show m + 1 + (q - (m + 1)) = q by omega] at a2
      omega
    · exact ⟨rfl, rfl⟩
  · rcases h.w with ⟨p, p1, p2, p3, rfl, rfl⟩ | ⟨p1, _⟩
    · have e : m = p := by
        rcases Nat.lt_trichotomy m p with l | l | l
        · have a2 := sumc_mono hb (m + 1) (p - (m + 1))
          rw [show m + 1 + (p - (m + 1)) = p by omega] at a2
          omega
        · exact l
        · have a2 := sumc_mono hb (p + 1) (m - (p + 1))
          rw [show p + 1 + (m - (p + 1)) = m by omega] at a2
          omega
      subst e; exact ⟨rfl, rfl⟩
    · exact absurd ⟨k4, k5⟩ (p1 m (by omega))

set_option maxRecDepth 100000 in
set_option maxHeartbeats 800000 in
theorem hexact_calls (a : Option Addr) (f : Nat → Int) (n cap : Nat) (i : Int) (w : World) (hr : Rd w a n f) (hi : -9223372036854775808 ≤ i ∧ i ≤ 9223372036854775807) :
    Calls Ycmm.prog 11 #[.slice a n cap, .int .i64 i] w fun e w' => e = .returned (.bool true) ∧ G w w' := by
  by_cases h0 : 1024 < n
  · have e0 : (1024 : Int) < n := by omega
    go_enter Ycmm.func11, Ycmm.ntmps11
    go_wp2
    go_ret
    exact ⟨rfl, G.refl _⟩
  have e0 : ¬ (1024 : Int) < n := by omega
  go_enter Ycmm.func11, Ycmm.ntmps11
  go_wp2
  go_loop [5, 6, 7, 8, 9] (fun v c z s k => ∃ (q : Nat) (zb : Bool) (wv wc : Int), 2 * q ≤ n ∧ k = .int .i64 (2 * (q : Int)) ∧ s = .int .i64 (sumc f q) ∧ z = .bool zb ∧ v = .int .u8 wv ∧ c = .int .i64 wc ∧ HxAt f i q zb wv wc) (fun _ _ _ _ k => n + 1 - (intOf k).toNat)
  case atStart => exact ⟨0, false, 0, 5, by omega, rfl, rfl, rfl, rfl, rfl, ⟨by simp [hz_nil], .inr ⟨by omega, rfl, rfl⟩⟩⟩
  case round =>
    obtain ⟨q, zb, wv, wc, hq, rfl, rfl, rfl, rfl, rfl, hat⟩ := hrel
    have s0 := sumc_nonneg hr.1 q
    have s1 := sumc_le hr.1 q
    have HS : Hid (sumc f (q + 1) = sumc f q + f (2 * q)) := rfl
    by_cases hlt : 2 * q + 1 < n
    · obtain ⟨b, off, rfl, hc⟩ := hr.at hlt
      have c1 := hc (2 * q) (by omega)
      have c2 := hc (2 * q + 1) hlt
      clear hc
      have hb := hr.1 (2 * q)
      have hzz : (sumc f q + f (2 * q) == sumc f q) = true ∧ f (2 * q) = 0 ∨ (sumc f q + f (2 * q) == sumc f q) = false ∧ ¬ f (2 * q) = 0 := by
        by_cases h : f (2 * q) = 0
        · left; exact ⟨by simp [h], h⟩
        · right; exact ⟨by simp; omega, h⟩
      have HA : Hid _ := hat
      clear hat
      rcases hzz with ⟨z1, z2⟩ | ⟨z1, z2⟩
      · have Z2 : Hid (f (2 * q) = 0) := z2
        clear z2
        go_wp2
        all_goals
          go_round
          case rel =>
            first
              | (refine ⟨q + 1, _, _, _, by omega, by go_num, by rw [HS.out], rfl, rfl, rfl, HA.out.hit (zb' := true) (by simp [Z2.out]) (by assumption) (by assumption)⟩)
              | (refine ⟨q + 1, _, _, _, by omega, by go_num, by rw [HS.out], rfl, rfl, rfl, HA.out.miss (zb' := true) (by simp [Z2.out]) (by omega)⟩)
          case measure => simp [intOf]; omega
      · have Z2 : Hid (¬ f (2 * q) = 0) := z2
        clear z2
        go_wp2
        all_goals
          go_round
          case rel =>
            first
              | (refine ⟨q + 1, _, _, _, by omega, by go_num, by rw [HS.out], rfl, rfl, rfl, HA.out.hit (zb' := zb) (by simp [Z2.out]) (by assumption) (by assumption)⟩)
              | (refine ⟨q + 1, _, _, _, by omega, by go_num, by rw [HS.out], rfl, rfl, rfl, HA.out.miss (zb' := zb) (by simp [Z2.out]) (by omega)⟩)
          case measure => simp [intOf]; omega
    · have HA : Hid _ := hat
      clear hat
      go_wp2_with fail
      all_goals
        refine (at_calls a f n cap i _ hr (by omega) hi).mono ?_
        rintro e w1 ⟨v, c, rfl, hd, rfl⟩
      · have t : ((n : Int) % 2 == 1) = true := by assumption
        simp at t
        obtain ⟨rfl, rfl⟩ : v = 0 ∧ c = 1 := by
          rcases hd with ⟨h1, h2⟩ | ⟨h1, h2⟩ | ⟨h1, h2⟩ | ⟨h1, h2⟩
          · exact h2
          all_goals omega
        clear hd
        go_wp2
        go_ret
        exact ⟨rfl, G.refl _⟩
      all_goals
        have t : ((n : Int) % 2 == 1) = false := by assumption
        simp at t
        obtain rfl : n = 2 * q := by omega
        have hz := HA.out.z
      · have hzz := hz.1 (by assumption)
        obtain ⟨rfl, rfl⟩ : v = 0 ∧ c = 2 := by
          rcases hd with ⟨h1, h2⟩ | ⟨h1, h2, h3⟩ | ⟨h1, h2, h3⟩ | ⟨h1, h2, h3⟩
          · omega
          · exact h3
          · exact absurd hzz h2
          · exact absurd hzz h2
        clear hd hz hzz HA
        go_wp2
        go_ret
        exact ⟨rfl, G.refl _⟩
      · have z0 : zb = false := by assumption
        obtain ⟨rfl, rfl⟩ := hx_end hr.1 HA.out (fun h => by have := hz.2 h; rw [z0] at this; cases this) hd
        clear hd hz HA
        have t1 : (v == v) = true := by simp
        have t2 : (c == c) = true := by simp
        go_wp2
        go_ret
        exact ⟨by simp, G.refl _⟩

end Go.Proofs.Ymbrcm
