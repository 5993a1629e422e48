import Derived.Test.YmbrcmLex
import Derived.Test.YmbrcmPairs
set_option linter.unusedVariables false
namespace Go.Proofs.Ymbrcm
open Go.RowKit

/-- what Compare's loop holds: i, j the current pairs, u, v how much of each is compared -/
structure CmpAt (f g : Nat → Int) (P Q i j u v : Nat) : Prop where
  hi : i ≤ P
  hj : j ≤ Q
  ui : i < P → (u : Int) < f (2 * i)
  vj : j < Q → (v : Int) < g (2 * j)
  ue : i = P → u = 0
  ve : j = Q → v = 0
  pos : (exN f i).length + u = (exN g j).length + v
  same : ∀ t, t < (exN f i).length + u → gl (exN f P) t = gl (exN g Q) t

theorem cmp_start {f g : Nat → Int} {P Q : Nat} (hf : ∀ i, i < P → 1 ≤ f (2 * i)) (hg : ∀ j, j < Q → 1 ≤ g (2 * j)) : CmpAt f g P Q 0 0 0 0 :=
  ⟨by omega, by omega, fun h => by have := hf 0 h; omega, fun h => by have := hg 0 h; omega, fun _ => rfl, fun _ => rfl, rfl, fun t ht => by simp [exN_zero] at ht⟩

theorem CmpAt.step {f g : Nat → Int} {P Q i j u v i' j' u' v' s : Nat} (h : CmpAt f g P Q i j u v) (hf : ∀ i, i < P → 1 ≤ f (2 * i)) (hg : ∀ j, j < Q → 1 ≤ g (2 * j)) (hi : i < P) (hj : j < Q) (e : f (2 * i + 1) = g (2 * j + 1))
    (hA : (i' = i ∧ u' = u + s ∧ ((u + s : Nat) : Int) < f (2 * i)) ∨ (i' = i + 1 ∧ u' = 0 ∧ ((u + s : Nat) : Int) = f (2 * i)))
    (hB : (j' = j ∧ v' = v + s ∧ ((v + s : Nat) : Int) < g (2 * j)) ∨ (j' = j + 1 ∧ v' = 0 ∧ ((v + s : Nat) : Int) = g (2 * j))) : CmpAt f g P Q i' j' u' v' := by
  have pA : (exN f i').length + u' = (exN f i).length + u + s := by
    rcases hA with ⟨rfl, rfl, _⟩ | ⟨rfl, rfl, x⟩
    · omega
    · rw [exN_succ]; simp; omega
  have pB : (exN g j').length + v' = (exN g j).length + v + s := by
    rcases hB with ⟨rfl, rfl, _⟩ | ⟨rfl, rfl, x⟩
    · omega
    · rw [exN_succ]; simp; omega
  refine ⟨by omega, by omega, ?_, ?_, by omega, by omega, by rw [pA, pB, h.pos], ?_⟩
  · intro hi'
    rcases hA with ⟨rfl, rfl, x⟩ | ⟨rfl, rfl, x⟩
    · exact x
    · have := hf (i + 1) hi'; omega
  · intro hj'
    rcases hB with ⟨rfl, rfl, x⟩ | ⟨rfl, rfl, x⟩
    · exact x
    · have := hg (j + 1) hj'; omega
  · intro t ht
    rw [pA] at ht
    by_cases ht' : t < (exN f i).length + u
    · exact h.same t ht'
    · have hp := h.pos
      obtain ⟨d, hd⟩ : ∃ d, t = (exN f i).length + (u + d) := ⟨t - ((exN f i).length + u), by omega⟩
      have e1 := exN_at (f := f) hi (j := u + d) (by omega)
      have e2 := exN_at (f := g) hj (j := v + d) (by omega)
      have hd2 : t = (exN g j).length + (v + d) := by omega
      rw [← hd] at e1
      rw [← hd2] at e2
      rw [e1, e2, e]

theorem CmpAt.less {f g : Nat → Int} {P Q i j u v : Nat} (h : CmpAt f g P Q i j u v) (hi : i < P) (hj : j < Q) :
    (f (2 * i + 1) < g (2 * j + 1) → LexIs (gl (exN f P)) (exN f P).length (gl (exN g Q)) (exN g Q).length (-1)) ∧
    (g (2 * j + 1) < f (2 * i + 1) → LexIs (gl (exN f P)) (exN f P).length (gl (exN g Q)) (exN g Q).length 1) := by
  have hp := h.pos
  have h1 := h.ui hi
  have h2 := h.vj hj
  have m1 := exN_mono (f := f) hi
  have m2 := exN_mono (f := g) hj
  have e1 := exN_at (f := f) hi (j := u) (by omega)
  have e2 := exN_at (f := g) hj (j := v) (by omega)
  rw [← hp] at e2
  constructor
  · intro hl
    exact ⟨_, h.same, by omega, by omega, .inl ⟨by omega, by omega, by rw [e1, e2]; exact hl, rfl⟩⟩
  · intro hl
    exact ⟨_, h.same, by omega, by omega, .inr (.inl ⟨by omega, by omega, by rw [e1, e2]; exact hl, rfl⟩)⟩

theorem CmpAt.done {f g : Nat → Int} {P Q i j u v : Nat} (h : CmpAt f g P Q i j u v) :
    (i < P → j = Q → LexIs (gl (exN f P)) (exN f P).length (gl (exN g Q)) (exN g Q).length 1) ∧
    (i = P → j < Q → LexIs (gl (exN f P)) (exN f P).length (gl (exN g Q)) (exN g Q).length (-1)) ∧
    (i = P → j = Q → LexIs (gl (exN f P)) (exN f P).length (gl (exN g Q)) (exN g Q).length 0) := by
  have hp := h.pos
  refine ⟨fun hi hj => ?_, fun hi hj => ?_, fun hi hj => ?_⟩
  · have h1 := h.ui hi
    have m1 := exN_mono (f := f) hi
    have v0 := h.ve hj
    subst hj; subst v0
    exact ⟨_, h.same, by omega, by omega, .inr (.inr (.inr (.inl ⟨by omega, by omega, rfl⟩)))⟩
  · have h1 := h.vj hj
    have m1 := exN_mono (f := g) hj
    have u0 := h.ue hi
    subst hi; subst u0
    exact ⟨_, h.same, by omega, by omega, .inr (.inr (.inl ⟨by omega, by omega, rfl⟩))⟩
  · have u0 := h.ue hi
    have v0 := h.ve hj
    subst hi; subst hj; subst u0; subst v0
    exact ⟨_, h.same, by omega, by omega, .inr (.inr (.inr (.inr ⟨by omega, by omega, rfl⟩)))⟩

set_option maxRecDepth 100000 in
set_option maxHeartbeats 400000 in
theorem cmp_bad1 (a b : Option Addr) (f : Nat → Int) (n m ca cb : Nat) (w : World) (hr : Rd w a n f) (hn : n ≤ 9223372036854775807) (c : Int) (hc : ChkIs f n c) (hc0 : c ≠ 0) :
    Calls Ycmm.prog 25 #[.slice a n ca, .slice b m cb] w fun e w' => e = .returned (.tuple #[.int .i64 0, .int .i64 c]) ∧ w' = w := by
  have d1 : (c != 0) = true := by simpa using hc0
  go_enter Ycmm.func25, Ycmm.ntmps25
  go_wp2_with fail
  refine (check_calls a f n ca _ hr hn).mono ?_
  rintro e w1 ⟨c', rfl, hc', rfl⟩
  have e : c' = c := by
    rcases hc with ⟨h1, h2⟩ | ⟨h1, h2, h3⟩ | ⟨h1, h2, h3⟩ <;> rcases hc' with ⟨k1, k2⟩ | ⟨k1, k2, k3⟩ | ⟨k1, k2, k3⟩
    all_goals first | omega | exact absurd h2 k2 | exact absurd k2 h2
  subst e
  clear hc hc' hc0
  go_wp2
  go_ret2
  exact ⟨rfl, rfl⟩

set_option maxRecDepth 100000 in
set_option maxHeartbeats 400000 in
theorem cmp_bad2 (a b : Option Addr) (f g : Nat → Int) (n m ca cb : Nat) (w : World) (hr : Rd w a n f) (hq : Rd w b m g) (hn : n ≤ 9223372036854775807) (hm : m ≤ 9223372036854775807) (hev : n % 2 = 0) (hz : ¬ HasZero f n) (c : Int) (hc : ChkIs g m c) (hc0 : c ≠ 0) :
    Calls Ycmm.prog 25 #[.slice a n ca, .slice b m cb] w fun e w' => e = .returned (.tuple #[.int .i64 0, .int .i64 c]) ∧ w' = w := by
  have d1 : (c != 0) = true := by simpa using hc0
  have HZ : Hid (¬ HasZero f n) := hz
  clear hz
  go_enter Ycmm.func25, Ycmm.ntmps25
  go_wp2_with fail
  refine (check_calls a f n ca _ hr hn).mono ?_
  rintro e w1 ⟨c', rfl, hc', rfl⟩
  obtain rfl : c' = 0 := by
    rcases hc' with ⟨k1, k2⟩ | ⟨k1, k2, k3⟩ | ⟨k1, k2, k3⟩
    · omega
    · exact absurd k2 HZ.out
    · exact k3
  clear hc'
  go_wp2_with fail
  refine (check_calls b g m cb _ hq hm).mono ?_
  rintro e w1 ⟨c', rfl, hc', rfl⟩
  have e : c' = c := by
    rcases hc with ⟨h1, h2⟩ | ⟨h1, h2, h3⟩ | ⟨h1, h2, h3⟩ <;> rcases hc' with ⟨k1, k2⟩ | ⟨k1, k2, k3⟩ | ⟨k1, k2, k3⟩
    all_goals first | omega | exact absurd h2 k2 | exact absurd k2 h2
  subst e
  clear hc hc' hc0
  go_wp2
  go_ret2
  exact ⟨rfl, rfl⟩

set_option maxRecDepth 100000 in
set_option maxHeartbeats 1600000 in
theorem cmp_ok (a b : Option Addr) (f g : Nat → Int) (n m ca cb : Nat) (w : World) (hr : Rd w a n f) (hq : Rd w b m g) (hn : n ≤ 549755813888) (hm : m ≤ 549755813888) (hev : n % 2 = 0) (hem : m % 2 = 0) (hz : ¬ HasZero f n) (hzg : ¬ HasZero g m) :
    Calls Ycmm.prog 25 #[.slice a n ca, .slice b m cb] w fun e w' => ∃ r, e = .returned (.tuple #[.int .i64 r, .int .i64 0]) ∧ LexIs (gl (exN f (n / 2))) (exN f (n / 2)).length (gl (exN g (m / 2))) (exN g (m / 2)).length r ∧ G w w' := by
  obtain ⟨P, rfl⟩ : ∃ P, n = 2 * P := ⟨n / 2, by omega⟩
  obtain ⟨Q, rfl⟩ : ∃ Q, m = 2 * Q := ⟨m / 2, by omega⟩
  rw [show 2 * P / 2 = P by omega, show 2 * Q / 2 = Q by omega]
  have HZ : Hid (¬ HasZero f (2 * P)) := hz
  have HG : Hid (¬ HasZero g (2 * Q)) := hzg
  clear hz hzg
  go_enter Ycmm.func25, Ycmm.ntmps25
  go_wp2_with fail
  refine (check_calls a f (2 * P) ca _ hr (by omega)).mono ?_
  rintro e w1 ⟨c', rfl, hc', rfl⟩
  obtain rfl : c' = 0 := by
    rcases hc' with ⟨k1, k2⟩ | ⟨k1, k2, k3⟩ | ⟨k1, k2, k3⟩
    · omega
    · exact absurd k2 HZ.out
    · exact k3
  clear hc'
  go_wp2_with fail
  refine (check_calls b g (2 * Q) cb _ hq (by omega)).mono ?_
  rintro e w1 ⟨c', rfl, hc', rfl⟩
  obtain rfl : c' = 0 := by
    rcases hc' with ⟨k1, k2⟩ | ⟨k1, k2, k3⟩ | ⟨k1, k2, k3⟩
    · omega
    · exact absurd k2 HG.out
    · exact k3
  clear hc'
  have KF : Hid (∀ i, i < P → 1 ≤ f (2 * i)) := fun i hi => by have := hz_all HZ.out i (by omega); have := hr.1 (2 * i); omega
  have KG : Hid (∀ j, j < Q → 1 ≤ g (2 * j)) := fun i hi => by have := hz_all HG.out i (by omega); have := hq.1 (2 * i); omega
  clear hev hem HZ HG
  go_wp2
  go_loopw [7, 8, 9, 10] (fun pi pj pu pv wr => ∃ (i j u v : Nat), pi = .int .i64 (2 * (i : Int)) ∧ pj = .int .i64 (2 * (j : Int)) ∧ pu = .int .i64 u ∧ pv = .int .i64 v ∧ CmpAt f g P Q i j u v ∧ ∃ q, wr = w1.drewN q) (fun pi pj _ _ _ => (2 * P - (intOf pi).toNat) + (2 * Q - (intOf pj).toNat))
  case atStart => exact ⟨0, 0, 0, 0, rfl, rfl, rfl, rfl, cmp_start KF.out KG.out, 0, rfl⟩
  case round =>
    obtain ⟨i, j, u, v, rfl, rfl, rfl, rfl, hat, q, rfl⟩ := hrel
    have hi := hat.hi
    have hj := hat.hj
    have HA : Hid (CmpAt f g P Q i j u v) := hat
    clear hat
    by_cases hiP : i < P
    · by_cases hjQ : j < Q
      · have d1 : 2 * (i : Int) < ((2 * P : Nat) : Int) := by omega
        have d2 : 2 * (j : Int) < ((2 * Q : Nat) : Int) := by omega
        obtain ⟨b1, o1, rfl, hc1⟩ := hr.at (show 2 * i < 2 * P by omega)
        obtain ⟨b2, o2, rfl, hc2⟩ := hq.at (show 2 * j < 2 * Q by omega)
        have c1 := hc1 (2 * i) (by omega)
        have c2 := hc1 (2 * i + 1) (by omega)
        have c3 := hc2 (2 * j) (by omega)
        have c4 := hc2 (2 * j + 1) (by omega)
        clear hc1 hc2
        have hu := HA.out.ui hiP
        have hv := HA.out.vj hjQ
        have bf := hr.1 (2 * i)
        have bg := hq.1 (2 * j)
        rcases Int.lt_trichotomy (f (2 * i + 1)) (g (2 * j + 1)) with e | e | e
        · go_wp2
          go_quiet (fail)
          go_wp2
          go_ret2
          exact ⟨-1, rfl, (HA.out.less hiP hjQ).1 e, by rw [World.drewN_drewN]; exact G.drewN _ _⟩
        · have E : Hid (f (2 * i + 1) = g (2 * j + 1)) := e
          have e1 : f (2 * i + 1) ≤ g (2 * j + 1) := by omega
          have e2 : g (2 * j + 1) ≤ f (2 * i + 1) := by omega
          clear e
          obtain ⟨cA, hcA⟩ : ∃ c : Nat, f (2 * i) = (c : Int) := ⟨(f (2 * i)).toNat, by omega⟩
          obtain ⟨cB, hcB⟩ : ∃ c : Nat, g (2 * j) = (c : Int) := ⟨(g (2 * j)).toNat, by omega⟩
          have ST : Hid (∀ i' j' u' v' s : Nat, ((i' = i ∧ u' = u + s ∧ u + s < cA) ∨ (i' = i + 1 ∧ u' = 0 ∧ u + s = cA)) → ((j' = j ∧ v' = v + s ∧ v + s < cB) ∨ (j' = j + 1 ∧ v' = 0 ∧ v + s = cB)) → CmpAt f g P Q i' j' u' v') := by
            intro i' j' u' v' s x y
            refine HA.out.step (s := s) KF.out KG.out hiP hjQ E.out ?_ ?_
            · rw [hcA]; omega
            · rw [hcB]; omega
          rw [hcA] at c1 hu bf
          rw [hcB] at c3 hv bg
          clear hcA hcB HA KF KG
          rcases Nat.lt_trichotomy (cA - u) (cB - v) with l | l | l
          · go_wp2
            go_quiet (fail)
            go_wp2
            go_quiet (fail)
            go_wp2
            go_roundw
            case rel => exact ⟨i + 1, j, 0, v + (cA - u), by go_num, rfl, rfl, by go_num, ST.out (i + 1) j 0 (v + (cA - u)) (cA - u) (.inr ⟨rfl, rfl, by omega⟩) (.inl ⟨rfl, rfl, by omega⟩), _, rfl⟩
            case measure => simp [intOf]; omega
          · have L : Hid (cA - u = cB - v) := l
            have l1 : cA - u ≤ cB - v := by omega
            have l2 : cB - v ≤ cA - u := by omega
            clear l
            go_wp2
            go_quiet (fail)
            go_wp2
            go_quiet (fail)
            go_wp2
            go_roundw
            case rel => exact ⟨i + 1, j + 1, 0, 0, by go_num, by go_num, rfl, rfl, ST.out (i + 1) (j + 1) 0 0 (cA - u) (.inr ⟨rfl, rfl, by omega⟩) (.inr ⟨rfl, rfl, by omega⟩), _, rfl⟩
            case measure => simp [intOf]; omega
          · go_wp2
            go_quiet (fail)
            go_wp2
            go_quiet (fail)
            go_wp2
            go_roundw
            case rel => exact ⟨i, j + 1, u + (cB - v), 0, rfl, by go_num, by go_num, rfl, ST.out i (j + 1) (u + (cB - v)) 0 (cB - v) (.inl ⟨rfl, rfl, by omega⟩) (.inr ⟨rfl, rfl, by omega⟩), _, rfl⟩
            case measure => simp [intOf]; omega
        · go_wp2
          go_quiet (fail)
          go_wp2
          go_quiet (fail)
          go_wp2
          go_ret2
          exact ⟨1, rfl, (HA.out.less hiP hjQ).2 e, by rw [World.drewN_drewN, World.drewN_drewN]; exact G.drewN _ _⟩
      · have d1 : 2 * (i : Int) < ((2 * P : Nat) : Int) := by omega
        have d2 : decide (2 * (j : Int) < ((2 * Q : Nat) : Int)) = false := by simp; omega
        go_wp2
        go_ret2
        exact ⟨1, rfl, HA.out.done.1 hiP (by omega), G.drewN _ _⟩
    · have d1 : decide (2 * (i : Int) < ((2 * P : Nat) : Int)) = false := by simp; omega
      by_cases hjQ : j < Q
      · go_wp2
        go_ret2
        exact ⟨-1, rfl, HA.out.done.2.1 (by omega) hjQ, G.drewN _ _⟩
      · go_wp2
        go_ret2
        exact ⟨0, rfl, HA.out.done.2.2 (by omega) (by omega), G.drewN _ _⟩

end Go.Proofs.Ymbrcm
