import Derived.Test.YmbrcmProg
import Derived.Test.YmbrcmGl
set_option linter.unusedVariables false
namespace Go.Proofs.Ymbrcm
open Go.RowKit

/-- r is the order of the n bytes A against the m bytes B -/
def LexIs (A : Nat → Int) (n : Nat) (B : Nat → Int) (m : Nat) (r : Int) : Prop :=
  ∃ k, (∀ t, t < k → A t = B t) ∧ k ≤ n ∧ k ≤ m ∧
    ((k < n ∧ k < m ∧ A k < B k ∧ r = -1) ∨ (k < n ∧ k < m ∧ B k < A k ∧ r = 1) ∨ (k = n ∧ k < m ∧ r = -1) ∨ (k = m ∧ k < n ∧ r = 1) ∨ (k = n ∧ k = m ∧ r = 0))

theorem lex_one {A B : Nat → Int} {n m : Nat} {r s : Int} (h : LexIs A n B m r) (k : LexIs A n B m s) : r = s := by
  obtain ⟨i, h1, h2, h3, h4⟩ := h
  obtain ⟨j, k1, k2, k3, k4⟩ := k
  rcases Nat.lt_trichotomy i j with e | e | e
  · have := k1 i e
    rcases h4 with h4 | h4 | h4 | h4 | h4 <;> omega
  · subst e
    rcases h4 with h4 | h4 | h4 | h4 | h4 <;> rcases k4 with k4 | k4 | k4 | k4 | k4 <;> omega
  · have := h1 j e
    rcases k4 with k4 | k4 | k4 | k4 | k4 <;> omega

theorem lex_turn {A B : Nat → Int} {n m : Nat} {r : Int} (h : LexIs A n B m r) : LexIs B m A n (-r) := by
  obtain ⟨i, h1, h2, h3, h4⟩ := h
  refine ⟨i, fun t ht => (h1 t ht).symm, h3, h2, ?_⟩
  rcases h4 with ⟨a, b, c, d⟩ | ⟨a, b, c, d⟩ | ⟨a, b, d⟩ | ⟨a, b, d⟩ | ⟨a, b, d⟩
  · exact .inr (.inl ⟨b, a, c, by omega⟩)
  · exact .inl ⟨b, a, c, by omega⟩
  · exact .inr (.inr (.inr (.inl ⟨a, b, by omega⟩)))
  · exact .inr (.inr (.inl ⟨a, b, by omega⟩))
  · exact .inr (.inr (.inr (.inr ⟨b, a, by omega⟩)))

theorem lex_stem {S x y : List Int} {r : Int} (h : LexIs (gl x) x.length (gl y) y.length r) : LexIs (gl (S ++ x)) (S ++ x).length (gl (S ++ y)) (S ++ y).length r := by
  obtain ⟨i, h1, h2, h3, h4⟩ := h
  refine ⟨S.length + i, fun t ht => ?_, by simp; omega, by simp; omega, ?_⟩
  · by_cases e : t < S.length
    · rw [gl_app_lt e, gl_app_lt e]
    · obtain ⟨d, rfl⟩ : ∃ d, t = S.length + d := ⟨t - S.length, by omega⟩
      rw [gl_app_ge, gl_app_ge]; exact h1 d (by omega)
  · rw [gl_app_ge, gl_app_ge]
    simp only [List.length_append]
    rcases h4 with ⟨a, b, c, d⟩ | ⟨a, b, c, d⟩ | ⟨a, b, d⟩ | ⟨a, b, d⟩ | ⟨a, b, d⟩
    · exact .inl ⟨by omega, by omega, c, d⟩
    · exact .inr (.inl ⟨by omega, by omega, c, d⟩)
    · exact .inr (.inr (.inl ⟨by omega, by omega, d⟩))
    · exact .inr (.inr (.inr (.inl ⟨by omega, by omega, d⟩)))
    · exact .inr (.inr (.inr (.inr ⟨by omega, by omega, d⟩)))

set_option maxRecDepth 100000 in
set_option maxHeartbeats 400000 in
theorem glex_calls (a b : Option Addr) (f g : Nat → Int) (n m ca cb : Nat) (w : World) (hr : Rd w a n f) (hq : Rd w b m g) (hn : n ≤ 9223372036854775807) (hm : m ≤ 9223372036854775807) :
    Calls Ycmm.prog 23 #[.slice a n ca, .slice b m cb] w fun e w' => ∃ r : Int, e = .returned (.int .i64 r) ∧ LexIs f n g m r ∧ G w w' := by
  go_enter Ycmm.func23, Ycmm.ntmps23
  go_wp2
  go_loopw [5] (fun i wr => ∃ k : Nat, k ≤ n ∧ k ≤ m ∧ i = .int .i64 k ∧ (∀ j, j < k → f j = g j) ∧ ∃ q, wr = w.drewN q) (fun i _ => n - (intOf i).toNat)
  case atStart => exact ⟨0, by omega, by omega, rfl, by omega, 0, rfl⟩
  case round =>
    obtain ⟨k, hk, hkm, rfl, hz, q, rfl⟩ := hrel
    have HZ : Hid (∀ j, j < k → f j = g j) := hz
    clear hz
    by_cases hlt : k < n
    · by_cases hltm : k < m
      · obtain ⟨b1, o1, rfl, hc1⟩ := hr.at hlt
        obtain ⟨b2, o2, rfl, hc2⟩ := hq.at hltm
        have c1 := hc1 k hlt
        have c2 := hc2 k hltm
        clear hc1 hc2
        rcases Int.lt_trichotomy (f k) (g k) with e | e | e
        · go_wp2
          go_quiet (fail)
          go_wp2
          go_ret
          exact ⟨-1, rfl, ⟨k, HZ.out, hk, hkm, .inl ⟨hlt, hltm, e, rfl⟩⟩, by rw [World.drewN_drewN]; exact G.drewN _ _⟩
        · have E : Hid (f k = g k) := e
          have e1 : f k ≤ g k := by omega
          have e2 : g k ≤ f k := by omega
          clear e
          go_wp2
          go_quiet (fail)
          go_wp2
          go_quiet (fail)
          go_wp2
          go_roundw
          case rel =>
            refine ⟨k + 1, by omega, by omega, by go_num, fun j hj => ?_, _, rfl⟩
            by_cases e : j = k
            · subst e; exact E.out
            · exact HZ.out j (by omega)
          case measure => simp [intOf]; omega
        · go_wp2
          go_quiet (fail)
          go_wp2
          go_quiet (fail)
          go_wp2
          go_ret
          exact ⟨1, rfl, ⟨k, HZ.out, hk, hkm, .inr (.inl ⟨hlt, hltm, e, rfl⟩)⟩, by rw [World.drewN_drewN, World.drewN_drewN]; exact G.drewN _ _⟩
      · go_wp2
        go_ret
        exact ⟨1, rfl, ⟨k, HZ.out, hk, hkm, .inr (.inr (.inr (.inl ⟨by omega, hlt, rfl⟩)))⟩, G.drewN _ _⟩
    · obtain rfl : k = n := by omega
      by_cases hltm : k < m
      · go_wp2
        go_ret
        exact ⟨-1, rfl, ⟨k, HZ.out, hk, hkm, .inr (.inr (.inl ⟨rfl, hltm, rfl⟩))⟩, G.drewN _ _⟩
      · go_wp2
        go_ret
        exact ⟨0, rfl, ⟨k, HZ.out, hk, hkm, .inr (.inr (.inr (.inr ⟨rfl, by omega, rfl⟩)))⟩, G.drewN _ _⟩

end Go.Proofs.Ymbrcm
