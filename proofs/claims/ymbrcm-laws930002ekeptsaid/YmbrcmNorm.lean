import Derived.Test.YmbrcmPushAll
set_option linter.unusedVariables false
namespace Go.Proofs.Ymbrcm
open Go.RowKit

theorem pushAll_nil (b : Option Addr) (n cb : Nat) (f : Nat → Int) (w : World) (hr : Rd w b n f) (hev : n % 2 = 0) (hz : ¬ HasZero f n) (hb : n ≤ 35184372088832) :
    Calls Ycmm.prog 31 #[.slice none 0 0, .slice b n cb] w fun e w' => ∃ a' L' cap' qs, e = .returned (.slice a' (2 * L') cap') ∧ Own w' a' cap' (flat qs) ∧ qs.length = L' ∧ L' ≤ n / 2 ∧ Canon qs ∧ ex qs = exN f (n / 2) ∧ Gr w w' none a' := by
  have h := pushAll_calls none b 0 0 n cb f [] w (Own.nil w) rfl trivial hr (.inr (Sep.nil_l _)) hev hz (by omega)
  simp only [Nat.mul_zero, Nat.zero_add, ex, List.nil_append] at h
  exact h

set_option maxRecDepth 100000 in
set_option maxHeartbeats 400000 in
theorem norm_bad (a : Option Addr) (f : Nat → Int) (n cap : Nat) (w : World) (hr : Rd w a n f) (hn : n ≤ 9223372036854775807) (c : Int) (hc : ChkIs f n c) (hc0 : c ≠ 0) :
    Calls Ycmm.prog 15 #[.slice a n cap] w fun e w' => e = .returned (.tuple #[.slice none 0 0, .int .i64 c]) ∧ w' = w := by
  go_enter Ycmm.func15, Ycmm.ntmps15
  go_wp2_with fail
  refine (check_calls a f n cap _ hr hn).mono ?_
  rintro e w1 ⟨c', rfl, hc', rfl⟩
  have e : c' = c := by
    rcases hc with ⟨h1, h2⟩ | ⟨h1, h2, h3⟩ | ⟨h1, h2, h3⟩ <;> rcases hc' with ⟨k1, k2⟩ | ⟨k1, k2, k3⟩ | ⟨k1, k2, k3⟩
    all_goals first | omega | exact absurd h2 k2 | exact absurd k2 h2
  subst e
  have d1 : (c' != 0) = true := by simpa using hc0
  clear hc hc' hc0
  go_wp2
  go_ret2
  exact ⟨rfl, rfl⟩

set_option maxRecDepth 100000 in
set_option maxHeartbeats 400000 in
theorem norm_ok (a : Option Addr) (f : Nat → Int) (n cap : Nat) (w : World) (hr : Rd w a n f) (hn : n ≤ 35184372088832) (hev : n % 2 = 0) (hz : ¬ HasZero f n) :
    Calls Ycmm.prog 15 #[.slice a n cap] w fun e w' => ∃ a' L' cap' qs, e = .returned (.tuple #[.slice a' (2 * L') cap', .int .i64 0]) ∧ Own w' a' cap' (flat qs) ∧ qs.length = L' ∧ L' ≤ n / 2 ∧ Canon qs ∧ ex qs = exN f (n / 2) ∧ Gr w w' none a' := by
  have HZ : Hid (¬ HasZero f n) := hz
  clear hz
  go_enter Ycmm.func15, Ycmm.ntmps15
  go_wp2_with fail
  refine (check_calls a f n cap _ hr (by omega)).mono ?_
  rintro e w1 ⟨c', rfl, hc', rfl⟩
  obtain rfl : c' = 0 := by
    rcases hc' with ⟨k1, k2⟩ | ⟨k1, k2, k3⟩ | ⟨k1, k2, k3⟩
    · omega
    · exact absurd k2 HZ.out
    · exact k3
  clear hc'
  go_wp2_with fail
  refine (pushAll_nil a n cap f _ hr hev HZ.out hn).mono ?_
  rintro e w2 ⟨a', L', cap', qs, rfl, ho, hl, hle, hcq, hex, hgr⟩
  go_wp2
  go_ret2
  exact ⟨a', L', cap', qs, rfl, ho, hl, hle, hcq, hex, hgr⟩

/-- which of the two -/
theorem chk_ex (f : Nat → Int) (n : Nat) : (∃ c, ChkIs f n c ∧ (c = 1 ∧ n % 2 = 1 ∨ c = 2 ∧ n % 2 = 0 ∧ HasZero f n)) ∨ (n % 2 = 0 ∧ ¬ HasZero f n) := by
  rcases Nat.mod_two_eq_zero_or_one n with h | h
  · by_cases hz : HasZero f n
    · exact .inl ⟨2, .inr (.inl ⟨h, hz, rfl⟩), .inr ⟨rfl, h, hz⟩⟩
    · exact .inr ⟨h, hz⟩
  · exact .inl ⟨1, .inl ⟨h, rfl⟩, .inl ⟨rfl, h⟩⟩

end Go.Proofs.Ymbrcm
