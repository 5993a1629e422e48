import Derived.Test.YmbrclProg
import Derived.Test.YmbrclGl
set_option linter.unusedVariables false
namespace Go.Proofs.Ymbrcl
open Go.RowKit

theorem lst_eq_iff {f g : Nat → Int} {n m : Nat} : lst f n = lst g m ↔ n = m ∧ ∀ i, i < n → f i = g i := by
  constructor
  · intro h
    have e : n = m := by have := congrArg List.length h; simpa [lst_length] using this
    subst e
    exact ⟨rfl, lst_inj h⟩
  · rintro ⟨rfl, h⟩
    exact lst_congr h

set_option maxRecDepth 100000 in
set_option maxHeartbeats 400000 in
theorem aeq_calls (a b : Option Addr) (f g : Nat → Int) (n m ca cb : Nat) (w : World) (hr : Rd w a n f) (hq : Rd w b m g) (hn : n ≤ 9223372036854775807) :
    Calls Yclm.prog 18 #[.slice a n ca, .slice b m cb] w fun e w' => ∃ r : Bool, e = .returned (.bool r) ∧ (r = true ↔ lst f n = lst g m) ∧ G w w' := by
  by_cases hnm : n = m
  · subst hnm
    go_enter Yclm.func18, Yclm.ntmps18
    go_wp2
    go_loopw [5] (fun i wr => ∃ k : Nat, k ≤ n ∧ i = .int .i64 k ∧ (∀ j, j < k → f j = g j) ∧ ∃ q, wr = w.drewN q) (fun i _ => n - (intOf i).toNat)
    case atStart => exact ⟨0, by omega, rfl, by omega, 0, rfl⟩
    case round =>
      obtain ⟨k, hk, rfl, hz, q, rfl⟩ := hrel
      have HZ : Hid (∀ j, j < k → f j = g j) := hz
      clear hz
      by_cases hlt : k < n
      · obtain ⟨b1, o1, rfl, hc1⟩ := hr.at hlt
        obtain ⟨b2, o2, rfl, hc2⟩ := hq.at hlt
        have c1 := hc1 k hlt
        have c2 := hc2 k hlt
        clear hc1 hc2
        go_wp2
        go_quiet (fail)
        go_wp2
        · have ht : (f k != g k) = true := by assumption
          go_ret
          refine ⟨false, rfl, ?_, by rw [World.drewN_drewN]; exact G.drewN _ _⟩
          rw [lst_eq_iff]
          simp at ht
          exact ⟨by simp, fun h => absurd (h.2 k hlt) ht⟩
        · have ht : (f k != g k) = false := by assumption
          go_roundw
          case rel =>
            refine ⟨k + 1, by omega, by go_num, fun j hj => ?_, _, rfl⟩
            by_cases e : j = k
            · subst e; simpa using ht
            · exact HZ.out j (by omega)
          case measure => simp [intOf]; omega
      · go_wp2
        go_ret
        refine ⟨true, rfl, ?_, G.drewN _ _⟩
        rw [lst_eq_iff]
        exact ⟨fun _ => ⟨rfl, fun i hi => HZ.out i (by omega)⟩, fun _ => rfl⟩
  · have e0 : ((n : Int) != (m : Int)) = true := by simp; omega
    go_enter Yclm.func18, Yclm.ntmps18
    go_wp2
    go_ret
    exact ⟨false, rfl, by rw [lst_eq_iff]; simp [hnm], G.refl _⟩

set_option maxRecDepth 100000 in
set_option maxHeartbeats 400000 in
theorem beq_calls (a b : Option Addr) (f g : Nat → Int) (n m ca cb : Nat) (w : World) (hr : Rd w a n f) (hq : Rd w b m g) (hn : n ≤ 9223372036854775807) :
    Calls Yclm.prog 21 #[.slice a n ca, .slice b m cb] w fun e w' => ∃ r : Bool, e = .returned (.bool r) ∧ (r = true ↔ lst f n = lst g m) ∧ G w w' := by
  by_cases hnm : n = m
  · subst hnm
    go_enter Yclm.func21, Yclm.ntmps21
    go_wp2
    go_loopw [5] (fun i wr => ∃ k : Nat, k ≤ n ∧ i = .int .i64 k ∧ (∀ j, j < k → f j = g j) ∧ ∃ q, wr = w.drewN q) (fun i _ => n - (intOf i).toNat)
    case atStart => exact ⟨0, by omega, rfl, by omega, 0, rfl⟩
    case round =>
      obtain ⟨k, hk, rfl, hz, q, rfl⟩ := hrel
      have HZ : Hid (∀ j, j < k → f j = g j) := hz
      clear hz
      by_cases hlt : k < n
      · obtain ⟨b1, o1, rfl, hc1⟩ := hr.at hlt
        obtain ⟨b2, o2, rfl, hc2⟩ := hq.at hlt
        have c1 := hc1 k hlt
        have c2 := hc2 k hlt
        clear hc1 hc2
        go_wp2
        go_quiet (fail)
        go_wp2
        · have ht : (f k != g k) = true := by assumption
          go_ret
          refine ⟨false, rfl, ?_, by rw [World.drewN_drewN]; exact G.drewN _ _⟩
          rw [lst_eq_iff]
          simp at ht
          exact ⟨by simp, fun h => absurd (h.2 k hlt) ht⟩
        · have ht : (f k != g k) = false := by assumption
          go_roundw
          case rel =>
            refine ⟨k + 1, by omega, by go_num, fun j hj => ?_, _, rfl⟩
            by_cases e : j = k
            · subst e; simpa using ht
            · exact HZ.out j (by omega)
          case measure => simp [intOf]; omega
      · go_wp2
        go_ret
        refine ⟨true, rfl, ?_, G.drewN _ _⟩
        rw [lst_eq_iff]
        exact ⟨fun _ => ⟨rfl, fun i hi => HZ.out i (by omega)⟩, fun _ => rfl⟩
  · have e0 : ((n : Int) != (m : Int)) = true := by simp; omega
    go_enter Yclm.func21, Yclm.ntmps21
    go_wp2
    go_ret
    exact ⟨false, rfl, by rw [lst_eq_iff]; simp [hnm], G.refl _⟩

set_option maxRecDepth 100000 in
set_option maxHeartbeats 400000 in
theorem deq_calls (a b : Option Addr) (f g : Nat → Int) (n m ca cb : Nat) (w : World) (hr : Rd w a n f) (hq : Rd w b m g) (hn : n ≤ 9223372036854775807) :
    Calls Yclm.prog 28 #[.slice a n ca, .slice b m cb] w fun e w' => ∃ r : Bool, e = .returned (.bool r) ∧ (r = true ↔ lst f n = lst g m) ∧ G w w' := by
  by_cases hnm : n = m
  · subst hnm
    go_enter Yclm.func28, Yclm.ntmps28
    go_wp2
    go_loopw [5] (fun i wr => ∃ k : Nat, k ≤ n ∧ i = .int .i64 k ∧ (∀ j, j < k → f j = g j) ∧ ∃ q, wr = w.drewN q) (fun i _ => n - (intOf i).toNat)
    case atStart => exact ⟨0, by omega, rfl, by omega, 0, rfl⟩
    case round =>
      obtain ⟨k, hk, rfl, hz, q, rfl⟩ := hrel
      have HZ : Hid (∀ j, j < k → f j = g j) := hz
      clear hz
      by_cases hlt : k < n
      · obtain ⟨b1, o1, rfl, hc1⟩ := hr.at hlt
        obtain ⟨b2, o2, rfl, hc2⟩ := hq.at hlt
        have c1 := hc1 k hlt
        have c2 := hc2 k hlt
        clear hc1 hc2
        go_wp2
        go_quiet (fail)
        go_wp2
        · have ht : (f k != g k) = true := by assumption
          go_ret
          refine ⟨false, rfl, ?_, by rw [World.drewN_drewN]; exact G.drewN _ _⟩
          rw [lst_eq_iff]
          simp at ht
          exact ⟨by simp, fun h => absurd (h.2 k hlt) ht⟩
        · have ht : (f k != g k) = false := by assumption
          go_roundw
          case rel =>
            refine ⟨k + 1, by omega, by go_num, fun j hj => ?_, _, rfl⟩
            by_cases e : j = k
            · subst e; simpa using ht
            · exact HZ.out j (by omega)
          case measure => simp [intOf]; omega
      · go_wp2
        go_ret
        refine ⟨true, rfl, ?_, G.drewN _ _⟩
        rw [lst_eq_iff]
        exact ⟨fun _ => ⟨rfl, fun i hi => HZ.out i (by omega)⟩, fun _ => rfl⟩
  · have e0 : ((n : Int) != (m : Int)) = true := by simp; omega
    go_enter Yclm.func28, Yclm.ntmps28
    go_wp2
    go_ret
    exact ⟨false, rfl, by rw [lst_eq_iff]; simp [hnm], G.refl _⟩

end Go.Proofs.Ymbrcl
