import Derived.Test.YmbrcmNorm
import Derived.Test.YmbrcmEWant
import Derived.Test.YmbrcmEq
import Derived.Lib.SliceRun
set_option linter.unusedVariables false
namespace Go.Proofs.Ymbrcm
open Go.RowKit

theorem nil_eq (w : World) : (binOp .eql 22 (.slice none 0 0) (.slice none 0 0)).run Ycmm.prog w = .ok (.bool true) w :=
  Lib.run_eql_slice_nil w 22 5 none 0 0 0 0 Ycmm.underlying22

set_option maxRecDepth 100000 in
set_option maxHeartbeats 800000 in
theorem eraw_calls (a : Option Addr) (f : Nat → Int) (n cap : Nat) (w : World) (hr : Rd w a n f) :
    Calls Ycmm.prog 3 #[.slice a n cap] w fun e w' => e = .returned (.bool true) ∧ G w w' := by
  by_cases h0 : 1024 < n
  · have e0 : (1024 : Int) < n := by omega
    go_enter Ycmm.func3, Ycmm.ntmps3
    go_wp2
    go_ret
    exact ⟨rfl, G.refl _⟩
  have e0 : ¬ (1024 : Int) < n := by omega
  rcases chk_ex f n with ⟨c, hc, ⟨rfl, hodd⟩ | ⟨rfl, hev, hz⟩⟩ | ⟨hev, hz⟩
  · have d1 : ((n : Int) % 2 == 1) = true := by simp; omega
    have hnil := nil_eq
    go_enter Ycmm.func3, Ycmm.ntmps3
    go_wp2_with fail
    refine (norm_bad a f n cap _ hr (by omega) 1 hc (by omega)).mono ?_
    rintro e w1 ⟨rfl, rfl⟩
    clear hc
    go_wp2
    go_ret
    exact ⟨rfl, G.refl _⟩
  · have d1 : ((n : Int) % 2 == 1) = false := by simp; omega
    have hnil := nil_eq
    go_enter Ycmm.func3, Ycmm.ntmps3
    go_wp2_with fail
    refine (norm_bad a f n cap _ hr (by omega) 2 hc (by omega)).mono ?_
    rintro e w1 ⟨rfl, rfl⟩
    have HZ : Hid (HasZero f n) := hz
    clear hc hz
    go_wp2
    go_loop [5] (fun i => ∃ k : Nat, 2 * k ≤ n ∧ i = .int .i64 (2 * (k : Int)) ∧ ∀ j, j < k → f (2 * j) ≠ 0) (fun i => n - (intOf i).toNat)
    case atStart => exact ⟨0, by omega, rfl, by omega⟩
    case round =>
      obtain ⟨k, hk, rfl, hzz⟩ := hrel
      have HK : Hid (∀ j, j < k → f (2 * j) ≠ 0) := hzz
      clear hzz
      by_cases hlt : 2 * k < n
      · obtain ⟨b, off, rfl, hcc⟩ := hr.at hlt
        have c1 := hcc (2 * k) hlt
        clear hcc
        go_wp2
        · go_ret
          exact ⟨rfl, G.refl _⟩
        · have ht : (f (2 * k) == 0) = false := by assumption
          go_round
          case rel =>
            refine ⟨k + 1, by omega, by go_num, fun j hj => ?_⟩
            by_cases e : j = k
            · subst e; simpa using ht
            · exact HK.out j (by omega)
          case measure => simp [intOf]; omega
      · exfalso
        obtain ⟨j, j1, j2⟩ := HZ.out
        exact HK.out j (by omega) j2
  · have d1 : ((n : Int) % 2 == 1) = false := by simp; omega
    have HZ : Hid (¬ HasZero f n) := hz
    clear hz
    go_enter Ycmm.func3, Ycmm.ntmps3
    go_wp2_with fail
    refine (norm_ok a f n cap _ hr (by omega) hev HZ.out).mono ?_
    rintro e w1 ⟨a', L', cap', qs, rfl, ho, hl, hle, hcq, hex, hgr⟩
    have hr1 := hr.keep hgr.g
    go_wp2
    go_loop [5] (fun i => ∃ k : Nat, 2 * k ≤ n ∧ i = .int .i64 (2 * (k : Int))) (fun i => n - (intOf i).toNat)
    case atStart => exact ⟨0, by omega, rfl⟩
    case round =>
      obtain ⟨k, hk, rfl⟩ := hrel
      by_cases hlt : 2 * k < n
      · obtain ⟨b, off, rfl, hcc⟩ := hr1.at hlt
        have c1 := hcc (2 * k) hlt
        clear hcc
        have ht : (f (2 * k) == 0) = false := by have := hz_all HZ.out k hlt; simpa using this
        go_wp2
        go_round
        case rel => exact ⟨k + 1, by omega, by go_num⟩
        case measure => simp [intOf]; omega
      · go_wp2_with fail
        refine (ewant_calls a f n cap _ hr1 (by omega) hev HZ.out).mono ?_
        rintro e w2 ⟨a2, cap2, rs, rfl, ho2, hc2, hex2, hgr2⟩
        obtain rfl : qs = rs := canon_unique hcq hc2 (hex.trans hex2.symm)
        have ho1 := ho.keep hgr2.g
        have hlen : (flat qs).length = 2 * L' := by rw [flat_length, hl]
        have hrd1 := ho1.rd
        have hrd2 := ho2.rd
        rw [hlen] at hrd1 hrd2 ⊢
        go_wp2_with fail
        refine (eeq_calls a' a2 (gl (flat qs)) (gl (flat qs)) (2 * L') (2 * L') cap' cap2 _ hrd1 hrd2 (by omega)).mono ?_
        rintro e w3 ⟨r, rfl, hrr, hg3⟩
        obtain rfl := hrr.2 rfl
        go_wp2
        go_ret
        exact ⟨rfl, (hgr.g.trans hgr2.g).trans hg3⟩

end Go.Proofs.Ymbrcm
