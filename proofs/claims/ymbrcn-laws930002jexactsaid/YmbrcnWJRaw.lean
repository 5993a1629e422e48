import Derived.Test.YmbrcnJoin
set_option linter.unusedVariables false
namespace Go.Proofs.Ymbrcn
open Go.RowKit

set_option maxRecDepth 100000 in
set_option maxHeartbeats 800000 in
theorem jraw_calls (a b : Option Addr) (f g : Nat → Int) (n m ca cb : Nat) (w : World) (hr : Rd w a n f) (hq : Rd w b m g) (na : a = none → ca = 0) (nb : b = none → cb = 0) :
    Calls Ycnm.prog 5 #[.slice a n ca, .slice b m cb] w fun e w' => e = .returned (.bool true) ∧ G w w' := by
  by_cases h0 : 1024 < n
  · have e0 : (1024 : Int) < n := by omega
    go_enter Ycnm.func5, Ycnm.ntmps5
    go_wp2
    go_ret
    exact ⟨rfl, G.refl _⟩
  have e0 : decide ((1024 : Int) < n) = false := by simp; omega
  by_cases h1 : 1024 < m
  · have e1 : (1024 : Int) < m := by omega
    go_enter Ycnm.func5, Ycnm.ntmps5
    go_wp2
    go_ret
    exact ⟨rfl, G.refl _⟩
  have e1 : decide ((1024 : Int) < m) = false := by simp; omega
  have hnil := nil_eq
  have K : Hid (∀ c, ChkIs f n c → c ≠ 0 → (c != 0) = true ∧ (c == 0) = false ∧ (c != c) = false) := fun c _ h => ⟨by simpa using h, by simpa using h, by simp⟩
  rcases chk_ex f n with ⟨c, hc, hcc⟩ | ⟨hev, hz⟩
  · have hc0 : c ≠ 0 := by omega
    have d1 : (c == 0) = false := by simpa using hc0
    have d2 : (c != 0) = true := by simpa using hc0
    have d3 : (c != c) = false := by simp
    clear hcc
    go_enter Ycnm.func5, Ycnm.ntmps5
    go_wp2_with fail
    refine (jcode_calls a f n ca _ hr (by omega)).mono ?_
    rintro e w1 ⟨c', rfl, hc', rfl⟩
    obtain rfl := chk_one hc hc'
    go_wp2_with fail
    refine (join_bad1 a b f n m ca cb _ hr (by omega) c' hc hc0).mono ?_
    rintro e w2 ⟨rfl, hg⟩
    clear hc hc' hc0 K
    go_wp2
    go_ret
    exact ⟨rfl, hg⟩
  have HZ : Hid (¬ HasZero f n) := hz
  clear hz
  rcases chk_ex g m with ⟨c, hc, hcc⟩ | ⟨hev2, hz2⟩
  · have hc0 : c ≠ 0 := by omega
    have d1 : (c == 0) = false := by simpa using hc0
    have d2 : (c != 0) = true := by simpa using hc0
    have d3 : (c != c) = false := by simp
    clear hcc
    go_enter Ycnm.func5, Ycnm.ntmps5
    go_wp2_with fail
    refine (jcode_calls a f n ca _ hr (by omega)).mono ?_
    rintro e w1 ⟨c', rfl, hc', rfl⟩
    obtain rfl := chk_one (chk_ok hev HZ.out) hc'
    clear hc'
    go_wp2_with fail
    refine (jcode_calls b g m cb _ hq (by omega)).mono ?_
    rintro e w2 ⟨c', rfl, hc', rfl⟩
    obtain rfl := chk_one hc hc'
    go_wp2_with fail
    refine (join_bad2 a b f g n m ca cb _ hr hq (by omega) (by omega) hev HZ.out c' hc hc0).mono ?_
    rintro e w3 ⟨rfl, hg⟩
    clear hc hc' hc0 K
    go_wp2
    go_ret
    exact ⟨rfl, hg⟩
  have HZ2 : Hid (¬ HasZero g m) := hz2
  clear hz2
  go_enter Ycnm.func5, Ycnm.ntmps5
  go_wp2_with fail
  refine (jcode_calls a f n ca _ hr (by omega)).mono ?_
  rintro e w1 ⟨c', rfl, hc', rfl⟩
  obtain rfl := chk_one (chk_ok hev HZ.out) hc'
  clear hc'
  go_wp2_with fail
  refine (jcode_calls b g m cb _ hq (by omega)).mono ?_
  rintro e w2 ⟨c', rfl, hc', rfl⟩
  obtain rfl := chk_one (chk_ok hev2 HZ2.out) hc'
  clear hc'
  go_wp2_with fail
  refine (join_ok a b f g n m ca cb _ hr hq (by omega) hev hev2 HZ.out HZ2.out).mono ?_
  rintro e w3 ⟨a3, L3, cap3, qs, rfl, ho3, hl3, hle3, hc3, hex3, hgr3⟩
  go_wp2_with fail
  refine (jmodel_calls a b f g n m ca cb _ (hr.keep hgr3.g) (hq.keep hgr3.g) na nb (by omega) hev hev2 HZ.out HZ2.out).mono ?_
  rintro e w4 ⟨a4, cap4, rs, rfl, ho4, hc4, hex4, hgr4⟩
  obtain rfl : qs = rs := canon_unique hc3 hc4 (hex3.trans hex4.symm)
  have ho1 := ho3.keep hgr4.g
  have hlen : (flat qs).length = 2 * L3 := by rw [flat_length, hl3]
  have hrd1 := ho1.rd
  have hrd2 := ho4.rd
  rw [hlen] at hrd1 hrd2 ⊢
  go_wp2_with fail
  refine (jeq_calls a3 a4 (gl (flat qs)) (gl (flat qs)) (2 * L3) (2 * L3) cap3 cap4 _ hrd1 hrd2 (by omega)).mono ?_
  rintro e w5 ⟨r, rfl, hrr, hg5⟩
  obtain rfl := hrr.2 rfl
  go_wp2
  go_ret
  exact ⟨rfl, (hgr3.g.trans hgr4.g).trans hg5⟩

end Go.Proofs.Ymbrcn
