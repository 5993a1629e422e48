import Derived.Test.YmbrcmCompare
import Derived.Test.YmbrcmExpand
import Derived.Test.YmbrcmBits
set_option linter.unusedVariables false
namespace Go.Proofs.Ymbrcm
open Go.RowKit

theorem chk_one {f : Nat → Int} {n : Nat} {c c' : Int} (hc : ChkIs f n c) (hc' : ChkIs f n c') : c' = c := by
  rcases hc with ⟨h1, h2⟩ | ⟨h1, h2, h3⟩ | ⟨h1, h2, h3⟩ <;> rcases hc' with ⟨k1, k2⟩ | ⟨k1, k2, k3⟩ | ⟨k1, k2, k3⟩
  all_goals first | omega | exact absurd h2 k2 | exact absurd k2 h2

theorem chk_ok {f : Nat → Int} {n : Nat} (hev : n % 2 = 0) (hz : ¬ HasZero f n) : ChkIs f n 0 := .inr (.inr ⟨hev, hz, rfl⟩)

theorem chk_two (f : Nat → Int) (n : Nat) : (∃ c, ChkIs f n c ∧ c ≠ 0) ∨ (n % 2 = 0 ∧ ¬ HasZero f n) := by
  rcases Nat.mod_two_eq_zero_or_one n with h | h
  · by_cases hz : HasZero f n
    · exact .inl ⟨2, .inr (.inl ⟨h, hz, rfl⟩), by omega⟩
    · exact .inr ⟨h, hz⟩
  · exact .inl ⟨1, .inl ⟨h, rfl⟩, by omega⟩

set_option maxRecDepth 100000 in
set_option maxHeartbeats 400000 in
theorem gcode_calls (a : Option Addr) (f : Nat → Int) (n cap : Nat) (w : World) (hr : Rd w a n f) (hn : n ≤ 9223372036854775807) :
    Calls Ycmm.prog 22 #[.slice a n cap] w fun e w' => ∃ c : Int, e = .returned (.int .i64 c) ∧ ChkIs f n c ∧ w' = w := by
  rcases Nat.mod_two_eq_zero_or_one n with hpn | hpn
  · have d0 := and1_even n hn hpn
    have HE : Hid (n % 2 = 0) := hpn
    clear hpn
    go_enter Ycmm.func22, Ycmm.ntmps22
    go_wp2
    go_loop [3] (fun i => ∃ k : Nat, k ≤ n ∧ i = .int .i64 k ∧ ¬ HasZero f k) (fun i => n - (intOf i).toNat)
    case atStart => exact ⟨0, by omega, rfl, hz_nil⟩
    case round =>
      obtain ⟨k, hk, rfl, hz⟩ := hrel
      have HZ : Hid (¬ HasZero f k) := hz
      clear hz
      by_cases hlt : k < n
      · obtain ⟨b, off, rfl, hc⟩ := hr.at hlt
        have c1 := hc k hlt
        clear hc
        rcases Nat.mod_two_eq_zero_or_one k with hp | hp
        · have d1 := and1_even k (by omega) hp
          have HP : Hid (k % 2 = 0) := hp
          clear hp
          go_wp2
          · have ht : (f k == 0) = true := by assumption
            go_ret
            exact ⟨2, rfl, .inr (.inl ⟨HE.out, ⟨k / 2, by have := HP.out; omega, by have := HP.out; rw [show 2 * (k / 2) = k by omega]; simpa using ht⟩, rfl⟩), rfl⟩
          · have ht : (f k == 0) = false := by assumption
            simp at ht
            go_round
            case rel => exact ⟨k + 1, by omega, by go_num, by rw [hz_even HP.out]; exact fun h => h.elim HZ.out ht⟩
            case measure => simp [intOf]; omega
        · have d1 := and1_odd k (by omega) hp
          have HP : Hid (k % 2 = 1) := hp
          clear hp
          go_wp2
          go_round
          case rel => exact ⟨k + 1, by omega, by go_num, by rw [hz_odd HP.out]; exact HZ.out⟩
          case measure => simp [intOf]; omega
      · obtain rfl : k = n := by omega
        go_wp2
        go_ret
        exact ⟨0, rfl, chk_ok HE.out HZ.out, rfl⟩
  · have d0 := and1_odd n hn hpn
    go_enter Ycmm.func22, Ycmm.ntmps22
    go_wp2
    go_ret
    exact ⟨1, rfl, .inl ⟨hpn, rfl⟩, rfl⟩

/-- the pairs that gpairs makes of the first k bytes of g -/
def gps (g : Nat → Int) (k : Nat) : List (Int × Int) := (List.range k).map fun j => (g j / 2 + 1, g j % 2)

theorem gps_succ (g : Nat → Int) (k : Nat) : gps g (k + 1) = gps g k ++ [(g k / 2 + 1, g k % 2)] := by simp [gps, List.range_succ]
theorem gps_length (g : Nat → Int) (k : Nat) : (gps g k).length = k := by simp [gps]
theorem gps_well {g : Nat → Int} (h : ∀ i, 0 ≤ g i ∧ g i ≤ 255) (k : Nat) : Well (gps g k) := by
  intro p hp
  simp only [gps, List.mem_map, List.mem_range] at hp
  obtain ⟨j, _, rfl⟩ := hp
  have := h j
  simp only; omega

/-- a row of well-formed pairs has no zero count -/
theorem well_nz {ps : List (Int × Int)} (h : Well ps) : ¬ HasZero (gl (flat ps)) (2 * ps.length) := by
  rintro ⟨j, j1, j2⟩
  have e := pairsOf_flat ps
  have hm : (gl (flat ps) (2 * j), gl (flat ps) (2 * j + 1)) ∈ pairsOf (gl (flat ps)) ps.length := by
    simp only [pairsOf, List.mem_map, List.mem_range]
    exact ⟨j, by omega, rfl⟩
  rw [e] at hm
  have := h _ hm
  simp only at this; omega

set_option maxRecDepth 100000 in
set_option maxHeartbeats 800000 in
theorem gpairs_calls (a b : Option Addr) (cap m cb : Nat) (l : List Int) (g : Nat → Int) (w : World) (hown : Own w a cap l) (hr : Rd w b m g) (hsep : m = 0 ∨ Sep a b) (hb : l.length + 2 * m ≤ 70368744177664) :
    Calls Ycmm.prog 26 #[.slice a l.length cap, .slice b m cb] w fun e w' => ∃ a' cap', e = .returned (.slice a' (l.length + 2 * m) cap') ∧ Own w' a' cap' (l ++ flat (gps g m)) ∧ Gr w w' a a' := by
  have HSep : Hid (m = 0 ∨ Sep a b) := hsep
  clear hsep
  generalize hL : l.length = L at *
  have HL : Hid (l.length = L) := hL
  clear hL
  go_enter Ycmm.func26, Ycmm.ntmps26
  go_wp2
  go_loopw [0, 5] (fun v p wr => ∃ (k : Nat) (a' : Option Addr) (cap' : Nat), k ≤ m ∧ p = .int .i64 k ∧ v = .slice a' (L + 2 * k) cap' ∧ Own wr a' cap' (l ++ flat (gps g k)) ∧ Gr w wr a a') (fun _ p _ => m - (intOf p).toNat)
  case atStart => exact ⟨0, a, cap, by omega, rfl, rfl, by simpa [gps, flat] using hown, Gr.refl _ _⟩
  case round =>
    obtain ⟨k, a', cap', hk, rfl, rfl, ho, hgr⟩ := hrel
    have hlen : Hid (L + 2 * k = (l ++ flat (gps g k)).length) := by rw [Hid, List.length_append, flat_length, gps_length, HL.out]
    by_cases hlt : k < m
    · have hr1 := hr.keepGr hgr HSep.out
      obtain ⟨b1, o1, rfl, hcc⟩ := hr1.at hlt
      have c1 := hcc k hlt
      clear hcc hr1
      have b0 := hr.1 k
      go_wp2_with (at_builtin; refine wpList_app1 (w := wr) rfl _ _ rfl a' _ cap' (l ++ flat (gps g k)) rfl hlen.out ho (g k / 2 + 1) rfl (by omega) (by omega) ?_)
      intro a2 cap2 w2 ho2 hgr2
      have hr2 := hr.keepGr (hgr.trans hgr2) HSep.out
      have c2 := hr2.cell hlt
      try simp only [List.append_assoc] at ho2
      have hlen2 : Hid (L + 2 * k + 1 = (l ++ (flat (gps g k) ++ [g k / 2 + 1])).length) := by rw [Hid, ← List.append_assoc, List.length_append, ← hlen.out]; rfl
      clear c1 hr2
      go_wp2_with (at_builtin; refine wpList_app1 (w := w2) rfl _ _ rfl a2 _ cap2 (l ++ (flat (gps g k) ++ [g k / 2 + 1])) rfl hlen2.out ho2 (g k % 2) rfl (by omega) (by omega) ?_)
      intro a3 cap3 w3 ho3 hgr3
      have hf : l ++ flat (gps g (k + 1)) = l ++ flat (gps g k) ++ [g k / 2 + 1] ++ [g k % 2] := by rw [gps_succ, flat_append]; simp [flat]
      have HF : Hid _ := hf
      clear hf c2
      go_wp2
      go_roundw
      case rel => exact ⟨k + 1, a3, cap3, by omega, by go_num, rfl, by rw [HF.out]; simpa using ho3, (hgr.trans hgr2).trans hgr3⟩
      case measure => simp [intOf]; omega
    · obtain rfl : k = m := by omega
      go_wp2
      go_ret
      exact ⟨a', cap', rfl, ho, hgr⟩

end Go.Proofs.Ymbrcm
