import Derived.Test.YmbrcnDecLen
import Derived.Test.YmbrcnZero
import Derived.Test.YmbrcnOwn
import Derived.Test.YmbrcnGl
set_option linter.unusedVariables false
namespace Go.Proofs.Ymbrcn
open Go.RowKit

theorem decLen_odd (a : Option Addr) (f : Nat → Int) (n cap : Nat) (limit : Int) (w : World) (hr : Rd w a n f) (hn : n ≤ 70368744177664) (hl : -9223372036854775808 ≤ limit ∧ limit ≤ 9223372036854775807) (h : n % 2 = 1) : Calls Ycnm.prog 21 #[.slice a n cap, .int .i64 limit] w fun e w' => e = .returned (.tuple #[.int .i64 0, .int .i64 1]) ∧ w' = w := by
  refine (decLen_calls a f n cap limit w hr hn hl).mono ?_
  rintro e w1 ⟨r, c, rfl, hd, rfl⟩
  rcases hd with ⟨h1, rfl, rfl⟩ | ⟨h1, h2, rfl, rfl⟩ | ⟨h1, h2, h3, rfl, rfl⟩ | ⟨h1, h2, h3, rfl, rfl⟩
  · exact ⟨rfl, rfl⟩
  all_goals omega

theorem decLen_zero (a : Option Addr) (f : Nat → Int) (n cap : Nat) (limit : Int) (w : World) (hr : Rd w a n f) (hn : n ≤ 70368744177664) (hl : -9223372036854775808 ≤ limit ∧ limit ≤ 9223372036854775807) (h : n % 2 = 0) (z : HasZero f n) : Calls Ycnm.prog 21 #[.slice a n cap, .int .i64 limit] w fun e w' => e = .returned (.tuple #[.int .i64 0, .int .i64 2]) ∧ w' = w := by
  refine (decLen_calls a f n cap limit w hr hn hl).mono ?_
  rintro e w1 ⟨r, c, rfl, hd, rfl⟩
  rcases hd with ⟨h1, rfl, rfl⟩ | ⟨h1, h2, rfl, rfl⟩ | ⟨h1, h2, h3, rfl, rfl⟩ | ⟨h1, h2, h3, rfl, rfl⟩
  · omega
  · exact ⟨rfl, rfl⟩
  · exact absurd z h2
  · exact absurd z h2

theorem decLen_long (a : Option Addr) (f : Nat → Int) (n cap : Nat) (limit : Int) (w : World) (hr : Rd w a n f) (hn : n ≤ 70368744177664) (hl : -9223372036854775808 ≤ limit ∧ limit ≤ 9223372036854775807) (h : n % 2 = 0) (z : ¬ HasZero f n) (k : limit < sumc f (n / 2)) : Calls Ycnm.prog 21 #[.slice a n cap, .int .i64 limit] w fun e w' => e = .returned (.tuple #[.int .i64 0, .int .i64 4]) ∧ w' = w := by
  refine (decLen_calls a f n cap limit w hr hn hl).mono ?_
  rintro e w1 ⟨r, c, rfl, hd, rfl⟩
  rcases hd with ⟨h1, rfl, rfl⟩ | ⟨h1, h2, rfl, rfl⟩ | ⟨h1, h2, h3, rfl, rfl⟩ | ⟨h1, h2, h3, rfl, rfl⟩
  · omega
  · exact absurd h2 z
  · exact ⟨rfl, rfl⟩
  · omega

theorem decLen_ok (a : Option Addr) (f : Nat → Int) (n cap : Nat) (limit : Int) (w : World) (hr : Rd w a n f) (hn : n ≤ 70368744177664) (hl : -9223372036854775808 ≤ limit ∧ limit ≤ 9223372036854775807) (h : n % 2 = 0) (z : ¬ HasZero f n) (S : Int) (hS : sumc f (n / 2) = S) (k : S ≤ limit) : Calls Ycnm.prog 21 #[.slice a n cap, .int .i64 limit] w fun e w' => e = .returned (.tuple #[.int .i64 S, .int .i64 0]) ∧ w' = w := by
  refine (decLen_calls a f n cap limit w hr hn hl).mono ?_
  rintro e w1 ⟨r, c, rfl, hd, rfl⟩
  rcases hd with ⟨h1, rfl, rfl⟩ | ⟨h1, h2, rfl, rfl⟩ | ⟨h1, h2, h3, rfl, rfl⟩ | ⟨h1, h2, h3, rfl, rfl⟩
  · omega
  · exact absurd h2 z
  · omega
  · rw [hS]; exact ⟨rfl, rfl⟩

theorem Rd.drop {w : World} {b off n : Nat} {f : Nat → Int} (h : Rd w (some ⟨b, off, none⟩) n f) (k : Nat) (hk : k ≤ n) : Rd w (some ⟨b, off + k, none⟩) (n - k) (fun i => f (k + i)) := by
  refine ⟨fun i => h.1 (k + i), .inr ⟨b, off + k, rfl, fun i hi => ?_⟩⟩
  rw [Nat.add_assoc]; exact h.cell (by omega)
theorem Rd.take {w : World} {a : Option Addr} {n : Nat} {f : Nat → Int} (h : Rd w a n f) (k : Nat) (hk : k ≤ n) : Rd w a k f := by
  refine ⟨h.1, ?_⟩
  rcases h.2 with h | ⟨b, off, e, hc⟩
  · exact .inl (by omega)
  · exact .inr ⟨b, off, e, fun i hi => hc i (by omega)⟩

theorem hz_split {f : Nat → Int} {n K : Nat} (h : 2 * K ≤ n) : HasZero f n ↔ HasZero f (2 * K) ∨ HasZero (fun i => f (2 * K + i)) (n - 2 * K) := by
  constructor
  · rintro ⟨j, h1, h2⟩
    by_cases e : j < K
    · exact .inl ⟨j, by omega, h2⟩
    · exact .inr ⟨j - K, by omega, by show f (2 * K + 2 * (j - K)) = 0; rw [show 2 * K + 2 * (j - K) = 2 * j by omega]; exact h2⟩
  · rintro (⟨j, h1, h2⟩ | ⟨j, h1, h2⟩)
    · exact ⟨j, by omega, h2⟩
    · exact ⟨K + j, by omega, by rw [show 2 * (K + j) = 2 * K + 2 * j by omega]; exact h2⟩

theorem sumc_split {f : Nat → Int} (K m : Nat) : sumc f (K + m) = sumc f K + sumc (fun i => f (2 * K + i)) m := by
  induction m with
  | zero => simp [sumc]
  | succ m ih =>
    show sumc f (K + m) + f (2 * (K + m)) = sumc f K + (sumc (fun i => f (2 * K + i)) m + f (2 * K + 2 * m))
    rw [ih, show 2 * (K + m) = 2 * K + 2 * m by omega]; omega

set_option maxRecDepth 100000 in
set_option maxHeartbeats 1600000 in
theorem lsplit_calls (a : Option Addr) (f : Nat → Int) (n cap : Nat) (rep : Bool) (cut limit : Int) (w : World) (hr : Rd w a n f) (hc : 0 ≤ cut ∧ cut ≤ 65535) (hlim : -9223372036854775808 ≤ limit ∧ limit ≤ 9223372036854775807) :
    Calls Ycnm.prog 13 #[.slice a n cap, .bool rep, .int .u16 cut, .int .i64 limit] w fun e w' => e = .returned (.bool true) ∧ G w w' := by
  by_cases h0 : 1024 < n
  · have e0 : (1024 : Int) < n := by omega
    go_enter Ycnm.func13, Ycnm.ntmps13
    go_wp2
    go_ret
    exact ⟨rfl, G.refl _⟩
  have e0 : ¬ (1024 : Int) < n := by omega
  obtain ⟨m, hm⟩ : ∃ m : Nat, (n : Int) / 2 + 1 = (m : Int) := ⟨n / 2 + 1, by omega⟩
  have m1 : cut % (m : Int) < m := Int.emod_lt_of_pos _ (by omega)
  obtain ⟨K, hK⟩ := Int.eq_ofNat_of_zero_le (Int.emod_nonneg cut (show (m : Int) ≠ 0 by omega))
  rw [hK] at m1
  have hKn : 2 * K ≤ n := by omega
  go_enter Ycnm.func13, Ycnm.ntmps13
  go_wp2_with (at_make; refine wpList_mkn rfl _ _ rfl _ _ _ _ n rfl rfl rfl rfl (by omega) ?_)
  intro g w1 hown hgr
  go_wp2
  go_loopw [10] (fun i wr => ∃ (k : Nat) (l : List Int), k ≤ n ∧ i = .int .i64 k ∧ l.length = n ∧ Own wr (some ⟨g, 0, none⟩) n l ∧ Gr w wr none (some ⟨g, 0, none⟩)) (fun i _ => n - (intOf i).toNat)
  case atStart => exact ⟨0, _, by omega, rfl, by simp, hown, hgr⟩
  case round =>
    clear hown hgr
    obtain ⟨k, l, hk, rfl, hl, hown, hgr⟩ := hrel
    by_cases hlt : k < n
    · obtain ⟨b, off, rfl, hcc⟩ := hr.at hlt
      clear hcc
      have c1 := (hr.keep hgr.g).cell hlt
      have hb := hr.1 k
      obtain ⟨g', e, hcs, hfz⟩ := hown.shape (by omega)
      simp only [Option.some.injEq, Addr.mk.injEq, and_true] at e
      subst e
      have c2 := hcs k (by omega)
      have f2 := hfz k
      clear hcs hfz
      have o1 := hown.stored k (f k) hb
      have c3 := (hr.keep (hgr.trans o1.2).g).cell hlt
      cases rep with
      | false =>
        go_wp2
        go_roundw
        case rel => exact ⟨k + 1, l.set k (f k), by omega, by go_num, by simpa using hl, o1.1, hgr.trans o1.2⟩
        case measure => simp [intOf]; omega
      | true =>
        rcases Nat.mod_two_eq_zero_or_one k with hp | hp
        · have d1 : ((k : Int) % 2 == 0) = true := by simp; omega
          have o2 := o1.1.stored k 1 (by omega)
          go_wp2
          · go_roundw
            case rel => exact ⟨k + 1, (l.set k (f k)).set k 1, by omega, by go_num, by simpa using hl, o2.1, (hgr.trans o1.2).trans o2.2⟩
            case measure => simp [intOf]; omega
          · go_roundw
            case rel => exact ⟨k + 1, l.set k (f k), by omega, by go_num, by simpa using hl, o1.1, hgr.trans o1.2⟩
            case measure => simp [intOf]; omega
        · have d1 : ((k : Int) % 2 == 0) = false := by simp; omega
          go_wp2
          go_roundw
          case rel => exact ⟨k + 1, l.set k (f k), by omega, by go_num, by simpa using hl, o1.1, hgr.trans o1.2⟩
          case measure => simp [intOf]; omega
    · obtain rfl : k = n := by omega
      have hrd := hown.rd
      rw [hl] at hrd
      have hrt := hrd.take (2 * K) hKn
      have hrr := hrd.drop (2 * K) hKn
      simp only [Nat.zero_add] at hrr
      have hz := hz_split (f := gl l) hKn
      have s1 := sumc_nonneg hrd.1 K
      have s2 := sumc_nonneg hrr.1 ((k - 2 * K) / 2)
      have s3 := sumc_le hrr.1 ((k - 2 * K) / 2)
      have hsm : k % 2 = 0 → sumc (gl l) (k / 2) = sumc (gl l) K + sumc (fun i => gl l (2 * K + i)) ((k - 2 * K) / 2) := fun h => by rw [← sumc_split, show K + (k - 2 * K) / 2 = k / 2 by omega]
      have HZ : Hid _ := hz
      have HS : Hid _ := hsm
      have hKK : 2 * K / 2 = K := by omega
      generalize hS1 : sumc (gl l) K = S1 at *
      generalize hF2 : (fun i => gl l (2 * K + i)) = F2 at *
      generalize hS2 : sumc F2 ((k - 2 * K) / 2) = S2 at *
      have HS1 : Hid _ := hS1
      have HS2 : Hid _ := hS2
      have hfin := hgr.g
      clear hz hsm hS1 hS2 hl hr hgr hown hF2
      go_wp2_with fail
      rcases Nat.mod_two_eq_zero_or_one k with hp | hp
      · have hsm := HS.out hp
        have HSM : Hid _ := hsm
        clear hsm HS
        have d1 : ((k : Int) % 2 == 1) = false := by simp; omega
        by_cases z1 : HasZero (gl l) (2 * K)
        · have Z1 : Hid _ := z1
          have Z0 : Hid _ := HZ.out.2 (.inl z1)
          clear z1 HZ
          refine (decLen_zero _ (gl l) k k limit _ hrd (by omega) hlim hp Z0.out).mono ?_
          rintro e w2 ⟨rfl, rfl⟩
          go_wp2_with fail
          refine (decLen_zero _ (gl l) (2 * K) k limit _ hrt (by omega) hlim (by omega) Z1.out).mono ?_
          rintro e w3 ⟨rfl, rfl⟩
          go_wp2
          go_ret
          exact ⟨rfl, hfin⟩
        by_cases z2 : HasZero F2 (k - 2 * K)
        · have hKlt : 2 * K < k := by obtain ⟨j, h1, h2⟩ := z2; omega
          have Z1 : Hid _ := z1
          have Z2 : Hid _ := z2
          have Z0 : Hid _ := HZ.out.2 (.inr z2)
          clear z1 z2 HZ
          by_cases hlong : limit < S1
          · refine (decLen_zero _ (gl l) k k limit _ hrd (by omega) hlim hp Z0.out).mono ?_
            rintro e w2 ⟨rfl, rfl⟩
            go_wp2_with fail
            refine (decLen_long _ (gl l) (2 * K) k limit _ hrt (by omega) hlim (by omega) Z1.out (by rw [hKK, HS1.out]; exact hlong)).mono ?_
            rintro e w3 ⟨rfl, rfl⟩
            go_wp2_with fail
            refine (decLen_zero _ F2 (k - 2 * K) (k - 2 * K) 1073741824 _ hrr (by omega) (by omega) (by omega) Z2.out).mono ?_
            rintro e w4 ⟨rfl, rfl⟩
            go_wp2
            go_ret
            exact ⟨rfl, hfin⟩
          · have hle : S1 ≤ limit := by omega
            clear hlong
            refine (decLen_zero _ (gl l) k k limit _ hrd (by omega) hlim hp Z0.out).mono ?_
            rintro e w2 ⟨rfl, rfl⟩
            go_wp2_with fail
            refine (decLen_ok _ (gl l) (2 * K) k limit _ hrt (by omega) hlim (by omega) Z1.out S1 (by rw [hKK]; exact HS1.out) hle).mono ?_
            rintro e w3 ⟨rfl, rfl⟩
            go_wp2_with fail
            refine (decLen_zero _ F2 (k - 2 * K) (k - 2 * K) (limit - S1) _ hrr (by omega) (by omega) (by omega) Z2.out).mono ?_
            rintro e w4 ⟨rfl, rfl⟩
            go_wp2
            go_ret
            exact ⟨rfl, hfin⟩
        have Z1 : Hid _ := z1
        have Z2 : Hid _ := z2
        have Z0 : Hid (¬ HasZero (gl l) k) := fun h => (HZ.out.1 h).elim z1 z2
        clear z1 z2 HZ
        by_cases hKe : k = 2 * K
        · subst hKe
          have h20 : 2 * K - 2 * K = 0 := by omega
          have hS20 := HS2.out
          rw [h20] at hS20
          obtain rfl : S2 = 0 := hS20.symm
          have hsm := HSM.out
          rw [hKK, Int.add_zero] at hsm
          clear HSM hS20
          by_cases hlong : limit < S1
          · refine (decLen_long _ (gl l) (2 * K) (2 * K) limit _ hrd (by omega) hlim hp Z0.out (by rw [hKK, HS1.out]; exact hlong)).mono ?_
            rintro e w2 ⟨rfl, rfl⟩
            go_wp2_with fail
            refine (decLen_long _ (gl l) (2 * K) (2 * K) limit _ hrt (by omega) hlim (by omega) Z1.out (by rw [hKK, HS1.out]; exact hlong)).mono ?_
            rintro e w3 ⟨rfl, rfl⟩
            go_wp2_with fail
            refine (decLen_ok _ F2 0 0 1073741824 _ ⟨hrr.1, .inl rfl⟩ (by omega) (by omega) (by omega) hz_nil 0 rfl (by omega)).mono ?_
            rintro e w4 ⟨rfl, rfl⟩
            go_wp2
            go_ret
            exact ⟨rfl, hfin⟩
          · have hle : S1 ≤ limit := by omega
            clear hlong
            refine (decLen_ok _ (gl l) (2 * K) (2 * K) limit _ hrd (by omega) hlim hp Z0.out S1 (by rw [hKK]; exact HS1.out) hle).mono ?_
            rintro e w2 ⟨rfl, rfl⟩
            go_wp2_with fail
            refine (decLen_ok _ (gl l) (2 * K) (2 * K) limit _ hrt (by omega) hlim (by omega) Z1.out S1 (by rw [hKK]; exact HS1.out) hle).mono ?_
            rintro e w3 ⟨rfl, rfl⟩
            go_wp2_with fail
            refine (decLen_ok _ F2 0 0 (limit - S1) _ ⟨hrr.1, .inl rfl⟩ (by omega) (by omega) (by omega) hz_nil 0 rfl (by omega)).mono ?_
            rintro e w4 ⟨rfl, rfl⟩
            go_wp2
            go_ret
            exact ⟨by simp, hfin⟩
        · have hKlt : 2 * K < k := by omega
          clear hKe
          by_cases hlong : limit < S1
          · refine (decLen_long _ (gl l) k k limit _ hrd (by omega) hlim hp Z0.out (by rw [HSM.out]; omega)).mono ?_
            rintro e w2 ⟨rfl, rfl⟩
            go_wp2_with fail
            refine (decLen_long _ (gl l) (2 * K) k limit _ hrt (by omega) hlim (by omega) Z1.out (by rw [hKK, HS1.out]; exact hlong)).mono ?_
            rintro e w3 ⟨rfl, rfl⟩
            go_wp2_with fail
            refine (decLen_ok _ F2 (k - 2 * K) (k - 2 * K) 1073741824 _ hrr (by omega) (by omega) (by omega) Z2.out S2 HS2.out (by omega)).mono ?_
            rintro e w4 ⟨rfl, rfl⟩
            go_wp2
            go_ret
            exact ⟨rfl, hfin⟩
          · have hle : S1 ≤ limit := by omega
            clear hlong
            by_cases hl2 : limit < S1 + S2
            · refine (decLen_long _ (gl l) k k limit _ hrd (by omega) hlim hp Z0.out (by rw [HSM.out]; exact hl2)).mono ?_
              rintro e w2 ⟨rfl, rfl⟩
              go_wp2_with fail
              refine (decLen_ok _ (gl l) (2 * K) k limit _ hrt (by omega) hlim (by omega) Z1.out S1 (by rw [hKK]; exact HS1.out) hle).mono ?_
              rintro e w3 ⟨rfl, rfl⟩
              go_wp2_with fail
              refine (decLen_long _ F2 (k - 2 * K) (k - 2 * K) (limit - S1) _ hrr (by omega) (by omega) (by omega) Z2.out (by rw [HS2.out]; omega)).mono ?_
              rintro e w4 ⟨rfl, rfl⟩
              go_wp2
              go_ret
              exact ⟨rfl, hfin⟩
            · have hle2 : S1 + S2 ≤ limit := by omega
              clear hl2
              refine (decLen_ok _ (gl l) k k limit _ hrd (by omega) hlim hp Z0.out (S1 + S2) HSM.out hle2).mono ?_
              rintro e w2 ⟨rfl, rfl⟩
              go_wp2_with fail
              refine (decLen_ok _ (gl l) (2 * K) k limit _ hrt (by omega) hlim (by omega) Z1.out S1 (by rw [hKK]; exact HS1.out) hle).mono ?_
              rintro e w3 ⟨rfl, rfl⟩
              go_wp2_with fail
              refine (decLen_ok _ F2 (k - 2 * K) (k - 2 * K) (limit - S1) _ hrr (by omega) (by omega) (by omega) Z2.out S2 HS2.out (by omega)).mono ?_
              rintro e w4 ⟨rfl, rfl⟩
              go_wp2
              go_ret
              exact ⟨by simp, hfin⟩
      · by_cases z1 : HasZero (gl l) (2 * K)
        · have Z1 : Hid _ := z1
          clear z1
          refine (decLen_odd _ (gl l) k k limit _ hrd (by omega) hlim hp).mono ?_
          rintro e w2 ⟨rfl, rfl⟩
          go_wp2_with fail
          refine (decLen_zero _ (gl l) (2 * K) k limit _ hrt (by omega) hlim (by omega) Z1.out).mono ?_
          rintro e w3 ⟨rfl, rfl⟩
          have d1 : ((k : Int) % 2 == 1) = true := by simp; omega
          go_wp2
          go_ret
          exact ⟨rfl, hfin⟩
        · have Z1 : Hid _ := z1
          clear z1
          by_cases hlong : limit < S1
          · refine (decLen_odd _ (gl l) k k limit _ hrd (by omega) hlim hp).mono ?_
            rintro e w2 ⟨rfl, rfl⟩
            go_wp2_with fail
            refine (decLen_long _ (gl l) (2 * K) k limit _ hrt (by omega) hlim (by omega) Z1.out (by rw [hKK, HS1.out]; exact hlong)).mono ?_
            rintro e w3 ⟨rfl, rfl⟩
            have d1 : ((k : Int) % 2 == 1) = true := by simp; omega
            go_wp2
            go_ret
            exact ⟨rfl, hfin⟩
          · have hle : S1 ≤ limit := by omega
            clear hlong
            refine (decLen_odd _ (gl l) k k limit _ hrd (by omega) hlim hp).mono ?_
            rintro e w2 ⟨rfl, rfl⟩
            go_wp2_with fail
            refine (decLen_ok _ (gl l) (2 * K) k limit _ hrt (by omega) hlim (by omega) Z1.out S1 (by rw [hKK]; exact HS1.out) hle).mono ?_
            rintro e w3 ⟨rfl, rfl⟩
            go_wp2_with fail
            refine (decLen_odd _ F2 (k - 2 * K) (k - 2 * K) (limit - S1) _ hrr (by omega) (by omega) (by omega)).mono ?_
            rintro e w4 ⟨rfl, rfl⟩
            go_wp2
            go_ret
            exact ⟨rfl, hfin⟩

end Go.Proofs.Ymbrcn
