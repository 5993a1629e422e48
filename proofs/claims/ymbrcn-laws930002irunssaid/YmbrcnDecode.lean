import Derived.Test.YmbrcnDecLen
import Derived.Test.YmbrcnPairs
import Derived.Test.YmbrcnOwn
import Derived.Test.YmbrcnEq
import Derived.Lib.SliceRun
set_option linter.unusedVariables false
namespace Go.Proofs.Ymbrcn
open Go.RowKit

theorem can_one {f : Nat → Int} {n : Nat} {c c' : Int} (hc : CanIs f n c) (hc' : CanIs f n c') : c' = c := by
  rcases hc with ⟨h1, h2⟩ | ⟨h1, h2, h3⟩ | ⟨h1, h2, h3, h4⟩ | ⟨h1, h2, h3, h4⟩ <;> rcases hc' with ⟨k1, k2⟩ | ⟨k1, k2, k3⟩ | ⟨k1, k2, k3, k4⟩ | ⟨k1, k2, k3, k4⟩
  all_goals first | omega | exact absurd h2 k2 | exact absurd k2 h2 | exact absurd h3 k3 | exact absurd k3 h3

theorem can_ok {f : Nat → Int} {n : Nat} (h : CanIs f n 0) : n % 2 = 0 ∧ ¬ HasZero f n ∧ ¬ HasSplit f n := by
  rcases h with ⟨h1, h2⟩ | ⟨h1, h2, h3⟩ | ⟨h1, h2, h3, h4⟩ | ⟨h1, h2, h3, h4⟩
  · omega
  · omega
  · omega
  · exact ⟨h1, h2, h3⟩

theorem exN_len {f : Nat → Int} (hb : ∀ i, 0 ≤ f i ∧ f i ≤ 255) (k : Nat) : ((exN f k).length : Int) = sumc f k := by
  induction k with
  | zero => rfl
  | succ k ih =>
    rw [exN_succ]
    have := hb (2 * k)
    show _ = sumc f k + f (2 * k)
    simp; omega

set_option maxRecDepth 100000 in
set_option maxHeartbeats 400000 in
theorem decode_bad (a : Option Addr) (f : Nat → Int) (n cap : Nat) (limit : Int) (w : World) (hr : Rd w a n f) (hn : n ≤ 9223372036854775807) (c : Int) (hc : CanIs f n c) (hc0 : c ≠ 0) :
    Calls Ycnm.prog 22 #[.slice a n cap, .int .i64 limit] w fun e w' => e = .returned (.tuple #[.slice none 0 0, .int .i64 c]) ∧ G w w' := by
  have d1 : (c != 0) = true := by simpa using hc0
  go_enter Ycnm.func22, Ycnm.ntmps22
  go_wp2_with fail
  refine (canonical_calls a f n cap _ hr hn).mono ?_
  rintro e w1 ⟨c', rfl, hc', hg⟩
  obtain rfl := can_one hc hc'
  clear hc hc' hc0
  go_wp2
  go_ret2
  exact ⟨rfl, hg⟩

set_option maxRecDepth 100000 in
set_option maxHeartbeats 400000 in
theorem decode_long (a : Option Addr) (f : Nat → Int) (n cap : Nat) (limit : Int) (w : World) (hr : Rd w a n f) (hn : n ≤ 70368744177664) (hl : -9223372036854775808 ≤ limit ∧ limit ≤ 9223372036854775807) (hc : CanIs f n 0) (hs : limit < sumc f (n / 2)) :
    Calls Ycnm.prog 22 #[.slice a n cap, .int .i64 limit] w fun e w' => e = .returned (.tuple #[.slice none 0 0, .int .i64 4]) ∧ G w w' := by
  have HS : Hid (limit < sumc f (n / 2)) := hs
  clear hs
  go_enter Ycnm.func22, Ycnm.ntmps22
  go_wp2_with fail
  refine (canonical_calls a f n cap _ hr (by omega)).mono ?_
  rintro e w1 ⟨c', rfl, hc', hg⟩
  obtain rfl := can_one hc hc'
  obtain ⟨k1, k2, k3⟩ := can_ok hc
  clear hc'
  have K2 : Hid (¬ HasZero f n) := k2
  clear k2 k3 hc
  go_wp2_with fail
  refine (decLen_calls a f n cap limit _ (hr.keep hg) hn hl).mono ?_
  rintro e w2 ⟨r, c, rfl, hd, rfl⟩
  obtain ⟨rfl, rfl⟩ : r = 0 ∧ c = 4 := by
    rcases hd with ⟨h1, h2, h3⟩ | ⟨h1, h2, h3, h4⟩ | ⟨h1, h2, h3, h4, h5⟩ | ⟨h1, h2, h3, h4, h5⟩
    · omega
    · exact absurd h2 K2.out
    · exact ⟨h4, h5⟩
    · exact absurd HS.out (by omega)
  clear hd
  go_wp2
  go_ret2
  exact ⟨rfl, hg⟩

set_option maxRecDepth 100000 in
set_option maxHeartbeats 800000 in
theorem decode_ok (a : Option Addr) (f : Nat → Int) (n cap : Nat) (limit : Int) (w : World) (hr : Rd w a n f) (hn : n ≤ 549755813888) (hl : -9223372036854775808 ≤ limit ∧ limit ≤ 9223372036854775807) (hc : CanIs f n 0) (hs : sumc f (n / 2) ≤ limit) :
    Calls Ycnm.prog 22 #[.slice a n cap, .int .i64 limit] w fun e w' => ∃ a' cap', e = .returned (.tuple #[.slice a' (exN f (n / 2)).length cap', .int .i64 0]) ∧ Own w' a' cap' (exN f (n / 2)) ∧ Gr w w' none a' := by
  have HS : Hid (sumc f (n / 2) ≤ limit) := hs
  clear hs
  go_enter Ycnm.func22, Ycnm.ntmps22
  go_wp2_with fail
  refine (canonical_calls a f n cap _ hr (by omega)).mono ?_
  rintro e w1 ⟨c', rfl, hc', hg⟩
  obtain rfl := can_one hc hc'
  obtain ⟨k1, k2, k3⟩ := can_ok hc
  clear hc'
  have K2 : Hid (¬ HasZero f n) := k2
  clear k2 k3 hc
  go_wp2_with fail
  refine (decLen_calls a f n cap limit _ (hr.keep hg) (by omega) hl).mono ?_
  rintro e w2 ⟨r, c, rfl, hd, rfl⟩
  obtain ⟨rfl, rfl⟩ : r = sumc f (n / 2) ∧ c = 0 := by
    rcases hd with ⟨h1, h2, h3⟩ | ⟨h1, h2, h3, h4⟩ | ⟨h1, h2, h3, h4, h5⟩ | ⟨h1, h2, h3, h4, h5⟩
    · omega
    · exact absurd h2 K2.out
    · exact absurd HS.out (by omega)
    · exact ⟨h4, h5⟩
  have t0 := sumc_nonneg hr.1 (n / 2)
  have t1 := sumc_le hr.1 (n / 2)
  obtain ⟨S, hS⟩ : ∃ S : Nat, sumc f (n / 2) = (S : Int) := ⟨(sumc f (n / 2)).toNat, by omega⟩
  rw [hS] at t0 t1 ⊢
  clear hd HS hS K2
  go_wp2_with (at_make; refine wpList_mk0 rfl _ _ rfl _ _ _ S rfl rfl rfl (by omega) ?_)
  intro a1 w3 ho1 hg1
  have hgg := hg.then hg1
  clear hg1 hg
  go_wp2
  go_loopw [8, 9] (fun v p wr => ∃ (k : Nat) (a' : Option Addr) (cap' : Nat), 2 * k ≤ n ∧ p = .int .i64 (2 * (k : Int)) ∧ v = .slice a' (exN f k).length cap' ∧ Own wr a' cap' (exN f k) ∧ Gr w wr none a') (fun _ p _ => n + 1 - (intOf p).toNat)
  case atStart => exact ⟨0, a1, S, by omega, rfl, rfl, ho1, hgg⟩
  case round =>
    clear ho1 hgg
    obtain ⟨k, a', cap', hk, rfl, rfl, hown, hgr⟩ := hrel
    have hle := exN_length_le hr.1 k
    by_cases hlt : 2 * k + 1 < n
    · have hlti : 2 * (k : Int) < (n : Int) := by omega
      have hr0 := hr.at hlt
      obtain ⟨b, off, rfl, hcc⟩ := hr0
      clear hcc
      have b0 := hr.1 (2 * k)
      have b1 := hr.1 (2 * k + 1)
      obtain ⟨c, hc⟩ : ∃ c : Nat, f (2 * k) = (c : Int) := ⟨(f (2 * k)).toNat, by omega⟩
      have hsu : Hid (exN f (k + 1) = exN f k ++ List.replicate c (f (2 * k + 1))) := by rw [Hid, exN_succ, hc]; rfl
      have HC : Hid (∀ wx, G w wx → wx.cell? ⟨b, off + 2 * k, none⟩ = some (.int .u8 (c : Int)) ∧ wx.cell? ⟨b, off + (2 * k + 1), none⟩ = some (.int .u8 (f (2 * k + 1)))) := fun wx g => ⟨by rw [← hc]; exact (hr.keep g).cell (by omega), (hr.keep g).cell hlt⟩
      rw [hc] at b0
      clear hc
      generalize exN f k = l at *
      go_wp2
      go_loopw [8, 10] (fun v i wr => ∃ (j : Nat) (a' : Option Addr) (cap' : Nat), j ≤ c ∧ i = .int .i64 j ∧ v = .slice a' (l.length + j) cap' ∧ Own wr a' cap' (l ++ List.replicate j (f (2 * k + 1))) ∧ Gr w wr none a') (fun _ i _ => c - (intOf i).toNat)
      case atStart => exact ⟨0, a', cap', by omega, rfl, rfl, by simpa using hown, hgr⟩
      case round =>
        clear hown hgr
        obtain ⟨j, a', cap', hj, rfl, rfl, hown, hgr⟩ := hrel
        have hc2 := HC.out wr hgr.g
        obtain ⟨hc2, hc3⟩ := hc2
        by_cases hjc : j < c
        · go_wp2_with (at_builtin; refine wpList_app1 (w := wr) rfl _ _ rfl a' _ cap' (l ++ List.replicate j (f (2 * k + 1))) rfl (by simp) hown (f (2 * k + 1)) rfl b1 (by omega) ?_)
          intro a2 cap2 w2 hown2 hgr2
          clear hc2 hc3
          go_wp2
          go_roundw
          case rel => exact ⟨j + 1, a2, cap2, by omega, by go_num, rfl, by rw [List.replicate_succ']; simpa using hown2, hgr.trans hgr2⟩
          case measure => simp [intOf]; omega
        · obtain rfl : j = c := by omega
          go_wp2
          go_roundw
          case rel => exact ⟨k + 1, a', cap', by omega, by go_num, by rw [hsu.out]; simp, by rw [hsu.out]; exact hown, hgr⟩
          case measure => simp [intOf]; omega
    · have hk2 : n / 2 = k := by omega
      have HK : Hid (n / 2 = k) := hk2
      clear hk2
      have hge : ¬ 2 * (k : Int) < (n : Int) := by omega
      go_wp2
      go_ret2
      rw [HK.out]
      exact ⟨a', cap', rfl, hown, hgr⟩

theorem nil_eqd (w : World) : (binOp .eql 23 (.slice none 0 0) (.slice none 0 0)).run Ycnm.prog w = .ok (.bool true) w :=
  Lib.run_eql_slice_nil w 23 5 none 0 0 0 0 Ycnm.underlying23

/-- the answers of Decode that bear no bytes -/
theorem igives_bad (a b : Option Addr) (f : Nat → Int) (n cap m cb : Nat) (limit c : Int) (w : World) (hr : Rd w a n f) (hn : n ≤ 70368744177664) (hl : -9223372036854775808 ≤ limit ∧ limit ≤ 9223372036854775807)
    (h : (CanIs f n c ∧ c ≠ 0) ∨ (CanIs f n 0 ∧ limit < sumc f (n / 2) ∧ c = 4)) :
    Calls Ycnm.prog 14 #[.slice a n cap, .int .i64 limit, .slice b m cb, .int .i64 c] w fun e w' => e = .returned (.bool true) ∧ G w w' := by
  have hcall : Calls Ycnm.prog 22 #[.slice a n cap, .int .i64 limit] w fun e w' => e = .returned (.tuple #[.slice none 0 0, .int .i64 c]) ∧ G w w' := by
    rcases h with ⟨h1, h2⟩ | ⟨h1, h2, rfl⟩
    · exact decode_bad a f n cap limit w hr (by omega) c h1 h2
    · exact decode_long a f n cap limit w hr hn hl h1 h2
  have hc0 : c ≠ 0 := by rcases h with ⟨h1, h2⟩ | ⟨h1, h2, rfl⟩ <;> omega
  have d1 : (c != 0) = true := by simpa using hc0
  have d2 : (c != c) = false := by simp
  have hnil := nil_eqd
  have HC : Hid _ := hcall
  clear hcall h hc0
  go_enter Ycnm.func14, Ycnm.ntmps14
  go_wp2_with fail
  refine Calls.mono HC.out ?_
  rintro e w1 ⟨rfl, hg⟩
  go_wp2
  go_ret
  exact ⟨rfl, hg⟩

set_option maxRecDepth 100000 in
set_option maxHeartbeats 400000 in
theorem igives_ok (a b : Option Addr) (f g : Nat → Int) (n cap m cb : Nat) (limit : Int) (w : World) (hr : Rd w a n f) (hq : Rd w b m g) (hn : n ≤ 549755813888) (hl : -9223372036854775808 ≤ limit ∧ limit ≤ 9223372036854775807) (hc : CanIs f n 0) (hs : sumc f (n / 2) ≤ limit) (he : lst g m = exN f (n / 2)) :
    Calls Ycnm.prog 14 #[.slice a n cap, .int .i64 limit, .slice b m cb, .int .i64 0] w fun e w' => e = .returned (.bool true) ∧ G w w' := by
  have hm : m ≤ 70368744177664 := by
    have h1 := exN_length_le hr.1 (n / 2)
    rw [← he, lst_length] at h1; omega
  have HC : Hid _ := decode_ok a f n cap limit w hr hn hl hc hs
  clear hc hs
  go_enter Ycnm.func14, Ycnm.ntmps14
  go_wp2_with fail
  refine Calls.mono HC.out ?_
  rintro e w1 ⟨a1, cap1, rfl, ho, hg⟩
  rw [← he] at ho ⊢
  have r1 := ho.rd
  rw [lst_length] at r1 ⊢
  have r2 : Rd w1 a1 m g := r1.congr (fun i hi => (gl_lst hi).symm) hq.1
  have q1 := hq.keep hg.g
  clear ho r1 HC he
  go_wp2
  go_loopw [11] (fun i wr => ∃ k : Nat, k ≤ m ∧ i = .int .i64 k ∧ ∃ q, wr = w1.drewN q) (fun i _ => m - (intOf i).toNat)
  case atStart => exact ⟨0, by omega, rfl, 0, rfl⟩
  case round =>
    obtain ⟨k, hk, rfl, q, rfl⟩ := hrel
    by_cases hlt : k < m
    · obtain ⟨b1, o1, rfl, hc1⟩ := r2.at hlt
      obtain ⟨b2, o2, rfl, hc2⟩ := q1.at hlt
      have c1 := hc1 k hlt
      have c2 := hc2 k hlt
      clear hc1 hc2
      have d1 : (g k != g k) = false := by simp
      go_wp2
      go_quiet (fail)
      go_wp2
      go_roundw
      case rel => exact ⟨k + 1, by omega, by go_num, _, rfl⟩
      case measure => simp [intOf]; omega
    · go_wp2
      go_ret
      exact ⟨rfl, hg.g.trans (G.drewN _ _)⟩

end Go.Proofs.Ymbrcn
