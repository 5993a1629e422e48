import Derived.Test.YmbrcnNorm
import Derived.Test.YmbrcnJModel
import Derived.Test.YmbrcnEq
import Derived.Lib.SliceRun
set_option linter.unusedVariables false
namespace Go.Proofs.Ymbrcn
open Go.RowKit

theorem chk_one {f : Nat → Int} {n : Nat} {c c' : Int} (hc : ChkIs f n c) (hc' : ChkIs f n c') : c' = c := by
  rcases hc with ⟨h1, h2⟩ | ⟨h1, h2, h3⟩ | ⟨h1, h2, h3⟩ <;> rcases hc' with ⟨k1, k2⟩ | ⟨k1, k2, k3⟩ | ⟨k1, k2, k3⟩
  all_goals first | omega | exact absurd h2 k2 | exact absurd k2 h2

theorem chk_ok {f : Nat → Int} {n : Nat} (hev : n % 2 = 0) (hz : ¬ HasZero f n) : ChkIs f n 0 := .inr (.inr ⟨hev, hz, rfl⟩)

set_option maxRecDepth 100000 in
set_option maxHeartbeats 400000 in
theorem jcode_calls (a : Option Addr) (f : Nat → Int) (n cap : Nat) (w : World) (hr : Rd w a n f) (hn : n ≤ 9223372036854775807) :
    Calls Ycnm.prog 15 #[.slice a n cap] w fun e w' => ∃ c : Int, e = .returned (.int .i64 c) ∧ ChkIs f n c ∧ w' = w := by
  by_cases hodd : n % 2 = 1
  · have e0 : ((n : Int) % 2 == 1) = true := by simp; omega
    go_enter Ycnm.func15, Ycnm.ntmps15
    go_wp2
    go_ret
    exact ⟨1, rfl, .inl ⟨hodd, rfl⟩, rfl⟩
  have e0 : ((n : Int) % 2 == 1) = false := by simp; omega
  have HE : Hid (n % 2 = 0) := by rw [Hid]; omega
  clear hodd
  go_enter Ycnm.func15, Ycnm.ntmps15
  go_wp2
  go_loop [3] (fun i => ∃ k : Nat, k ≤ n ∧ i = .int .i64 k ∧ ¬ HasZero f k) (fun i => n - (intOf i).toNat)
  case atStart => exact ⟨0, by omega, rfl, hz_nil⟩
  case round =>
    obtain ⟨k, hk, rfl, hz⟩ := hrel
    have HZ : Hid (¬ HasZero f k) := hz
    clear hz
    by_cases hlt : k < n
    · obtain ⟨b, off, rfl, hc⟩ := hr.at hlt
      have c1 := hc k hlt
      clear hc
      rcases Nat.mod_two_eq_zero_or_one k with hp | hp
      · have d1 : ((k : Int) % 2 == 0) = true := by simp; omega
        have HP : Hid (k % 2 = 0) := hp
        clear hp
        go_wp2
        · have ht : (f k == 0) = true := by assumption
          go_ret
          exact ⟨2, rfl, .inr (.inl ⟨HE.out, ⟨k / 2, by have := HP.out; omega, by have := HP.out; rw [show 2 * (k / 2) = k by omega]; simpa using ht⟩, rfl⟩), rfl⟩
        · have ht : (f k == 0) = false := by assumption
          simp at ht
          go_round
          case rel => exact ⟨k + 1, by omega, by go_num, by rw [hz_even HP.out]; exact fun h => h.elim HZ.out ht⟩
          case measure => simp [intOf]; omega
      · have d1 : ((k : Int) % 2 == 0) = false := by simp; omega
        have HP : Hid (k % 2 = 1) := hp
        clear hp
        go_wp2
        go_round
        case rel => exact ⟨k + 1, by omega, by go_num, by rw [hz_odd HP.out]; exact HZ.out⟩
        case measure => simp [intOf]; omega
    · obtain rfl : k = n := by omega
      go_wp2
      go_ret
      exact ⟨0, rfl, chk_ok HE.out HZ.out, rfl⟩

set_option maxRecDepth 100000 in
set_option maxHeartbeats 400000 in
theorem join_bad1 (a b : Option Addr) (f : Nat → Int) (n m ca cb : Nat) (w : World) (hr : Rd w a n f) (hn : n ≤ 9223372036854775807) (c : Int) (hc : ChkIs f n c) (hc0 : c ≠ 0) :
    Calls Ycnm.prog 16 #[.slice a n ca, .slice b m cb] w fun e w' => e = .returned (.tuple #[.slice none 0 0, .int .i64 c]) ∧ G w w' := by
  have d1 : (c != 0) = true := by simpa using hc0
  go_enter Ycnm.func16, Ycnm.ntmps16
  go_wp2_with fail
  refine (norm_bad a f n ca _ hr hn c hc hc0).mono ?_
  rintro e w1 ⟨rfl, rfl⟩
  clear hc hc0
  go_wp2
  go_ret2
  exact ⟨rfl, G.refl _⟩

set_option maxRecDepth 100000 in
set_option maxHeartbeats 400000 in
theorem join_bad2 (a b : Option Addr) (f g : Nat → Int) (n m ca cb : Nat) (w : World) (hr : Rd w a n f) (hq : Rd w b m g) (hn : n ≤ 35184372088832) (hm : m ≤ 9223372036854775807) (hev : n % 2 = 0) (hz : ¬ HasZero f n) (c : Int) (hc : ChkIs g m c) (hc0 : c ≠ 0) :
    Calls Ycnm.prog 16 #[.slice a n ca, .slice b m cb] w fun e w' => e = .returned (.tuple #[.slice none 0 0, .int .i64 c]) ∧ G w w' := by
  have d1 : (c != 0) = true := by simpa using hc0
  have HZ : Hid (¬ HasZero f n) := hz
  clear hz
  go_enter Ycnm.func16, Ycnm.ntmps16
  go_wp2_with fail
  refine (norm_ok a f n ca _ hr hn hev HZ.out).mono ?_
  rintro e w1 ⟨a', L', cap', qs, rfl, ho, hl, hle, hcq, hex, hgr⟩
  have hg := hgr.g
  have hq1 := hq.keep hg
  clear ho hl hcq hex hgr
  go_wp2_with fail
  refine (check_calls b g m cb _ hq1 hm).mono ?_
  rintro e w2 ⟨c', rfl, hc', rfl⟩
  obtain rfl := chk_one hc hc'
  clear hc hc' hc0
  go_wp2
  go_ret2
  exact ⟨rfl, hg⟩

set_option maxRecDepth 100000 in
set_option maxHeartbeats 400000 in
theorem join_ok (a b : Option Addr) (f g : Nat → Int) (n m ca cb : Nat) (w : World) (hr : Rd w a n f) (hq : Rd w b m g) (hnm : n + m ≤ 17592186044416) (hn : n % 2 = 0) (hm : m % 2 = 0) (hzf : ¬ HasZero f n) (hzg : ¬ HasZero g m) :
    Calls Ycnm.prog 16 #[.slice a n ca, .slice b m cb] w fun e w' => ∃ a' L' cap' qs, e = .returned (.tuple #[.slice a' (2 * L') cap', .int .i64 0]) ∧ Own w' a' cap' (flat qs) ∧ qs.length = L' ∧ L' ≤ n / 2 + m / 2 ∧ Canon qs ∧ ex qs = exN f (n / 2) ++ exN g (m / 2) ∧ Gr w w' none a' := by
  have HF : Hid (¬ HasZero f n) := hzf
  have HG : Hid (¬ HasZero g m) := hzg
  clear hzf hzg
  go_enter Ycnm.func16, Ycnm.ntmps16
  go_wp2_with fail
  refine (norm_ok a f n ca _ hr (by omega) hn HF.out).mono ?_
  rintro e w1 ⟨a1, L1, cap1, qs, rfl, ho, hl, hle, hcq, hex, hgr⟩
  have hq1 := hq.keep hgr.g
  have hsep := Sep.old hgr hq
  go_wp2_with fail
  refine (check_calls b g m cb _ hq1 (by omega)).mono ?_
  rintro e w2 ⟨c', rfl, hc', rfl⟩
  obtain rfl := chk_one (chk_ok hm HG.out) hc'
  go_wp2_with fail
  refine (pushAll_calls a1 b L1 cap1 m cb g qs _ ho hl hcq hq1 hsep hm HG.out (by omega)).mono ?_
  rintro e w3 ⟨a2, L2, cap2, rs, rfl, ho2, hl2, hle2, hc2, hex2, hgr2⟩
  clear hc'
  go_wp2
  go_ret2
  exact ⟨a2, L2, cap2, rs, rfl, ho2, hl2, by omega, hc2, by rw [hex2, hex], hgr.trans hgr2⟩

theorem nil_eq (w : World) : (binOp .eql 23 (.slice none 0 0) (.slice none 0 0)).run Ycnm.prog w = .ok (.bool true) w :=
  Lib.run_eql_slice_nil w 23 5 none 0 0 0 0 Ycnm.underlying23

end Go.Proofs.Ymbrcn
