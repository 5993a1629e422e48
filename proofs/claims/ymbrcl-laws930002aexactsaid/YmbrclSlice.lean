import Derived.Test.YmbrclPushRun
import Derived.Test.YmbrclPairs
set_option linter.unusedVariables false
namespace Go.Proofs.Ymbrcl
open Go.RowKit

theorem take_run {A : List Int} {lo T t : Nat} {v : Int} (h : ∀ j, j < t → gl A (lo + T + j) = v) (hl : lo + T + t ≤ A.length) : (A.drop lo).take (T + t) = (A.drop lo).take T ++ List.replicate t v := by
  induction t with
  | zero => simp
  | succ t ih =>
    have hlt : T + t < (A.drop lo).length := by simp; omega
    rw [show T + (t + 1) = T + t + 1 by omega, List.take_succ_eq_append_getElem hlt, ih (fun j hj => h j (by omega)) (by omega), List.append_assoc, List.replicate_succ']
    have e : (A.drop lo)[T + t] = v := by
      rw [← h t (by omega)]
      unfold gl
      simp only [List.getElem_drop]
      rw [List.getD_eq_getElem?_getD, List.getElem?_eq_getElem (by omega)]
      simp [Nat.add_assoc]
    rw [e]

/-- what Slice's loop holds behind k pairs, D bytes: T bytes of the window lie in qs -/
structure SlAt (f : Nat → Int) (P lo hi k D T : Nat) (qs : List (Int × Int)) : Prop where
  hD : D = (exN f k).length
  canon : Canon qs
  ex : ex qs = ((exN f P).drop lo).take T
  t1 : D ≤ lo → T = 0
  t2 : lo ≤ D → T = min D hi - lo
  len : qs.length ≤ k

theorem SlAt.skip {f : Nat → Int} {P lo hi k D T c : Nat} {qs : List (Int × Int)} (h : SlAt f P lo hi k D T qs) (hlh : lo ≤ hi) (hc : f (2 * k) = (c : Int)) (hc1 : 1 ≤ c) (hs : c ≤ lo - D) : SlAt f P lo hi (k + 1) (D + c) T qs := by
  have h1 := h.t1 (by omega)
  refine ⟨?_, h.canon, h.ex, fun _ => h1, fun h2 => by omega, by have := h.len; omega⟩
  rw [exN_succ, List.length_append, ← h.hD, hc]; simp

theorem SlAt.step {f : Nat → Int} {P lo hi k D T c t : Nat} {qs rs : List (Int × Int)} (h : SlAt f P lo hi k D T qs) (hk : k < P) (hlh : lo ≤ hi) (hc : f (2 * k) = (c : Int)) (hc1 : 1 ≤ c) (hs : lo - D < c) (hl : rs.length ≤ qs.length + 1)
    (ht : t = min (c - (lo - D)) (hi - lo - T)) (hcan : Canon rs) (hex : Go.Proofs.Ymbrcl.ex rs = Go.Proofs.Ymbrcl.ex qs ++ List.replicate t (f (2 * k + 1))) : SlAt f P lo hi (k + 1) (D + c) (T + t) rs := by
  have hD := h.hD
  have hm := exN_mono (f := f) hk
  rw [← hD, hc] at hm
  simp only [Int.toNat_natCast] at hm
  have t1 := h.t1
  have t2 := h.t2
  refine ⟨?_, hcan, ?_, fun _ => by omega, fun _ => by omega, by have := h.len; omega⟩
  · rw [exN_succ, List.length_append, ← hD, hc]; simp
  · rw [hex, h.ex]
    by_cases ht0 : t = 0
    · rw [ht0]; simp
    · symm
      apply take_run
      · intro j hj
        obtain ⟨d, hd⟩ : ∃ d, lo + T + j = D + d := ⟨lo + T + j - D, by omega⟩
        have e := exN_at (f := f) hk (j := d) (by rw [hc]; simp only [Int.toNat_natCast]; omega)
        rw [← hD, ← hd] at e
        exact e
      · omega

set_option maxRecDepth 100000 in
set_option maxHeartbeats 400000 in
theorem slice_bad (a : Option Addr) (f : Nat → Int) (n cap : Nat) (lo hi : Int) (w : World) (hr : Rd w a n f) (hn : n ≤ 9223372036854775807) (c : Int) (hc : ChkIs f n c) (hc0 : c ≠ 0) :
    Calls Yclm.prog 17 #[.slice a n cap, .int .i64 lo, .int .i64 hi] w fun e w' => e = .returned (.tuple #[.slice none 0 0, .int .i64 c]) ∧ w' = w := by
  have d1 : (c != 0) = true := by simpa using hc0
  go_enter Yclm.func17, Yclm.ntmps17
  go_wp2_with fail
  refine (check_calls a f n cap _ hr hn).mono ?_
  rintro e w1 ⟨c', rfl, hc', rfl⟩
  have e : c' = c := by
    rcases hc with ⟨h1, h2⟩ | ⟨h1, h2, h3⟩ | ⟨h1, h2, h3⟩ <;> rcases hc' with ⟨k1, k2⟩ | ⟨k1, k2, k3⟩ | ⟨k1, k2, k3⟩
    all_goals first | omega | exact absurd h2 k2 | exact absurd k2 h2
  subst e
  clear hc hc' hc0
  go_wp2
  go_ret2
  exact ⟨rfl, rfl⟩

set_option maxRecDepth 100000 in
set_option maxHeartbeats 400000 in
theorem slice_neg (a : Option Addr) (f : Nat → Int) (n cap : Nat) (lo hi : Int) (w : World) (hr : Rd w a n f) (hn : n ≤ 9223372036854775807) (hev : n % 2 = 0) (hz : ¬ HasZero f n) (hneg : lo < 0 ∨ hi < lo) :
    Calls Yclm.prog 17 #[.slice a n cap, .int .i64 lo, .int .i64 hi] w fun e w' => e = .returned (.tuple #[.slice none 0 0, .int .i64 5]) ∧ w' = w := by
  have HZ : Hid (¬ HasZero f n) := hz
  clear hz
  go_enter Yclm.func17, Yclm.ntmps17
  go_wp2_with fail
  refine (check_calls a f n cap _ hr hn).mono ?_
  rintro e w1 ⟨c', rfl, hc', rfl⟩
  obtain rfl : c' = 0 := by
    rcases hc' with ⟨k1, k2⟩ | ⟨k1, k2, k3⟩ | ⟨k1, k2, k3⟩
    · omega
    · exact absurd k2 HZ.out
    · exact k3
  clear hc'
  by_cases h1 : lo < 0
  · clear hneg
    go_wp2
    go_ret2
    exact ⟨rfl, rfl⟩
  · have d1 : decide (lo < 0) = false := by simpa using h1
    have d2 : hi < lo := by omega
    clear hneg
    go_wp2
    go_ret2
    exact ⟨rfl, rfl⟩

set_option maxRecDepth 100000 in
set_option maxHeartbeats 1600000 in
theorem slice_in (a : Option Addr) (f : Nat → Int) (n cap lo hi : Nat) (w : World) (hr : Rd w a n f) (hn : n ≤ 549755813888) (hev : n % 2 = 0) (hz : ¬ HasZero f n) (hlh : lo ≤ hi) (hhi : hi ≤ 9223372036854775807) :
    Calls Yclm.prog 17 #[.slice a n cap, .int .i64 lo, .int .i64 hi] w fun e w' =>
      ((exN f (n / 2)).length < hi ∧ e = .returned (.tuple #[.slice none 0 0, .int .i64 5]) ∧ G w w') ∨
      (hi ≤ (exN f (n / 2)).length ∧ ∃ a' L cap' qs, e = .returned (.tuple #[.slice a' (2 * L) cap', .int .i64 0]) ∧ Own w' a' cap' (flat qs) ∧ qs.length = L ∧ L ≤ n / 2 ∧ Canon qs ∧ ex qs = ((exN f (n / 2)).drop lo).take (hi - lo) ∧ Gr w w' none a') := by
  obtain ⟨P, rfl⟩ : ∃ P, n = 2 * P := ⟨n / 2, by omega⟩
  rw [show 2 * P / 2 = P by omega]
  have HZ : Hid (¬ HasZero f (2 * P)) := hz
  clear hz hev
  have d0 : decide ((lo : Int) < 0) = false := by simp
  have d1 : decide (hi < lo) = false := by simp; omega
  go_enter Yclm.func17, Yclm.ntmps17
  go_wp2_with fail
  refine (check_calls a f (2 * P) cap _ hr (by omega)).mono ?_
  rintro e w1 ⟨c', rfl, hc', rfl⟩
  obtain rfl : c' = 0 := by
    rcases hc' with ⟨k1, k2⟩ | ⟨k1, k2, k3⟩ | ⟨k1, k2, k3⟩
    · omega
    · exact absurd k2 HZ.out
    · exact k3
  clear hc'
  go_wp2
  go_loopw [9, 10, 11, 12] (fun v sk wt p wr => ∃ (k D T L s t : Nat) (a' : Option Addr) (cap' : Nat) (qs : List (Int × Int)), k ≤ P ∧ p = .int .i64 (2 * (k : Int)) ∧ sk = .int .i64 s ∧ wt = .int .i64 t ∧ v = .slice a' (2 * L) cap' ∧ s = lo - D ∧ t = hi - lo - T ∧ qs.length = L ∧ Own wr a' cap' (flat qs) ∧ SlAt f P lo hi k D T qs ∧ Gr w1 wr none a') (fun _ _ _ p _ => 2 * P - (intOf p).toNat)
  case atStart => exact ⟨0, 0, 0, 0, lo, hi - lo, none, 0, [], by omega, rfl, rfl, by congr 1; omega, rfl, by omega, by omega, rfl, Own.nil _, ⟨rfl, trivial, by simp [ex], fun _ => rfl, fun _ => by omega, by simp⟩, Gr.refl _ _⟩
  case round =>
    obtain ⟨k, D, T, L, s, t, a', cap', qs, hk, rfl, rfl, rfl, rfl, hs, ht, hL, hown, hat, hgr⟩ := hrel
    have HS : Hid (s = lo - D) := hs
    have HT : Hid (t = hi - lo - T) := ht
    have HL : Hid (qs.length = L) := hL
    have HAt : Hid (SlAt f P lo hi k D T qs) := hat
    have hs' : s ≤ lo := by omega
    have ht' : t ≤ hi := by omega
    have hLk : L ≤ k := by rw [← hL]; exact hat.len
    clear hs ht hL hat
    by_cases hkP : k < P
    · have e1 : 2 * (k : Int) < ((2 * P : Nat) : Int) := by omega
      by_cases hgo : 0 < s ∨ 0 < t
      · obtain ⟨b, off, rfl, hcc⟩ := hr.at (show 2 * k < 2 * P by omega)
        clear hcc
        have r1 := hr.keep hgr.g
        have c1 := r1.cell (show 2 * k < 2 * P by omega)
        have c2 := r1.cell (show 2 * k + 1 < 2 * P by omega)
        have b0 := hr.1 (2 * k)
        have b1 := hr.1 (2 * k + 1)
        have hnz := hz_all HZ.out k (by omega)
        obtain ⟨c, hc⟩ : ∃ c : Nat, f (2 * k) = (c : Int) := ⟨(f (2 * k)).toNat, by omega⟩
        have HCc : Hid (f (2 * k) = (c : Int)) := hc
        rw [hc] at c1 b0 hnz
        clear hc
        have hcases : (0 < s ∧ c ≤ s) ∨ (s < c ∧ c - s ≤ t ∧ 0 < t ∧ 0 < s) ∨ (s < c ∧ c - s ≤ t ∧ 0 < t ∧ decide (0 < s) = false) ∨ (s < c ∧ t < c - s ∧ 0 < t ∧ 0 < s) ∨ (s < c ∧ t < c - s ∧ 0 < t ∧ decide (0 < s) = false) ∨ (s < c ∧ t ≤ 0 ∧ 0 < s) := by
          simp only [decide_eq_false_iff_not]; omega
        clear hgo
        rcases hcases with ⟨h1, h2⟩ | ⟨h1, h2, h3, h4⟩ | ⟨h1, h2, h3, h4⟩ | ⟨h1, h2, h3, h4⟩ | ⟨h1, h2, h3, h4⟩ | ⟨h1, h2, h3⟩
        · go_wp2
          go_roundw
          case rel => exact ⟨k + 1, D + c, T, L, s - c, t, a', cap', qs, by omega, by go_num, by go_num, rfl, rfl, by have := HS.out; omega, HT.out, HL.out, hown, HAt.out.skip hlh HCc.out (by omega) (by have := HS.out; omega), hgr⟩
          case measure => simp [intOf]; omega
        · go_wp2_with fail
          refine (pushRun_calls a' L cap' qs ((c : Int) - (s : Int)) (f (2 * k + 1)) _ hown HL.out (by omega) HAt.out.canon (by omega) b1).mono ?_
          rintro e w2 ⟨a2, L2, cap2, rs, rfl, ho2, hl2, hle2, hp2, hgr2⟩
          have hx2 := hp2.ex
          rw [show ((c : Int) - (s : Int)).toNat = (c - s) from by omega] at hx2
          have R : Hid (SlAt f P lo hi (k + 1) (D + c) (T + (c - s)) rs) := HAt.out.step hkP hlh HCc.out (by omega) (by have := HS.out; omega) hp2.len (by have := HS.out; have := HT.out; omega) hp2.canon hx2
          clear hx2 hp2
          go_wp2
          go_roundw
          case rel => exact ⟨k + 1, D + c, T + (c - s), L2, 0, t - (c - s), a2, cap2, rs, by omega, by go_num, rfl, by go_num, rfl, by have := HS.out; omega, by have := HT.out; omega, hl2, ho2, R.out, hgr.trans hgr2⟩
          case measure => simp [intOf]; omega
        · have hs0 : s ≤ 0 := by simp at h4; omega
          go_wp2_with fail
          refine (pushRun_calls a' L cap' qs ((c : Int) - (s : Int)) (f (2 * k + 1)) _ hown HL.out (by omega) HAt.out.canon (by omega) b1).mono ?_
          rintro e w2 ⟨a2, L2, cap2, rs, rfl, ho2, hl2, hle2, hp2, hgr2⟩
          have hx2 := hp2.ex
          rw [show ((c : Int) - (s : Int)).toNat = (c - s) from by omega] at hx2
          have R : Hid (SlAt f P lo hi (k + 1) (D + c) (T + (c - s)) rs) := HAt.out.step hkP hlh HCc.out (by omega) (by have := HS.out; omega) hp2.len (by have := HS.out; have := HT.out; omega) hp2.canon hx2
          clear hx2 hp2
          go_wp2
          go_roundw
          case rel => exact ⟨k + 1, D + c, T + (c - s), L2, 0, t - (c - s), a2, cap2, rs, by omega, by go_num, rfl, by go_num, rfl, by have := HS.out; omega, by have := HT.out; omega, hl2, ho2, R.out, hgr.trans hgr2⟩
          case measure => simp [intOf]; omega
        · go_wp2_with fail
          refine (pushRun_calls a' L cap' qs (t : Int) (f (2 * k + 1)) _ hown HL.out (by omega) HAt.out.canon (by omega) b1).mono ?_
          rintro e w2 ⟨a2, L2, cap2, rs, rfl, ho2, hl2, hle2, hp2, hgr2⟩
          have hx2 := hp2.ex
          rw [show ((t : Int)).toNat = t from by omega] at hx2
          have R : Hid (SlAt f P lo hi (k + 1) (D + c) (T + t) rs) := HAt.out.step hkP hlh HCc.out (by omega) (by have := HS.out; omega) hp2.len (by have := HS.out; have := HT.out; omega) hp2.canon hx2
          clear hx2 hp2
          go_wp2
          go_roundw
          case rel => exact ⟨k + 1, D + c, T + t, L2, 0, 0, a2, cap2, rs, by omega, by go_num, rfl, by go_num, rfl, by have := HS.out; omega, by have := HT.out; omega, hl2, ho2, R.out, hgr.trans hgr2⟩
          case measure => simp [intOf]; omega
        · have hs0 : s ≤ 0 := by simp at h4; omega
          go_wp2_with fail
          refine (pushRun_calls a' L cap' qs (t : Int) (f (2 * k + 1)) _ hown HL.out (by omega) HAt.out.canon (by omega) b1).mono ?_
          rintro e w2 ⟨a2, L2, cap2, rs, rfl, ho2, hl2, hle2, hp2, hgr2⟩
          have hx2 := hp2.ex
          rw [show ((t : Int)).toNat = t from by omega] at hx2
          have R : Hid (SlAt f P lo hi (k + 1) (D + c) (T + t) rs) := HAt.out.step hkP hlh HCc.out (by omega) (by have := HS.out; omega) hp2.len (by have := HS.out; have := HT.out; omega) hp2.canon hx2
          clear hx2 hp2
          go_wp2
          go_roundw
          case rel => exact ⟨k + 1, D + c, T + t, L2, 0, 0, a2, cap2, rs, by omega, by go_num, rfl, by go_num, rfl, by have := HS.out; omega, by have := HT.out; omega, hl2, ho2, R.out, hgr.trans hgr2⟩
          case measure => simp [intOf]; omega
        · have R : Hid (SlAt f P lo hi (k + 1) (D + c) (T + 0) qs) := HAt.out.step hkP hlh HCc.out (by omega) (by have := HS.out; omega) (by omega) (by have := HS.out; have := HT.out; omega) HAt.out.canon (by simp)
          go_wp2
          go_roundw
          case rel => exact ⟨k + 1, D + c, T + 0, L, 0, t, a', cap', qs, by omega, by go_num, rfl, rfl, rfl, by have := HS.out; omega, by have := HT.out; omega, HL.out, hown, R.out, hgr⟩
          case measure => simp [intOf]; omega
      · have hs0 : s = 0 := by omega
        have ht0 : t = 0 := by omega
        have f1 : decide (0 < s) = false := by simp; omega
        have f2 : decide (0 < t) = false := by simp; omega
        have hfin : hi ≤ (exN f P).length ∧ T = hi - lo := by
          have a1 := HAt.out.t1
          have a2 := HAt.out.t2
          have a3 := HAt.out.hD
          have a4 := HS.out
          have a5 := HT.out
          have a6 := exN_mono (f := f) hkP
          omega
        have HF : Hid _ := hfin
        clear hfin hs0 ht0 hgo
        go_wp2
        go_ret2
        exact .inr ⟨HF.out.1, a', L, cap', qs, rfl, hown, HL.out, by omega, HAt.out.canon, by rw [HAt.out.ex, HF.out.2], hgr⟩
    · obtain rfl : k = P := by omega
      have e1 : decide (2 * (k : Int) < ((2 * k : Nat) : Int)) = false := by simp
      have a1 := HAt.out.t1
      have a2 := HAt.out.t2
      have a3 := HAt.out.hD
      have a4 := HS.out
      have a5 := HT.out
      by_cases hbad : 0 < s ∨ 0 < t
      · have HF : Hid ((exN f k).length < hi) := by rw [Hid]; omega
        clear a1 a2 a3 a4 a5
        have hc2 : 0 < s ∨ (decide (0 < s) = false ∧ 0 < t) := by simp only [decide_eq_false_iff_not]; omega
        rcases hc2 with h | ⟨h, h'⟩
        all_goals
          clear hbad
          go_wp2
          go_ret2
          exact .inl ⟨HF.out, rfl, hgr.g⟩
      · have HF : Hid (hi ≤ (exN f k).length ∧ T = hi - lo) := by rw [Hid]; omega
        have f1 : decide (0 < s) = false := by simp; omega
        have f2 : decide (0 < t) = false := by simp; omega
        clear a1 a2 a3 a4 a5 hbad
        go_wp2
        go_ret2
        exact .inr ⟨HF.out.1, a', L, cap', qs, rfl, hown, HL.out, by omega, HAt.out.canon, by rw [HAt.out.ex, HF.out.2], hgr⟩

end Go.Proofs.Ymbrcl
