import Derived.Test.YmbrcmDecode
set_option linter.unusedVariables false
namespace Go.Proofs.Ymbrcm
open Go.RowKit

theorem sp_nil {f : Nat → Int} : ¬ HasSplit f 0 := fun ⟨j, h, _⟩ => by omega
theorem sp_one {f : Nat → Int} : ¬ HasSplit f 2 := fun ⟨j, h, _⟩ => by omega
theorem sp_step {f : Nat → Int} {k : Nat} : HasSplit f (2 * (k + 1)) ↔ HasSplit f (2 * k) ∨ (1 ≤ k ∧ f (2 * k + 1) = f (2 * k - 1) ∧ f (2 * k - 2) ≠ 255) := by
  constructor
  · rintro ⟨j, h1, h2, h3⟩
    by_cases e : j + 1 = k
    · subst e
      exact .inr ⟨by omega, by rw [show 2 * (j + 1) + 1 = 2 * j + 3 by omega, show 2 * (j + 1) - 1 = 2 * j + 1 by omega]; exact h2, by rw [show 2 * (j + 1) - 2 = 2 * j by omega]; exact h3⟩
    · exact .inl ⟨j, by omega, h2, h3⟩
  · rintro (⟨j, h1, h2, h3⟩ | ⟨h1, h2, h3⟩)
    · exact ⟨j, by omega, h2, h3⟩
    · exact ⟨k - 1, by omega, by rw [show 2 * (k - 1) + 3 = 2 * k + 1 by omega, show 2 * (k - 1) + 1 = 2 * k - 1 by omega]; exact h2, by rw [show 2 * (k - 1) = 2 * k - 2 by omega]; exact h3⟩

/-- what the first loop holds -/
structure IxAt (f : Nat → Int) (k : Nat) (zb sb : Bool) : Prop where
  z : zb = true ↔ HasZero f (2 * k)
  s : sb = true ↔ HasSplit f (2 * k)

theorem IxAt.step {f : Nat → Int} {k : Nat} {zb sb zb' sb' : Bool} (h : IxAt f k zb sb) (hz : zb' = true ↔ zb = true ∨ f (2 * k) = 0) (hs : sb' = true ↔ sb = true ∨ (1 ≤ k ∧ f (2 * k + 1) = f (2 * k - 1) ∧ f (2 * k - 2) ≠ 255)) : IxAt f (k + 1) zb' sb' :=
  ⟨by rw [hz, h.z, ← hz_pair], by rw [hs, h.s, ← sp_step]⟩

set_option maxRecDepth 100000 in
set_option maxHeartbeats 1600000 in
theorem iexact_calls (a : Option Addr) (f : Nat → Int) (n cap : Nat) (limit : Int) (w : World) (hr : Rd w a n f) (hl : -9223372036854775808 ≤ limit ∧ limit ≤ 9223372036854775807) :
    Calls Ycmm.prog 14 #[.slice a n cap, .int .i64 limit] w fun e w' => e = .returned (.bool true) ∧ G w w' := by
  by_cases h0 : 1024 < n
  · have e0 : (1024 : Int) < n := by omega
    go_enter Ycmm.func14, Ycmm.ntmps14
    go_wp2
    go_ret
    exact ⟨rfl, G.refl _⟩
  have e0 : ¬ (1024 : Int) < n := by omega
  rcases Nat.mod_two_eq_zero_or_one n with hp | hp
  · obtain ⟨P, rfl⟩ : ∃ P, n = 2 * P := ⟨n / 2, by omega⟩
    have d0 : (((2 * P : Nat) : Int) % 2 == 1) = false := by simp
    have hPP : Hid (2 * P / 2 = P) := by rw [Hid]; omega
    clear hp
    go_enter Ycmm.func14, Ycmm.ntmps14
    go_wp2
    go_loopw [5, 6, 7, 8] (fun z s t i wr => ∃ (k : Nat) (zb sb : Bool), k ≤ P ∧ i = .int .i64 k ∧ z = .bool zb ∧ s = .bool sb ∧ t = .int .i64 (sumc f k) ∧ IxAt f k zb sb ∧ ∃ q, wr = w.drewN q) (fun _ _ _ i _ => P - (intOf i).toNat)
    case atStart => exact ⟨0, false, false, by omega, rfl, rfl, rfl, rfl, ⟨by simp [hz_nil], by simp [sp_nil]⟩, 0, rfl⟩
    case round =>
      obtain ⟨k, zb, sb, hk, rfl, rfl, rfl, rfl, hat, q, rfl⟩ := hrel
      have s0 := sumc_nonneg hr.1 k
      have s1 := sumc_le hr.1 k
      by_cases hlt : k < P
      · obtain ⟨b, off, rfl, hcc⟩ := hr.at (show 2 * k < 2 * P by omega)
        have c1 := hcc (2 * k) (by omega)
        have c2 := hcc (2 * k + 1) (by omega)
        have c3 : 1 ≤ k → w.cell? ⟨b, off + (2 * k - 1), none⟩ = some (.int .u8 (f (2 * k - 1))) := fun _ => hcc (2 * k - 1) (by omega)
        have c4 : 1 ≤ k → w.cell? ⟨b, off + (2 * k - 2), none⟩ = some (.int .u8 (f (2 * k - 2))) := fun _ => hcc (2 * k - 2) (by omega)
        clear hcc
        have b0 := hr.1 (2 * k)
        have b4 := hr.1 (2 * k - 2)
        have hlti : (k : Int) < (P : Int) := by omega
        have HSu : Hid (sumc f (k + 1) = sumc f k + f (2 * k)) := rfl
        -- zero or not; split or not
        have hzz : ∃ zb', ((f (2 * k) == 0) = true ∧ zb' = true ∨ (f (2 * k) == 0) = false ∧ zb' = zb) ∧ (zb' = true ↔ zb = true ∨ f (2 * k) = 0) := by
          by_cases h : f (2 * k) = 0
          · exact ⟨true, .inl ⟨by simpa using h, rfl⟩, by simp [h]⟩
          · exact ⟨zb, .inr ⟨by simpa using h, rfl⟩, by simp [h]⟩
        obtain ⟨zb', hz1, hz2⟩ := hzz
        have hss : (decide (0 < k) = false ∧ (sb = true ↔ sb = true ∨ (1 ≤ k ∧ f (2 * k + 1) = f (2 * k - 1) ∧ f (2 * k - 2) ≠ 255))) ∨
            (0 < k ∧ 1 ≤ k ∧ (f (2 * k + 1) == f (2 * k - 1)) = true ∧ f (2 * k - 2) < 255 ∧ (true = true ↔ sb = true ∨ (1 ≤ k ∧ f (2 * k + 1) = f (2 * k - 1) ∧ f (2 * k - 2) ≠ 255))) ∨
            (0 < k ∧ 1 ≤ k ∧ (f (2 * k + 1) == f (2 * k - 1)) = true ∧ decide (f (2 * k - 2) < 255) = false ∧ (sb = true ↔ sb = true ∨ (1 ≤ k ∧ f (2 * k + 1) = f (2 * k - 1) ∧ f (2 * k - 2) ≠ 255))) ∨
            (0 < k ∧ 1 ≤ k ∧ (f (2 * k + 1) == f (2 * k - 1)) = false ∧ (sb = true ↔ sb = true ∨ (1 ≤ k ∧ f (2 * k + 1) = f (2 * k - 1) ∧ f (2 * k - 2) ≠ 255))) := by
          by_cases h1 : 1 ≤ k
          · by_cases h2 : f (2 * k + 1) = f (2 * k - 1)
            · by_cases h3 : f (2 * k - 2) < 255
              · exact .inr (.inl ⟨by omega, h1, by simpa using h2, h3, ⟨fun _ => .inr ⟨h1, h2, by omega⟩, fun _ => rfl⟩⟩)
              · exact .inr (.inr (.inl ⟨by omega, h1, by simpa using h2, by simpa using h3, ⟨fun h => .inl h, fun h => h.elim id (fun x => absurd (by omega) x.2.2)⟩⟩))
            · exact .inr (.inr (.inr ⟨by omega, h1, by simpa using h2, ⟨fun h => .inl h, fun h => h.elim id (fun x => absurd x.2.1 h2)⟩⟩))
          · exact .inl ⟨by simp; omega, ⟨fun h => .inl h, fun h => h.elim id (fun x => absurd x.1 h1)⟩⟩
        have HZ2 : Hid _ := hz2
        have HAt : Hid _ := hat
        clear hz2 hat
        rcases hz1 with ⟨z1, rfl⟩ | ⟨z1, rfl⟩
        all_goals
          rcases hss with ⟨d1, x⟩ | ⟨d1, d2, d3, d4, x⟩ | ⟨d1, d2, d3, d4, x⟩ | ⟨d1, d2, d3, x⟩
        all_goals
          have X : Hid _ := x
          clear x
        all_goals try have c3 := c3 d2
        all_goals try have c4 := c4 d2
        all_goals
          go_wp2
          go_quiet (fail)
          go_wp2
          go_roundw
          case rel => exact ⟨k + 1, _, _, by omega, by go_num, rfl, rfl, by rw [HSu.out], HAt.out.step (by simpa using HZ2.out) (by simpa using X.out), _, rfl⟩
          case measure => simp [intOf]; omega
      · obtain rfl : k = P := by omega
        have HAt : Hid _ := hat
        have hfin := G.drewN w q
        have hr1 := hr.keep hfin
        have hge : ¬ (k : Int) < (k : Int) := by omega
        clear hat
        by_cases hz : HasZero f (2 * k)
        · obtain rfl : zb = true := HAt.out.z.2 hz
          have HC : Hid (CanIs f (2 * k) 2) := .inr (.inl ⟨by omega, hz, rfl⟩)
          clear hz HAt
          go_wp2_with fail
          refine (igives_bad a none f (2 * k) cap 0 0 limit 2 _ hr1 (by omega) hl (.inl ⟨HC.out, by omega⟩)).mono ?_
          rintro e w1 ⟨rfl, hg⟩
          go_wp2
          go_ret
          exact ⟨rfl, hfin.trans hg⟩
        have z0 : zb = false := by cases zb with | false => rfl | true => exact absurd (HAt.out.z.1 rfl) hz
        subst z0
        by_cases hs : HasSplit f (2 * k)
        · obtain rfl : sb = true := HAt.out.s.2 hs
          have HC : Hid (CanIs f (2 * k) 3) := .inr (.inr (.inl ⟨by omega, hz, hs, rfl⟩))
          clear hz hs HAt
          go_wp2_with fail
          refine (igives_bad a none f (2 * k) cap 0 0 limit 3 _ hr1 (by omega) hl (.inl ⟨HC.out, by omega⟩)).mono ?_
          rintro e w1 ⟨rfl, hg⟩
          go_wp2
          go_ret
          exact ⟨rfl, hfin.trans hg⟩
        have t0 : sb = false := by cases sb with | false => rfl | true => exact absurd (HAt.out.s.1 rfl) hs
        subst t0
        have HC : Hid (CanIs f (2 * k) 0) := .inr (.inr (.inr ⟨by omega, hz, hs, rfl⟩))
        clear hz hs HAt
        by_cases hlong : limit < sumc f k
        · go_wp2_with fail
          refine (igives_bad a none f (2 * k) cap 0 0 limit 4 _ hr1 (by omega) hl (.inr ⟨HC.out, by rw [hPP.out]; exact hlong, rfl⟩)).mono ?_
          rintro e w1 ⟨rfl, hg⟩
          go_wp2
          go_ret
          exact ⟨rfl, hfin.trans hg⟩
        · have hle : sumc f k ≤ limit := by omega
          have hcall := decode_ok a f (2 * k) cap limit _ hr1 (by omega) hl HC.out (by rw [hPP.out]; exact hle)
          rw [hPP.out] at hcall
          have HCall : Hid _ := hcall
          have hlenS := exN_len hr.1 k
          have hlm := exN_length_le hr.1 k
          have hsl : ((exN f k).length : Int) ≤ sumc f k ∧ sumc f k ≤ ((exN f k).length : Int) := by omega
          have HLS : Hid (sumc f k = ((exN f k).length : Int)) := hlenS.symm
          clear hcall hlong hlenS
          rw [HLS.out] at hle s0 s1 ⊢
          clear hsl
          go_wp2_with fail
          refine Calls.mono HCall.out ?_
          rintro e w1 ⟨a1, cap1, rfl, ho, hg⟩
          have hgg := hfin.trans hg.g
          have r1 := ho.rd
          have r2 := hr.keep hgg
          have hTat : Hid (∀ q, q < k → ∀ j, j < (f (2 * q)).toNat → gl (exN f k) ((exN f q).length + j) = f (2 * q + 1)) := fun q hq j hj => exN_at hq hj
          have hTmo : Hid (∀ q, q < k → (exN f q).length + (f (2 * q)).toNat ≤ (exN f k).length) := fun q hq => exN_mono hq
          clear HC HCall HLS hr1 ho hg hle s0 s1 hfin
          generalize hT : exN f k = T at *
          clear hT
          go_wp2
          go_loopw [11, 12] (fun t i wr => ∃ (p : Nat), p ≤ k ∧ i = .int .i64 p ∧ t = .int .i64 (exN f p).length ∧ ∃ d, wr = w1.drewN d) (fun _ i _ => k - (intOf i).toNat)
          case atStart => exact ⟨0, by omega, rfl, rfl, 0, rfl⟩
          case round =>
            obtain ⟨p, hp, rfl, rfl, d, rfl⟩ := hrel
            by_cases hpk : p < k
            · have hpi : (p : Int) < (k : Int) := by omega
              have hmo := hTmo.out p hpk
              have hta := hTat.out p hpk
              have b0 := hr.1 (2 * p)
              obtain ⟨c, hc⟩ : ∃ c : Nat, f (2 * p) = (c : Int) := ⟨(f (2 * p)).toNat, by omega⟩
              have hsu : Hid ((exN f (p + 1)).length = (exN f p).length + c) := by rw [Hid, exN_succ, hc]; simp
              obtain ⟨b1, o1, rfl, hcc⟩ := r2.at (show 2 * p < 2 * k by omega)
              have c1 := hcc (2 * p) (by omega)
              have c2 := hcc (2 * p + 1) (by omega)
              rw [hc] at c1 b0 hmo hta
              simp only [Int.toNat_natCast] at hmo hta
              clear hcc hc
              have HTA : Hid _ := hta
              clear hta
              generalize (exN f p).length = L at *
              go_wp2
              go_loopw [11] (fun t wr => ∃ (j : Nat), j ≤ c ∧ t = .int .i64 ((L + j : Nat) : Int) ∧ ∃ d, wr = w1.drewN d) (fun t _ => L + c - (intOf t).toNat)
              case atStart => exact ⟨0, by omega, rfl, d, rfl⟩
              case round =>
                obtain ⟨j, hj, rfl, d2, rfl⟩ := hrel
                by_cases hjc : j < c
                · obtain ⟨b2, o2, rfl, hc2⟩ := r1.at (show L + j < T.length by omega)
                  have c3 := hc2 (L + j) (by omega)
                  rw [HTA.out j hjc] at c3
                  clear hc2
                  have d6 : (f (2 * p + 1) != f (2 * p + 1)) = false := by simp
                  go_wp2
                  go_quiet (fail)
                  go_wp2
                  go_roundw
                  case rel => exact ⟨j + 1, by omega, by go_num, _, rfl⟩
                  case measure => simp [intOf]; omega
                · obtain rfl : j = c := by omega
                  go_wp2
                  go_roundw
                  case rel => exact ⟨p + 1, by omega, by go_num, by rw [hsu.out], d2, rfl⟩
                  case measure => simp [intOf]; omega
            · have hpi : ¬ (p : Int) < (k : Int) := by omega
              go_wp2
              go_ret
              exact ⟨rfl, hgg.trans (G.drewN _ _)⟩
  · have d0 : ((n : Int) % 2 == 1) = true := by simp; omega
    have HC : Hid (CanIs f n 1) := .inl ⟨hp, rfl⟩
    go_enter Ycmm.func14, Ycmm.ntmps14
    go_wp2_with fail
    refine (igives_bad a none f n cap 0 0 limit 1 _ hr (by omega) hl (.inl ⟨HC.out, by omega⟩)).mono ?_
    rintro e w1 ⟨rfl, hg⟩
    go_wp2
    go_ret
    exact ⟨rfl, hg⟩

end Go.Proofs.Ymbrcm
