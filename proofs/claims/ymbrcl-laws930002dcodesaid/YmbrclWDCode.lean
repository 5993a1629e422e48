import Derived.Test.YmbrclZero
set_option linter.unusedVariables false
namespace Go.Proofs.Ymbrcl
open Go.RowKit

theorem sp_nil {f : Nat → Int} : ¬ HasSplit f 0 := fun ⟨j, h, _⟩ => by omega
theorem sp_one {f : Nat → Int} : ¬ HasSplit f 2 := fun ⟨j, h, _⟩ => by omega
theorem sp_pair {f : Nat → Int} {m : Nat} : HasSplit f (2 * (m + 1 + 1)) ↔ HasSplit f (2 * (m + 1)) ∨ (f (2 * m + 3) = f (2 * m + 1) ∧ f (2 * m) ≠ 255) := by
  constructor
  · rintro ⟨j, h1, h2, h3⟩
    by_cases e : j = m
    · subst e; exact .inr ⟨h2, h3⟩
    · exact .inl ⟨j, by omega, h2, h3⟩
  · rintro (⟨j, h1, h2, h3⟩ | ⟨h2, h3⟩)
    · exact ⟨j, by omega, h2, h3⟩
    · exact ⟨m, by omega, h2, h3⟩

/-- what the loop holds at pair k -/
structure DcAt (f : Nat → Int) (k : Nat) (zb sb : Bool) (lc lv : Int) : Prop where
  z : zb = true ↔ HasZero f (2 * k)
  s : sb = true ↔ HasSplit f (2 * k)
  last : ∀ m, k = m + 1 → lc = f (2 * m) ∧ lv = f (2 * m + 1)

theorem DcAt.zero {f : Nat → Int} {zb sb zb' : Bool} {lc lv : Int} (h : DcAt f 0 zb sb lc lv) (hz : zb' = true ↔ zb = true ∨ f 0 = 0) : DcAt f 1 zb' sb (f 0) (f 1) := by
  refine ⟨?_, ?_, ?_⟩
  · rw [hz, h.z]; exact (hz_pair (k := 0)).symm
  · have := h.s
    constructor
    · intro e; exact absurd (this.1 e) sp_nil
    · intro e; exact absurd e sp_one
  · intro m hm; obtain rfl : m = 0 := by omega
    exact ⟨rfl, rfl⟩

theorem DcAt.succ {f : Nat → Int} {zb sb zb' sb' : Bool} {lc lv : Int} {m : Nat} (h : DcAt f (m + 1) zb sb lc lv) (hz : zb' = true ↔ zb = true ∨ f (2 * (m + 1)) = 0)
    (hs : sb' = true ↔ sb = true ∨ (f (2 * (m + 1) + 1) = f (2 * m + 1) ∧ f (2 * m) ≠ 255)) : DcAt f (m + 1 + 1) zb' sb' (f (2 * (m + 1))) (f (2 * (m + 1) + 1)) := by
  refine ⟨?_, ?_, ?_⟩
  · rw [hz, h.z]; exact (hz_pair (k := m + 1)).symm
  · rw [hs, h.s]; exact (sp_pair (m := m)).symm
  · intro k hk; obtain rfl : k = m + 1 := by omega
    exact ⟨rfl, rfl⟩

set_option maxRecDepth 100000 in
set_option maxHeartbeats 800000 in
theorem dcode_calls (a : Option Addr) (f : Nat → Int) (n cap : Nat) (w : World) (hr : Rd w a n f) :
    Calls Yclm.prog 12 #[.slice a n cap] w fun e w' => e = .returned (.bool true) ∧ G w w' := by
  by_cases h0 : 1024 < n
  · have e0 : (1024 : Int) < n := by omega
    go_enter Yclm.func12, Yclm.ntmps12
    go_wp2
    go_ret
    exact ⟨rfl, G.refl _⟩
  have e0 : ¬ (1024 : Int) < n := by omega
  go_enter Yclm.func12, Yclm.ntmps12
  go_wp2
  go_loop [3, 4, 5, 6, 7] (fun z s c v i => ∃ (k : Nat) (zb sb : Bool) (lc lv : Int), 2 * k ≤ n ∧ i = .int .i64 k ∧ z = .bool zb ∧ s = .bool sb ∧ c = .int .u8 lc ∧ v = .int .u8 lv ∧ DcAt f k zb sb lc lv) (fun _ _ _ _ i => n - (intOf i).toNat)
  case atStart => exact ⟨0, false, false, 0, 0, by omega, rfl, rfl, rfl, rfl, rfl, ⟨by simp [hz_nil], by simp [sp_nil], by omega⟩⟩
  case round =>
    obtain ⟨k, zb, sb, lc, lv, hk, rfl, rfl, rfl, rfl, rfl, hat⟩ := hrel
    by_cases hlt : 2 * k + 1 < n
    · obtain ⟨b, off, rfl, hc⟩ := hr.at hlt
      have c1 := hc (2 * k) (by omega)
      have c2 := hc (2 * k + 1) (by omega)
      clear hc
      cases k with
      | zero =>
        have c3 : w.cell? ⟨b, off, none⟩ = some (.int .u8 (f 0)) := c1
        have c4 : w.cell? ⟨b, off + 1, none⟩ = some (.int .u8 (f 1)) := c2
        clear c1 c2
        go_wp2
        · have t : (f 0 == 0) = true := by assumption
          simp at t
          go_round
          case rel => exact ⟨1, _, _, _, _, by omega, by go_num, rfl, rfl, rfl, rfl, hat.zero (by simp [t])⟩
          case measure => simp [intOf]; omega
        · have t : (f 0 == 0) = false := by assumption
          simp at t
          go_round
          case rel => exact ⟨1, _, _, _, _, by omega, by go_num, rfl, rfl, rfl, rfl, hat.zero (by simp [t])⟩
          case measure => simp [intOf]; omega
      | succ m =>
        obtain ⟨rfl, rfl⟩ := hat.last m rfl
        have hb := hr.1 (2 * m)
        go_wp2
        all_goals
          go_round
          case rel =>
            refine ⟨m + 1 + 1, _, _, _, _, by omega, by go_num, rfl, rfl, rfl, rfl, hat.succ ?_ ?_⟩
            · first
                | (have t : (f (2 * (m + 1)) == 0) = true := by assumption
                   simp at t; simp [t])
                | (have t : (f (2 * (m + 1)) == 0) = false := by assumption
                   simp at t; simp [t])
            · first
                | (have t1 : f (2 * m + 1) = f (2 * (m + 1) + 1) := by assumption
                   have t2 : f (2 * m) < 255 := by assumption
                   exact ⟨fun _ => .inr ⟨t1.symm, by omega⟩, fun _ => rfl⟩)
                | (have t2 : 255 ≤ f (2 * m) := by assumption
                   exact ⟨fun h => .inl h, fun h => h.elim id (fun x => absurd (by omega) x.2)⟩)
                | (have t1 : ¬ f (2 * m + 1) = f (2 * (m + 1) + 1) := by assumption
                   exact ⟨fun h => .inl h, fun h => h.elim id (fun x => absurd x.1.symm t1)⟩)
          case measure => simp [intOf]; omega
    · have HA : Hid _ := hat
      clear hat
      go_wp2_with fail
      all_goals
        refine (canonical_calls a f n cap _ hr (by omega)).mono ?_
        rintro e w1 ⟨c, rfl, hc, hg⟩
      · have t : ((n : Int) % 2 == 1) = true := by assumption
        simp at t
        obtain rfl : c = 1 := by
          rcases hc with ⟨h1, h2⟩ | ⟨h1, h2⟩ | ⟨h1, h2⟩ | ⟨h1, h2⟩
          · exact h2
          all_goals omega
        clear hc
        go_wp2
        go_ret
        exact ⟨rfl, hg⟩
      all_goals
        have t : ((n : Int) % 2 == 1) = false := by assumption
        simp at t
        obtain rfl : n = 2 * k := by omega
        have hz := HA.out.z
        have hs := HA.out.s
      · obtain rfl : c = 2 := by
          rcases hc with ⟨h1, h2⟩ | ⟨h1, h2, h3⟩ | ⟨h1, h2, h3, h4⟩ | ⟨h1, h2, h3, h4⟩
          · omega
          · exact h3
          · exact absurd (hz.1 (by assumption)) h2
          · exact absurd (hz.1 (by assumption)) h2
        clear hc hz hs HA
        go_wp2
        go_ret
        exact ⟨rfl, hg⟩
      · have z0 : zb = false := by assumption
        have s0 : sb = true := by assumption
        obtain rfl : c = 3 := by
          rcases hc with ⟨h1, h2⟩ | ⟨h1, h2, h3⟩ | ⟨h1, h2, h3, h4⟩ | ⟨h1, h2, h3, h4⟩
          · omega
          · have := hz.2 h2; rw [z0] at this; cases this
          · exact h4
          · exact absurd (hs.1 s0) h3
        clear hc hz hs HA
        go_wp2
        go_ret
        exact ⟨rfl, hg⟩
      · have z0 : zb = false := by assumption
        have s0 : sb = false := by assumption
        obtain rfl : c = 0 := by
          rcases hc with ⟨h1, h2⟩ | ⟨h1, h2, h3⟩ | ⟨h1, h2, h3, h4⟩ | ⟨h1, h2, h3, h4⟩
          · omega
          · have := hz.2 h2; rw [z0] at this; cases this
          · have := hs.2 h3; rw [s0] at this; cases this
          · exact h4
        clear hc hz hs HA
        go_wp2
        go_ret
        exact ⟨rfl, hg⟩

end Go.Proofs.Ymbrcl
