import Derived.Test.YmbrcnTwo
import Derived.Test.YmbrcnWIRound
set_option linter.unusedVariables false
namespace Go.Proofs.Ymbrcn
open Go.RowKit

/-- what the builder's loop knows: the pairs so far, whether a run is split, the last pair -/
structure IAt (ps : List (Int × Int)) (b : Bool) (lc lv : Int) : Prop where
  well : Well ps
  spl : b = true ↔ ¬ Canon ps
  last : ps.getLast? = some (lc, lv) ∨ ps = [] ∧ lc = 255

theorem IAt.nil : IAt [] false 255 0 := ⟨by simp [Well], by simp [Canon], .inr ⟨rfl, rfl⟩⟩

theorem IAt.well' {ps : List (Int × Int)} {b : Bool} {lc lv : Int} (h : IAt ps b lc lv) {n v : Int} (hn : 1 ≤ n ∧ n ≤ 255) : Well (ps ++ [(n, v)]) := by
  intro p hp
  rcases List.mem_append.1 hp with hp | hp
  · exact h.well p hp
  · simp at hp; subst hp; exact hn

theorem IAt.go {ps : List (Int × Int)} {b : Bool} {lc lv : Int} (h : IAt ps b lc lv) {n v : Int} (hn : 1 ≤ n ∧ n ≤ 255) (hc : lc = 255 ∨ v ≠ lv) : IAt (ps ++ [(n, v)]) b n v := by
  refine ⟨h.well' hn, ?_, .inl (by simp)⟩
  rw [h.spl, canon_snoc_iff]
  constructor
  · rintro k ⟨k1, _⟩; exact k k1
  · intro k k1
    refine k ⟨k1, hn, fun q hq e => ?_⟩
    rcases h.last with hl | ⟨rfl, hl⟩
    · rw [hl] at hq; simp at hq; subst hq
      rcases hc with hc | hc
      · exact hc
      · exact absurd e.symm hc
    · simp at hq

theorem IAt.cut {ps : List (Int × Int)} {b : Bool} {lc lv : Int} (h : IAt ps b lc lv) {n : Int} (hn : 1 ≤ n ∧ n ≤ 255) (hc : lc ≠ 255) : IAt (ps ++ [(n, lv)]) true n lv := by
  refine ⟨h.well' hn, ⟨fun _ k => ?_, fun _ => rfl⟩, .inl (by simp)⟩
  rcases h.last with hl | ⟨rfl, hl⟩
  · exact hc ((canon_snoc_iff.1 k).2.2 _ hl rfl)
  · exact hc hl

theorem IAt.split {ps : List (Int × Int)} {lc lv : Int} (h : IAt ps true lc lv) (hb : ∀ x ∈ flat ps, 0 ≤ x ∧ x ≤ 255) : CanIs (gl (flat ps)) (2 * ps.length) 3 := by
  have hz : ¬ HasZero (gl (flat ps)) (2 * ps.length) := by
    rintro ⟨j, h1, h2⟩
    have hm : (gl (flat ps) (2 * j), gl (flat ps) (2 * j + 1)) ∈ pairsOf (gl (flat ps)) ps.length := List.mem_map.2 ⟨j, by simp; omega, rfl⟩
    rw [pairsOf_flat] at hm
    have := (h.well _ hm).1
    simp only at this
    omega
  have hs : HasSplit (gl (flat ps)) (2 * ps.length) := Classical.byContradiction fun k => h.spl.1 rfl (by
    have := (canon_pairsOf (gl_byte hb) ps.length).2 ⟨hz, k⟩
    rw [pairsOf_flat] at this; exact this)
  exact .inr (.inr (.inl ⟨by omega, hz, hs, rfl⟩))

set_option maxRecDepth 100000 in
set_option maxHeartbeats 3200000 in
theorem iruns_calls (a : Option Addr) (c v : Nat → Int) (n cap : Nat) (fx : Bool) (limit : Int) (w : World) (bc : ∀ i, 0 ≤ c i ∧ c i ≤ 255) (bv : ∀ i, 0 ≤ v i ∧ v i ≤ 255)
    (h0 : Fld w a n 2 0 (fun i => .int .u8 (c i))) (h1 : Fld w a n 2 1 (fun i => .int .u8 (v i))) (hl : -9223372036854775808 ≤ limit ∧ limit ≤ 9223372036854775807) :
    Calls Ycnm.prog 3 #[.slice a n cap, .bool fx, .int .i64 limit] w fun e w' => e = .returned (.bool true) ∧ G w w' := by
  by_cases hbig : 512 < n
  · have e0 : (512 : Int) < n := by omega
    go_enter Ycnm.func3, Ycnm.ntmps3
    go_wp2
    go_ret
    exact ⟨rfl, G.refl _⟩
  have e0 : ¬ (512 : Int) < n := by omega
  go_enter Ycnm.func3, Ycnm.ntmps3
  go_wp2
  go_loopw [7, 8, 9, 10, 11, 12, 13, 14, 15] (fun x y sp l1 l2 i _ _ _ wr => ∃ (k : Nat) (a1 a2 : Option Addr) (c1 c2 : Nat) (ps : List (Int × Int)) (b : Bool) (lc lv : Int), k ≤ n ∧ i = .int .i64 k ∧ x = .slice a1 (2 * k) c1 ∧ y = .slice a2 (ex ps).length c2 ∧ sp = .bool b ∧ l1 = .int .i64 lc ∧ l2 = .int .u8 lv ∧ ps.length = k ∧ Own wr a1 c1 (flat ps) ∧ Own wr a2 c2 (ex ps) ∧ Sep a1 a2 ∧ Gr w wr none a1 ∧ Gr w wr none a2 ∧ IAt ps b lc lv) (fun _ _ _ _ _ i _ _ _ _ => n - (intOf i).toNat)
  case atStart => exact ⟨0, none, none, 0, 0, [], false, 255, 0, by omega, rfl, rfl, rfl, rfl, rfl, rfl, rfl, Own.nil _, Own.nil _, Sep.nil_l _, Gr.refl _ _, Gr.refl _ _, IAt.nil⟩
  case round =>
    obtain ⟨k, a1, a2, p1, p2, ps, b, lc, lv, hk, rfl, rfl, rfl, rfl, rfl, rfl, hps, ho1, ho2, hsep, hg1, hg2, hat⟩ := hrel
    have hxl := ex_length_le hat.well
    rw [hps] at hxl
    have HP : Hid (ps.length = k) := hps
    have HA : Hid (IAt ps b lc lv) := hat
    clear hps hat
    by_cases hlt : k < n
    · have hki : (k : Int) < n := by omega
      obtain ⟨bb, off, rfl⟩ := h0.at hlt
      have c1 := (h0.keep hg1.g).cell hlt
      have c2 := (h1.keep hg1.g).cell hlt
      simp only [Nat.add_zero] at c1
      have b1 := bc k
      have b2 := bv k
      have HL : Hid ((flat ps).length = 2 * k) := by rw [Hid, flat_length, HP.out]
      by_cases hz : c k = 0
      · have dz : (c k == 0) = true := by simpa using hz
        obtain ⟨t, ht⟩ : ∃ t : Nat, t = 255 := ⟨255, rfl⟩
        have HT : Hid ((t : Int) = 255) := by rw [Hid, ht]; rfl
        have ht1 : t ≤ 255 := by omega
        clear hz ht
        by_cases hq : lc = 255
        · have d1 : (lc != 255) = false := by simpa using hq
          have HQ : Hid (lc = 255 ∨ v k ≠ lv) := .inl hq
          clear hq
          go_wp2
          go_quiet (fail)
          go_wp2_with (at_builtin; refine wpList_app2 (w := wr.drewN _) rfl _ _ rfl a1 _ p1 _ rfl HL.out.symm (ho1.keep (G.drewN _ _)) (255) (v k) rfl (by omega) (by omega) (by omega) ?_)
          intro a3 p3 w2 ho3 hg3'
          have hg3 := ((G.drewN wr nq).gr a1).trans hg3'
          have hs3 := hsep.step hg3 ho2
          have ho4 := ho2.keepGr hg3 hsep
          have hg4 := hg2.aside hg1 hg3
          have hg5 := hg1.trans hg3
          have HN : Hid (flat (ps ++ [(255, v k)]) = flat ps ++ [(255), v k]) := by rw [Hid, flat_append]; rfl
          have HX : Hid (ex (ps ++ [(255, v k)]) = ex ps ++ List.replicate t (v k)) := by rw [Hid, ← HT.out]; exact ex_snoc ps t _
          have HA2 : Hid (IAt (ps ++ [(255, v k)]) b (255) (v k)) := HA.out.go (by omega) HQ.out
          rw [← HN.out] at ho3
          generalize hT0 : ex ps = T0 at *
          clear hT0 ho1 ho2 hg1 hg2 hg3 hg3' c1 c2 hsep HN
          go_wp2
          go_loopw [8, 15] (fun y j wr => ∃ (q : Nat) (a2 : Option Addr) (p2 : Nat), q ≤ t ∧ j = .int .i64 q ∧ y = .slice a2 (T0.length + q) p2 ∧ Own wr a3 p3 (flat (ps ++ [(255, v k)])) ∧ Own wr a2 p2 (T0 ++ List.replicate q (v k)) ∧ Sep a3 a2 ∧ Gr w wr none a3 ∧ Gr w wr none a2) (fun _ j _ => t - (intOf j).toNat)
          case atStart => exact ⟨0, a2, p2, by omega, rfl, rfl, ho3, by simpa using ho4, hs3, hg5, hg4⟩
          case round =>
            clear ho3 ho4 hs3 hg5 hg4
            obtain ⟨q, a2, p2, hq, rfl, rfl, ho1, ho2, hsep, hg1, hg2⟩ := hrel
            by_cases hqt : q < t
            · have hqi : (q : Int) < 255 := by have := HT.out; omega
              have HL2 : Hid ((T0 ++ List.replicate q (v k)).length = T0.length + q) := by simp [Hid]
              go_wp2_with (at_builtin; refine wpList_app1 (w := wr) rfl _ _ rfl a2 _ p2 _ rfl HL2.out.symm ho2 (v k) rfl (by omega) (by omega) ?_)
              intro a4 p4 w3 ho4 hg4
              have hs4 := hsep.symm.step hg4 ho1
              rw [rep_snoc] at ho4
              have ho5 := ho1.keepGr hg4 hsep.symm
              have hg5 := hg2.trans hg4
              have hg6 := hg1.aside hg2 hg4
              clear ho1 ho2 hg1 hg2
              go_wp2
              go_roundw
              case rel => exact ⟨q + 1, a4, p4, by omega, by go_num, rfl, ho5, ho4, hs4.symm, hg6, hg5⟩
              case measure => simp [intOf]; omega
            · have hqi : ¬ (q : Int) < 255 := by have := HT.out; omega
              obtain rfl : q = t := by omega
              rw [← HX.out] at ho2
              go_wp2
              go_roundw
              case rel => exact ⟨k + 1, a3, a2, p3, p2, _, _, _, _, by omega, by go_num, rfl, by rw [HX.out]; simp, rfl, rfl, rfl, by rw [List.length_append, HP.out]; rfl, ho1, ho2, hsep, hg1, hg2, HA2.out⟩
              case measure => simp [intOf]; omega
        · have d1 : (lc != 255) = true := by simpa using hq
          by_cases hv : v k = lv
          · cases fx with
            | true =>
              have d2 : (v k == lv) = true := by simpa using hv
              obtain ⟨x, hx⟩ : ∃ x : Int, IntKind.u8.wrap (v k + 1) = x := ⟨_, rfl⟩
              have bx : 0 ≤ x ∧ x ≤ 255 := by rw [← hx]; simp [IntKind.wrap, IntKind.bits, IntKind.signed]; omega
              have hxv : x ≠ v k := by rw [← hx]; simp [IntKind.wrap, IntKind.bits, IntKind.signed]; omega
              have HQ : Hid (lc = 255 ∨ x ≠ lv) := .inr (by rw [← hv]; exact hxv)
              clear hv hq hxv
              go_wp2
              go_quiet (fail)
              go_wp2_with (at_builtin; refine wpList_app2 (w := wr.drewN _) rfl _ _ rfl a1 _ p1 _ rfl HL.out.symm (ho1.keep (G.drewN _ _)) (255) (x) rfl (by omega) (by omega) (by omega) ?_)
              intro a3 p3 w2 ho3 hg3'
              have hg3 := ((G.drewN wr nq).gr a1).trans hg3'
              have hs3 := hsep.step hg3 ho2
              have ho4 := ho2.keepGr hg3 hsep
              have hg4 := hg2.aside hg1 hg3
              have hg5 := hg1.trans hg3
              have HN : Hid (flat (ps ++ [(255, x)]) = flat ps ++ [(255), x]) := by rw [Hid, flat_append]; rfl
              have HX : Hid (ex (ps ++ [(255, x)]) = ex ps ++ List.replicate t (x)) := by rw [Hid, ← HT.out]; exact ex_snoc ps t _
              have HA2 : Hid (IAt (ps ++ [(255, x)]) b (255) (x)) := HA.out.go (by omega) HQ.out
              rw [← HN.out] at ho3
              generalize hT0 : ex ps = T0 at *
              clear hT0 ho1 ho2 hg1 hg2 hg3 hg3' c1 c2 hsep HN
              go_wp2
              go_loopw [8, 15] (fun y j wr => ∃ (q : Nat) (a2 : Option Addr) (p2 : Nat), q ≤ t ∧ j = .int .i64 q ∧ y = .slice a2 (T0.length + q) p2 ∧ Own wr a3 p3 (flat (ps ++ [(255, x)])) ∧ Own wr a2 p2 (T0 ++ List.replicate q (x)) ∧ Sep a3 a2 ∧ Gr w wr none a3 ∧ Gr w wr none a2) (fun _ j _ => t - (intOf j).toNat)
              case atStart => exact ⟨0, a2, p2, by omega, rfl, rfl, ho3, by simpa using ho4, hs3, hg5, hg4⟩
              case round =>
                clear ho3 ho4 hs3 hg5 hg4
                obtain ⟨q, a2, p2, hq, rfl, rfl, ho1, ho2, hsep, hg1, hg2⟩ := hrel
                by_cases hqt : q < t
                · have hqi : (q : Int) < 255 := by have := HT.out; omega
                  have HL2 : Hid ((T0 ++ List.replicate q (x)).length = T0.length + q) := by simp [Hid]
                  go_wp2_with (at_builtin; refine wpList_app1 (w := wr) rfl _ _ rfl a2 _ p2 _ rfl HL2.out.symm ho2 (x) rfl (by omega) (by omega) ?_)
                  intro a4 p4 w3 ho4 hg4
                  have hs4 := hsep.symm.step hg4 ho1
                  rw [rep_snoc] at ho4
                  have ho5 := ho1.keepGr hg4 hsep.symm
                  have hg5 := hg2.trans hg4
                  have hg6 := hg1.aside hg2 hg4
                  clear ho1 ho2 hg1 hg2
                  go_wp2
                  go_roundw
                  case rel => exact ⟨q + 1, a4, p4, by omega, by go_num, rfl, ho5, ho4, hs4.symm, hg6, hg5⟩
                  case measure => simp [intOf]; omega
                · have hqi : ¬ (q : Int) < 255 := by have := HT.out; omega
                  obtain rfl : q = t := by omega
                  rw [← HX.out] at ho2
                  go_wp2
                  go_roundw
                  case rel => exact ⟨k + 1, a3, a2, p3, p2, _, _, _, _, by omega, by go_num, rfl, by rw [HX.out]; simp, rfl, rfl, rfl, by rw [List.length_append, HP.out]; rfl, ho1, ho2, hsep, hg1, hg2, HA2.out⟩
                  case measure => simp [intOf]; omega
            | false =>
              have d2 : (v k == lv) = true := by simpa using hv
              have HV : Hid (v k = lv) := hv
              have HQ : Hid (lc ≠ 255) := hq
              clear hv hq
              go_wp2
              go_quiet (fail)
              go_wp2_with (at_builtin; refine wpList_app2 (w := wr.drewN _) rfl _ _ rfl a1 _ p1 _ rfl HL.out.symm (ho1.keep (G.drewN _ _)) (255) (v k) rfl (by omega) (by omega) (by omega) ?_)
              intro a3 p3 w2 ho3 hg3'
              have hg3 := ((G.drewN wr nq).gr a1).trans hg3'
              have hs3 := hsep.step hg3 ho2
              have ho4 := ho2.keepGr hg3 hsep
              have hg4 := hg2.aside hg1 hg3
              have hg5 := hg1.trans hg3
              have HN : Hid (flat (ps ++ [(255, v k)]) = flat ps ++ [(255), v k]) := by rw [Hid, flat_append]; rfl
              have HX : Hid (ex (ps ++ [(255, v k)]) = ex ps ++ List.replicate t (v k)) := by rw [Hid, ← HT.out]; exact ex_snoc ps t _
              have HA2 : Hid (IAt (ps ++ [(255, v k)]) true (255) (v k)) := by rw [Hid, HV.out]; exact HA.out.cut (by omega) HQ.out
              rw [← HN.out] at ho3
              generalize hT0 : ex ps = T0 at *
              clear hT0 ho1 ho2 hg1 hg2 hg3 hg3' c1 c2 hsep HN
              go_wp2
              go_loopw [8, 15] (fun y j wr => ∃ (q : Nat) (a2 : Option Addr) (p2 : Nat), q ≤ t ∧ j = .int .i64 q ∧ y = .slice a2 (T0.length + q) p2 ∧ Own wr a3 p3 (flat (ps ++ [(255, v k)])) ∧ Own wr a2 p2 (T0 ++ List.replicate q (v k)) ∧ Sep a3 a2 ∧ Gr w wr none a3 ∧ Gr w wr none a2) (fun _ j _ => t - (intOf j).toNat)
              case atStart => exact ⟨0, a2, p2, by omega, rfl, rfl, ho3, by simpa using ho4, hs3, hg5, hg4⟩
              case round =>
                clear ho3 ho4 hs3 hg5 hg4
                obtain ⟨q, a2, p2, hq, rfl, rfl, ho1, ho2, hsep, hg1, hg2⟩ := hrel
                by_cases hqt : q < t
                · have hqi : (q : Int) < 255 := by have := HT.out; omega
                  have HL2 : Hid ((T0 ++ List.replicate q (v k)).length = T0.length + q) := by simp [Hid]
                  go_wp2_with (at_builtin; refine wpList_app1 (w := wr) rfl _ _ rfl a2 _ p2 _ rfl HL2.out.symm ho2 (v k) rfl (by omega) (by omega) ?_)
                  intro a4 p4 w3 ho4 hg4
                  have hs4 := hsep.symm.step hg4 ho1
                  rw [rep_snoc] at ho4
                  have ho5 := ho1.keepGr hg4 hsep.symm
                  have hg5 := hg2.trans hg4
                  have hg6 := hg1.aside hg2 hg4
                  clear ho1 ho2 hg1 hg2
                  go_wp2
                  go_roundw
                  case rel => exact ⟨q + 1, a4, p4, by omega, by go_num, rfl, ho5, ho4, hs4.symm, hg6, hg5⟩
                  case measure => simp [intOf]; omega
                · have hqi : ¬ (q : Int) < 255 := by have := HT.out; omega
                  obtain rfl : q = t := by omega
                  rw [← HX.out] at ho2
                  go_wp2
                  go_roundw
                  case rel => exact ⟨k + 1, a3, a2, p3, p2, _, _, _, _, by omega, by go_num, rfl, by rw [HX.out]; simp, rfl, rfl, rfl, by rw [List.length_append, HP.out]; rfl, ho1, ho2, hsep, hg1, hg2, HA2.out⟩
                  case measure => simp [intOf]; omega
          · have d2 : (v k == lv) = false := by simpa using hv
            have HQ : Hid (lc = 255 ∨ v k ≠ lv) := .inr hv
            clear hv hq
            go_wp2
            go_quiet (fail)
            go_wp2_with (at_builtin; refine wpList_app2 (w := wr.drewN _) rfl _ _ rfl a1 _ p1 _ rfl HL.out.symm (ho1.keep (G.drewN _ _)) (255) (v k) rfl (by omega) (by omega) (by omega) ?_)
            intro a3 p3 w2 ho3 hg3'
            have hg3 := ((G.drewN wr nq).gr a1).trans hg3'
            have hs3 := hsep.step hg3 ho2
            have ho4 := ho2.keepGr hg3 hsep
            have hg4 := hg2.aside hg1 hg3
            have hg5 := hg1.trans hg3
            have HN : Hid (flat (ps ++ [(255, v k)]) = flat ps ++ [(255), v k]) := by rw [Hid, flat_append]; rfl
            have HX : Hid (ex (ps ++ [(255, v k)]) = ex ps ++ List.replicate t (v k)) := by rw [Hid, ← HT.out]; exact ex_snoc ps t _
            have HA2 : Hid (IAt (ps ++ [(255, v k)]) b (255) (v k)) := HA.out.go (by omega) HQ.out
            rw [← HN.out] at ho3
            generalize hT0 : ex ps = T0 at *
            clear hT0 ho1 ho2 hg1 hg2 hg3 hg3' c1 c2 hsep HN
            go_wp2
            go_loopw [8, 15] (fun y j wr => ∃ (q : Nat) (a2 : Option Addr) (p2 : Nat), q ≤ t ∧ j = .int .i64 q ∧ y = .slice a2 (T0.length + q) p2 ∧ Own wr a3 p3 (flat (ps ++ [(255, v k)])) ∧ Own wr a2 p2 (T0 ++ List.replicate q (v k)) ∧ Sep a3 a2 ∧ Gr w wr none a3 ∧ Gr w wr none a2) (fun _ j _ => t - (intOf j).toNat)
            case atStart => exact ⟨0, a2, p2, by omega, rfl, rfl, ho3, by simpa using ho4, hs3, hg5, hg4⟩
            case round =>
              clear ho3 ho4 hs3 hg5 hg4
              obtain ⟨q, a2, p2, hq, rfl, rfl, ho1, ho2, hsep, hg1, hg2⟩ := hrel
              by_cases hqt : q < t
              · have hqi : (q : Int) < 255 := by have := HT.out; omega
                have HL2 : Hid ((T0 ++ List.replicate q (v k)).length = T0.length + q) := by simp [Hid]
                go_wp2_with (at_builtin; refine wpList_app1 (w := wr) rfl _ _ rfl a2 _ p2 _ rfl HL2.out.symm ho2 (v k) rfl (by omega) (by omega) ?_)
                intro a4 p4 w3 ho4 hg4
                have hs4 := hsep.symm.step hg4 ho1
                rw [rep_snoc] at ho4
                have ho5 := ho1.keepGr hg4 hsep.symm
                have hg5 := hg2.trans hg4
                have hg6 := hg1.aside hg2 hg4
                clear ho1 ho2 hg1 hg2
                go_wp2
                go_roundw
                case rel => exact ⟨q + 1, a4, p4, by omega, by go_num, rfl, ho5, ho4, hs4.symm, hg6, hg5⟩
                case measure => simp [intOf]; omega
              · have hqi : ¬ (q : Int) < 255 := by have := HT.out; omega
                obtain rfl : q = t := by omega
                rw [← HX.out] at ho2
                go_wp2
                go_roundw
                case rel => exact ⟨k + 1, a3, a2, p3, p2, _, _, _, _, by omega, by go_num, rfl, by rw [HX.out]; simp, rfl, rfl, rfl, by rw [List.length_append, HP.out]; rfl, ho1, ho2, hsep, hg1, hg2, HA2.out⟩
                case measure => simp [intOf]; omega
      · have dz : (c k == 0) = false := by simpa using hz
        have hz1 : 1 ≤ c k := by omega
        obtain ⟨t, ht⟩ : ∃ t : Nat, (t : Int) = c k := ⟨(c k).toNat, by omega⟩
        have HT : Hid ((t : Int) = c k) := ht
        have ht1 : t ≤ 255 := by omega
        clear hz ht
        by_cases hq : lc = 255
        · have d1 : (lc != 255) = false := by simpa using hq
          have HQ : Hid (lc = 255 ∨ v k ≠ lv) := .inl hq
          clear hq
          go_wp2
          go_quiet (fail)
          go_wp2_with (at_builtin; refine wpList_app2 (w := wr.drewN _) rfl _ _ rfl a1 _ p1 _ rfl HL.out.symm (ho1.keep (G.drewN _ _)) (c k) (v k) rfl (by omega) (by omega) (by omega) ?_)
          intro a3 p3 w2 ho3 hg3'
          have hg3 := ((G.drewN wr nq).gr a1).trans hg3'
          have hs3 := hsep.step hg3 ho2
          have ho4 := ho2.keepGr hg3 hsep
          have hg4 := hg2.aside hg1 hg3
          have hg5 := hg1.trans hg3
          have HN : Hid (flat (ps ++ [(c k, v k)]) = flat ps ++ [(c k), v k]) := by rw [Hid, flat_append]; rfl
          have HX : Hid (ex (ps ++ [(c k, v k)]) = ex ps ++ List.replicate t (v k)) := by rw [Hid, ← HT.out]; exact ex_snoc ps t _
          have HA2 : Hid (IAt (ps ++ [(c k, v k)]) b (c k) (v k)) := HA.out.go (by omega) HQ.out
          rw [← HN.out] at ho3
          generalize hT0 : ex ps = T0 at *
          clear hT0 ho1 ho2 hg1 hg2 hg3 hg3' c1 c2 hsep HN
          go_wp2
          go_loopw [8, 15] (fun y j wr => ∃ (q : Nat) (a2 : Option Addr) (p2 : Nat), q ≤ t ∧ j = .int .i64 q ∧ y = .slice a2 (T0.length + q) p2 ∧ Own wr a3 p3 (flat (ps ++ [(c k, v k)])) ∧ Own wr a2 p2 (T0 ++ List.replicate q (v k)) ∧ Sep a3 a2 ∧ Gr w wr none a3 ∧ Gr w wr none a2) (fun _ j _ => t - (intOf j).toNat)
          case atStart => exact ⟨0, a2, p2, by omega, rfl, rfl, ho3, by simpa using ho4, hs3, hg5, hg4⟩
          case round =>
            clear ho3 ho4 hs3 hg5 hg4
            obtain ⟨q, a2, p2, hq, rfl, rfl, ho1, ho2, hsep, hg1, hg2⟩ := hrel
            by_cases hqt : q < t
            · have hqi : (q : Int) < c k := by have := HT.out; omega
              have HL2 : Hid ((T0 ++ List.replicate q (v k)).length = T0.length + q) := by simp [Hid]
              go_wp2_with (at_builtin; refine wpList_app1 (w := wr) rfl _ _ rfl a2 _ p2 _ rfl HL2.out.symm ho2 (v k) rfl (by omega) (by omega) ?_)
              intro a4 p4 w3 ho4 hg4
              have hs4 := hsep.symm.step hg4 ho1
              rw [rep_snoc] at ho4
              have ho5 := ho1.keepGr hg4 hsep.symm
              have hg5 := hg2.trans hg4
              have hg6 := hg1.aside hg2 hg4
              clear ho1 ho2 hg1 hg2
              go_wp2
              go_roundw
              case rel => exact ⟨q + 1, a4, p4, by omega, by go_num, rfl, ho5, ho4, hs4.symm, hg6, hg5⟩
              case measure => simp [intOf]; omega
            · have hqi : ¬ (q : Int) < c k := by have := HT.out; omega
              obtain rfl : q = t := by omega
              rw [← HX.out] at ho2
              go_wp2
              go_roundw
              case rel => exact ⟨k + 1, a3, a2, p3, p2, _, _, _, _, by omega, by go_num, rfl, by rw [HX.out]; simp, rfl, rfl, rfl, by rw [List.length_append, HP.out]; rfl, ho1, ho2, hsep, hg1, hg2, HA2.out⟩
              case measure => simp [intOf]; omega
        · have d1 : (lc != 255) = true := by simpa using hq
          by_cases hv : v k = lv
          · cases fx with
            | true =>
              have d2 : (v k == lv) = true := by simpa using hv
              obtain ⟨x, hx⟩ : ∃ x : Int, IntKind.u8.wrap (v k + 1) = x := ⟨_, rfl⟩
              have bx : 0 ≤ x ∧ x ≤ 255 := by rw [← hx]; simp [IntKind.wrap, IntKind.bits, IntKind.signed]; omega
              have hxv : x ≠ v k := by rw [← hx]; simp [IntKind.wrap, IntKind.bits, IntKind.signed]; omega
              have HQ : Hid (lc = 255 ∨ x ≠ lv) := .inr (by rw [← hv]; exact hxv)
              clear hv hq hxv
              go_wp2
              go_quiet (fail)
              go_wp2_with (at_builtin; refine wpList_app2 (w := wr.drewN _) rfl _ _ rfl a1 _ p1 _ rfl HL.out.symm (ho1.keep (G.drewN _ _)) (c k) (x) rfl (by omega) (by omega) (by omega) ?_)
              intro a3 p3 w2 ho3 hg3'
              have hg3 := ((G.drewN wr nq).gr a1).trans hg3'
              have hs3 := hsep.step hg3 ho2
              have ho4 := ho2.keepGr hg3 hsep
              have hg4 := hg2.aside hg1 hg3
              have hg5 := hg1.trans hg3
              have HN : Hid (flat (ps ++ [(c k, x)]) = flat ps ++ [(c k), x]) := by rw [Hid, flat_append]; rfl
              have HX : Hid (ex (ps ++ [(c k, x)]) = ex ps ++ List.replicate t (x)) := by rw [Hid, ← HT.out]; exact ex_snoc ps t _
              have HA2 : Hid (IAt (ps ++ [(c k, x)]) b (c k) (x)) := HA.out.go (by omega) HQ.out
              rw [← HN.out] at ho3
              generalize hT0 : ex ps = T0 at *
              clear hT0 ho1 ho2 hg1 hg2 hg3 hg3' c1 c2 hsep HN
              go_wp2
              go_loopw [8, 15] (fun y j wr => ∃ (q : Nat) (a2 : Option Addr) (p2 : Nat), q ≤ t ∧ j = .int .i64 q ∧ y = .slice a2 (T0.length + q) p2 ∧ Own wr a3 p3 (flat (ps ++ [(c k, x)])) ∧ Own wr a2 p2 (T0 ++ List.replicate q (x)) ∧ Sep a3 a2 ∧ Gr w wr none a3 ∧ Gr w wr none a2) (fun _ j _ => t - (intOf j).toNat)
              case atStart => exact ⟨0, a2, p2, by omega, rfl, rfl, ho3, by simpa using ho4, hs3, hg5, hg4⟩
              case round =>
                clear ho3 ho4 hs3 hg5 hg4
                obtain ⟨q, a2, p2, hq, rfl, rfl, ho1, ho2, hsep, hg1, hg2⟩ := hrel
                by_cases hqt : q < t
                · have hqi : (q : Int) < c k := by have := HT.out; omega
                  have HL2 : Hid ((T0 ++ List.replicate q (x)).length = T0.length + q) := by simp [Hid]
                  go_wp2_with (at_builtin; refine wpList_app1 (w := wr) rfl _ _ rfl a2 _ p2 _ rfl HL2.out.symm ho2 (x) rfl (by omega) (by omega) ?_)
                  intro a4 p4 w3 ho4 hg4
                  have hs4 := hsep.symm.step hg4 ho1
                  rw [rep_snoc] at ho4
                  have ho5 := ho1.keepGr hg4 hsep.symm
                  have hg5 := hg2.trans hg4
                  have hg6 := hg1.aside hg2 hg4
                  clear ho1 ho2 hg1 hg2
                  go_wp2
                  go_roundw
                  case rel => exact ⟨q + 1, a4, p4, by omega, by go_num, rfl, ho5, ho4, hs4.symm, hg6, hg5⟩
                  case measure => simp [intOf]; omega
                · have hqi : ¬ (q : Int) < c k := by have := HT.out; omega
                  obtain rfl : q = t := by omega
                  rw [← HX.out] at ho2
                  go_wp2
                  go_roundw
                  case rel => exact ⟨k + 1, a3, a2, p3, p2, _, _, _, _, by omega, by go_num, rfl, by rw [HX.out]; simp, rfl, rfl, rfl, by rw [List.length_append, HP.out]; rfl, ho1, ho2, hsep, hg1, hg2, HA2.out⟩
                  case measure => simp [intOf]; omega
            | false =>
              have d2 : (v k == lv) = true := by simpa using hv
              have HV : Hid (v k = lv) := hv
              have HQ : Hid (lc ≠ 255) := hq
              clear hv hq
              go_wp2
              go_quiet (fail)
              go_wp2_with (at_builtin; refine wpList_app2 (w := wr.drewN _) rfl _ _ rfl a1 _ p1 _ rfl HL.out.symm (ho1.keep (G.drewN _ _)) (c k) (v k) rfl (by omega) (by omega) (by omega) ?_)
              intro a3 p3 w2 ho3 hg3'
              have hg3 := ((G.drewN wr nq).gr a1).trans hg3'
              have hs3 := hsep.step hg3 ho2
              have ho4 := ho2.keepGr hg3 hsep
              have hg4 := hg2.aside hg1 hg3
              have hg5 := hg1.trans hg3
              have HN : Hid (flat (ps ++ [(c k, v k)]) = flat ps ++ [(c k), v k]) := by rw [Hid, flat_append]; rfl
              have HX : Hid (ex (ps ++ [(c k, v k)]) = ex ps ++ List.replicate t (v k)) := by rw [Hid, ← HT.out]; exact ex_snoc ps t _
              have HA2 : Hid (IAt (ps ++ [(c k, v k)]) true (c k) (v k)) := by rw [Hid, HV.out]; exact HA.out.cut (by omega) HQ.out
              rw [← HN.out] at ho3
              generalize hT0 : ex ps = T0 at *
              clear hT0 ho1 ho2 hg1 hg2 hg3 hg3' c1 c2 hsep HN
              go_wp2
              go_loopw [8, 15] (fun y j wr => ∃ (q : Nat) (a2 : Option Addr) (p2 : Nat), q ≤ t ∧ j = .int .i64 q ∧ y = .slice a2 (T0.length + q) p2 ∧ Own wr a3 p3 (flat (ps ++ [(c k, v k)])) ∧ Own wr a2 p2 (T0 ++ List.replicate q (v k)) ∧ Sep a3 a2 ∧ Gr w wr none a3 ∧ Gr w wr none a2) (fun _ j _ => t - (intOf j).toNat)
              case atStart => exact ⟨0, a2, p2, by omega, rfl, rfl, ho3, by simpa using ho4, hs3, hg5, hg4⟩
              case round =>
                clear ho3 ho4 hs3 hg5 hg4
                obtain ⟨q, a2, p2, hq, rfl, rfl, ho1, ho2, hsep, hg1, hg2⟩ := hrel
                by_cases hqt : q < t
                · have hqi : (q : Int) < c k := by have := HT.out; omega
                  have HL2 : Hid ((T0 ++ List.replicate q (v k)).length = T0.length + q) := by simp [Hid]
                  go_wp2_with (at_builtin; refine wpList_app1 (w := wr) rfl _ _ rfl a2 _ p2 _ rfl HL2.out.symm ho2 (v k) rfl (by omega) (by omega) ?_)
                  intro a4 p4 w3 ho4 hg4
                  have hs4 := hsep.symm.step hg4 ho1
                  rw [rep_snoc] at ho4
                  have ho5 := ho1.keepGr hg4 hsep.symm
                  have hg5 := hg2.trans hg4
                  have hg6 := hg1.aside hg2 hg4
                  clear ho1 ho2 hg1 hg2
                  go_wp2
                  go_roundw
                  case rel => exact ⟨q + 1, a4, p4, by omega, by go_num, rfl, ho5, ho4, hs4.symm, hg6, hg5⟩
                  case measure => simp [intOf]; omega
                · have hqi : ¬ (q : Int) < c k := by have := HT.out; omega
                  obtain rfl : q = t := by omega
                  rw [← HX.out] at ho2
                  go_wp2
                  go_roundw
                  case rel => exact ⟨k + 1, a3, a2, p3, p2, _, _, _, _, by omega, by go_num, rfl, by rw [HX.out]; simp, rfl, rfl, rfl, by rw [List.length_append, HP.out]; rfl, ho1, ho2, hsep, hg1, hg2, HA2.out⟩
                  case measure => simp [intOf]; omega
          · have d2 : (v k == lv) = false := by simpa using hv
            have HQ : Hid (lc = 255 ∨ v k ≠ lv) := .inr hv
            clear hv hq
            go_wp2
            go_quiet (fail)
            go_wp2_with (at_builtin; refine wpList_app2 (w := wr.drewN _) rfl _ _ rfl a1 _ p1 _ rfl HL.out.symm (ho1.keep (G.drewN _ _)) (c k) (v k) rfl (by omega) (by omega) (by omega) ?_)
            intro a3 p3 w2 ho3 hg3'
            have hg3 := ((G.drewN wr nq).gr a1).trans hg3'
            have hs3 := hsep.step hg3 ho2
            have ho4 := ho2.keepGr hg3 hsep
            have hg4 := hg2.aside hg1 hg3
            have hg5 := hg1.trans hg3
            have HN : Hid (flat (ps ++ [(c k, v k)]) = flat ps ++ [(c k), v k]) := by rw [Hid, flat_append]; rfl
            have HX : Hid (ex (ps ++ [(c k, v k)]) = ex ps ++ List.replicate t (v k)) := by rw [Hid, ← HT.out]; exact ex_snoc ps t _
            have HA2 : Hid (IAt (ps ++ [(c k, v k)]) b (c k) (v k)) := HA.out.go (by omega) HQ.out
            rw [← HN.out] at ho3
            generalize hT0 : ex ps = T0 at *
            clear hT0 ho1 ho2 hg1 hg2 hg3 hg3' c1 c2 hsep HN
            go_wp2
            go_loopw [8, 15] (fun y j wr => ∃ (q : Nat) (a2 : Option Addr) (p2 : Nat), q ≤ t ∧ j = .int .i64 q ∧ y = .slice a2 (T0.length + q) p2 ∧ Own wr a3 p3 (flat (ps ++ [(c k, v k)])) ∧ Own wr a2 p2 (T0 ++ List.replicate q (v k)) ∧ Sep a3 a2 ∧ Gr w wr none a3 ∧ Gr w wr none a2) (fun _ j _ => t - (intOf j).toNat)
            case atStart => exact ⟨0, a2, p2, by omega, rfl, rfl, ho3, by simpa using ho4, hs3, hg5, hg4⟩
            case round =>
              clear ho3 ho4 hs3 hg5 hg4
              obtain ⟨q, a2, p2, hq, rfl, rfl, ho1, ho2, hsep, hg1, hg2⟩ := hrel
              by_cases hqt : q < t
              · have hqi : (q : Int) < c k := by have := HT.out; omega
                have HL2 : Hid ((T0 ++ List.replicate q (v k)).length = T0.length + q) := by simp [Hid]
                go_wp2_with (at_builtin; refine wpList_app1 (w := wr) rfl _ _ rfl a2 _ p2 _ rfl HL2.out.symm ho2 (v k) rfl (by omega) (by omega) ?_)
                intro a4 p4 w3 ho4 hg4
                have hs4 := hsep.symm.step hg4 ho1
                rw [rep_snoc] at ho4
                have ho5 := ho1.keepGr hg4 hsep.symm
                have hg5 := hg2.trans hg4
                have hg6 := hg1.aside hg2 hg4
                clear ho1 ho2 hg1 hg2
                go_wp2
                go_roundw
                case rel => exact ⟨q + 1, a4, p4, by omega, by go_num, rfl, ho5, ho4, hs4.symm, hg6, hg5⟩
                case measure => simp [intOf]; omega
              · have hqi : ¬ (q : Int) < c k := by have := HT.out; omega
                obtain rfl : q = t := by omega
                rw [← HX.out] at ho2
                go_wp2
                go_roundw
                case rel => exact ⟨k + 1, a3, a2, p3, p2, _, _, _, _, by omega, by go_num, rfl, by rw [HX.out]; simp, rfl, rfl, rfl, by rw [List.length_append, HP.out]; rfl, ho1, ho2, hsep, hg1, hg2, HA2.out⟩
                case measure => simp [intOf]; omega
    · have hki : ¬ (k : Int) < (n : Int) := by omega
      obtain rfl : k = n := by omega
      have hXF := exN_flat ps
      have r1 := ho1.rd
      rw [flat_length, HP.out] at r1
      have r2 := ho2.rd
      have hsum : sumc (gl (flat ps)) k = ((ex ps).length : Int) := by rw [← HP.out, ← exN_len r1.1, hXF]
      have HLx : Hid (lst (gl (ex ps)) (ex ps).length = exN (gl (flat ps)) k) := by rw [Hid, ← HP.out, hXF]; exact lst_gl _
      have hLL : 2 * k / 2 = k := by omega
      have HSU : Hid (sumc (gl (flat ps)) k = ((ex ps).length : Int)) := hsum
      have HB : Hid (∀ x ∈ flat ps, 0 ≤ x ∧ x ≤ 255) := ho1.byte
      clear hXF hsum
      have gw := hg1.g
      cases b with
      | true =>
        have HCI : Hid (CanIs (gl (flat ps)) (2 * k) 3) := by rw [Hid, ← HP.out]; exact HA.out.split HB.out
        clear HLx HSU HA HB HP ho1 ho2 hsep hg1 hg2 r2
        generalize gl (flat ps) = E at *
        generalize (ex ps).length = T at *
        go_wp2_with fail
        refine (igives_bad a1 none E (2 * k) p1 0 0 T 3 _ r1 (by omega) (by omega) (.inl ⟨HCI.out, by omega⟩)).mono ?_
        rintro e w7 ⟨rfl, hg7⟩
        go_wp2_with fail
        refine (igives_bad a1 none E (2 * k) p1 0 0 (T - 1) 3 _ (r1.keep hg7) (by omega) (by omega) (.inl ⟨HCI.out, by omega⟩)).mono ?_
        rintro e w8 ⟨rfl, hg8⟩
        go_wp2_with fail
        refine (igives_bad a1 none E (2 * k) p1 0 0 limit 3 _ ((r1.keep hg7).keep hg8) (by omega) (by omega) (.inl ⟨HCI.out, by omega⟩)).mono ?_
        rintro e w9 ⟨rfl, hg9⟩
        go_wp2
        go_ret
        exact ⟨rfl, ((gw.trans hg7).trans hg8).trans hg9⟩
      | false =>
        have hCan : Canon ps := Classical.byContradiction fun k => by have := HA.out.spl.2 k; cases this
        have HCI : Hid (CanIs (gl (flat ps)) (2 * k) 0) := by rw [Hid, ← HP.out]; exact canon_can hCan HB.out
        clear HA HB HP ho1 ho2 hsep hg1 hg2 hCan
        generalize gl (flat ps) = E at *
        generalize gl (ex ps) = F at *
        generalize (ex ps).length = T at *
        by_cases hT : limit < T
        · have hTi : limit < (T : Int) := by omega
          go_wp2_with fail
          refine (igives_ok a1 a2 E F (2 * k) p1 T p2 T _ r1 r2 (by omega) (by omega) HCI.out (by rw [hLL, HSU.out]; omega) (by rw [hLL]; exact HLx.out)).mono ?_
          rintro e w7 ⟨rfl, hg7⟩
          go_wp2_with fail
          refine (igives_bad a1 none E (2 * k) p1 0 0 (T - 1) 4 _ (r1.keep hg7) (by omega) (by omega) (.inr ⟨HCI.out, by rw [hLL, HSU.out]; omega, rfl⟩)).mono ?_
          rintro e w8 ⟨rfl, hg8⟩
          go_wp2_with fail
          refine (igives_bad a1 a2 E (2 * k) p1 T p2 limit 4 _ ((r1.keep hg7).keep hg8) (by omega) (by omega) (.inr ⟨HCI.out, by rw [hLL, HSU.out]; omega, rfl⟩)).mono ?_
          rintro e w9 ⟨rfl, hg9⟩
          go_wp2
          go_ret
          exact ⟨rfl, ((gw.trans hg7).trans hg8).trans hg9⟩
        · have hTi : ¬ limit < (T : Int) := by omega
          go_wp2_with fail
          refine (igives_ok a1 a2 E F (2 * k) p1 T p2 T _ r1 r2 (by omega) (by omega) HCI.out (by rw [hLL, HSU.out]; omega) (by rw [hLL]; exact HLx.out)).mono ?_
          rintro e w7 ⟨rfl, hg7⟩
          go_wp2_with fail
          refine (igives_bad a1 none E (2 * k) p1 0 0 (T - 1) 4 _ (r1.keep hg7) (by omega) (by omega) (.inr ⟨HCI.out, by rw [hLL, HSU.out]; omega, rfl⟩)).mono ?_
          rintro e w8 ⟨rfl, hg8⟩
          go_wp2_with fail
          refine (igives_ok a1 a2 E F (2 * k) p1 T p2 limit _ ((r1.keep hg7).keep hg8) ((r2.keep hg7).keep hg8) (by omega) (by omega) HCI.out (by rw [hLL, HSU.out]; omega) (by rw [hLL]; exact HLx.out)).mono ?_
          rintro e w9 ⟨rfl, hg9⟩
          go_wp2
          go_ret
          exact ⟨rfl, ((gw.trans hg7).trans hg8).trans hg9⟩

end Go.Proofs.Ymbrcn
