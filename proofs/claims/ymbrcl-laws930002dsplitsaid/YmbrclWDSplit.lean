import Derived.Test.YmbrclWDReencode
set_option linter.unusedVariables false
namespace Go.Proofs.Ymbrcl
open Go.RowKit

/-- 'append(out, x, y, z, u)' -/
theorem wpList_app4 {w : World} {ops : Array Oper} {rest : List Oper} {o : Oper} {act : Act} {Q : Exit → Act → World → Prop} (hgd : o.guard = none) (s x : Operand) (ho : o.op = .call { callee := .builtin .append, args := #[s, x], argTypes := #[24, 24] })
    (a : Option Addr) (n cap : Nat) (l : List Int) (hs : act.eval s = .slice a n cap) (hn : n = l.length) (hown : Own w a cap l)
    (x0 x1 x2 x3 : Int) (hx : act.eval x = .slice (some ⟨w.heap.size, 0, none⟩) 4 4) (b0 : 0 ≤ x0 ∧ x0 ≤ 255) (b1 : 0 ≤ x1 ∧ x1 ≤ 255) (b2 : 0 ≤ x2 ∧ x2 ≤ 255) (b3 : 0 ≤ x3 ∧ x3 ≤ 255) (h63 : n + 4 ≤ 140737488355328)
    (h : ∀ a' cap' w', Own w' a' cap' (l ++ [x0, x1, x2, x3]) → Gr w w' a a' → wpList Yclm.prog ops Q rest (act.put o.dst (.slice a' (n + 4) cap')) w') :
    wpList Yclm.prog ops Q (o :: rest) act (w.alloc (.cells #[.int .u8 x0, .int .u8 x1, .int .u8 x2, .int .u8 x3] 5)) :=
  wpList_app_new hgd s x ho a n cap l hs hn hown _ 4 [x0, x1, x2, x3] hx (G.alloc _ _) (fun j hj => cells_new w [x0, x1, x2, x3] j hj) rfl
    (by intro u hu; simp at hu; rcases hu with rfl | rfl | rfl | rfl <;> assumption) h63 h

def sF (c d v : Nat → Int) (i : Nat) : Int × Int := (255 * (c i % 3) + 1 + d i % 255, dv (v i))

theorem can_zero {ps : List (Int × Int)} {k : Nat} (hk : ps.length = k) (hb : ∀ x ∈ flat ps, 0 ≤ x ∧ x ≤ 255) (hc : Canon ps) {c : Int} (h : CanIs (gl (flat ps)) (2 * k) c) : c = 0 := by
  have hp := canon_pairsOf (gl_byte hb) k
  have e : pairsOf (gl (flat ps)) k = ps := by rw [← hk]; exact pairsOf_flat ps
  rw [e] at hp
  rcases can_pairs hk hb (hp.1 hc).1 h with ⟨_, h⟩ | ⟨h, _⟩
  · exact h
  · exact absurd hc h

theorem well_zeroless {ps : List (Int × Int)} {k : Nat} (hk : ps.length = k) (h : Well ps) : ¬ HasZero (gl (flat ps)) (2 * k) := by
  subst hk
  rintro ⟨j, h1, h2⟩
  have hm : (gl (flat ps) (2 * j), gl (flat ps) (2 * j + 1)) ∈ pairsOf (gl (flat ps)) ps.length := List.mem_map.2 ⟨j, by simp; omega, rfl⟩
  rw [pairsOf_flat] at hm
  have := (h _ hm).1
  simp only at this
  omega

theorem well_at {ps : List (Int × Int)} (h : Well ps) {j : Nat} (hj : j < ps.length) : 1 ≤ gl (flat ps) (2 * j) ∧ gl (flat ps) (2 * j) ≤ 255 := by
  have hm : (gl (flat ps) (2 * j), gl (flat ps) (2 * j + 1)) ∈ pairsOf (gl (flat ps)) ps.length := List.mem_map.2 ⟨j, by simp; omega, rfl⟩
  rw [pairsOf_flat] at hm
  exact h _ hm

/-- what the second loop holds -/
structure SAt (bs : List (Int × Int)) (B pick i : Nat) : Prop where
  len : bs.length = B
  le : B ≤ i + 1
  well : Well bs
  spl : pick < i → HasSplit (gl (flat bs)) (2 * B)

theorem SAt.start (pick : Nat) : SAt [] 0 pick 0 := ⟨rfl, by omega, by simp [Well], fun h => by omega⟩

theorem SAt.flatLen {bs : List (Int × Int)} {B pick i : Nat} (h : SAt bs B pick i) : (flat bs).length = 2 * B := by rw [flat_length, h.len]

theorem well_app {bs cs : List (Int × Int)} (h : Well bs) (k : Well cs) : Well (bs ++ cs) := fun p hp => (List.mem_append.1 hp).elim (h p) (k p)

theorem hs_app {bs cs : List (Int × Int)} {B : Nat} (hl : bs.length = B) (h : HasSplit (gl (flat bs)) (2 * B)) : HasSplit (gl (flat (bs ++ cs))) (2 * (B + cs.length)) := by
  obtain ⟨j, h1, h2, h3⟩ := h
  have hf : (flat bs).length = 2 * B := by rw [flat_length, hl]
  have hg : ∀ i, i < 2 * B → gl (flat (bs ++ cs)) i = gl (flat bs) i := fun i hi => by rw [flat_append]; exact gl_app_lt (by rw [hf]; exact hi)
  exact ⟨j, by omega, by rw [hg _ (by omega), hg _ (by omega)]; exact h2, by rw [hg _ (by omega)]; exact h3⟩

theorem SAt.plain {bs : List (Int × Int)} {B pick i : Nat} (h : SAt bs B pick i) (hi : i ≠ pick) {c v : Int} (hc : 1 ≤ c ∧ c ≤ 255) (hle : B + 1 ≤ i + 2) : SAt (bs ++ [(c, v)]) (B + 1) pick (i + 1) :=
  ⟨by rw [List.length_append, h.len]; rfl, by omega, well_app h.well (by intro p hp; simp at hp; subst hp; exact hc), fun hp => hs_app h.len (h.spl (by omega))⟩

theorem SAt.cut {bs : List (Int × Int)} {B i : Nat} (h : SAt bs B i i) (hB : B ≤ i) {c k v : Int} (hc : 1 ≤ c ∧ c ≤ 255) (hk : 1 ≤ k ∧ k < 255) : SAt (bs ++ [(k, v), (c, v)]) (B + 2) i (i + 1) := by
  refine ⟨by rw [List.length_append, h.len]; rfl, by omega, well_app h.well ?_, fun _ => ?_⟩
  · intro p hp
    simp at hp
    rcases hp with rfl | rfl
    · exact ⟨hk.1, by show k ≤ 255; omega⟩
    · exact hc
  · have hf : (flat bs).length = 2 * B := h.flatLen
    have hg : ∀ t, gl (flat (bs ++ [(k, v), (c, v)])) (2 * B + t) = gl [k, v, c, v] t := fun t => by
      rw [flat_append, ← hf]; exact gl_app_ge
    refine ⟨B, by omega, ?_, ?_⟩
    · rw [hg 3, hg 1]; rfl
    · have := hg 0
      rw [Nat.add_zero] at this
      rw [this]
      show k ≠ 255
      omega

set_option maxRecDepth 100000 in
set_option maxHeartbeats 3200000 in
theorem dsplit_calls (a : Option Addr) (c d v : Nat → Int) (n cap : Nat) (at' cut : Int) (w : World) (bc : ∀ i, 0 ≤ c i ∧ c i ≤ 255) (bd : ∀ i, 0 ≤ d i ∧ d i ≤ 255) (bv : ∀ i, 0 ≤ v i ∧ v i ≤ 255)
    (h0 : Fld w a n 3 0 (fun i => .int .u8 (c i))) (h1 : Fld w a n 3 1 (fun i => .int .u8 (d i))) (h2 : Fld w a n 3 2 (fun i => .int .u8 (v i))) (ha : 0 ≤ at' ∧ at' ≤ 65535) (hcut : 0 ≤ cut ∧ cut ≤ 255) :
    Calls Yclm.prog 14 #[.slice a n cap, .int .u16 at', .int .u8 cut] w fun e w' => e = .returned (.bool true) ∧ G w w' := by
  by_cases hbig : 1024 < n
  · have e0 : (1024 : Int) < n := by omega
    go_enter Yclm.func14, Yclm.ntmps14
    go_wp2
    go_ret
    exact ⟨rfl, G.refl _⟩
  have e0 : ¬ (1024 : Int) < n := by omega
  go_enter Yclm.func14, Yclm.ntmps14
  go_wp2
  go_loopw [7, 8, 9] (fun y i _ wr => ∃ (k : Nat) (a2 : Option Addr) (c2 : Nat), k ≤ n ∧ i = .int .i64 k ∧ y = .slice a2 k c2 ∧ OwnR wr a2 c2 (bl (sF c d v) k) ∧ Gr w wr none a2) (fun _ i _ _ => n - (intOf i).toNat)
  case atStart => exact ⟨0, none, 0, by omega, rfl, rfl, OwnR.nil _, Gr.refl _ _⟩
  case round =>
    obtain ⟨k, a2, p2, hk, rfl, rfl, ho2, hg2⟩ := hrel
    by_cases hlt : k < n
    · have hki : (k : Int) < n := by omega
      obtain ⟨b, off, rfl⟩ := h0.at hlt
      have c1 := (h0.keep hg2.g).cell hlt
      have c2 := (h1.keep hg2.g).cell hlt
      have c3 := (h2.keep hg2.g).cell hlt
      simp only [Nat.add_zero] at c1
      have b1 := bc k
      have b2 := bd k
      have b3 := bv k
      have b4 := dv_bounds (v k)
      have HL2 : Hid ((bl (sF c d v) k).length = k) := bl_length _ _
      have HN2 : Hid (bl (sF c d v) (k + 1) = bl (sF c d v) k ++ [(255 * (c k % 3) + 1 + d k % 255, dv (v k))]) := bl_succ (sF c d v) k
      go_wp2
      go_quiet (fail)
      go_wp2_with fail
      refine (dval_calls (v k) _ (bv k)).mono ?_
      rintro e w1 ⟨rfl, rfl⟩
      go_wp2_with (at_builtin; refine wpList_appR (w := wr.drewN _) rfl _ _ rfl a2 _ p2 _ rfl HL2.out.symm (ho2.keep (G.drewN _ _)) (255 * (c k % 3) + 1 + d k % 255) (dv (v k)) rfl (by omega) ?_)
      intro a5 p5 w3 ho5 hg6
      rw [← HN2.out] at ho5
      have hg7 := (hg2.then (G.drewN wr nq)).trans hg6
      clear ho2 c1 c2 c3
      go_wp2
      go_roundw
      case rel => exact ⟨k + 1, a5, p5, by omega, by go_num, rfl, ho5, hg7⟩
      case measure => simp [intOf]; omega
    · have hki : ¬ (k : Int) < (n : Int) := by omega
      obtain rfl : k = n := by omega
      have gw := hg2.g
      have HL2 : Hid ((bl (sF c d v) k).length = k) := bl_length _ _
      have hbd : ∀ i, i < k → (1 ≤ ((bl (sF c d v) k).getD i (0, 0)).1 ∧ ((bl (sF c d v) k).getD i (0, 0)).1 ≤ 1000) ∧ 0 ≤ ((bl (sF c d v) k).getD i (0, 0)).2 ∧ ((bl (sF c d v) k).getD i (0, 0)).2 ≤ 255 := by
        intro i hi
        rw [bl_at hi]
        have h1 := bc i
        have h2 := bd i
        have h3 := dv_bounds (v i)
        refine ⟨?_, h3⟩
        show 1 ≤ 255 * (c i % 3) + 1 + d i % 255 ∧ 255 * (c i % 3) + 1 + d i % 255 ≤ 1000
        omega
      generalize bl (sF c d v) k = ps at *
      go_wp2_with fail
      refine (dgreedy_calls a2 ps k p2 _ ho2 HL2.out (by omega) hbd).mono ?_
      rintro e w3 ⟨a3, p3, qs, rfl, ho3, hcq, hex, hlq, hg3⟩
      obtain ⟨L, hL⟩ : ∃ L, qs.length = L := ⟨_, rfl⟩
      have hfl : (flat qs).length = 2 * L := by rw [flat_length, hL]
      have r3 := ho3.rd
      rw [hfl] at r3 ⊢
      rw [hL] at hlq
      have HB : Hid (∀ x ∈ flat qs, 0 ≤ x ∧ x ≤ 255) := ho3.byte
      have HW : Hid (∀ j, j < L → 1 ≤ gl (flat qs) (2 * j) ∧ gl (flat qs) (2 * j) ≤ 255) := fun j hj => well_at hcq.well (by rw [hL]; exact hj)
      have HCQ : Hid (Canon qs) := hcq
      have HQL : Hid (qs.length = L) := hL
      have gw3 := gw.trans hg3.g
      clear hbd ho2 ho3 hcq hex hg3 hL hfl
      go_wp2_with fail
      refine (canonical_calls a3 _ (2 * L) p3 _ r3 (by omega)).mono ?_
      rintro e w4 ⟨c4, rfl, hc4, hg4⟩
      obtain rfl := can_zero HQL.out HB.out HCQ.out hc4
      have r4 := r3.keep hg4
      have gw4 := gw3.trans hg4
      clear hc4 r3 HB HCQ HQL
      generalize gl (flat qs) = F at *
      by_cases hL0 : L = 0
      · subst hL0
        go_wp2
        go_ret
        exact ⟨rfl, gw4⟩
      · have hL1 : (2 * (L : Int) == 0) = false := by simp; omega
        obtain ⟨pick, hpick⟩ : ∃ p : Nat, at' % (L : Int) = (p : Int) := ⟨(at' % (L : Int)).toNat, by have := Int.emod_nonneg at' (show (L : Int) ≠ 0 by omega); omega⟩
        have hpl : pick < L := by have := Int.emod_lt_of_pos at' (show 0 < (L : Int) by omega); omega
        have hq2 : 2 * (L : Int) / 2 = (L : Int) := by omega
        have hq3 : (L : Int) ≠ 0 := by omega
        go_wp2
        rw [hpick]
        clear hpick
        go_loopw [12, 13, 14, 15, 16] (fun x j _ _ _ wr => ∃ (i : Nat) (a5 : Option Addr) (p5 B : Nat) (bs : List (Int × Int)), i ≤ L ∧ j = .int .i64 i ∧ x = .slice a5 (2 * B) p5 ∧ B ≤ i + 1 ∧ (i ≤ pick → B ≤ i) ∧ SAt bs B pick i ∧ Own wr a5 p5 (flat bs) ∧ Gr w4 wr none a5) (fun _ j _ _ _ _ => L - (intOf j).toNat)
        case atStart => exact ⟨0, none, 0, 0, [], by omega, rfl, rfl, by omega, fun _ => by omega, SAt.start pick, Own.nil _, Gr.refl _ _⟩
        case round =>
          obtain ⟨i, a5, p5, B, bs, hi, rfl, rfl, hBi, hBp, hsat, hown, hgr⟩ := hrel
          have HS : Hid (SAt bs B pick i) := hsat
          have HF : Hid ((flat bs).length = 2 * B) := hsat.flatLen
          clear hsat
          by_cases hlt2 : i < L
          · have hii : (i : Int) < (L : Int) := by omega
            have r5 := r4.keep hgr.g
            obtain ⟨b6, o6, rfl, hcc⟩ := r5.at (show 2 * i < 2 * L by omega)
            have k1 := hcc (2 * i) (by omega)
            have k2 := hcc (2 * i + 1) (by omega)
            have bF := HW.out i hlt2
            have bV := r4.1 (2 * i + 1)
            clear hcc r5
            generalize F (2 * i) = x at k1 bF
            generalize F (2 * i + 1) = y at k2 bV
            by_cases hne : i = pick
            · subst hne
              have dne : ((i : Int) != (i : Int)) = false := by simp
              have hBi2 := hBp (Nat.le_refl _)
              by_cases hx1 : x = 1
              · subst hx1
                have HS2 : Hid (SAt (bs ++ [(1, y), (1, y)]) (B + 2) i (i + 1)) := HS.out.cut hBi2 (by omega) (by omega)
                have HFF : Hid (flat bs ++ [1, y, 1, y] = flat (bs ++ [(1, y), (1, y)])) := by rw [Hid, flat_append]; rfl
                go_wp2_with (at_builtin; refine wpList_app4 (w := wr) rfl _ _ rfl a5 _ p5 _ rfl HF.out.symm hown 1 y 1 y rfl (by omega) bV (by omega) bV (by omega) ?_)
                intro a6 p6 w6 ho6 hg6
                rw [HFF.out] at ho6
                clear k1 k2
                go_wp2
                go_roundw
                case rel => exact ⟨i + 1, a6, p6, B + 2, _, by omega, by go_num, rfl, by omega, fun h => by omega, HS2.out, ho6, hgr.trans hg6⟩
                case measure => simp [intOf]; omega
              · have dx : (x == 1) = false := by simpa using hx1
                have hx2 : 2 ≤ x := by omega
                have m0 : 0 ≤ cut % (x - 1) := Int.emod_nonneg _ (by omega)
                have m1 : cut % (x - 1) < x - 1 := Int.emod_lt_of_pos _ (by omega)
                have m2 : x - 1 ≠ 0 := by omega
                have HS2 : Hid (SAt (bs ++ [(1 + cut % (x - 1), y), (x - (1 + cut % (x - 1)), y)]) (B + 2) i (i + 1)) := HS.out.cut hBi2 (by omega) (by omega)
                have HFF : Hid (flat bs ++ [1 + cut % (x - 1), y, x - (1 + cut % (x - 1)), y] = flat (bs ++ [(1 + cut % (x - 1), y), (x - (1 + cut % (x - 1)), y)])) := by rw [Hid, flat_append]; rfl
                clear hx1
                go_wp2_with (at_builtin; refine wpList_app4 (w := wr) rfl _ _ rfl a5 _ p5 _ rfl HF.out.symm hown (1 + cut % (x - 1)) y (x - (1 + cut % (x - 1))) y rfl (by omega) bV (by omega) bV (by omega) ?_)
                intro a6 p6 w6 ho6 hg6
                rw [HFF.out] at ho6
                clear k1 k2
                go_wp2
                go_roundw
                case rel => exact ⟨i + 1, a6, p6, B + 2, _, by omega, by go_num, rfl, by omega, fun h => by omega, HS2.out, ho6, hgr.trans hg6⟩
                case measure => simp [intOf]; omega
            · have dne : ((i : Int) != (pick : Int)) = true := by simp; omega
              have HS2 : Hid (SAt (bs ++ [(x, y)]) (B + 1) pick (i + 1)) := HS.out.plain hne bF (by omega)
              have HFF : Hid (flat bs ++ [x, y] = flat (bs ++ [(x, y)])) := by rw [Hid, flat_append]; rfl
              have hBn : i + 1 ≤ pick → B + 1 ≤ i + 1 := fun h => by have := hBp (by omega); omega
              go_wp2_with (at_builtin; refine wpList_app2 (w := wr) rfl _ _ rfl a5 _ p5 _ rfl HF.out.symm hown x y rfl (by omega) bV (by omega) ?_)
              intro a6 p6 w6 ho6 hg6
              rw [HFF.out] at ho6
              clear k1 k2
              go_wp2
              go_roundw
              case rel => exact ⟨i + 1, a6, p6, B + 1, _, by omega, by go_num, rfl, by omega, hBn, HS2.out, ho6, hgr.trans hg6⟩
              case measure => simp [intOf]; omega
          · have hii : ¬ (i : Int) < (L : Int) := by omega
            have r5 := hown.rd
            rw [HF.out] at r5
            go_wp2_with fail
            refine (canonical_calls a5 _ (2 * B) p5 _ r5 (by omega)).mono ?_
            rintro e w6 ⟨c6, rfl, hc6, hg6⟩
            have hsp := HS.out.spl (by omega)
            have hzz := well_zeroless HS.out.len HS.out.well
            obtain rfl : c6 = 3 := by
              rcases hc6 with ⟨h1, h2⟩ | ⟨h1, h2, h3⟩ | ⟨h1, h2, h3, h4⟩ | ⟨h1, h2, h3, h4⟩
              · omega
              · exact absurd h2 hzz
              · exact h4
              · exact absurd hsp h3
            clear hc6 hsp hzz
            go_wp2
            go_ret
            exact ⟨rfl, (gw4.trans hgr.g).trans hg6⟩

end Go.Proofs.Ymbrcl
