import Derived.Test.YmbrclDGreedy
import Derived.Test.YmbrclEq
set_option linter.unusedVariables false
namespace Go.Proofs.Ymbrcl
open Go.RowKit

def dF (c v : Nat → Int) (i : Nat) : Int × Int := (dc (c i), dv (v i))

theorem bl_at {F : Nat → Int × Int} {n i : Nat} (h : i < n) : (bl F n).getD i (0, 0) = F i := by
  simp [bl, List.getD_eq_getElem?_getD, h]

/-- what CheckCanonical says of well-formed pairs -/
theorem can_pairs {ps : List (Int × Int)} {k : Nat} (hk : ps.length = k) (hb : ∀ x ∈ flat ps, 0 ≤ x ∧ x ≤ 255) (hz : ¬ HasZero (gl (flat ps)) (2 * k)) {c : Int} (h : CanIs (gl (flat ps)) (2 * k) c) : (Canon ps ∧ c = 0) ∨ (¬ Canon ps ∧ c = 3) := by
  have hp := canon_pairsOf (gl_byte hb) k
  have e : pairsOf (gl (flat ps)) k = ps := by rw [← hk]; exact pairsOf_flat ps
  rw [e] at hp
  rcases h with ⟨h1, h2⟩ | ⟨h1, h2, h3⟩ | ⟨h1, h2, h3, h4⟩ | ⟨h1, h2, h3, h4⟩
  · omega
  · exact absurd h2 hz
  · exact .inr ⟨fun k => (hp.1 k).2 h3, h4⟩
  · exact .inl ⟨hp.2 ⟨h2, h3⟩, h4⟩

set_option maxRecDepth 100000 in
set_option maxHeartbeats 1600000 in
theorem dreencode_calls (a : Option Addr) (c v : Nat → Int) (n cap : Nat) (w : World) (bc : ∀ i, 0 ≤ c i ∧ c i ≤ 255) (bv : ∀ i, 0 ≤ v i ∧ v i ≤ 255)
    (h0 : Fld w a n 2 0 (fun i => .int .u8 (c i))) (h1 : Fld w a n 2 1 (fun i => .int .u8 (v i))) :
    Calls Yclm.prog 13 #[.slice a n cap] w fun e w' => e = .returned (.bool true) ∧ G w w' := by
  by_cases hbig : 1024 < n
  · have e0 : (1024 : Int) < n := by omega
    go_enter Yclm.func13, Yclm.ntmps13
    go_wp2
    go_ret
    exact ⟨rfl, G.refl _⟩
  have e0 : ¬ (1024 : Int) < n := by omega
  go_enter Yclm.func13, Yclm.ntmps13
  go_wp2
  go_loopw [3, 4, 5, 6, 7] (fun x y i _ _ wr => ∃ (k : Nat) (a1 a2 : Option Addr) (c1 c2 : Nat), k ≤ n ∧ i = .int .i64 k ∧ x = .slice a1 (2 * k) c1 ∧ y = .slice a2 k c2 ∧ Own wr a1 c1 (flat (bl (dF c v) k)) ∧ OwnR wr a2 c2 (bl (dF c v) k) ∧ Sep a1 a2 ∧ Gr w wr none a1 ∧ Gr w wr none a2) (fun _ _ i _ _ _ => n - (intOf i).toNat)
  case atStart => exact ⟨0, none, none, 0, 0, by omega, rfl, rfl, rfl, Own.nil _, OwnR.nil _, Sep.nil_l _, Gr.refl _ _, Gr.refl _ _⟩
  case round =>
    obtain ⟨k, a1, a2, p1, p2, hk, rfl, rfl, rfl, ho1, ho2, hsep, hg1, hg2⟩ := hrel
    by_cases hlt : k < n
    · have hki : (k : Int) < n := by omega
      obtain ⟨b, off, rfl⟩ := h0.at hlt
      have c1 := (h0.keep hg1.g).cell hlt
      have c2 := (h1.keep hg1.g).cell hlt
      simp only [Nat.add_zero] at c1
      have b1 := dc_bounds (bc k)
      have b2 := dv_bounds (v k)
      have HL : Hid ((flat (bl (dF c v) k)).length = 2 * k) := bl_flat_length _ _
      have HL2 : Hid ((bl (dF c v) k).length = k) := bl_length _ _
      have HN : Hid (flat (bl (dF c v) (k + 1)) = flat (bl (dF c v) k) ++ [dc (c k), dv (v k)]) := bl_flat_succ (dF c v) k
      have HN2 : Hid (bl (dF c v) (k + 1) = bl (dF c v) k ++ [(dc (c k), dv (v k))]) := bl_succ (dF c v) k
      go_wp2_with fail
      refine (dcount_calls (c k) _ (bc k)).mono ?_
      rintro e w1 ⟨rfl, rfl⟩
      go_wp2_with fail
      refine (dval_calls (v k) _ (bv k)).mono ?_
      rintro e w1 ⟨rfl, rfl⟩
      generalize dc (c k) = x at *
      generalize dv (v k) = y at *
      go_wp2_with (at_builtin; refine wpList_app2 (w := w1) rfl _ _ rfl a1 _ p1 _ rfl HL.out.symm ho1 x y rfl (by omega) b2 (by omega) ?_)
      intro a3 p3 w2 ho3 hg3
      rw [← HN.out] at ho3
      have hs3 := hsep.stepR hg3 ho2
      have ho4 := ho2.keepGr hg3 hsep
      have hg4 := hg2.aside hg1 hg3
      have hg5 := hg1.trans hg3
      clear ho1 ho2 hg1 hg2 hg3 c1 c2 hsep
      go_wp2_with (at_builtin; refine wpList_appR (w := w2) rfl _ _ rfl a2 _ p2 _ rfl HL2.out.symm ho4 x y rfl (by omega) ?_)
      intro a5 p5 w3 ho5 hg6
      rw [← HN2.out] at ho5
      have hs5 := hs3.symm.step hg6 ho3
      have ho6 := ho3.keepGr hg6 hs3.symm
      have hg7 := hg4.trans hg6
      have hg8 := hg5.aside hg4 hg6
      clear ho3 ho4 hg4 hg5 hg6 hs3
      go_wp2
      go_roundw
      case rel => exact ⟨k + 1, a3, a5, p3, p5, by omega, by go_num, rfl, rfl, ho6, ho5, hs5.symm, hg8, hg7⟩
      case measure => simp [intOf]; omega
    · have hki : ¬ (k : Int) < (n : Int) := by omega
      obtain rfl : k = n := by omega
      have gw := hg1.g
      have HL2 : Hid ((bl (dF c v) k).length = k) := bl_length _ _
      have HL : Hid ((flat (bl (dF c v) k)).length = 2 * k) := bl_flat_length _ _
      have HZ : Hid (¬ HasZero (gl (flat (bl (dF c v) k))) (2 * k)) := bl_zeroless fun i => (dc_bounds (bc i)).1
      have HY : Hid (∀ x ∈ flat (bl (dF c v) k), 0 ≤ x ∧ x ≤ 255) := ho1.byte
      have hbd : ∀ i, i < k → (1 ≤ ((bl (dF c v) k).getD i (0, 0)).1 ∧ ((bl (dF c v) k).getD i (0, 0)).1 ≤ 1000) ∧ 0 ≤ ((bl (dF c v) k).getD i (0, 0)).2 ∧ ((bl (dF c v) k).getD i (0, 0)).2 ≤ 255 := by
        intro i hi
        rw [bl_at hi]
        have h1 := dc_bounds (bc i)
        have h2 := dv_bounds (v i)
        exact ⟨⟨h1.1, by show dc (c i) ≤ 1000; omega⟩, h2⟩
      generalize bl (dF c v) k = ps at *
      go_wp2_with fail
      refine (dgreedy_calls a2 ps k p2 _ ho2 HL2.out (by omega) hbd).mono ?_
      rintro e w3 ⟨a3, p3, qs, rfl, ho3, hcq, hex, hlq, hg3⟩
      have r1 := (ho1.keep hg3.g).rd
      have r3 := ho3.rd
      rw [HL.out] at r1
      clear hbd ho2 ho1 hsep hg1 hg2
      go_wp2_with fail
      refine (deq_calls a1 a3 _ _ (2 * k) _ p1 p3 _ r1 r3 (by omega)).mono ?_
      rintro e w4 ⟨r, rfl, hrr, hg4⟩
      have HR : Hid (r = true ↔ Canon ps) := by
        rw [lst_gl, ← HL.out, lst_gl] at hrr
        constructor
        · intro h; have := flat_inj (hrr.1 h); rw [this]; exact hcq
        · intro h; exact hrr.2 (by rw [canon_unique hcq h hex])
      have r1' := r1.keep hg4
      clear hrr r3 ho3 hcq hex r1
      have gw2 := (gw.trans hg3.g).trans hg4
      cases r with
      | true =>
        go_wp2_with fail
        refine (canonical_calls a1 _ (2 * k) p1 _ r1' (by omega)).mono ?_
        rintro e w5 ⟨c5, rfl, hc5, hg5⟩
        rcases can_pairs HL2.out HY.out HZ.out hc5 with ⟨_, rfl⟩ | ⟨hn, _⟩
        · go_wp2
          go_ret
          exact ⟨rfl, gw2.trans hg5⟩
        · exact absurd (HR.out.1 (by simp)) hn
      | false =>
        go_wp2_with fail
        refine (canonical_calls a1 _ (2 * k) p1 _ r1' (by omega)).mono ?_
        rintro e w5 ⟨c5, rfl, hc5, hg5⟩
        rcases can_pairs HL2.out HY.out HZ.out hc5 with ⟨hn, _⟩ | ⟨_, rfl⟩
        · have := HR.out.2 hn; cases this
        · go_wp2
          go_ret
          exact ⟨rfl, gw2.trans hg5⟩

end Go.Proofs.Ymbrcl
