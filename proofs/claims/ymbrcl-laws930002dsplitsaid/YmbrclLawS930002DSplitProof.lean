/- THE PROOF OF 'Rows.LawS930002DSplitSaid': the frame after the kit's own shells, for a slice of structs by Derived/Deep/Slices.lean; the walk in WDSplit. -/
import Derived.Test.YmbrclRows
import Derived.WalkKit
import Derived.ProofKit
import Derived.OpenShut
import Derived.ShutString
import Derived.ChangeOld
import Derived.Below
import Derived.Deep.Slices
import Derived.Lib.SmallJoins
import Derived.Test.YmbrclWDSplit
namespace Go.Proofs.Ymbrcl.lawS930002DSplit
open Go.ChangeShapes Go.WideShapes Go.ChangeAt Go.RowKit
open Go.ChangeMaps (open_string shut_string)
set_option linter.unusedVariables false

theorem own : ownKnob Yclm.prog.godebug = none := by kernel_rfl
theorem laidOut : laidOutB Yclm.prog = true := by kernel_rfl

/-- a slice of integers that came in -/
def IsRow (k : IntKind) (w : World) (a : Option Addr) (len cap : Nat) (zs : List Int) : Prop :=
  (a = none ∧ len = 0 ∧ cap = 0 ∧ zs = []) ∨
  ∃ x, a = some x ∧ len ≤ cap ∧ cap ≤ maxLen ∧ zs.length = cap ∧ (∀ i, i < zs.length → w.cell? (x.add i) = some (.int k (zs.getD i 0))) ∧ ∀ n ∈ zs, (Lit.int k n).wf = true

set_option maxRecDepth 100000 in
theorem lifted (os : Os) (started : os.Started) (H : Type) (enc : TypeId × Value → H) :
    ReturnsInHanded {} Yclm.checked os 14 .any (Rows.lawS930002DSplitSpec.pre6 enc Yclm.prog Yclm.f14 Rows.lawS930002DSplitRow.domain false) (Rows.lawS930002DSplitSpec.post enc Yclm.prog Yclm.f14 false true false false) := by
  refine returnsInHanded_of_change (C := Yclm.checked) own started (by kernel_rfl) Yclm.func14
    (ChangeSpec.witness6 (enc := enc) (C := Yclm.checked) false ⟨#[], #[.slice none 0 0, .int .u16 0, .int .u8 0], []⟩ 8 (by kernel_rfl) (by kernel_rfl) (by kernel_rfl) (by kernel_rfl)) ?_
  intro W base args ds gs before hval0 hW hcnd _
  have hval : ∀ (j : Nat) t v, Yclm.f14.params[j]? = some t → args[j]? = some v → Value.okWide Yclm.prog W .any base t v := hval0
  have hW' := hW
  obtain ⟨p, q, hA0, hV, rfl, hfz, hnd⟩ := hW
  have hA : DataW.TrodAll enc Yclm.prog W 0 (fun _ => true) true Yclm.f14.params.toList args.toList ds p := hA0
  rw [Yclm.params14] at hA hval
  obtain ⟨v0, vs0, d0, ds0, p0, q0, hargs, rfl, rfl, h0, r0⟩ := trodAll_cons hA
  obtain ⟨v1, vs1, d1, ds1, p1, q1, rfl, rfl, rfl, h1, r1⟩ := trodAll_cons r0
  obtain ⟨v2, vs2, d2, ds2, p2, q2, rfl, rfl, rfl, h2, r2⟩ := trodAll_cons r1
  obtain ⟨rfl, rfl, rfl⟩ := trodAll_nil r2
  obtain rfl : args = #[v0, v1, v2] := by cases args; simp_all
  obtain ⟨rfl, rfl⟩ := trodVars_none hV
  obtain ⟨a0, len0, cap0, rfl⟩ := okWide_slice Yclm.underlying53 (hval 0 53 v0 rfl rfl)
  have k0 := h0
  have lt0 : ∀ x ∈ p0, x.block < W.heap.size := by obtain ⟨m, hm⟩ := k0; exact DataW.trod_lt m _ _ _ hm
  obtain ⟨g0_0, g0_1, g0_2, b0_0, f0_0, b0_1, f0_1, b0_2, f0_2⟩ : ∃ (g0 : Nat → Int) (g1 : Nat → Int) (g2 : Nat → Int), (∀ i, 0 ≤ g0 i ∧ g0 i ≤ 255) ∧ Fld W a0 len0 3 0 (fun i => .int .u8 (g0 i)) ∧ (∀ i, 0 ≤ g1 i ∧ g1 i ≤ 255) ∧ Fld W a0 len0 3 1 (fun i => .int .u8 (g1 i)) ∧ (∀ i, 0 ≤ g2 i ∧ g2 i ≤ 255) ∧ Fld W a0 len0 3 2 (fun i => .int .u8 (g2 i)) := by
    obtain ⟨fuel, hf⟩ := h0
    rcases Deep.open_slice Yclm.underlying53 hf with ⟨hcs, _⟩ | ⟨x, l, c, m, n, D, Pl, hcs, _, hl, hm, hmm, _, hx⟩
    · simp [Value.cells] at hcs
      obtain ⟨rfl, rfl, rfl⟩ := hcs
      exact ⟨fun _ => 0, fun _ => 0, fun _ => 0, fun _ => by simp, .inl rfl, fun _ => by simp, .inl rfl, fun _ => by simp, .inl rfl⟩
    · simp [Value.cells] at hcs
      obtain ⟨rfl, rfl, rfl⟩ := hcs
      have hlm : len0 ≤ m := by rw [hmm]; split <;> omega
      rw [show Yclm.prog.cellsOf 55 = 3 by kernel_rfl] at hx
      obtain ⟨g0, b0, f0⟩ := fld_bytes (j := 0) Yclm.underlying55 rfl rfl (by kernel_rfl) Yclm.underlying5 (by omega) hlm hx
      obtain ⟨g1, b1, f1⟩ := fld_bytes (j := 1) Yclm.underlying55 rfl rfl (by kernel_rfl) Yclm.underlying5 (by omega) hlm hx
      obtain ⟨g2, b2, f2⟩ := fld_bytes (j := 2) Yclm.underlying55 rfl rfl (by kernel_rfl) Yclm.underlying5 (by omega) hlm hx
      exact ⟨g0, g1, g2, b0, f0, b1, f1, b2, f2⟩
  obtain ⟨a1, rfl, rfl, rfl, w1⟩ := open_int Yclm.underlying42 (hval 1 42 v1 rfl rfl) h1
  obtain ⟨a2, rfl, rfl, rfl, w2⟩ := open_int Yclm.underlying5 (hval 2 5 v2 rfl rfl) h2
  clear hA0 hval0
  refine (dsplit_calls a0 g0_0 g0_1 g0_2 len0 cap0 a1 a2 W b0_0 b0_1 b0_2 f0_0 f0_1 f0_2 (bounds_u16 w1) (bounds_u8 w2)).mono fun e W' ⟨he, hgG⟩ => ?_
  have bel := hgG.below
  subst he
  exact ⟨_, rfl, _, _, _, [], _, [], hW', trodAll_mk1 (shut_bool Yclm.underlying4 _), (trodAll_cons_mk (Below.trod laidOut (by kernel_rfl) (of_decide_eq_true (by kernel_rfl)) k0 bel lt0) (trodAll_cons_mk (shut_int Yclm.underlying42 w1) (trodAll_cons_mk (shut_int Yclm.underlying5 w2) trodAll_mk0))), rfl, bel.frame _, fun h => by cases h⟩

theorem over : Rows.lawS930002DSplitRow.holds Yclm.pinned (OpenSpec.ofChange Rows.lawS930002DSplitSpec) :=
  OpenClaim.holds_of_wide 14 Yclm.f14 rfl rfl rfl rfl rfl rfl rfl ⟨rfl, rfl, rfl, rfl, rfl⟩ rfl rfl rfl rfl rfl (by kernel_rfl) Yclm.func14 (by kernel_rfl)
    (of_decide_eq_true (by kernel_rfl)) (by unfold Func.isWrapper; first | (rw [if_pos (by decide +kernel)]; kernel_rfl) | (rw [if_neg (by decide +kernel)]; exact ⟨rfl, rfl⟩))
    (fun os started H enc _ => lifted os started H enc)

theorem proved : Rows.LawS930002DSplitSaid := over
#print axioms proved
end Go.Proofs.Ymbrcl.lawS930002DSplit
