/- THE PROOF OF 'Rows.LawS930002HPrependSaid': the frame after the kit's own shells, for a slice of structs by Derived/Deep/Slices.lean; the walk in WHPrepend. -/
import Derived.Test.YmbrcmRows
import Derived.WalkKit
import Derived.ProofKit
import Derived.OpenShut
import Derived.ShutString
import Derived.ChangeOld
import Derived.Below
import Derived.Deep.Slices
import Derived.Lib.SmallJoins
import Derived.Test.YmbrcmWHPrepend
namespace Go.Proofs.Ymbrcm.lawS930002HPrepend
open Go.ChangeShapes Go.WideShapes Go.ChangeAt Go.RowKit
open Go.Joins
open Go.ChangeMaps (open_string shut_string)
set_option linter.unusedVariables false

theorem own : ownKnob Ycmm.prog.godebug = none := by kernel_rfl
theorem laidOut : laidOutB Ycmm.prog = true := by kernel_rfl

/-- a slice of integers that came in -/
def IsRow (k : IntKind) (w : World) (a : Option Addr) (len cap : Nat) (zs : List Int) : Prop :=
  (a = none ∧ len = 0 ∧ cap = 0 ∧ zs = []) ∨
  ∃ x, a = some x ∧ len ≤ cap ∧ cap ≤ maxLen ∧ zs.length = cap ∧ (∀ i, i < zs.length → w.cell? (x.add i) = some (.int k (zs.getD i 0))) ∧ ∀ n ∈ zs, (Lit.int k n).wf = true

set_option maxRecDepth 100000 in
theorem lifted (os : Os) (started : os.Started) (H : Type) (enc : TypeId × Value → H) :
    ReturnsInHanded {} Ycmm.checked os 13 .any (Rows.lawS930002HPrependSpec.pre6 enc Ycmm.prog Ycmm.f13 Rows.lawS930002HPrependRow.domain false) (Rows.lawS930002HPrependSpec.post enc Ycmm.prog Ycmm.f13 false true false false) := by
  refine returnsInHanded_of_change (C := Ycmm.checked) own started (by kernel_rfl) Ycmm.func13
    (ChangeSpec.witness6 (enc := enc) (C := Ycmm.checked) false ⟨#[], #[.agg #[.int .u8 0, .int .u8 0], .slice none 0 0, .int .u8 0, .int .u16 0], []⟩ 8 (by kernel_rfl) (by kernel_rfl) (by kernel_rfl) (by kernel_rfl)) ?_
  intro W base args ds gs before hval0 hW hcnd _
  have hval : ∀ (j : Nat) t v, Ycmm.f13.params[j]? = some t → args[j]? = some v → Value.okWide Ycmm.prog W .any base t v := hval0
  have hW' := hW
  obtain ⟨p, q, hA0, hV, rfl, hfz, hnd⟩ := hW
  have hA : DataW.TrodAll enc Ycmm.prog W 0 (fun _ => true) true Ycmm.f13.params.toList args.toList ds p := hA0
  rw [Ycmm.params13] at hA hval
  obtain ⟨v0, vs0, d0, ds0, p0, q0, hargs, rfl, rfl, h0, r0⟩ := trodAll_cons hA
  obtain ⟨v1, vs1, d1, ds1, p1, q1, rfl, rfl, rfl, h1, r1⟩ := trodAll_cons r0
  obtain ⟨v2, vs2, d2, ds2, p2, q2, rfl, rfl, rfl, h2, r2⟩ := trodAll_cons r1
  obtain ⟨v3, vs3, d3, ds3, p3, q3, rfl, rfl, rfl, h3, r3⟩ := trodAll_cons r2
  obtain ⟨rfl, rfl, rfl⟩ := trodAll_nil r3
  obtain rfl : args = #[v0, v1, v2, v3] := by cases args; simp_all
  obtain ⟨rfl, rfl⟩ := trodVars_none hV
  obtain ⟨c0_0, c0_1, y0_0, y0_1, m0, rfl, rfl, rfl, hy0_0, hy0_1⟩ := open_agg2 Ycmm.underlying46 (by kernel_rfl) (show Ycmm.prog.cellsOf 46 = 2 by kernel_rfl) (hval 0 46 v0 rfl rfl) h0
  obtain ⟨a0_0, e0_0, rfl, w0_0⟩ := DataW.trod_int Ycmm.underlying5 hy0_0
  obtain ⟨a0_1, e0_1, rfl, w0_1⟩ := DataW.trod_int Ycmm.underlying5 hy0_1
  simp at e0_0 e0_1; subst e0_0 e0_1
  obtain ⟨a1, len1, cap1, rfl⟩ := okWide_slice Ycmm.underlying22 (hval 1 22 v1 rfl rfl)
  have k1 := h1
  have lt1 : ∀ x ∈ p1, x.block < W.heap.size := by obtain ⟨m, hm⟩ := k1; exact DataW.trod_lt m _ _ _ hm
  obtain ⟨z1, w1⟩ : ∃ zs, IsRow .u8 W a1 len1 cap1 zs := by
    obtain ⟨fuel, hf⟩ := h1
    rcases open_ints Ycmm.underlying22 Ycmm.underlying5 (by kernel_rfl) hf with ⟨hcs, _⟩ | ⟨x, l, c, zs, hcs, _, hl, hm, hz, _, hcell, hwz⟩
    · simp [Value.cells] at hcs
      obtain ⟨rfl, rfl, rfl⟩ := hcs
      exact ⟨[], .inl ⟨rfl, rfl, rfl, rfl⟩⟩
    · simp [Value.cells] at hcs
      obtain ⟨rfl, rfl, rfl⟩ := hcs
      exact ⟨zs, .inr ⟨_, rfl, hl, hm, by simpa using hz, hcell, hwz⟩⟩
  obtain ⟨f1, hl1, hn1⟩ := rd_of_row w1
  obtain ⟨a2, rfl, rfl, rfl, w2⟩ := open_int Ycmm.underlying5 (hval 2 5 v2 rfl rfl) h2
  obtain ⟨a3, rfl, rfl, rfl, w3⟩ := open_int Ycmm.underlying48 (hval 3 48 v3 rfl rfl) h3
  clear hA0 hval0
  refine (hprepend_calls a0_0 a0_1 a1 _ len1 cap1 a2 a3 W (bounds_u8 w0_0) (bounds_u8 w0_1) f1 (bounds_u8 w2) (bounds_u16 w3)).mono fun e W' ⟨he, hgG⟩ => ?_
  have bel := hgG.below
  subst he
  exact ⟨_, rfl, _, _, _, [], _, [], hW', trodAll_mk1 (shut_bool Ycmm.underlying4 _), (trodAll_cons_mk (Below.trod laidOut (by kernel_rfl) (of_decide_eq_true (by kernel_rfl)) h0 bel (by simp)) (trodAll_cons_mk (Below.trod laidOut (by kernel_rfl) (of_decide_eq_true (by kernel_rfl)) k1 bel lt1) (trodAll_cons_mk (shut_int Ycmm.underlying5 w2) (trodAll_cons_mk (shut_int Ycmm.underlying48 w3) trodAll_mk0)))), rfl, bel.frame _, fun h => by cases h⟩

theorem over : Rows.lawS930002HPrependRow.holds Ycmm.pinned (OpenSpec.ofChange Rows.lawS930002HPrependSpec) :=
  OpenClaim.holds_of_wide 13 Ycmm.f13 rfl rfl rfl rfl rfl rfl rfl ⟨rfl, rfl, rfl, rfl, rfl⟩ rfl rfl rfl rfl rfl (by kernel_rfl) Ycmm.func13 (by kernel_rfl)
    (of_decide_eq_true (by kernel_rfl)) (by unfold Func.isWrapper; first | (rw [if_pos (by decide +kernel)]; kernel_rfl) | (rw [if_neg (by decide +kernel)]; exact ⟨rfl, rfl⟩))
    (fun os started H enc _ => lifted os started H enc)

theorem proved : Rows.LawS930002HPrependSaid := over
#print axioms proved
end Go.Proofs.Ymbrcm.lawS930002HPrepend
