/- Two rows that grow side by side. -/
import Derived.Test.YmbrclRecs
import Derived.Test.YmbrclBuild
set_option linter.unusedVariables false
namespace Go.Proofs.Ymbrcl
open Go.RowKit

theorem Gr.aside {w w1 w2 : World} {a a' b : Option Addr} (h : Gr w w1 none b) (ha : Gr w w1 none a) (k : Gr w1 w2 a a') : Gr w w2 none b := ⟨(ha.trans k).gr, h.loc⟩

theorem ex_snoc (ps : List (Int × Int)) (c : Nat) (v : Int) : ex (ps ++ [((c : Int), v)]) = ex ps ++ List.replicate c v := by
  rw [ex_append]; simp [ex]

theorem rep_snoc (c : Nat) (v : Int) : List.replicate c v ++ [v] = List.replicate (c + 1) v := by
  rw [List.replicate_succ']

theorem ex_length_le {ps : List (Int × Int)} (h : Well ps) : (ex ps).length ≤ 255 * ps.length := by
  induction ps with
  | nil => simp [ex]
  | cons p r ih =>
    have := h p (by simp)
    have := ih fun q hq => h q (by simp [hq])
    obtain ⟨a, b⟩ := p
    simp [ex] at *
    omega

end Go.Proofs.Ymbrcl
