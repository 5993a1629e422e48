import Derived.Test.YmbrclBModel
import Derived.Test.YmbrclEncode
import Derived.Test.YmbrclEq
set_option linter.unusedVariables false
namespace Go.Proofs.Ymbrcl
open Go.RowKit

set_option maxRecDepth 100000 in
set_option maxHeartbeats 400000 in
theorem wbmodel_calls (a : Option Addr) (f : Nat → Int) (n cap : Nat) (w : World) (hr : Rd w a n f) :
    Calls Yclm.prog 6 #[.slice a n cap] w fun e w' => e = .returned (.bool true) ∧ G w w' := by
  by_cases h0 : 1024 < n
  · have e0 : (1024 : Int) < n := by omega
    go_enter Yclm.func6, Yclm.ntmps6
    go_wp2
    go_ret
    exact ⟨rfl, G.refl _⟩
  have e0 : ¬ (1024 : Int) < n := by omega
  go_enter Yclm.func6, Yclm.ntmps6
  go_wp2_with fail
  refine (encode_calls a f n cap _ hr (by omega)).mono ?_
  rintro e w1 ⟨a1, cap1, ps, rfl, hown1, hc1, he1, hg1⟩
  go_wp2_with fail
  refine (bmodel_calls a f n cap _ (hr.keep hg1.g) (by omega)).mono ?_
  rintro e w2 ⟨a2, cap2, qs, rfl, hown2, hc2, he2, hg2⟩
  obtain rfl : ps = qs := canon_unique hc1 hc2 (he1.trans he2.symm)
  have h3 := hown1.keep hg2.g
  have h63 := h3.len
  go_wp2_with fail
  refine (beq_calls a1 a2 _ _ _ _ cap1 cap2 _ h3.rd hown2.rd (by omega)).mono ?_
  rintro e w3 ⟨r, rfl, hrr, hg3⟩
  obtain rfl := hrr.2 rfl
  go_wp2
  go_ret
  exact ⟨rfl, (hg1.g.trans hg2.g).trans hg3⟩

end Go.Proofs.Ymbrcl
