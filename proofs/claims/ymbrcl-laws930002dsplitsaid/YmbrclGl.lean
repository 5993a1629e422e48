/- lists by their places -/
import Derived.Test.YmbrclKit
import Derived.Test.YmbrclPlain
namespace Go.Proofs.Ymbrcl

theorem gl_snoc_lt {l : List Int} {x : Int} {i : Nat} (h : i < l.length) : gl (l ++ [x]) i = gl l i := by
  unfold gl; simp [List.getD_eq_getElem?_getD, List.getElem?_append_left h]
theorem gl_snoc_eq {l : List Int} {x : Int} {i : Nat} (h : i = l.length) : gl (l ++ [x]) i = x := by
  subst h; unfold gl; simp [List.getD_eq_getElem?_getD]
theorem gl_app_lt {l m : List Int} {i : Nat} (h : i < l.length) : gl (l ++ m) i = gl l i := by
  unfold gl; simp [List.getD_eq_getElem?_getD, List.getElem?_append_left h]
theorem gl_app_ge {l m : List Int} {i : Nat} : gl (l ++ m) (l.length + i) = gl m i := by
  unfold gl; simp [List.getD_eq_getElem?_getD, List.getElem?_append_right]
theorem gl_map_range {f : Nat → Int} {n i : Nat} (h : i < n) : gl ((List.range n).map f) i = f i := by
  unfold gl; simp [List.getD_eq_getElem?_getD, h]
theorem lst_gl (l : List Int) : lst (gl l) l.length = l := lst_getD l
theorem gl_lst {f : Nat → Int} {n i : Nat} (h : i < n) : gl (lst f n) i = f i := gl_map_range h
theorem gl_set_eq {l : List Int} {i : Nat} {x : Int} (h : i < l.length) : gl (l.set i x) i = x := by
  unfold gl; simp [List.getD_eq_getElem?_getD, h]
theorem gl_set_ne {l : List Int} {i j : Nat} {x : Int} (h : i ≠ j) : gl (l.set i x) j = gl l j := by
  unfold gl; simp [List.getD_eq_getElem?_getD, List.getElem?_set_ne h]

end Go.Proofs.Ymbrcl
