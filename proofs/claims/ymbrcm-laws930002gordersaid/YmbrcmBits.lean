import Derived.WalkKit
namespace Go.Proofs.Ymbrcm

theorem i64_and1 (n : Int) (h0 : 0 ≤ n) (h1 : n ≤ 9223372036854775807) : bits .and .i64 n 1 = n % 2 :=
  bits_mask .i64 63 (by decide) (fun n h0 h1 => by rw [IntKind.wrap_i64]; omega) 1 (by decide) n h0 (by omega)

theorem and1_even (k : Nat) (h : k ≤ 9223372036854775807) (e : k % 2 = 0) : bits .and .i64 (k : Int) 1 = 0 := by
  rw [i64_and1 _ (by omega) (by omega)]; omega
theorem and1_odd (k : Nat) (h : k ≤ 9223372036854775807) (e : k % 2 = 1) : bits .and .i64 (k : Int) 1 = 1 := by
  rw [i64_and1 _ (by omega) (by omega)]; omega

end Go.Proofs.Ymbrcm
