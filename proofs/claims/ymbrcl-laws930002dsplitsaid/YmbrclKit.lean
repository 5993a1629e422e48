/- Words for this program's walks: a slice of bytes that is read ('Rd'); what a call leaves of old memory ('G'). -/
import Derived.WalkKit
import Derived.WalkSpells
import Derived.WalkSmall
import Derived.OpenShut
import Derived.Deep.QuietTactic
import Derived.BigQuiet
namespace Go.Proofs.Ymbrcl
open Go.RowKit

/-- The slice at 'a', of n bytes, reads in the world w as f. -/
def Rd (w : World) (a : Option Addr) (n : Nat) (f : Nat → Int) : Prop :=
  (∀ i, 0 ≤ f i ∧ f i ≤ 255) ∧ (n = 0 ∨ ∃ b off, a = some ⟨b, off, none⟩ ∧ ∀ i, i < n → w.cell? ⟨b, off + i, none⟩ = some (.int .u8 (f i)))

/-- nothing that was there has turned -/
def G (w w' : World) : Prop := w.grownBy w' none

theorem G.refl (w : World) : G w w := World.grownBy.refl w none
theorem G.trans {a b c : World} (h : G a b) (k : G b c) : G a c :=
  ⟨k.os.trans h.os, k.tape.trans h.tape, k.output.trans h.output, Nat.le_trans h.size k.size, fun i hi _ => (k.block i (Nat.lt_of_lt_of_le hi h.size) (by simp)).trans (h.block i hi (by simp))⟩
theorem G.drewN (w : World) (n : Nat) : G w (w.drewN n) := ⟨rfl, rfl, rfl, Nat.le_refl _, fun _ _ _ => rfl⟩
theorem G.drew (w : World) : G w w.drew := ⟨rfl, rfl, rfl, Nat.le_refl _, fun _ _ _ => rfl⟩
theorem G.alloc (w : World) (o : Obj) : G w (w.alloc o) := World.grownBy_alloc w o none
theorem G.below {w w' : World} (h : G w w') : Below w.heap.size w w' := ⟨h.os, h.tape, h.output, h.size, fun k hk => h.block k hk (by simp)⟩
theorem G.ofBelow {w w' : World} (h : Below w.heap.size w w') : G w w' := ⟨h.os, h.tape, h.output, h.size, fun k hk _ => h.block k hk⟩

theorem Rd.keep {w w' : World} {a : Option Addr} {n : Nat} {f : Nat → Int} (h : Rd w a n f) (g : G w w') : Rd w' a n f := by
  refine ⟨h.1, ?_⟩
  rcases h.2 with h | ⟨b, off, ha, hc⟩
  · exact .inl h
  · exact .inr ⟨b, off, ha, fun i hi => g.cell (hc i hi) (by simp)⟩

/-- where there is an element the address is plain and every cell is known -/
theorem Rd.at {w : World} {a : Option Addr} {n : Nat} {f : Nat → Int} (h : Rd w a n f) {k : Nat} (hk : k < n) :
    ∃ b off, a = some ⟨b, off, none⟩ ∧ ∀ i, i < n → w.cell? ⟨b, off + i, none⟩ = some (.int .u8 (f i)) := by
  rcases h.2 with h | h
  · omega
  · exact h

theorem Rd.cell {w : World} {b off : Nat} {n : Nat} {f : Nat → Int} (h : Rd w (some ⟨b, off, none⟩) n f) {k : Nat} (hk : k < n) : w.cell? ⟨b, off + k, none⟩ = some (.int .u8 (f k)) := by
  obtain ⟨b', off', e, hc⟩ := h.at hk
  simp only [Option.some.injEq, Addr.mk.injEq, and_true] at e
  obtain ⟨rfl, rfl⟩ := e
  exact hc k hk

theorem Rd.congr {w : World} {a : Option Addr} {n : Nat} {f g : Nat → Int} (h : Rd w a n f) (e : ∀ i, i < n → g i = f i) (b : ∀ i, 0 ≤ g i ∧ g i ≤ 255) : Rd w a n g := by
  refine ⟨b, ?_⟩
  rcases h.2 with h | ⟨b, off, ha, hc⟩
  · exact .inl h
  · exact .inr ⟨b, off, ha, fun i hi => by rw [e i hi]; exact hc i hi⟩

/-- the numbers of a list, by their places -/
def gl (l : List Int) (i : Nat) : Int := l.getD i 0

theorem gl_byte {l : List Int} (h : ∀ x ∈ l, 0 ≤ x ∧ x ≤ 255) : ∀ i, 0 ≤ gl l i ∧ gl l i ≤ 255 := by
  intro i
  unfold gl
  by_cases hi : i < l.length
  · rw [List.getD_eq_getElem?_getD, List.getElem?_eq_getElem hi]; exact h _ (List.getElem_mem hi)
  · rw [List.getD_eq_getElem?_getD, List.getElem?_eq_none (by omega)]; simp

/-- an argument, as a law's frame opens it -/
theorem rd_of_row {w : World} {a : Option Addr} {len cap : Nat} {zs : List Int}
    (h : (a = none ∧ len = 0 ∧ cap = 0 ∧ zs = []) ∨
      ∃ x, a = some x ∧ len ≤ cap ∧ cap ≤ maxLen ∧ zs.length = cap ∧ (∀ i, i < zs.length → w.cell? (x.add i) = some (.int .u8 (zs.getD i 0))) ∧ ∀ n ∈ zs, (Lit.int .u8 n).wf = true) :
    Rd w a len (gl zs) ∧ len ≤ 9223372036854775807 ∧ (a = none → cap = 0) := by
  rcases h with ⟨rfl, rfl, rfl, rfl⟩ | ⟨x, rfl, h1, h2, h3, h4, h5⟩
  · exact ⟨⟨gl_byte (by simp), .inl rfl⟩, by omega, fun _ => rfl⟩
  · have hb : ∀ n ∈ zs, 0 ≤ n ∧ n ≤ 255 := fun n hn => bounds_u8 (h5 n hn)
    refine ⟨⟨gl_byte hb, ?_⟩, by unfold maxLen at h2; omega, by simp⟩
    by_cases h0 : len = 0
    · exact .inl h0
    · obtain ⟨b, off, rfl, hc⟩ := ints_at h4 (by omega)
      exact .inr ⟨b, off, rfl, fun i hi => hc i (by omega)⟩

end Go.Proofs.Ymbrcl
