/-
Small words for walks over this seat's program: blocks, what may have turned, the variables of the library.
-/
import Derived.Test.YtcpafdcghlpabaaGreatDoorShelf
import Derived.Lib.Hide
import Derived.Lib.Strings
import Derived.WalkKit
import Derived.WalkSpells
import Derived.WalkLawsBesides
import Derived.KernelRfl
import Derived.Deep.LoopGhost
import Derived.Deep.QuietTactic
import Derived.BigQuiet
set_option linter.unusedVariables false
namespace Go.Proofs.YtcpafdcghlpabaaGreatDoor
open Go.RowKit

abbrev Str := List UInt8
/-- A text as the machine has it. -/
abbrev st (l : Str) : ByteArray := ⟨l.toArray⟩
abbrev B (s : ByteArray) : Str := s.data.toList
theorem st_B (s : ByteArray) : st (B s) = s := rfl
theorem B_st (l : Str) : B (st l) = l := rfl
theorem st_size (l : Str) : (st l).size = l.length := by simp [ByteArray.size]
theorem B_len (s : ByteArray) : (B s).length = s.size := rfl

theorem st_inj {a b : Str} (h : st a = st b) : a = b := by
  have := congrArg B h; exact this
theorem st_extract (l : Str) (a b : Nat) : (st l).extract a b = st ((l.drop a).take (b - a)) := by
  have h := Lib.extract_data (st l) a b
  rw [← st_B ((st l).extract a b)]
  exact congrArg st h
theorem st_drop (l : Str) (a : Nat) : (st l).extract a l.length = st (l.drop a) := by
  rw [st_extract, List.take_of_length_le (by simp)]
theorem st_take (l : Str) (a : Nat) : (st l).extract 0 a = st (l.take a) := by
  rw [st_extract]; simp

theorem ret_bool {a b : Bool} (h : a = b) : Ending.returned (.bool a) = Ending.returned (.bool b) := by rw [h]
theorem ret_int {k : IntKind} {a b : Int} (h : a = b) : Ending.returned (.int k a) = Ending.returned (.int k b) := by rw [h]
theorem ret_ib {k : IntKind} {a b : Int} {x y : Bool} (h : a = b) (h2 : x = y) : Ending.returned (.tuple #[.int k a, .bool x]) = Ending.returned (.tuple #[.int k b, .bool y]) := by rw [h, h2]
theorem ret_str {a b : Str} (h : a = b) : Ending.returned (.string (st a)) = Ending.returned (.string (st b)) := by rw [h]

theorem blk_lt {w : World} {g : Nat} {o : Obj} (h : w.heap[g]? = some o) : g < w.heap.size := (Array.getElem?_eq_some_iff.1 h).1
theorem blk_cell {w : World} {g : Nat} {c : Array Value} {t : TypeId} {fr : Nat × Nat} (h : w.heap[g]? = some (.cells c t fr)) (i : Nat) : w.cell? ⟨g, i, none⟩ = c[i]? := by simp [World.cell?, h]
theorem blk_frozen {w : World} {g : Nat} {c : Array Value} {t : TypeId} (h : w.heap[g]? = some (.cells c t (0, 0))) (i : Nat) : w.frozen? ⟨g, i, none⟩ = false := by simp [World.frozen?, h]
theorem blk_set {w : World} {g : Nat} {c : Array Value} {t : TypeId} {fr : Nat × Nat} (h : w.heap[g]? = some (.cells c t fr)) (i : Nat) (u : Value) : (w.setCell ⟨g, i, none⟩ u).heap[g]? = some (.cells (c.setIfInBounds i u) t fr) := by
  simp [World.setCell, Array.getElem?_modify, h]
theorem blk_new (w : World) (o : Obj) : (w.alloc o).heap[w.heap.size]? = some o := by
  show (w.heap.push o)[w.heap.size]? = _
  simp

/-- Only block g, and what is new, has turned. -/
structure But (w w' : World) (g : Nat) : Prop where
  size : w.heap.size ≤ w'.heap.size
  os : w'.os = w.os
  tape : w'.tape = w.tape
  output : w'.output = w.output
  block : ∀ i, i < w.heap.size → i ≠ g → w'.heap[i]? = w.heap[i]?
theorem But.refl (w : World) (g : Nat) : But w w g := ⟨Nat.le_refl _, rfl, rfl, rfl, fun _ _ _ => rfl⟩
theorem But.trans {a b c : World} {g : Nat} (h : But a b g) (k : But b c g) : But a c g :=
  ⟨Nat.le_trans h.size k.size, k.os.trans h.os, k.tape.trans h.tape, k.output.trans h.output, fun i hi hg => (k.block i (Nat.lt_of_lt_of_le hi h.size) hg).trans (h.block i hi hg)⟩
theorem But.of_below {w w' : World} (h : Below w.heap.size w w') (g : Nat) : But w w' g := ⟨h.size, h.os, h.tape, h.output, fun i hi _ => h.block i hi⟩
theorem But.set {w w' : World} {g : Nat} (h : But w w' g) (j : Nat) (u : Value) : But w (w'.setCell ⟨g, j, none⟩ u) g :=
  h.trans ⟨by simp [World.setCell], rfl, rfl, rfl, fun i _ hg => Below.heap_setCell _ _ _ _ hg⟩
theorem But.alloc {w w' : World} {g : Nat} (h : But w w' g) (o : Obj) : But w (w'.alloc o) g :=
  h.trans (But.of_below ((Below.refl _ _).alloc (Nat.le_refl _) _) g)
theorem But.drew {w w' : World} {g : Nat} (h : But w w' g) : But w w'.drew g := ⟨h.size, h.os, h.tape, h.output, h.block⟩
theorem But.drewN {w w' : World} {g : Nat} (h : But w w' g) (n : Nat) : But w (w'.drewN n) g := ⟨h.size, h.os, h.tape, h.output, h.block⟩
theorem But.then {a b c : World} {g : Nat} (h : But a b g) (k : b.heap.size ≤ c.heap.size ∧ c.os = b.os ∧ c.tape = b.tape ∧ c.output = b.output ∧ ∀ i, i < a.heap.size → c.heap[i]? = b.heap[i]?) : But a c g :=
  ⟨Nat.le_trans h.size k.1, k.2.1.trans h.os, k.2.2.1.trans h.tape, k.2.2.2.1.trans h.output, fun i hi hg => (k.2.2.2.2 i hi).trans (h.block i hi hg)⟩
theorem But.new {w w' : World} {g : Nat} (h : But w w' g) {p : Addr} (hp : w.heap.size ≤ p.block) (u : Value) : But w (w'.setCell p u) g :=
  h.then ⟨by simp [World.setCell], rfl, rfl, rfl, fun i hi => Below.heap_setCell _ _ _ _ (by omega)⟩
theorem But.blk {w w' : World} {g i : Nat} {o : Obj} (h : But w w' g) (hb : w.heap[i]? = some o) (hg : i ≠ g) : w'.heap[i]? = some o := (h.block i (blk_lt hb) hg).trans hb
/-- What lies below the call's own blocks stays. -/
theorem But.below {w0 w w' : World} {g : Nat} (h : But w w' g) (k : Below w0.heap.size w0 w) (hg : w0.heap.size ≤ g) : Below w0.heap.size w0 w' :=
  k.trans ⟨h.os, h.tape, h.output, h.size, fun i hi => h.block i (Nat.lt_of_lt_of_le hi k.size) (by omega)⟩
end Go.Proofs.YtcpafdcghlpabaaGreatDoor
