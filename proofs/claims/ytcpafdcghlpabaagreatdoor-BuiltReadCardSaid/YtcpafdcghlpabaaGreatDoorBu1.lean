/-
The walks of built's small functions: status, compared.
-/
import Derived.Test.YtcpafdcghlpabaaGreatDoorBu0
set_option linter.unusedVariables false
set_option linter.unusedSimpArgs false
namespace Go.Proofs.YtcpafdcghlpabaaGreatDoor.Bu
open Go.RowKit Go.Shelf Go.Proofs.YtcpafdcghlpabaaGreatDoor.Ar

/-- The library's variables, with the table of blanks. -/
structure Gb (w0 : World) : Prop where
  gl : Gl w0
  sp : Lib.TabIs Tryz.prog w0 "strings.asciiSpace" .u8 Lib.asciiSpaceTab
  lt : 0 < w0.heap.size
theorem gname_sp : Tryz.prog.globalNamed "strings.asciiSpace" = some 0 := by kernel_rfl
theorem Gb.mono {w0 w : World} (h : Gb w0) (hb : Below w0.heap.size w0 w) : Gb w :=
  ⟨h.gl.mono hb, var?_below hb gname_sp h.lt h.sp, Nat.lt_of_lt_of_le h.lt hb.size⟩

set_option maxHeartbeats 400000 in
theorem status_c (b : Bool) (w : World) : Calls Tryz.prog 16 #[.bool b] w fun e w' => e = .returned (.int .i64 (stZ b)) ∧ w' = w := by
  cases b <;>
    (go_enter Tryz.func16, Tryz.ntmps16
     go_wp2
     go_ret
     exact ⟨rfl, rfl⟩)

/-- The words of a constant text. -/
theorem fields_c (s : Str) (ws : List Str) (h : Lib.fields s = ws) (hs : s.length < 4294967281) (ha : s.all (fun b => decide (b.toNat < 128)) = true) (w : World) (hG : Gb w) :
    Calls Tryz.prog 40 #[.string (st s)] w fun e w' => e = .returned (.slice (some ⟨w.heap.size, 0, none⟩) ws.length ws.length) ∧ w' = w.alloc (.cells (ws.map fun l => Value.string (st l)).toArray 9) := by
  have := Tryz.strings_Fields_laid (st s) w (by rw [st_size]; exact hs) (fun j b hj => by
    have := List.all_eq_true.1 ha b (List.mem_of_getElem? hj)
    simpa using this) hG.sp
  rw [show (st s).data.toList = s from rfl, h] at this
  exact this

theorem st_eq_iff {a b : Str} : st a = st b ↔ a = b := ⟨st_inj, fun h => by rw [h]⟩
theorem idxFrom_map (x : Str) : ∀ (l : List Str) (i : Nat), Lib.idxFromS (l.map st) (st x) i = if l.contains x then ((i + idxS l x : Nat) : Int) else -1
  | [], i => rfl
  | y :: l, i => by
    simp only [List.map_cons, Lib.idxFromS, List.contains_cons]
    by_cases h : y = x
    · subst h
      simp [idxS, List.findIdx_cons]
    · rw [if_neg (fun e => h (st_inj e)), idxFrom_map x l (i + 1)]
      have h1 : (x == y) = false := by simpa using fun e => h e.symm
      have h2 : (y == x) = false := by simpa using h
      simp only [h1, Bool.false_or]
      split
      · simp only [idxS, List.findIdx_cons, h2, cond_false]; omega
      · rfl
theorem contains_map (x : Str) (l : List Str) : Lib.containsS (l.map st) (st x) = l.contains x := by
  unfold Lib.containsS Lib.idxOfS
  rw [idxFrom_map]
  cases l.contains x <;> simp

/-- Texts in a block of one's own. -/
theorem cells_words (w : World) (ws : List Str) (T : TypeId) (j : Nat) (hj : j < (ws.map st).length) : (w.alloc (.cells (ws.map fun l => Value.string (st l)).toArray T)).cell? ⟨w.heap.size, 0 + j, none⟩ = some (.string ((ws.map st).getD j ByteArray.empty)) := by
  have hj' : j < ws.length := by simpa using hj
  rw [Nat.zero_add, (blk_cell (blk_new w _) j)]
  simp [hj', List.getD_eq_getElem?_getD]

theorem contains_c (ws : List Str) (x : Str) (w0 w : World) (hb : Below (w0.heap.size + 1) (w0.alloc (.cells (ws.map fun l => Value.string (st l)).toArray 9)) w) (hn : ws.length ≤ 9223372036854775807) :
    Calls Tryz.prog 39 #[.slice (some ⟨w0.heap.size, 0, none⟩) ws.length ws.length, .string (st x)] w fun e w' => e = .returned (.bool (ws.contains x)) ∧ w' = w := by
  have := Tryz.slices_Contains_string w0.heap.size 0 ws.length ws.length (ws.map st) (st x) w (by simp) hn (fun j hj => (hb.cell (p := ⟨_, _, none⟩) (by simp)).trans (cells_words w0 ws _ j hj))
  rw [List.take_of_length_le (by simp), contains_map] at this
  exact this
theorem index_c (ws : List Str) (x : Str) (w0 w : World) (hb : Below (w0.heap.size + 1) (w0.alloc (.cells (ws.map fun l => Value.string (st l)).toArray 9)) w) (hn : ws.length ≤ 9223372036854775807) (hx : ws.contains x = true) :
    Calls Tryz.prog 42 #[.slice (some ⟨w0.heap.size, 0, none⟩) ws.length ws.length, .string (st x)] w fun e w' => e = .returned (.int .i64 (idxS ws x)) ∧ w' = w := by
  have := Tryz.slices_Index_string w0.heap.size 0 ws.length ws.length (ws.map st) (st x) w (by simp) hn (fun j hj => (hb.cell (p := ⟨_, _, none⟩) (by simp)).trans (cells_words w0 ws _ j hj))
  rw [List.take_of_length_le (by simp)] at this
  unfold Lib.idxOfS at this
  rw [idxFrom_map, if_pos hx] at this
  simpa using this
end Go.Proofs.YtcpafdcghlpabaaGreatDoor.Bu
