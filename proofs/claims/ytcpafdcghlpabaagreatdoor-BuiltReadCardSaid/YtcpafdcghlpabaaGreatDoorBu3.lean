/-
The walks of file.Get over no files, of built.single and of built.Test.
-/
import Derived.Test.YtcpafdcghlpabaaGreatDoorBu2
import Derived.StillTailTactics
set_option linter.unusedVariables false
set_option linter.unusedSimpArgs false
namespace Go.Proofs.YtcpafdcghlpabaaGreatDoor.Bu
open Go.RowKit Go.Shelf Go.Proofs.YtcpafdcghlpabaaGreatDoor.Ar

set_option maxHeartbeats 400000 in
theorem bsf_nil (S : ByteArray) (f : Value) (w : World) : Calls Tryz.prog 113 #[.slice none 0 0, .string S, f] w fun e w' => e = .returned (.tuple #[.int .i64 0, .bool false]) ∧ w' = w := by
  go_enter Tryz.func113, Tryz.ntmps113
  go_wp2
  go_loop [9, 10, 11] (fun i j _ => i = .int .i64 0 ∧ j = .int .i64 0) (fun _ _ _ => 0)
  case atStart => exact ⟨rfl, rfl⟩
  case round =>
    obtain ⟨rfl, rfl⟩ := hrel
    go_wp2
    go_ret2
    exact ⟨rfl, rfl⟩

set_option maxHeartbeats 400000 in
theorem get_nil (S : ByteArray) (w : World) : Calls Tryz.prog 43 #[.slice none 0 0, .string S] w fun e w' => e = .returned (.tuple #[.string ⟨#[]⟩, .bool false]) ∧ w' = w := by
  go_enter Tryz.func43, Tryz.ntmps43
  go_wp2_with (first
    | (go_at_call 75; go_in)
    | (go_at_call 113; refine (bsf_nil _ _ _).mono ?_; rintro e w' ⟨rfl, rfl⟩))
  go_ret2
  exact ⟨rfl, rfl⟩

/-- What is asked of files: whether a name is there. -/
def GetOk (has : Str → Bool) (w0 : World) (F : Value) : Prop := ∀ (s : Str) (w : World), Below w0.heap.size w0 w → s.length ≤ 140737488351232 →
  Calls Tryz.prog 43 #[F, .string (st s)] w fun e w' => (∃ d, e = .returned (.tuple #[.string d, .bool (has s)])) ∧ Below w.heap.size w w'
theorem getOk_nil (w0 : World) : GetOk (fun _ => false) w0 (.slice none 0 0) := fun s w _ _ => (get_nil _ w).mono (by
  rintro e w' ⟨rfl, rfl⟩
  exact ⟨⟨_, rfl⟩, Below.refl _ _⟩)

set_option maxHeartbeats 800000 in
theorem single_c (has : Str → Bool) (F : Value) (op s : Str) (w0 w : World) (hF : GetOk has w0 F) (hb : Below w0.heap.size w0 w) (hs : s.length ≤ 140737488351232) :
    Calls Tryz.prog 18 #[.string (st op), .string (st s), F] w fun e w' => e = .returned (.int .i64 (singleZ has op s)) ∧ Below w.heap.size w w' := by
  have e1 := st_beq op [45, 110]
  have e2 := st_beq op [45, 122]
  have e3 := st_beq op [45, 101]
  have es : (st s).toList.isEmpty = (s == []) := by rw [toList_B]; cases s <;> rfl
  have hg := hF s w hb hs
  have hz1 : (op == [45, 110]) = true → singleZ has op s = stZ (!(s == [])) := fun h => by unfold singleZ; rw [if_pos h]
  have hz2 : (op == [45, 110]) = false → (op == [45, 122]) = true → singleZ has op s = stZ (s == []) := fun h h2 => by unfold singleZ; rw [h, h2]; rfl
  have hz3 : (op == [45, 110]) = false → (op == [45, 122]) = false → (op == [45, 101]) = true → singleZ has op s = stZ (has s) := fun h h2 h3 => by unfold singleZ; rw [h, h2, h3]; rfl
  have hz4 : (op == [45, 110]) = false → (op == [45, 122]) = false → (op == [45, 101]) = false → singleZ has op s = 2 := fun h h2 h3 => by unfold singleZ; rw [h, h2, h3]; rfl
  generalize singleZ has op s = res at *
  generalize has s = hv at *
  have HG := Lib.hid hg
  have Z1 := Lib.hid hz1; have Z2 := Lib.hid hz2; have Z3 := Lib.hid hz3; have Z4 := Lib.hid hz4
  clear hg hF hb hz1 hz2 hz3 hz4
  cases h1 : op == [45, 110]
  · cases h2 : op == [45, 122]
    · cases h3 : op == [45, 101]
      · have HZ := Lib.hid (Z4.out h1 h2 h3)
        rw [h1] at e1; rw [h2] at e2; rw [h3] at e3
        clear h1 h2 h3 es HG
        generalize st op = O at *
        generalize st s = A at *
        go_enter Tryz.func18, Tryz.ntmps18
        go_wp2_with fail
        go_ret
        exact ⟨by rw [HZ.out]; rfl, Below.refl _ _⟩
      · have HZ := Lib.hid (Z3.out h1 h2 h3)
        rw [h1] at e1; rw [h2] at e2; rw [h3] at e3
        clear h1 h2 h3 es
        generalize st op = O at *
        generalize st s = A at *
        go_enter Tryz.func18, Tryz.ntmps18
        go_wp2_with (first
          | (go_at_call 43; refine HG.out.mono ?_; rintro e w1 ⟨⟨d, rfl⟩, hb1⟩; have HB := Lib.hid hb1; clear hb1)
          | (go_at_call 16; refine (status_c _ _).mono ?_; rintro e w5 ⟨rfl, rfl⟩))
        go_ret
        exact ⟨by rw [HZ.out]; rfl, HB.out⟩
    · have HZ := Lib.hid (Z2.out h1 h2)
      rw [h1] at e1; rw [h2] at e2
      clear h1 h2 e3 HG
      generalize hq : (s == []) = q at *
      clear hq
      generalize st op = O at *
      generalize st s = A at *
      cases q <;>
      (go_enter Tryz.func18, Tryz.ntmps18
       go_wp2_with (go_at_call 16; refine (status_c _ _).mono ?_; rintro e w5 ⟨rfl, rfl⟩)
       go_ret
       exact ⟨by rw [HZ.out]; rfl, Below.refl _ _⟩)
  · have HZ := Lib.hid (Z1.out h1)
    rw [h1] at e1
    clear h1 e2 e3 HG
    generalize hq : (s == []) = q at *
    clear hq
    generalize st op = O at *
    generalize st s = A at *
    cases q <;>
    (go_enter Tryz.func18, Tryz.ntmps18
     go_wp2_with (go_at_call 16; refine (status_c _ _).mono ?_; rintro e w5 ⟨rfl, rfl⟩)
     go_ret
     exact ⟨by rw [HZ.out]; rfl, Below.refl _ _⟩)

/-- A slice that lies in old memory reads as these texts, in every world that keeps what was there. -/
structure IsL (w0 : World) (A : Option Addr) (xs : List Str) : Prop where
  cell : ∀ j (h : j < xs.length), ∃ b o, A = some ⟨b, o, none⟩ ∧ b < w0.heap.size ∧ w0.cell? ⟨b, o + j, none⟩ = some (.string (st xs[j]))
  short : ∀ j (h : j < xs.length), xs[j].length ≤ 140737488351232
theorem IsL.keep {w0 w : World} {A : Option Addr} {xs : List Str} (h : IsL w0 A xs) (hb : Below w0.heap.size w0 w) : IsL w A xs :=
  ⟨fun j hj => by
    obtain ⟨b, o, e, hlt, hc⟩ := h.cell j hj
    exact ⟨b, o, e, Nat.lt_of_lt_of_le hlt hb.size, (hb.cell (p := ⟨b, _, none⟩) hlt).trans hc⟩, h.short⟩
theorem IsL.tail {w0 : World} {b o : Nat} {x : Str} {xs : List Str} (h : IsL w0 (some ⟨b, o, none⟩) (x :: xs)) : IsL w0 (some ⟨b, o + 1, none⟩) xs :=
  ⟨fun j hj => by
    obtain ⟨b1, o1, e, hlt, hc⟩ := h.cell (j + 1) (by simp; omega)
    obtain ⟨rfl, rfl⟩ : b = b1 ∧ o = o1 := by simpa using e
    exact ⟨_, _, rfl, hlt, by rw [show o + 1 + j = o + (j + 1) by omega]; exact hc⟩, fun j hj => h.short (j + 1) (by simp; omega)⟩
theorem IsL.head {w0 : World} {A : Option Addr} {x : Str} {xs : List Str} (h : IsL w0 A (x :: xs)) : ∃ b o, A = some ⟨b, o, none⟩ ∧ b < w0.heap.size ∧ w0.cell? ⟨b, o, none⟩ = some (.string (st x)) := by
  obtain ⟨b, o, e, hlt, hc⟩ := h.cell 0 (by simp)
  exact ⟨b, o, e, hlt, hc⟩
theorem IsL.nil (w0 : World) (A : Option Addr) : IsL w0 A [] := ⟨fun j h => absurd h (by simp), fun j h => absurd h (by simp)⟩
end Go.Proofs.YtcpafdcghlpabaaGreatDoor.Bu
