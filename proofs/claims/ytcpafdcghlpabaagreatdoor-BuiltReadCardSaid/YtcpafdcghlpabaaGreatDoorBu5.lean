/-
A machine's state by value; the walks of built.bracket, of built.Run at a bracket, and of known.
-/
import Derived.Test.YtcpafdcghlpabaaGreatDoorBu4
set_option linter.unusedVariables false
set_option linter.unusedSimpArgs false
namespace Go.Proofs.YtcpafdcghlpabaaGreatDoor.Bu
open Go.RowKit Go.Shelf Go.Proofs.YtcpafdcghlpabaaGreatDoor.Ar

theorem bcell {W w1 : World} (hb : Below W.heap.size W w1) : (∀ b o, b < W.heap.size → w1.cell? ⟨b, o, none⟩ = W.cell? ⟨b, o, none⟩) ∧ (∀ b o, b < W.heap.size → w1.frozen? ⟨b, o, none⟩ = W.frozen? ⟨b, o, none⟩) :=
  ⟨fun b o h => hb.cell (p := ⟨b, o, none⟩) h, fun b o h => hb.frozen (p := ⟨b, o, none⟩) h⟩

/-- A slice. -/
structure Sli where
  a : Option Addr
  n : Nat
  c : Nat
@[reducible] def Sli.v (x : Sli) : Value := .slice x.a x.n x.c
def nilS : Sli := ⟨none, 0, 0⟩

/-- A machine's cells. -/
structure Sta where
  vars : Sli
  args : Sli
  funs : Sli
  files : Sli
  status : Int
  out : ByteArray
  ind : ByteArray
  inat : Int
  tok : Int
  ton : ByteArray
  toat : Int
  pipe : ByteArray
  frames : Sli
  now : Int
  calls : Int
  over : Bool
  ask : Bool
  cn : Int
  cargv : Sli
  cvars : Sli
  cin : ByteArray
@[reducible] def Sta.val (s : Sta) : Value := .agg #[.slice s.vars.a s.vars.n s.vars.c, .slice s.args.a s.args.n s.args.c, .slice s.funs.a s.funs.n s.funs.c, .slice s.files.a s.files.n s.files.c, .int .i64 s.status, .string s.out, .string s.ind, .int .i64 s.inat, .int .i64 s.tok, .string s.ton, .int .i64 s.toat, .string s.pipe, .slice s.frames.a s.frames.n s.frames.c, .int .i64 s.now, .int .i64 s.calls, .bool s.over, .bool s.ask, .int .i64 s.cn, .slice s.cargv.a s.cargv.n s.cargv.c, .slice s.cvars.a s.cvars.n s.cvars.c, .string s.cin]
def zeroS : Sta := ⟨⟨none, 0, 0⟩, ⟨none, 0, 0⟩, ⟨none, 0, 0⟩, ⟨none, 0, 0⟩, 0, ⟨#[]⟩, ⟨#[]⟩, 0, 0, ⟨#[]⟩, 0, ⟨#[]⟩, ⟨none, 0, 0⟩, 0, 0, false, false, 0, ⟨none, 0, 0⟩, ⟨none, 0, 0⟩, ⟨#[]⟩⟩

/-- A machine's cells lie at block g. -/
def IsSt (w : World) (g : Nat) (s : Sta) : Prop := w.heap[g]? = some (.cells #[.slice s.vars.a s.vars.n s.vars.c, .slice s.args.a s.args.n s.args.c, .slice s.funs.a s.funs.n s.funs.c, .slice s.files.a s.files.n s.files.c, .int .i64 s.status, .string s.out, .string s.ind, .int .i64 s.inat, .int .i64 s.tok, .string s.ton, .int .i64 s.toat, .string s.pipe, .slice s.frames.a s.frames.n s.frames.c, .int .i64 s.now, .int .i64 s.calls, .bool s.over, .bool s.ask, .int .i64 s.cn, .slice s.cargv.a s.cargv.n s.cargv.c, .slice s.cvars.a s.cvars.n s.cvars.c, .string s.cin] 39 (0, 0))
theorem IsSt.cells {w : World} {g : Nat} {s : Sta} (h : IsSt w g s) : w.cell? ⟨g, 0, none⟩ = some (.slice s.vars.a s.vars.n s.vars.c) ∧ w.cell? ⟨g, 1, none⟩ = some (.slice s.args.a s.args.n s.args.c) ∧ w.cell? ⟨g, 2, none⟩ = some (.slice s.funs.a s.funs.n s.funs.c) ∧ w.cell? ⟨g, 3, none⟩ = some (.slice s.files.a s.files.n s.files.c) ∧ w.cell? ⟨g, 4, none⟩ = some (.int .i64 s.status) ∧ w.cell? ⟨g, 5, none⟩ = some (.string s.out) ∧ w.cell? ⟨g, 6, none⟩ = some (.string s.ind) ∧ w.cell? ⟨g, 7, none⟩ = some (.int .i64 s.inat) ∧ w.cell? ⟨g, 8, none⟩ = some (.int .i64 s.tok) ∧ w.cell? ⟨g, 9, none⟩ = some (.string s.ton) ∧ w.cell? ⟨g, 10, none⟩ = some (.int .i64 s.toat) ∧ w.cell? ⟨g, 11, none⟩ = some (.string s.pipe) ∧ w.cell? ⟨g, 12, none⟩ = some (.slice s.frames.a s.frames.n s.frames.c) ∧ w.cell? ⟨g, 13, none⟩ = some (.int .i64 s.now) ∧ w.cell? ⟨g, 14, none⟩ = some (.int .i64 s.calls) ∧ w.cell? ⟨g, 15, none⟩ = some (.bool s.over) ∧ w.cell? ⟨g, 16, none⟩ = some (.bool s.ask) ∧ w.cell? ⟨g, 17, none⟩ = some (.int .i64 s.cn) ∧ w.cell? ⟨g, 18, none⟩ = some (.slice s.cargv.a s.cargv.n s.cargv.c) ∧ w.cell? ⟨g, 19, none⟩ = some (.slice s.cvars.a s.cvars.n s.cvars.c) ∧ w.cell? ⟨g, 20, none⟩ = some (.string s.cin) :=
  ⟨(blk_cell h 0).trans rfl, (blk_cell h 1).trans rfl, (blk_cell h 2).trans rfl, (blk_cell h 3).trans rfl, (blk_cell h 4).trans rfl, (blk_cell h 5).trans rfl, (blk_cell h 6).trans rfl, (blk_cell h 7).trans rfl, (blk_cell h 8).trans rfl, (blk_cell h 9).trans rfl, (blk_cell h 10).trans rfl, (blk_cell h 11).trans rfl, (blk_cell h 12).trans rfl, (blk_cell h 13).trans rfl, (blk_cell h 14).trans rfl, (blk_cell h 15).trans rfl, (blk_cell h 16).trans rfl, (blk_cell h 17).trans rfl, (blk_cell h 18).trans rfl, (blk_cell h 19).trans rfl, (blk_cell h 20).trans rfl⟩
theorem IsSt.f {w : World} {g : Nat} {s : Sta} (h : IsSt w g s) (i : Nat) : w.frozen? ⟨g, i, none⟩ = false := blk_frozen h i
theorem IsSt.keep {w w' : World} {g : Nat} {s : Sta} (h : IsSt w g s) (k : Below w.heap.size w w') : IsSt w' g s := (k.block g (blk_lt h)).trans h
theorem IsSt.lt {w : World} {g : Nat} {s : Sta} (h : IsSt w g s) : g < w.heap.size := blk_lt h
theorem IsSt.setStatus {w : World} {g : Nat} {s : Sta} (h : IsSt w g s) (x : Int) : IsSt (w.setCell ⟨g, 4, none⟩ (.int .i64 x)) g { s with status := x } := (blk_set h 4 _).trans rfl

def bracketZ (has : Str → Bool) (l : List Str) : Int := if l.getLast? = some [93] then testZ has l.dropLast else 2

theorem IsL.init {w0 : World} {A : Option Addr} {xs : List Str} (h : IsL w0 A xs) : IsL w0 A xs.dropLast :=
  ⟨fun j hj => by
    have hj' : j < xs.length := by simp at hj; omega
    obtain ⟨b, o, e, hlt, hc⟩ := h.cell j hj'
    exact ⟨b, o, e, hlt, by rw [List.getElem_dropLast]; exact hc⟩, fun j hj => by
    have hj' : j < xs.length := by simp at hj; omega
    rw [List.getElem_dropLast]; exact h.short j hj'⟩

set_option maxHeartbeats 1600000 in
set_option maxRecDepth 100000 in
theorem bracket_c (has : Str → Bool) (F : Value) (xs : List Str) (A : Option Addr) (c : Nat) (w0 w : World) (hG : Gb w0) (hF : GetOk has w0 F) (hL : IsL w0 A xs) (hb : Below w0.heap.size w0 w) (hc : xs.length ≤ c) (hbig : xs.length ≤ 1000000) :
    Calls Tryz.prog 23 #[.slice A xs.length c, F] w fun e w' => e = .returned (.int .i64 (bracketZ has xs)) ∧ Below w.heap.size w w' := by
  rcases (show xs = [] ∨ ∃ ys y, xs = ys ++ [y] by rcases List.eq_nil_or_concat xs with h | ⟨l, b, h⟩; exact .inl h; exact .inr ⟨l, b, by simpa using h⟩) with rfl | ⟨ys, y, rfl⟩
  · go_enter Tryz.func23, Tryz.ntmps23
    go_wp2_with fail
    go_ret
    exact ⟨rfl, Below.refl _ _⟩
  · have hz : bracketZ has (ys ++ [y]) = if y = [93] then testZ has ys else 2 := by unfold bracketZ; simp
    obtain ⟨b, o, rfl, hlt, hcell0⟩ := hL.cell 0 (by simp)
    clear hcell0
    have c0 : w.cell? ⟨b, o + ys.length, none⟩ = some (.string (st y)) := by
      have := hL.read hb ys.length (by simp)
      simpa using this
    have hL2 : IsL w0 (some ⟨b, o, none⟩) ys := by have := hL.init; simpa using this
    have ht := test_c has F w0 hG hF ys.length ys (some ⟨b, o, none⟩) c w (Nat.le_refl _) (by simp at hc; omega) hL2 hb
    have e1 := st_beq y [93]
    rw [hz]
    have hn : (ys ++ [y]).length = ys.length + 1 := by simp
    rw [hn] at hc hbig ⊢
    clear hn
    generalize ys.length = n at *
    have en : ((n + 1 : Nat) : Int) - 1 = n := by omega
    have hn0 : (0 : Int) ≤ n := by omega
    cases h1 : y == [93]
    · have hz2 : (if y = [93] then testZ has ys else 2) = 2 := if_neg (by simpa using h1)
      rw [hz2]
      rw [h1] at e1
      clear hz hz2 h1 ht hL hL2 hG hF hb
      generalize st y = Y at *
      go_enter Tryz.func23, Tryz.ntmps23
      go_wp2_with fail
      go_ret
      exact ⟨rfl, Below.refl _ _⟩
    · have hz2 : (if y = [93] then testZ has ys else 2) = testZ has ys := if_pos (by simpa using h1)
      rw [hz2]
      rw [h1] at e1
      have HT := Lib.hid ht
      clear hz hz2 h1 ht hL hL2 hG hF hb
      generalize st y = Y at *
      generalize testZ has ys = r at *
      go_enter Tryz.func23, Tryz.ntmps23
      go_wp2_with (go_at_call 7; refine HT.out.mono ?_; rintro e w1 ⟨rfl, hb1⟩; have HB1 := Lib.hid hb1; clear hb1)
      go_ret
      exact ⟨rfl, HB1.out⟩
end Go.Proofs.YtcpafdcghlpabaaGreatDoor.Bu
