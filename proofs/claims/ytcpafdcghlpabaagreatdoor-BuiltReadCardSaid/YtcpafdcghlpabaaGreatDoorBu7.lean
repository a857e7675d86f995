/-
The walks of known and of the law that a test turned round is the other one.
-/
import Derived.Test.YtcpafdcghlpabaaGreatDoorBu6
import Derived.Laws.AppendOwn
import Derived.OwnWalk
import Derived.Deep.AppendSrc
set_option linter.unusedVariables false
set_option linter.unusedSimpArgs false
namespace Go.Proofs.YtcpafdcghlpabaaGreatDoor.Bu
open Go.RowKit Go.Shelf Go.Proofs.YtcpafdcghlpabaaGreatDoor.Ar

def argvK : List Str := [[91], [51], [45, 108, 116], [49, 50], [93]]
theorem bracket_known : bracketZ (fun _ => false) [[51], [45, 108, 116], [49, 50], [93]] = 0 := by decide +kernel
/-- Texts in a block of one's own, as arguments. -/
theorem isL_own (w : World) (ws : List Str) (T : TypeId) (hs : ∀ x ∈ ws, x.length ≤ 140737488351232) : IsL (w.alloc (.cells (ws.map fun l => Value.string (st l)).toArray T)) (some ⟨w.heap.size, 0, none⟩) ws :=
  ⟨fun j hj => ⟨_, _, rfl, blk_lt (blk_new w _), by
    rw [Nat.zero_add, blk_cell (blk_new w _) j]
    simp [hj]⟩, fun j hj => hs _ (List.getElem_mem hj)⟩

set_option maxHeartbeats 3200000 in
set_option maxRecDepth 100000 in
theorem known_c (w0 w : World) (hG : Gb w0) (hb : Below w0.heap.size w0 w) : Calls Tryz.prog 8 #[] w fun e w' => e = .returned (.bool true) ∧ Below w.heap.size w w' := by
  have hal : Below w.heap.size w (w.alloc (.cells (argvK.map fun l => Value.string (st l)).toArray 9)) := (Below.refl _ _).alloc (Nat.le_refl _) _
  have hGw := hG.mono hb
  have hr := run_bracket (fun _ => false) zeroS [[51], [45, 108, 116], [49, 50], [93]] _ 4 5 _ _ (hGw.mono hal) (getOk_nil _) (isL_own w argvK 9 (by decide)) (Below.refl _ _) rfl (by decide) (by decide)
  rw [bracket_known] at hr
  have hi1 := fun w1 h => is_c [91] w w1 hGw h
  have hi2 := fun w1 h => is_c [93] w w1 hGw h
  rw [show owns.contains [91] = true by decide +kernel] at hi1
  rw [show owns.contains [93] = false by decide +kernel] at hi2
  have HR := Lib.hid hr; have HAL := Lib.hid hal; have HI1 := Lib.hid hi1; have HI2 := Lib.hid hi2
  clear hr hal hi1 hi2 hG hb hGw
  go_enter Tryz.func8, Tryz.ntmps8
  have tok0 : True := trivial
  go_wp2_with (first
    | (go_at_call 9; refine HR.out.mono ?_; rintro e w1 ⟨rfl, hb1⟩; have HB1 := Lib.hid (HAL.out.trans (hb1.mono HAL.out.size)); clear hb1)
    | (refine wpList_store_row rfl 39 _ _ rfl w1.heap.size _ rfl rfl 39 _ (blk_new w1 _) sta_size rfl (sta_one zeroS) ?_; generalize hW : World.setRow _ _ _ = W; have hs : IsSt W w1.heap.size zeroS := (by rw [← hW]; exact IsSt.row (s := zeroS) (blk_new w1 _) _ rfl); have HBs : Hid (Below w.heap.size w W) := (by rw [← hW]; exact below_setRow (HB1.out.alloc HB1.out.size _) HB1.out.size _); clear hW; have k4 := hs.cells.2.2.2.2.1; clear hs)
    | (go_at_call 14; have _t := tok0; clear tok0; refine (HI1.out _ HBs.out).mono ?_; rintro e w2 ⟨rfl, hb2⟩; have HB2 := Lib.hid (HBs.out.trans (hb2.mono HBs.out.size)); clear hb2)
    | (go_at_call 14; refine (HI2.out _ HB2.out).mono ?_; rintro e w3 ⟨rfl, hb3⟩; have HB3 := Lib.hid (HB2.out.trans (hb3.mono HB2.out.size)); clear hb3))
  go_ret
  exact ⟨rfl, HB3.out⟩
end Go.Proofs.YtcpafdcghlpabaaGreatDoor.Bu
