/-
The walks of known and of the first law.
-/
import Derived.Test.YtmkajangkibgeaaDoorArithTop
import Derived.Test.YtmkajangkibgeaaDoorRunes
set_option linter.unusedVariables false
set_option linter.unusedSimpArgs false
namespace Go.Proofs.YtmkajangkibgeaaDoor.Ar
open Go.RowKit Go.Shelf

theorem Gl.mono {w0 w : World} (h : Gl w0) (hb : Below w0.heap.size w0 w) : Gl w :=
  ⟨h.syn' hb, h.rng' hb, h.tabs' hb, ⟨Nat.lt_of_lt_of_le h.size.1 hb.size, Nat.lt_of_lt_of_le h.size.2.1 hb.size, Nat.lt_of_lt_of_le h.size.2.2.1 hb.size, Nat.lt_of_lt_of_le h.size.2.2.2 hb.size⟩⟩

def sKnown : Str := [49, 32, 43, 32, 50, 32, 42, 32, 120]
theorem eval_known : EvalI 76 sKnown [⟨[120], [53]⟩] = (11, 0) := by decide +kernel
theorem num_known : numZ [45, 49, 50] = some (-12) := by decide +kernel

/-- One variable in memory of one's own. -/
theorem isV_one (w : World) (T : TypeId) (a b : Str) (hb : b.length ≤ 1000) : IsV (w.alloc (.cells #[.string (st a), .string (st b)] T)) (some ⟨w.heap.size, 0, none⟩) [⟨a, b⟩] := by
  refine ⟨by simp, fun j hj => ?_, fun j hj => ?_⟩
  · obtain rfl : j = 0 := by simpa using hj
    refine ⟨_, _, rfl, blk_lt (blk_new w _), ?_, ?_⟩
    · exact (blk_cell (blk_new w _) 0).trans rfl
    · exact (blk_cell (blk_new w _) 1).trans rfl
  · obtain rfl : j = 0 := by simpa using hj
    show b.length ≤ _
    omega

set_option maxHeartbeats 1600000 in
set_option maxRecDepth 100000 in
theorem known_c (w0 w : World) (hG : Gl w0) (hb : Below w0.heap.size w0 w) : Calls Tryd.prog 9 #[] w fun e w' => e = .returned (.bool true) ∧ Below w.heap.size w w' := by
  have hGw := hG.mono hb
  have hal : Below w.heap.size w (w.alloc (.cells #[.string (st [120]), .string (st [53])] 35)) := (Below.refl _ _).alloc (Nat.le_refl _) _
  have ce := evalTop_c 76 sKnown [⟨[120], [53]⟩] (some ⟨w.heap.size, 0, none⟩) 1 _ _ (hGw.mono hal) (isV_one w 35 [120] [53] (by decide)) (Below.refl _ _) (by decide) (by decide)
  rw [eval_known] at ce
  have cn : ∀ w1, Below w.heap.size w w1 → Calls Tryd.prog 10 #[.string (st [45, 49, 50])] w1 fun e w' => e = .returned (.tuple #[.int .i64 (-12), .bool true]) ∧ Below w1.heap.size w1 w' := fun w1 h1 =>
    (num_c [45, 49, 50] w w1 hGw h1 (by decide)).mono (by
      rintro e w' ⟨⟨v, rfl, hv⟩, h⟩
      rw [num_known] at hv ⊢
      exact ⟨by rw [hv]; rfl, h⟩)
  have CE := Lib.hid ce; have CN := Lib.hid cn; have HAL := Lib.hid hal
  clear ce cn hal hG hb hGw
  go_enter Tryd.func9, Tryd.ntmps9
  go_wp2_with (first
    | (go_at_call 7; refine CE.out.mono ?_; rintro e w1 ⟨rfl, hb1⟩; have HB1 := Lib.hid (HAL.out.trans (hb1.mono HAL.out.size)); clear hb1)
    | (go_at_call 10; refine (CN.out _ HB1.out).mono ?_; rintro e w2 ⟨rfl, hb2⟩; have HB2 := Lib.hid (HB1.out.trans (hb2.mono HB1.out.size)); clear hb2))
  go_ret
  exact ⟨rfl, HB2.out⟩
end Go.Proofs.YtmkajangkibgeaaDoor.Ar
