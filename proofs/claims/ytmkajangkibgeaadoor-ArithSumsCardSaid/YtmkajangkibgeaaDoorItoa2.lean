/-
The walk of Itoa; a number's digits read as the number.
-/
import Derived.Test.YtmkajangkibgeaaDoorItoa
set_option linter.unusedVariables false
set_option linter.unusedSimpArgs false
namespace Go.Proofs.YtmkajangkibgeaaDoor.Ar
open Go.RowKit Go.Shelf

def itoaZ (n : Int) : Str := if n < 0 then 45 :: decF 20 n.natAbs else decF 20 n.natAbs
theorem itoaZ_len (n : Int) : (itoaZ n).length ≤ 22 := by
  have := (decF_all 20 n.natAbs).2.2.1
  unfold itoaZ
  split <;> simp <;> omega
theorem num_itoa (n : Int) (h1 : -9223372036854775808 ≤ n) (h2 : n ≤ 9223372036854775807) : numZ (itoaZ n) = some n := by
  obtain ⟨ha, hb, _, hd⟩ := decF_all 20 n.natAbs
  have hv := hd (by omega)
  unfold itoaZ
  generalize decF 20 n.natAbs = L at *
  split
  · unfold numZ
    simp only [if_true]
    rw [if_pos ⟨hb, ha, by omega⟩, hv]
    congr 1; omega
  · cases L with
    | nil => exact absurd rfl hb
    | cons c r =>
      have hc : c ≠ 45 := by
        rintro rfl
        simp [digit] at ha
      unfold numZ
      simp only
      rw [if_neg hc, if_pos ⟨ha, by omega⟩, hv]
      congr 1; omega

theorem wf64 {n : Int} (h : (Lit.int .i64 n).wf = true) : -9223372036854775808 ≤ n ∧ n ≤ 9223372036854775807 := by
  simp only [Lit.wf, Bool.and_eq_true, decide_eq_true_eq] at h
  exact h

set_option maxHeartbeats 1600000 in
set_option maxRecDepth 100000 in
theorem itoa_c (n : Int) (h1 : -9223372036854775808 ≤ n) (h2 : n ≤ 9223372036854775807) (w : World) :
    Calls Tryd.prog 12 #[.int .i64 n] w fun e w' => e = .returned (.string (st (itoaZ n))) ∧ Below w.heap.size w w' := by
  have hd : ∀ (z : Int) (w : World), z = (n.natAbs : Int) → Calls Tryd.prog 23 #[.int .u64 z] w fun e w' => e = .returned (.string (st (decF 20 n.natAbs))) ∧ Below w.heap.size w w' := fun z w hz => by
    rw [hz]
    exact dec_c 20 (by omega) n.natAbs w (by omega) (by omega)
  have hlen := (decF_all 20 n.natAbs).2.2.1
  by_cases h0 : n < 0
  · have hi : itoaZ n = 45 :: decF 20 n.natAbs := by unfold itoaZ; rw [if_pos h0]
    rw [hi]
    have HA : Hid (n.natAbs = -n) := Lib.hid (by omega)
    generalize decF 20 n.natAbs = L at *
    have hlen2 : ¬ (9223372036854775807 < L.length + 1) := by omega
    have hlen3 : ¬ (9223372036854775807 < 1 + L.length) := by omega
    have HD := Lib.hid hd; clear hd hi
    go_enter Tryd.func12, Tryd.ntmps12
    go_wp2_with (go_at_call 23; refine (HD.out _ _ (by have := HA.out; omega)).mono ?_; rintro e w1 ⟨rfl, hb1⟩; have HB1 := Lib.hid hb1; clear hb1)
    go_ret
    exact ⟨rfl, HB1.out⟩
  · have hi : itoaZ n = decF 20 n.natAbs := by unfold itoaZ; rw [if_neg h0]
    rw [hi]
    have HA : Hid (n.natAbs = n) := Lib.hid (by omega)
    generalize decF 20 n.natAbs = L at *
    have HD := Lib.hid hd; clear hd hi
    go_enter Tryd.func12, Tryd.ntmps12
    go_wp2_with (go_at_call 23; refine (HD.out _ _ (by have := HA.out; omega)).mono ?_; rintro e w1 ⟨rfl, hb1⟩; have HB1 := Lib.hid hb1; clear hb1)
    go_ret
    exact ⟨rfl, HB1.out⟩
end Go.Proofs.YtmkajangkibgeaaDoor.Ar
