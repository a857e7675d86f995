/-
The walks of arith's bit, times, two: what is made of two numbers.
-/
import Derived.Test.YtmkajangkibgeaaDoorArithNum
set_option linter.unusedVariables false
set_option linter.unusedSimpArgs false
namespace Go.Proofs.YtmkajangkibgeaaDoor.Ar
open Go.RowKit Go.Shelf

theorem wrap_wr (n : Int) : wrap64 n = wr n := by unfold wrap64 wr; rfl

set_option maxHeartbeats 400000 in
theorem bit_c (b : Bool) (w : World) : Calls Tryd.prog 28 #[.bool b] w fun e w' => e = .returned (.tuple #[.int .i64 (bitZ b), .bool true]) ∧ w' = w := by
  cases b <;>
    (go_enter Tryd.func28, Tryd.ntmps28
     go_wp2
     go_ret2
     exact ⟨rfl, rfl⟩)

set_option maxHeartbeats 1000000 in
theorem times_c (a b : Int) (w : World) (ha : In64 a) (hb : In64 b) : Calls Tryd.prog 45 #[.int .i64 a, .int .i64 b] w fun e w' => e = .returned (.tuple #[.int .i64 (timesZ a b).1, .bool (timesZ a b).2]) ∧ ∃ n, w' = w.drewN n := by
  have hz : timesZ a b = timesZ a b := rfl
  conv at hz => rhs; unfold timesZ
  have HZ := Lib.hid hz; clear hz
  by_cases h1 : a = 0
  · subst h1
    have hq : timesZ 0 b = (0, true) := by simp [timesZ]
    have HQ := Lib.hid hq; clear hq HZ
    go_enter Tryd.func45, Tryd.ntmps45
    go_wp2
    go_ret2
    exact ⟨by rw [HQ.out]; rfl, 0, rfl⟩
  · by_cases h2 : b = 0
    · subst h2
      have hq : timesZ a 0 = (0, true) := by simp [timesZ]
      have HQ := Lib.hid hq; clear hq HZ
      have e1 : (a == 0) = false := beq_eq_false_iff_ne.2 h1
      go_enter Tryd.func45, Tryd.ntmps45
      go_wp2
      go_ret2
      exact ⟨by rw [HQ.out]; rfl, 0, rfl⟩
    · have e1 : (a == 0) = false := beq_eq_false_iff_ne.2 h1
      have e2 : (b == 0) = false := beq_eq_false_iff_ne.2 h2
      have h12 : ¬ (a = 0 ∨ b = 0) := by omega
      by_cases h3 : (a = -9223372036854775808 ∧ b = -1)
      · obtain ⟨rfl, rfl⟩ := h3
        go_enter Tryd.func45, Tryd.ntmps45
        go_wp2
        go_ret2
        exact ⟨rfl, 0, rfl⟩
      · by_cases h4 : (b = -9223372036854775808 ∧ a = -1)
        · obtain ⟨rfl, rfl⟩ := h4
          go_enter Tryd.func45, Tryd.ntmps45
          go_wp2
          go_ret2
          exact ⟨rfl, 0, rfl⟩
        · have h5 : ¬ ((a = -9223372036854775808 ∧ b = -1) ∨ (b = -9223372036854775808 ∧ a = -1)) := by
            rintro (h | h)
            · exact h3 h
            · exact h4 h
          have hq : timesZ a b = (wr (a * b), decide (wr ((wr (a * b)).tdiv b) = a)) := by rw [HZ.out, if_neg h12, if_neg h5]
          have HQ := Lib.hid hq; clear hq HZ h5
          have hm : b ≠ 0 := h2
          clear h1 h2 h12
          cases f6 : (a == -9223372036854775808) <;> cases f7 : (b == -1) <;> cases f8 : (b == -9223372036854775808) <;> cases f9 : (a == -1) <;> first
            | (exfalso; simp only [beq_iff_eq, beq_eq_false_iff_ne, ne_eq] at f6 f7 f8 f9; omega)
            | (clear h3 h4
               go_enter Tryd.func45, Tryd.ntmps45
               go_wp2
               go_quiet (fail)
               go_wp2
               go_ret2
               exact ⟨by rw [HQ.out]; simp only [wrap_wr]; rfl, _, rfl⟩)
end Go.Proofs.YtmkajangkibgeaaDoor.Ar
