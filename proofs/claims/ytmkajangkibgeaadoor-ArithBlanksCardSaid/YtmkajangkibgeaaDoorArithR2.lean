/-
The walks of the reference's reckoner, second part: add, sub, mul, div.
-/
import Derived.Test.YtmkajangkibgeaaDoorArithR
set_option linter.unusedVariables false
set_option linter.unusedSimpArgs false
namespace Go.Proofs.YtmkajangkibgeaaDoor.Ar
open Go.RowKit Go.Shelf

set_option maxHeartbeats 400000 in
theorem yes_c (b : Bool) (w : World) : Calls Tryd.prog 32 #[.bool b] w fun e w' => e = .returned (.int .i64 (bitZ b)) ∧ w' = w := by
  cases b <;>
    (go_enter Tryd.func32, Tryd.ntmps32
     go_wp2
     go_ret
     exact ⟨rfl, rfl⟩)

section
variable (g : Nat) (S : ByteArray) (A : Option Addr) (m c : Nat) (r : RS) (w : World)

set_option maxHeartbeats 1600000 in
set_option maxRecDepth 100000 in
theorem addR_c (a b : Int) (h : IsR w g S A m c r) (ha : In64 a) (hb : In64 b) :
    Calls Tryd.prog 47 #[ptr g, .int .i64 a, .int .i64 b] w fun e w' => e = .returned (.int .i64 (addR a b r).1) ∧ IsR w' g S A m c (addR a b r).2 ∧ But w w' g := by
  obtain ⟨mm, hmm⟩ : ∃ mm, mm = (r.math || (decide (0 < b) && decide (9223372036854775807 - b < a)) || (decide (b < 0) && decide (a < -9223372036854775808 - b))) := ⟨_, rfl⟩
  have hex : addR a b r = (wr (a + b), { r with math := mm }) := by rw [hmm]; rfl
  rw [hex, ← wrap_wr]
  clear hex
  unfold In64 at ha hb
  obtain ⟨ha1, ha2⟩ := ha
  obtain ⟨hb1, hb2⟩ := hb
  have k4 := h.c4
  have kf := h.f 4
  have H := Lib.hid h; clear h
  cases hrm : r.math
  · rw [hrm] at k4 hmm
    have HM := Lib.hid hmm; clear hmm hrm
    by_cases h1 : 0 < b
    · by_cases h2 : 9223372036854775807 - b < a
      all_goals
        go_enter Tryd.func47, Tryd.ntmps47
        go_wp2
        go_ret
        refine ⟨by first | rfl | exact ret_int (a := a + b) (by unfold wrap64; omega), ?_, (But.refl _ _).set _ _⟩
        have hm := HM.out
        rw [Bool.eq_iff_iff] at hm
        first
        | (have e : mm = true := by rw [hm]; simp <;> omega
           rw [e]; exact H.out.set4 true)
        | (have e : mm = false := by rw [Bool.eq_false_iff]; intro h9; rw [hm] at h9; simp at h9 <;> omega
           rw [e]; exact H.out.set4 false)
    · by_cases h0 : b < 0
      · by_cases h2 : a < -9223372036854775808 - b
        all_goals
          go_enter Tryd.func47, Tryd.ntmps47
          go_wp2
          go_ret
          refine ⟨by first | rfl | exact ret_int (a := a + b) (by unfold wrap64; omega), ?_, (But.refl _ _).set _ _⟩
          have hm := HM.out
          rw [Bool.eq_iff_iff] at hm
          first
          | (have e : mm = true := by rw [hm]; simp <;> omega
             rw [e]; exact H.out.set4 true)
          | (have e : mm = false := by rw [Bool.eq_false_iff]; intro h9; rw [hm] at h9; simp at h9 <;> omega
             rw [e]; exact H.out.set4 false)
      · go_enter Tryd.func47, Tryd.ntmps47
        go_wp2
        go_ret
        refine ⟨by first | rfl | exact ret_int (a := a + b) (by unfold wrap64; omega), ?_, (But.refl _ _).set _ _⟩
        have hm := HM.out
        rw [Bool.eq_iff_iff] at hm
        first
        | (have e : mm = true := by rw [hm]; simp <;> omega
           rw [e]; exact H.out.set4 true)
        | (have e : mm = false := by rw [Bool.eq_false_iff]; intro h9; rw [hm] at h9; simp at h9 <;> omega
           rw [e]; exact H.out.set4 false)
  · rw [hrm] at k4 hmm
    have HM := Lib.hid hmm; clear hmm hrm
    go_enter Tryd.func47, Tryd.ntmps47
    go_wp2
    go_ret
    refine ⟨by first | rfl | exact ret_int (a := a + b) (by unfold wrap64; omega), ?_, (But.refl _ _).set _ _⟩
    have hm := HM.out
    rw [Bool.eq_iff_iff] at hm
    first
    | (have e : mm = true := by rw [hm]; simp <;> omega
       rw [e]; exact H.out.set4 true)
    | (have e : mm = false := by rw [Bool.eq_false_iff]; intro h9; rw [hm] at h9; simp at h9 <;> omega
       rw [e]; exact H.out.set4 false)

set_option maxHeartbeats 1600000 in
set_option maxRecDepth 100000 in
theorem subR_c (a b : Int) (h : IsR w g S A m c r) (ha : In64 a) (hb : In64 b) :
    Calls Tryd.prog 48 #[ptr g, .int .i64 a, .int .i64 b] w fun e w' => e = .returned (.int .i64 (subR a b r).1) ∧ IsR w' g S A m c (subR a b r).2 ∧ But w w' g := by
  obtain ⟨mm, hmm⟩ : ∃ mm, mm = (r.math || (decide (b < 0) && decide (9223372036854775807 + b < a)) || (decide (0 < b) && decide (a < -9223372036854775808 + b))) := ⟨_, rfl⟩
  have hex : subR a b r = (wr (a - b), { r with math := mm }) := by rw [hmm]; rfl
  rw [hex, ← wrap_wr]
  clear hex
  unfold In64 at ha hb
  obtain ⟨ha1, ha2⟩ := ha
  obtain ⟨hb1, hb2⟩ := hb
  have k4 := h.c4
  have kf := h.f 4
  have H := Lib.hid h; clear h
  cases hrm : r.math
  · rw [hrm] at k4 hmm
    have HM := Lib.hid hmm; clear hmm hrm
    by_cases h1 : 0 < b
    · by_cases h2 : a < -9223372036854775808 + b
      all_goals
        go_enter Tryd.func48, Tryd.ntmps48
        go_wp2
        go_ret
        refine ⟨by first | rfl | exact ret_int (a := a - b) (by unfold wrap64; omega), ?_, (But.refl _ _).set _ _⟩
        have hm := HM.out
        rw [Bool.eq_iff_iff] at hm
        first
        | (have e : mm = true := by rw [hm]; simp <;> omega
           rw [e]; exact H.out.set4 true)
        | (have e : mm = false := by rw [Bool.eq_false_iff]; intro h9; rw [hm] at h9; simp at h9 <;> omega
           rw [e]; exact H.out.set4 false)
    · by_cases h0 : b < 0
      · by_cases h2 : 9223372036854775807 + b < a
        all_goals
          go_enter Tryd.func48, Tryd.ntmps48
          go_wp2
          go_ret
          refine ⟨by first | rfl | exact ret_int (a := a - b) (by unfold wrap64; omega), ?_, (But.refl _ _).set _ _⟩
          have hm := HM.out
          rw [Bool.eq_iff_iff] at hm
          first
          | (have e : mm = true := by rw [hm]; simp <;> omega
             rw [e]; exact H.out.set4 true)
          | (have e : mm = false := by rw [Bool.eq_false_iff]; intro h9; rw [hm] at h9; simp at h9 <;> omega
             rw [e]; exact H.out.set4 false)
      · go_enter Tryd.func48, Tryd.ntmps48
        go_wp2
        go_ret
        refine ⟨by first | rfl | exact ret_int (a := a - b) (by unfold wrap64; omega), ?_, (But.refl _ _).set _ _⟩
        have hm := HM.out
        rw [Bool.eq_iff_iff] at hm
        first
        | (have e : mm = true := by rw [hm]; simp <;> omega
           rw [e]; exact H.out.set4 true)
        | (have e : mm = false := by rw [Bool.eq_false_iff]; intro h9; rw [hm] at h9; simp at h9 <;> omega
           rw [e]; exact H.out.set4 false)
  · rw [hrm] at k4 hmm
    have HM := Lib.hid hmm; clear hmm hrm
    go_enter Tryd.func48, Tryd.ntmps48
    go_wp2
    go_ret
    refine ⟨by first | rfl | exact ret_int (a := a - b) (by unfold wrap64; omega), ?_, (But.refl _ _).set _ _⟩
    have hm := HM.out
    rw [Bool.eq_iff_iff] at hm
    first
    | (have e : mm = true := by rw [hm]; simp <;> omega
       rw [e]; exact H.out.set4 true)
    | (have e : mm = false := by rw [Bool.eq_false_iff]; intro h9; rw [hm] at h9; simp at h9 <;> omega
       rw [e]; exact H.out.set4 false)

set_option maxHeartbeats 1600000 in
set_option maxRecDepth 100000 in
theorem mulR_c (a b : Int) (h : IsR w g S A m c r) (ha : In64 a) (hb : In64 b) :
    Calls Tryd.prog 60 #[ptr g, .int .i64 a, .int .i64 b] w fun e w' => e = .returned (.int .i64 (mulR a b r).1) ∧ IsR w' g S A m c (mulR a b r).2 ∧ But w w' g := by
  have hex : mulR a b r = (wr (a * b), if a ≠ 0 ∧ b ≠ 0 then { r with math := r.math || decide (wr ((wr (a * b)).tdiv b) ≠ a) || (decide (a = -1) && decide (b = -9223372036854775808)) || (decide (b = -1) && decide (a = -9223372036854775808)) } else r) := rfl
  rw [hex, ← wrap_wr, ← wrap_wr]
  clear hex ha hb
  have k4 := h.c4
  have kf := h.f 4
  have H := Lib.hid h; clear h
  by_cases ha0 : a = 0
  · subst ha0
    rw [if_neg (by simp)]
    go_enter Tryd.func60, Tryd.ntmps60
    go_wp2
    go_ret
    exact ⟨by first | rfl | simp [wrap64], H.out, But.refl _ _⟩
  · by_cases hb0 : b = 0
    · subst hb0
      rw [if_neg (by simp)]
      have e1 : (a != 0) = true := bne_iff_ne.2 ha0
      clear ha0
      go_enter Tryd.func60, Tryd.ntmps60
      go_wp2
      go_ret
      exact ⟨by first | rfl | simp [wrap64], H.out, But.refl _ _⟩
    · rw [if_pos ⟨ha0, hb0⟩]
      have e1 : (a != 0) = true := bne_iff_ne.2 ha0
      have e2 : (b != 0) = true := bne_iff_ne.2 hb0
      obtain ⟨mm, hmm⟩ : ∃ mm, mm = (r.math || decide (wrap64 ((wrap64 (a * b)).tdiv b) ≠ a) || (decide (a = -1) && decide (b = -9223372036854775808)) || (decide (b = -1) && decide (a = -9223372036854775808))) := ⟨_, rfl⟩
      rw [← hmm]
      have d0 : decide (wrap64 ((wrap64 (a * b)).tdiv b) ≠ a) = (wrap64 ((wrap64 (a * b)).tdiv b) != a) := by rw [Bool.eq_iff_iff]; simp
      have d1 : decide (a = -1) = (a == -1) := by rw [Bool.eq_iff_iff]; simp
      have d2 : decide (b = -9223372036854775808) = (b == -9223372036854775808) := by rw [Bool.eq_iff_iff]; simp
      have d3 : decide (b = -1) = (b == -1) := by rw [Bool.eq_iff_iff]; simp
      have d4 : decide (a = -9223372036854775808) = (a == -9223372036854775808) := by rw [Bool.eq_iff_iff]; simp
      rw [d0, d1, d2, d3, d4] at hmm
      clear d0 d1 d2 d3 d4
      cases hrm : r.math <;> cases f0 : (wrap64 ((wrap64 (a * b)).tdiv b) != a) <;> cases f1 : (a == -1) <;> cases f2 : (b == -9223372036854775808) <;> cases f3 : (b == -1) <;> cases f4 : (a == -9223372036854775808) <;> first
        | (exfalso; simp only [beq_iff_eq] at f1 f2 f3 f4; omega)
        | (rw [hrm, f0, f1, f2, f3, f4] at hmm
           simp only [Bool.or_true, Bool.true_or, Bool.or_false, Bool.false_or, Bool.and_true, Bool.true_and, Bool.and_false, Bool.false_and] at hmm
           rw [hrm] at k4
           have HE := Lib.hid hmm
           clear hmm hrm ha0
           go_enter Tryd.func60, Tryd.ntmps60
           go_wp2
           go_ret
           exact ⟨rfl, by rw [HE.out]; exact H.out.set4 _, (But.refl _ _).set _ _⟩)
set_option maxHeartbeats 1600000 in
set_option maxRecDepth 100000 in
theorem divR_c (a b : Int) (left : Bool) (h : IsR w g S A m c r) (ha : In64 a) (hb : In64 b) :
    Calls Tryd.prog 61 #[ptr g, .int .i64 a, .int .i64 b, .bool left] w fun e w' => e = .returned (.int .i64 (divR a b left r).1) ∧ IsR w' g S A m c (divR a b left r).2 ∧ But w w' g := by
  have hex : divR a b left r = if b = 0 then (0, { r with math := true }) else if b = -1 then (if left then (0, r) else subR 0 a r) else if left then (a.tmod b, r) else (wr (a.tdiv b), r) := rfl
  rw [hex]
  clear hex
  have csub := subR_c g S A m c r w 0 a h (by simp [In64]) ha
  have k4 := h.c4
  have kf := h.f 4
  have H := Lib.hid h; clear h
  unfold In64 at ha hb
  by_cases h0 : b = 0
  · subst h0
    rw [if_pos rfl]
    clear csub ha hb
    go_enter Tryd.func61, Tryd.ntmps61
    go_wp2
    go_ret
    exact ⟨rfl, H.out.set4 true, (But.refl _ _).set _ _⟩
  · rw [if_neg h0]
    have e0 : (b == 0) = false := beq_eq_false_iff_ne.2 h0
    by_cases h1 : b = -1
    · subst h1
      rw [if_pos rfl]
      clear hb h0 e0
      cases left
      · rw [if_neg (by simp)]
        generalize subR 0 a r = z at *
        have CS := Lib.hid csub; clear csub ha
        go_enter Tryd.func61, Tryd.ntmps61
        go_wp2_with (go_at_call 48; refine CS.out.mono ?_; rintro e w1 ⟨rfl, hr, hb1⟩; have HR := Lib.hid hr; have HB := Lib.hid hb1; clear hr hb1)
        go_ret
        exact ⟨rfl, HR.out, HB.out⟩
      · rw [if_pos rfl]
        clear csub ha
        go_enter Tryd.func61, Tryd.ntmps61
        go_wp2
        go_ret
        exact ⟨rfl, H.out, But.refl _ _⟩
    · rw [if_neg h1]
      have e1 : (b == -1) = false := beq_eq_false_iff_ne.2 h1
      clear csub
      cases left
      · rw [if_neg (by simp), ← wrap_wr]
        clear ha hb h1
        go_enter Tryd.func61, Tryd.ntmps61
        go_wp2
        go_ret
        exact ⟨rfl, H.out, But.refl _ _⟩
      · rw [if_pos rfl]
        clear ha hb h1
        go_enter Tryd.func61, Tryd.ntmps61
        go_wp2
        go_ret
        exact ⟨rfl, H.out, But.refl _ _⟩
end
end Go.Proofs.YtmkajangkibgeaaDoor.Ar
