/-
The walk of arith's two, sign by sign.
-/
import Derived.Test.YtmkajangkibgeaaDoorArithTwo
set_option linter.unusedVariables false
set_option linter.unusedSimpArgs false
namespace Go.Proofs.YtmkajangkibgeaaDoor.Ar
open Go.RowKit Go.Shelf

def TwoS (op : Str) : Prop := ∀ (a b : Int) (w : World), In64 a → In64 b → Calls Tryd.prog 29 #[.string (st op), .int .i64 a, .int .i64 b] w fun e w' => e = .returned (.tuple #[.int .i64 (twoZ op a b).1, .bool (twoZ op a b).2]) ∧ ∃ n, w' = w.drewN n

set_option maxHeartbeats 1600000 in
set_option maxRecDepth 100000 in
theorem two_add : TwoS [43] := by
  intro a b w ha hb
  have hq : twoZ [43] a b = (wr (a + b), (decide (0 ≤ a) != decide (0 ≤ b)) || (decide (0 ≤ a) == decide (0 ≤ wr (a + b)))) := rfl
  have hw := wr_range (a + b)
  rw [← wrap_wr] at hw hq
  have HQ := Lib.hid hq; clear hq
  clear ha hb hw
  by_cases h1 : 0 ≤ a <;> by_cases h2 : 0 ≤ b <;> by_cases h3 : 0 ≤ wrap64 (a + b) <;>
    (go_enter Tryd.func29, Tryd.ntmps29
     go_wp2
     go_ret2
     exact ⟨by rw [HQ.out]; simp <;> omega, 0, rfl⟩)

set_option maxHeartbeats 1600000 in
set_option maxRecDepth 100000 in
theorem two_sub : TwoS [45] := by
  intro a b w ha hb
  have hq : twoZ [45] a b = (wr (a - b), (decide (0 ≤ a) == decide (0 ≤ b)) || (decide (0 ≤ a) == decide (0 ≤ wr (a - b)))) := rfl
  have hw := wr_range (a - b)
  rw [← wrap_wr] at hw hq
  have HQ := Lib.hid hq; clear hq
  clear ha hb hw
  by_cases h1 : 0 ≤ a <;> by_cases h2 : 0 ≤ b <;> by_cases h3 : 0 ≤ wrap64 (a - b) <;>
    (go_enter Tryd.func29, Tryd.ntmps29
     go_wp2
     go_ret2
     exact ⟨by rw [HQ.out]; simp <;> omega, 0, rfl⟩)

set_option maxHeartbeats 1600000 in
set_option maxRecDepth 100000 in
theorem two_mul : TwoS [42] := by
  intro a b w ha hb
  have ht := fun w => times_c a b w ha hb
  have hq : twoZ [42] a b = timesZ a b := rfl
  rw [hq]
  generalize timesZ a b = t at *
  clear hq ha hb
  have HT := Lib.hid ht; clear ht
  go_enter Tryd.func29, Tryd.ntmps29
  go_wp2_with (go_at_call 45; refine (HT.out _).mono ?_; rintro e w' ⟨rfl, ⟨n, rfl⟩⟩)
  go_ret2
  exact ⟨rfl, n, rfl⟩

set_option maxHeartbeats 1600000 in
set_option maxRecDepth 100000 in
theorem two_div : TwoS [47] := by
  intro a b w ha hb
  have hq := div_twoZ a b
  rw [hq]
  unfold In64 at ha hb
  by_cases h0 : b = 0
  · subst h0
    rw [if_pos (Or.inl rfl)]
    clear hq
    go_enter Tryd.func29, Tryd.ntmps29
    go_wp2
    go_ret2
    exact ⟨rfl, 0, rfl⟩
  · by_cases h1 : a = -9223372036854775808 ∧ b = -1
    · obtain ⟨rfl, rfl⟩ := h1
      clear hq ha hb h0
      rw [if_pos (by decide)]
      go_enter Tryd.func29, Tryd.ntmps29
      go_wp2
      go_ret2
      exact ⟨rfl, 0, rfl⟩
    · rw [if_neg (by omega)]
      have e0 : (b == 0) = false := beq_eq_false_iff_ne.2 h0
      clear hq
      cases f1 : (a == -9223372036854775808) <;> cases f2 : (b == -1) <;> first
        | (exfalso; simp only [beq_iff_eq, beq_eq_false_iff_ne, ne_eq] at f1 f2; omega)
        | (clear h1 ha hb
           go_enter Tryd.func29, Tryd.ntmps29
           go_wp2
           go_ret2
           exact ⟨by simp only [wrap_wr]; rfl, 0, rfl⟩)

set_option maxHeartbeats 1600000 in
set_option maxRecDepth 100000 in
theorem two_mod : TwoS [37] := by
  intro a b w ha hb
  have hq := mod_twoZ a b
  rw [hq]
  by_cases h0 : b = 0
  · subst h0
    rw [if_pos rfl]
    clear hq
    go_enter Tryd.func29, Tryd.ntmps29
    go_wp2
    go_ret2
    exact ⟨rfl, 0, rfl⟩
  · rw [if_neg h0]
    have e0 : (b == 0) = false := beq_eq_false_iff_ne.2 h0
    clear hq ha hb
    go_enter Tryd.func29, Tryd.ntmps29
    go_wp2
    go_ret2
    exact ⟨rfl, 0, rfl⟩

set_option maxHeartbeats 1600000 in
set_option maxRecDepth 100000 in
theorem two_lss : TwoS [60] := by
  intro a b w _ _
  have hq : twoZ [60] a b = (bitZ (decide (a < b)), true) := rfl
  have HQ := Lib.hid hq; clear hq
  by_cases h : a < b
  all_goals
    have hb := fun w => bit_c (decide (a < b)) w
    have HD := Lib.hid (show decide (a < b) = decide (a < b) from rfl)
    first
    | (have hv : decide (a < b) = true := decide_eq_true h
       rw [hv] at hb
       have HV := Lib.hid hv; clear hv
       have HB := Lib.hid hb; clear hb HD
       skip)
    | (have hv : decide (a < b) = false := decide_eq_false h
       rw [hv] at hb
       have HV := Lib.hid hv; clear hv
       have HB := Lib.hid hb; clear hb HD
       skip)
    go_enter Tryd.func29, Tryd.ntmps29
    go_wp2_with (go_at_call 28; refine (HB.out _).mono ?_; rintro e w' ⟨rfl, rfl⟩)
    go_ret2
    exact ⟨by rw [HQ.out, HV.out]; rfl, 0, rfl⟩

set_option maxHeartbeats 1600000 in
set_option maxRecDepth 100000 in
theorem two_leq : TwoS [60, 61] := by
  intro a b w _ _
  have hq : twoZ [60, 61] a b = (bitZ (decide (a ≤ b)), true) := rfl
  have HQ := Lib.hid hq; clear hq
  by_cases h : a ≤ b
  all_goals
    have hb := fun w => bit_c (decide (a ≤ b)) w
    have HD := Lib.hid (show decide (a ≤ b) = decide (a ≤ b) from rfl)
    first
    | (have hv : decide (a ≤ b) = true := decide_eq_true h
       rw [hv] at hb
       have HV := Lib.hid hv; clear hv
       have HB := Lib.hid hb; clear hb HD
       skip)
    | (have hv : decide (a ≤ b) = false := decide_eq_false h
       rw [hv] at hb
       have HV := Lib.hid hv; clear hv
       have HB := Lib.hid hb; clear hb HD
       skip)
    go_enter Tryd.func29, Tryd.ntmps29
    go_wp2_with (go_at_call 28; refine (HB.out _).mono ?_; rintro e w' ⟨rfl, rfl⟩)
    go_ret2
    exact ⟨by rw [HQ.out, HV.out]; rfl, 0, rfl⟩

set_option maxHeartbeats 1600000 in
set_option maxRecDepth 100000 in
theorem two_gtr : TwoS [62] := by
  intro a b w _ _
  have hq : twoZ [62] a b = (bitZ (decide (b < a)), true) := rfl
  have HQ := Lib.hid hq; clear hq
  by_cases h : b < a
  all_goals
    have hb := fun w => bit_c (decide (b < a)) w
    have HD := Lib.hid (show decide (b < a) = decide (b < a) from rfl)
    first
    | (have hv : decide (b < a) = true := decide_eq_true h
       rw [hv] at hb
       have HV := Lib.hid hv; clear hv
       have HB := Lib.hid hb; clear hb HD
       skip)
    | (have hv : decide (b < a) = false := decide_eq_false h
       rw [hv] at hb
       have HV := Lib.hid hv; clear hv
       have HB := Lib.hid hb; clear hb HD
       skip)
    go_enter Tryd.func29, Tryd.ntmps29
    go_wp2_with (go_at_call 28; refine (HB.out _).mono ?_; rintro e w' ⟨rfl, rfl⟩)
    go_ret2
    exact ⟨by rw [HQ.out, HV.out]; rfl, 0, rfl⟩

set_option maxHeartbeats 1600000 in
set_option maxRecDepth 100000 in
theorem two_geq : TwoS [62, 61] := by
  intro a b w _ _
  have hq : twoZ [62, 61] a b = (bitZ (decide (b ≤ a)), true) := rfl
  have HQ := Lib.hid hq; clear hq
  by_cases h : b ≤ a
  all_goals
    have hb := fun w => bit_c (decide (b ≤ a)) w
    have HD := Lib.hid (show decide (b ≤ a) = decide (b ≤ a) from rfl)
    first
    | (have hv : decide (b ≤ a) = true := decide_eq_true h
       rw [hv] at hb
       have HV := Lib.hid hv; clear hv
       have HB := Lib.hid hb; clear hb HD
       skip)
    | (have hv : decide (b ≤ a) = false := decide_eq_false h
       rw [hv] at hb
       have HV := Lib.hid hv; clear hv
       have HB := Lib.hid hb; clear hb HD
       skip)
    go_enter Tryd.func29, Tryd.ntmps29
    go_wp2_with (go_at_call 28; refine (HB.out _).mono ?_; rintro e w' ⟨rfl, rfl⟩)
    go_ret2
    exact ⟨by rw [HQ.out, HV.out]; rfl, 0, rfl⟩

set_option maxHeartbeats 1600000 in
set_option maxRecDepth 100000 in
theorem two_eql : TwoS [61, 61] := by
  intro a b w _ _
  have hq : twoZ [61, 61] a b = (bitZ (decide (a = b)), true) := rfl
  by_cases h : a = b
  · subst h
    have hq2 : twoZ [61, 61] a a = (bitZ true, true) := by rw [hq]; simp
    have HQ := Lib.hid hq2; clear hq hq2
    have hb := fun w => bit_c true w
    have HB := Lib.hid hb; clear hb
    go_enter Tryd.func29, Tryd.ntmps29
    go_wp2_with (go_at_call 28; refine (HB.out _).mono ?_; rintro e w' ⟨rfl, rfl⟩)
    go_ret2
    exact ⟨by rw [HQ.out]; rfl, 0, rfl⟩
  · have hq2 : twoZ [61, 61] a b = (bitZ false, true) := by rw [hq]; simp [h]
    have HQ := Lib.hid hq2; clear hq hq2
    have e1 : (a == b) = false := beq_eq_false_iff_ne.2 h
    have e2 : (a != b) = true := bne_iff_ne.2 h
    clear h
    have hb := fun w => bit_c false w
    have HB := Lib.hid hb; clear hb
    go_enter Tryd.func29, Tryd.ntmps29
    go_wp2_with (go_at_call 28; refine (HB.out _).mono ?_; rintro e w' ⟨rfl, rfl⟩)
    go_ret2
    exact ⟨by rw [HQ.out]; rfl, 0, rfl⟩

set_option maxHeartbeats 1600000 in
set_option maxRecDepth 100000 in
theorem two_neq : TwoS [33, 61] := by
  intro a b w _ _
  have hq : twoZ [33, 61] a b = (bitZ (decide (a ≠ b)), true) := rfl
  by_cases h : a = b
  · subst h
    have hq2 : twoZ [33, 61] a a = (bitZ false, true) := by rw [hq]; simp
    have HQ := Lib.hid hq2; clear hq hq2
    have hb := fun w => bit_c false w
    have HB := Lib.hid hb; clear hb
    go_enter Tryd.func29, Tryd.ntmps29
    go_wp2_with (go_at_call 28; refine (HB.out _).mono ?_; rintro e w' ⟨rfl, rfl⟩)
    go_ret2
    exact ⟨by rw [HQ.out]; rfl, 0, rfl⟩
  · have hq2 : twoZ [33, 61] a b = (bitZ true, true) := by rw [hq]; simp [h]
    have HQ := Lib.hid hq2; clear hq hq2
    have e1 : (a == b) = false := beq_eq_false_iff_ne.2 h
    have e2 : (a != b) = true := bne_iff_ne.2 h
    clear h
    have hb := fun w => bit_c true w
    have HB := Lib.hid hb; clear hb
    go_enter Tryd.func29, Tryd.ntmps29
    go_wp2_with (go_at_call 28; refine (HB.out _).mono ?_; rintro e w' ⟨rfl, rfl⟩)
    go_ret2
    exact ⟨by rw [HQ.out]; rfl, 0, rfl⟩

theorem two_all (op : Str) (h : op ∈ cmps ∨ op ∈ adds ∨ op ∈ muls) : TwoS op := by
  rcases h with h | h | h
  · have : op = [60, 61] ∨ op = [62, 61] ∨ op = [61, 61] ∨ op = [33, 61] ∨ op = [60] ∨ op = [62] := by simpa [cmps] using h
    rcases this with rfl | rfl | rfl | rfl | rfl | rfl
    · exact two_leq
    · exact two_geq
    · exact two_eql
    · exact two_neq
    · exact two_lss
    · exact two_gtr
  · have : op = [43] ∨ op = [45] := by simpa [adds] using h
    rcases this with rfl | rfl
    · exact two_add
    · exact two_sub
  · have : op = [42] ∨ op = [47] ∨ op = [37] := by simpa [muls] using h
    rcases this with rfl | rfl | rfl
    · exact two_mul
    · exact two_div
    · exact two_mod
end Go.Proofs.YtmkajangkibgeaaDoor.Ar
