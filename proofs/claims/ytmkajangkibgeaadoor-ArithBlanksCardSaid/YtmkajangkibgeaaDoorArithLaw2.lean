/-
The plain law of arith, second part: the two readers keep step, and answer alike.
-/
import Derived.Test.YtmkajangkibgeaaDoorArithLaw
set_option linter.unusedSimpArgs false
set_option linter.unusedVariables false
namespace Go.Proofs.YtmkajangkibgeaaDoor.Ar

theorem mul_ov {a b : Int} : (if a ≠ 0 ∧ b ≠ 0 then (decide (wr ((wr (a * b)).tdiv b) ≠ a) || (decide (a = -1) && decide (b = -9223372036854775808)) || (decide (b = -1) && decide (a = -9223372036854775808))) else false) = !(twoZ [42] a b).2 := by
  have e : (twoZ [42] a b).2 = (timesZ a b).2 := rfl
  rw [e]
  unfold timesZ
  by_cases h1 : a = 0
  · simp [h1]
  · by_cases h2 : b = 0
    · simp [h1, h2]
    · by_cases h3 : (a = -9223372036854775808 ∧ b = -1) ∨ (b = -9223372036854775808 ∧ a = -1)
      · rw [if_pos ⟨h1, h2⟩, if_neg (by omega), if_pos h3]
        rcases h3 with ⟨rfl, rfl⟩ | ⟨rfl, rfl⟩ <;> simp
      · rw [if_pos ⟨h1, h2⟩, if_neg (by omega), if_neg h3]
        have e1 : (decide (a = -1) && decide (b = -9223372036854775808)) = false := by simp; omega
        have e2 : (decide (b = -1) && decide (a = -9223372036854775808)) = false := by simp; omega
        rw [e1, e2]; simp

theorem mul_val {a b : Int} (h : (twoZ [42] a b).2 = true) : wr (a * b) = (twoZ [42] a b).1 := by
  have e : (twoZ [42] a b).1 = (timesZ a b).1 := rfl
  have e' : (twoZ [42] a b).2 = (timesZ a b).2 := rfl
  rw [e]; rw [e'] at h
  unfold timesZ at *
  by_cases h1 : a = 0 ∨ b = 0
  · rw [if_pos h1]; rcases h1 with rfl | rfl <;> simp [wr]
  · rw [if_neg h1] at h ⊢
    by_cases h3 : (a = -9223372036854775808 ∧ b = -1) ∨ (b = -9223372036854775808 ∧ a = -1)
    · rw [if_pos h3] at h; simp at h
    · rw [if_neg h3]

theorem mulR_eq (a b : Int) (r : RS) : mulR a b r = (wr (a * b), { r with math := r.math || !(twoZ [42] a b).2 }) := by
  rw [← mul_ov]
  unfold mulR
  by_cases h : a ≠ 0 ∧ b ≠ 0
  · simp only [if_pos h, Bool.or_assoc]
  · simp only [if_neg h, Bool.or_false]

theorem div_twoZ (a b : Int) : twoZ [47] a b = if b = 0 ∨ (a = -9223372036854775808 ∧ b = -1) then (0, false) else (wr (a.tdiv b), true) := rfl
theorem mod_twoZ (a b : Int) : twoZ [37] a b = if b = 0 then (0, false) else (a.tmod b, true) := rfl

theorem divR_eq (a b : Int) (r : RS) (ha : In64 a) : ∃ v, divR a b false r = (v, { r with math := r.math || !(twoZ [47] a b).2 }) ∧ ((twoZ [47] a b).2 = true → v = (twoZ [47] a b).1) := by
  rw [div_twoZ]
  unfold divR
  by_cases h : b = 0
  · subst h; exact ⟨0, by simp, by simp⟩
  · rw [if_neg h]
    by_cases h1 : b = -1
    · subst h1
      refine ⟨wr (0 - a), ?_, ?_⟩
      · unfold subR In64 at *
        by_cases h2 : a = -9223372036854775808
        · subst h2; simp
        · have e1 : (decide (a < 0) && decide ((9223372036854775807 : Int) + a < 0)) = false := by simp; omega
          have e2 : (decide (0 < a) && decide ((0 : Int) < -9223372036854775808 + a)) = false := by simp; omega
          rw [if_pos rfl, if_neg (by simp), if_neg (by simp [h2])]
          simp only [e1, e2]; simp
      · by_cases h2 : a = -9223372036854775808
        · simp [h2]
        · intro _; rw [if_neg (by simp [h2])]; simp
    · have h2 : ¬ (b = 0 ∨ (a = -9223372036854775808 ∧ b = -1)) := by omega
      simp only [if_neg h1, if_neg h2]
      exact ⟨_, by simp, fun _ => rfl⟩

theorem modR_eq (a b : Int) (r : RS) : ∃ v, divR a b true r = (v, { r with math := r.math || !(twoZ [37] a b).2 }) ∧ ((twoZ [37] a b).2 = true → v = (twoZ [37] a b).1) := by
  rw [mod_twoZ]
  unfold divR
  by_cases h : b = 0
  · subst h; exact ⟨0, by simp, by simp⟩
  · simp only [if_neg h]
    by_cases h1 : b = -1
    · subst h1
      refine ⟨0, by simp, fun _ => by simp⟩
    · simp only [if_neg h1]
      exact ⟨_, by simp, fun _ => rfl⟩

theorem addR_eq (a b : Int) (r : RS) (ha : In64 a) (hb : In64 b) : addR a b r = (wr (a + b), { r with math := r.math || !(twoZ [43] a b).2 }) := by
  rw [← add_ov ha hb]; simp only [addR, Bool.or_assoc]
theorem subR_eq (a b : Int) (r : RS) (ha : In64 a) (hb : In64 b) : subR a b r = (wr (a - b), { r with math := r.math || !(twoZ [45] a b).2 }) := by
  rw [← sub_ov ha hb]; simp only [subR, Bool.or_assoc]

/-! ### the values of the reference lie in range -/
theorem addR_range (a b : Int) (r : RS) : In64 (addR a b r).1 := wr_range _
theorem subR_range (a b : Int) (r : RS) : In64 (subR a b r).1 := wr_range _
theorem mulR_range (a b : Int) (r : RS) : In64 (mulR a b r).1 := wr_range _
theorem divR_range (a b : Int) (left : Bool) (r : RS) (ha : In64 a) : In64 (divR a b left r).1 := by
  unfold divR
  repeat' split
  all_goals first | exact subR_range _ _ _ | exact wr_range _ | exact tmod_range ha | simp [In64]

theorem range_all (s : Str) (vars : List Bind) (n : Nat) : (∀ r, In64 (exprR s vars n r).1) ∧ (∀ r, In64 (sumR s vars n r).1) ∧ (∀ a r, In64 a → In64 (sumRL s vars n a r).1) ∧
    (∀ r, In64 (prodR s vars n r).1) ∧ (∀ a r, In64 a → In64 (prodRL s vars n a r).1) ∧ (∀ r, In64 (unaryR s vars n r).1) := by
  induction n with
  | zero => simp [exprR, sumR, sumRL, prodR, prodRL, unaryR, In64]
  | succ n ih =>
    obtain ⟨h1, h2, h3, h4, h5, h6⟩ := ih
    refine ⟨fun r => ?_, fun r => ?_, fun a r ha => ?_, fun r => ?_, fun a r ha => ?_, fun r => ?_⟩
    · simp only [exprR]
      repeat' split
      all_goals first | exact bitZ_range _ | exact h2 _
    · simp only [sumR]; exact h3 _ _ (h4 _)
    · simp only [sumRL]
      repeat' split
      all_goals first | exact h3 _ _ (addR_range _ _ _) | exact h3 _ _ (subR_range _ _ _) | exact ha
    · simp only [prodR]; exact h5 _ _ (h6 _)
    · simp only [prodRL]
      repeat' split
      all_goals first | exact h5 _ _ (mulR_range _ _ _) | exact h5 _ _ (divR_range _ _ _ _ ha) | exact ha
    · simp only [unaryR]
      repeat' split
      all_goals first | exact subR_range _ _ _ | exact bitZ_range _ | exact h1 _ | skip
      unfold atomR
      repeat' split
      all_goals first | exact numZ_range _ | exact valueZ_range _ _ | simp [In64]
end Go.Proofs.YtmkajangkibgeaaDoor.Ar
