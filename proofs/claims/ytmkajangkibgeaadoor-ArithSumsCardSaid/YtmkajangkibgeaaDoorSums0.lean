/-
What the four fixed texts are worth, in plain terms.
-/
import Derived.Test.YtmkajangkibgeaaDoorItoa2
set_option linter.unusedVariables false
set_option linter.unusedSimpArgs false
namespace Go.Proofs.YtmkajangkibgeaaDoor.Ar
open Go.RowKit Go.Shelf

theorem wr_same (x : Int) (h1 : -9223372036854775808 ≤ x) (h2 : x ≤ 9223372036854775807) : wr x = x := by unfold wr; omega
theorem mul_small (a b : Int) (ha : a.natAbs ≤ 2147483648) (hb : b.natAbs ≤ 2147483648) : -4611686018427387904 ≤ a * b ∧ a * b ≤ 4611686018427387904 := by
  have h : (a * b).natAbs ≤ 2147483648 * 2147483648 := by rw [Int.natAbs_mul]; exact Nat.mul_le_mul ha hb
  omega
theorem times_small (a b : Int) (ha : a.natAbs ≤ 2147483648) (hb : b.natAbs ≤ 2147483648) : timesZ a b = (a * b, true) := by
  unfold timesZ
  obtain ⟨h1, h2⟩ := mul_small a b ha hb
  by_cases h0 : a = 0 ∨ b = 0
  · rw [if_pos h0]
    rcases h0 with rfl | rfl <;> simp
  · rw [if_neg h0, if_neg (by omega), wr_same (a * b) (by omega) (by omega), Int.mul_tdiv_cancel _ (by omega), wr_same a (by omega) (by omega)]
    simp

def vA : Str := [97]
def vB : Str := [98]
def tA : Tree := .leaf sName vA
def tB : Tree := .leaf sName vB
def e1 : Str := [97, 32, 43, 32, 98]
def e2 : Str := [97, 42, 98, 32, 45, 32, 98]
def e3 : Str := [97, 32, 60, 32, 98]
def e4 : Str := [97, 32, 47, 32, 98, 32, 42, 32, 98, 32, 43, 32, 97, 32, 37, 32, 98]
theorem parse1 : exprI 44 ⟨e1, false⟩ = (.bin [43] tA tB, ⟨[], false⟩) := by rfl
theorem parse2 : exprI 60 ⟨e2, false⟩ = (.bin [45] (.bin [42] tA tB) tB, ⟨[], false⟩) := by rfl
theorem parse3 : exprI 44 ⟨e3, false⟩ = (.bin [60] tA tB, ⟨[], false⟩) := by rfl
theorem parse4 : exprI 140 ⟨e4, false⟩ = (.bin [43] (.bin [42] (.bin [47] tA tB) tB) (.bin [37] tA tB), ⟨[], false⟩) := by rfl

theorem eval_of {n : Nat} {s : Str} {vars : List Bind} {t : Tree} (h : exprI n ⟨s, false⟩ = (t, ⟨[], false⟩)) : EvalI n s vars = if (evalI vars t).2 = false then (0, 6) else ((evalI vars t).1, 0) := by
  unfold EvalI
  rw [h]
  simp [skips]

def vars2 (a b : Int) : List Bind := [⟨vA, itoaZ a⟩, ⟨vB, itoaZ b⟩]
theorem itoaZ_ne (n : Int) : itoaZ n ≠ [] := by
  unfold itoaZ
  split
  · simp
  · exact (decF_all 20 n.natAbs).2.1
theorem sub_fits {p q : Int} (hp1 : -4611686018427387904 ≤ p) (hp2 : p ≤ 4611686018427387904) (hq1 : -4611686018427387904 < q) (hq2 : q < 4611686018427387904) : twoZ [45] p q = (p - q, true) := by
  unfold twoZ
  rw [if_neg (by decide), if_pos rfl, wr_same (p - q) (by omega) (by omega)]
  have : ((decide (0 ≤ p) == decide (0 ≤ q)) || (decide (0 ≤ p) == decide (0 ≤ p - q))) = true := by
    by_cases h1 : 0 ≤ p <;> by_cases h2 : 0 ≤ q <;> simp [h1, h2] <;> omega
  rw [this]
section
variable {a b : Int} (ha1 : -1073741824 ≤ a) (ha2 : a ≤ 1073741824) (hb1 : -1073741824 ≤ b) (hb2 : b ≤ 1073741824)
include ha1 ha2 in
theorem val_a : evalI (vars2 a b) tA = (a, true) := by
  have h : valueZ vA (vars2 a b) = some a := by
    unfold valueZ vars2
    rw [show List.find? (fun b => b.name == vA) [(⟨vA, itoaZ a⟩ : Bind), ⟨vB, itoaZ b⟩] = some ⟨vA, itoaZ a⟩ from rfl]
    simp only
    rw [if_neg (itoaZ_ne a), num_itoa a (by omega) (by omega)]
  unfold tA evalI
  rw [if_neg (by decide), h]; rfl
include hb1 hb2 in
theorem val_b : evalI (vars2 a b) tB = (b, true) := by
  have h : valueZ vB (vars2 a b) = some b := by
    unfold valueZ vars2
    rw [show List.find? (fun b => b.name == vB) [(⟨vA, itoaZ a⟩ : Bind), ⟨vB, itoaZ b⟩] = some ⟨vB, itoaZ b⟩ from rfl]
    simp only
    rw [if_neg (itoaZ_ne b), num_itoa b (by omega) (by omega)]
  unfold tB evalI
  rw [if_neg (by decide), h]; rfl
theorem bin_of {vars : List Bind} {op : Str} {x y : Tree} {p q : Int} (hx : evalI vars x = (p, true)) (hy : evalI vars y = (q, true)) : evalI vars (.bin op x y) = twoZ op p q := by
  rw [evalI, hx, hy]; simp
include ha1 ha2 hb1 hb2
theorem sum1 : EvalI 44 e1 (vars2 a b) = (a + b, 0) := by
  rw [eval_of parse1, bin_of (val_a ha1 ha2) (val_b hb1 hb2)]
  unfold twoZ
  rw [if_pos rfl, wr_same (a + b) (by omega) (by omega)]
  have : ((decide (0 ≤ a) != decide (0 ≤ b)) || (decide (0 ≤ a) == decide (0 ≤ a + b))) = true := by
    by_cases h1 : 0 ≤ a <;> by_cases h2 : 0 ≤ b <;> simp [h1, h2] <;> omega
  rw [this]; rfl
theorem sum2 : EvalI 60 e2 (vars2 a b) = (a * b - b, 0) := by
  have hm := mul_small a b (by omega) (by omega)
  have ht : evalI (vars2 a b) (.bin [42] tA tB) = (a * b, true) := by
    rw [bin_of (val_a ha1 ha2) (val_b hb1 hb2)]
    exact times_small a b (by omega) (by omega)
  rw [eval_of parse2, bin_of ht (val_b hb1 hb2), sub_fits (by omega) (by omega) (by omega) (by omega)]
  rfl
theorem sum3 : EvalI 44 e3 (vars2 a b) = (bitZ (decide (a < b)), 0) := by
  rw [eval_of parse3, bin_of (val_a ha1 ha2) (val_b hb1 hb2)]
  rfl
theorem sum4 : EvalI 140 e4 (vars2 a b) = if b = 0 then (0, 6) else (a, 0) := by
  rw [eval_of parse4]
  by_cases h0 : b = 0
  · rw [if_pos h0]
    have hd : evalI (vars2 a b) (.bin [47] tA tB) = (0, false) := by
      rw [bin_of (val_a ha1 ha2) (val_b hb1 hb2)]
      unfold twoZ
      rw [if_neg (by decide), if_neg (by decide), if_neg (by decide), if_pos rfl, if_pos (.inl h0)]
    rw [if_pos]
    rw [evalI, evalI, hd]; simp
  · rw [if_neg h0]
    have hq : (a.tdiv b).natAbs ≤ 2147483648 := by
      rw [Int.natAbs_tdiv]
      exact Nat.le_trans (Nat.div_le_self _ _) (by omega)
    have hd : evalI (vars2 a b) (.bin [47] tA tB) = (a.tdiv b, true) := by
      rw [bin_of (val_a ha1 ha2) (val_b hb1 hb2)]
      unfold twoZ
      rw [if_neg (by decide), if_neg (by decide), if_neg (by decide), if_pos rfl, if_neg (by omega), wr_same _ (by omega) (by omega)]
    have hm : evalI (vars2 a b) (.bin [37] tA tB) = (a.tmod b, true) := by
      rw [bin_of (val_a ha1 ha2) (val_b hb1 hb2)]
      unfold twoZ
      rw [if_neg (by decide), if_neg (by decide), if_neg (by decide), if_neg (by decide), if_pos rfl, if_neg h0]
    have ht : evalI (vars2 a b) (.bin [42] (.bin [47] tA tB) tB) = (a.tdiv b * b, true) := by
      rw [bin_of hd (val_b hb1 hb2)]
      exact times_small _ b hq (by omega)
    have he : a.tdiv b * b + a.tmod b = a := by have := Int.mul_tdiv_add_tmod a b; rw [Int.mul_comm] at this; exact this
    have hs := mul_small (a.tdiv b) b hq (by omega)
    rw [bin_of ht hm]
    generalize a.tdiv b * b = p at *
    generalize a.tmod b = q at *
    unfold twoZ
    rw [if_pos rfl, he, wr_same a (by omega) (by omega)]
    have : ((decide (0 ≤ p) != decide (0 ≤ q)) || (decide (0 ≤ p) == decide (0 ≤ a))) = true := by
      by_cases h1 : 0 ≤ p <;> by_cases h2 : 0 ≤ q <;> simp [h1, h2] <;> omega
    rw [this]; rfl
end
end Go.Proofs.YtmkajangkibgeaaDoor.Ar
