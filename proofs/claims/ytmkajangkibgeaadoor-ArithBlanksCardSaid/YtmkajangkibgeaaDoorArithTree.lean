/-
The walks of arith's parser, second part: what it makes of a text lies in memory as a tree.
-/
import Derived.Test.YtmkajangkibgeaaDoorGlyph
import Derived.Deep.LoopGhost
set_option linter.unusedVariables false
set_option linter.unusedSimpArgs false
namespace Go.Proofs.YtmkajangkibgeaaDoor.Ar
open Go.RowKit Go.Shelf

abbrev ptr (a : Nat) : Value := .pointer (some ⟨a, 0, none⟩)

/-- Block a is the root of the tree t; none of its blocks is g. -/
def IsT (w : World) (g : Nat) : Nat → Tree → Prop
  | a, .leaf op text => a ≠ g ∧ w.heap[a]? = some (.cells #[.string (st op), .string (st text), .slice none 0 0] 58 (0, 0))
  | a, .un op t => a ≠ g ∧ ∃ k b, k ≠ g ∧ w.heap[a]? = some (.cells #[.string (st op), .string (st []), .slice (some ⟨k, 0, none⟩) 1 1] 58 (0, 0)) ∧ w.heap[k]? = some (.cells #[ptr b] 40 (0, 0)) ∧ IsT w g b t
  | a, .bin op t u => a ≠ g ∧ ∃ k b c, k ≠ g ∧ w.heap[a]? = some (.cells #[.string (st op), .string (st []), .slice (some ⟨k, 0, none⟩) 2 2] 58 (0, 0)) ∧ w.heap[k]? = some (.cells #[ptr b, ptr c] 40 (0, 0)) ∧ IsT w g b t ∧ IsT w g c u

theorem IsT.but {w w' : World} {g : Nat} (h : But w w' g) : ∀ {t : Tree} {a : Nat}, IsT w g a t → IsT w' g a t
  | .leaf op text, a, ⟨h1, h2⟩ => ⟨h1, h.blk h2 h1⟩
  | .un op t, a, ⟨h1, k, b, h2, h3, h4, h5⟩ => ⟨h1, k, b, h2, h.blk h3 h1, h.blk h4 h2, IsT.but h h5⟩
  | .bin op t u, a, ⟨h1, k, b, c, h2, h3, h4, h5, h6⟩ => ⟨h1, k, b, c, h2, h.blk h3 h1, h.blk h4 h2, IsT.but h h5, IsT.but h h6⟩

theorem IsT.new_bin {w : World} {g b c : Nat} {op : Str} {t u : Tree} (hg : g < w.heap.size) (h1 : IsT w g b t) (h2 : IsT w g c u) :
    IsT ((w.alloc (.cells #[ptr b, ptr c] 40)).alloc (.cells #[.string (st op), .string (st []), .slice (some ⟨w.heap.size, 0, none⟩) 2 2] 58)) g (w.heap.size + 1) (.bin op t u) := by
  have hb := ((But.refl w g).alloc (.cells #[ptr b, ptr c] 40)).alloc (.cells #[.string (st op), .string (st []), .slice (some ⟨w.heap.size, 0, none⟩) 2 2] 58)
  refine ⟨by omega, w.heap.size, b, c, by omega, ?_, ?_, h1.but hb, h2.but hb⟩
  · have := blk_new (w.alloc (.cells #[ptr b, ptr c] 40)) (.cells #[.string (st op), .string (st []), .slice (some ⟨w.heap.size, 0, none⟩) 2 2] 58)
    rw [show (w.alloc (.cells #[ptr b, ptr c] 40)).heap.size = w.heap.size + 1 from by simp] at this
    exact this
  · have := blk_new w (.cells #[ptr b, ptr c] 40)
    exact (Below.heap_alloc _ _ _ (by simp)).trans this
theorem IsT.new_un {w : World} {g b : Nat} {op : Str} {t : Tree} (hg : g < w.heap.size) (h1 : IsT w g b t) :
    IsT ((w.alloc (.cells #[ptr b] 40)).alloc (.cells #[.string (st op), .string (st []), .slice (some ⟨w.heap.size, 0, none⟩) 1 1] 58)) g (w.heap.size + 1) (.un op t) := by
  have hb := ((But.refl w g).alloc (.cells #[ptr b] 40)).alloc (.cells #[.string (st op), .string (st []), .slice (some ⟨w.heap.size, 0, none⟩) 1 1] 58)
  refine ⟨by omega, w.heap.size, b, by omega, ?_, ?_, h1.but hb⟩
  · have := blk_new (w.alloc (.cells #[ptr b] 40)) (.cells #[.string (st op), .string (st []), .slice (some ⟨w.heap.size, 0, none⟩) 1 1] 58)
    rw [show (w.alloc (.cells #[ptr b] 40)).heap.size = w.heap.size + 1 from by simp] at this
    exact this
  · have := blk_new w (.cells #[ptr b] 40)
    exact (Below.heap_alloc _ _ _ (by simp)).trans this
theorem IsT.new_leaf {w : World} {g : Nat} {op text : Str} (hg : g < w.heap.size) :
    IsT (w.alloc (.cells #[.string (st op), .string (st text), .slice none 0 0] 58)) g w.heap.size (.leaf op text) := ⟨by omega, blk_new _ _⟩

theorem IsP.lt {w : World} {g : Nat} {p : PS} (h : IsP w g p) : g < w.heap.size := blk_lt h
theorem IsP.but {w w' : World} {g g' : Nat} {p : PS} (h : IsP w g p) (k : But w w' g') (hne : g ≠ g') : IsP w' g p := k.blk h hne

/-! ### lengths -/
theorem skips_len (s : Str) : (skips s).length ≤ s.length := by
  unfold skips
  induction s with
  | nil => simp
  | cons a l ih => rw [List.dropWhile_cons]; split <;> simp <;> omega
theorem takes_len (xs : List Str) (s : Str) : (takes xs s).1.length + (takes xs s).2.length ≤ s.length := by
  have := skips_len s
  rcases takes_cases xs s with ⟨x, _, hx, e⟩ | ⟨_, e⟩
  · rw [e]; have := prefix_len hx; simp; omega
  · rw [e]; simpa using this
theorem takes_less {xs : List Str} {s : Str} (h : (takes xs s).1 ≠ []) : (takes xs s).2.length + 1 ≤ s.length := by
  have := takes_len xs s
  have : 0 < (takes xs s).1.length := List.length_pos_iff.2 h
  omega
theorem atomI_len (s : Str) (b : Bool) : (atomI s b).2.s.length ≤ s.length := by
  have hd : ∀ q : UInt8 → Bool, (s.dropWhile q).length ≤ s.length := fun q => by rw [dw_drop]; simp
  unfold atomI
  split
  · exact hd _
  · split
    · exact hd _
    · simp
theorem len_all (n : Nat) : (∀ p, (exprI n p).2.s.length ≤ p.s.length) ∧ (∀ p, (sumI n p).2.s.length ≤ p.s.length) ∧ (∀ t p, (sumL n t p).2.s.length ≤ p.s.length) ∧
    (∀ p, (prodI n p).2.s.length ≤ p.s.length) ∧ (∀ t p, (prodL n t p).2.s.length ≤ p.s.length) ∧ (∀ p, (unaryI n p).2.s.length ≤ p.s.length) := by
  induction n with
  | zero => simp [exprI, sumI, sumL, prodI, prodL, unaryI]
  | succ n ih =>
    obtain ⟨h1, h2, h3, h4, h5, h6⟩ := ih
    refine ⟨fun p => ?_, fun p => ?_, fun t p => ?_, fun p => ?_, fun t p => ?_, fun p => ?_⟩
    · simp only [exprI]
      have a := h2 p
      have b := takes_len cmps (sumI n p).2.s
      split
      · simp; omega
      · have := h2 ⟨(takes cmps (sumI n p).2.s).2, (sumI n p).2.bad⟩
        simp at this ⊢; omega
    · simp only [sumI]; exact Nat.le_trans (h3 _ _) (h4 _)
    · simp only [sumL]
      have b := takes_len adds p.s
      split
      · exact Nat.le_refl _
      · split
        · simp; omega
        · have c := h4 ⟨(takes adds p.s).2, p.bad⟩
          have := h3 (.bin (takes adds p.s).1 t (prodI n ⟨(takes adds p.s).2, p.bad⟩).1) (prodI n ⟨(takes adds p.s).2, p.bad⟩).2
          simp at c this ⊢; omega
    · simp only [prodI]; exact Nat.le_trans (h5 _ _) (h6 _)
    · simp only [prodL]
      have b := takes_len muls p.s
      split
      · exact Nat.le_refl _
      · split
        · simp; omega
        · have c := h6 ⟨(takes muls p.s).2, p.bad⟩
          have := h5 (.bin (takes muls p.s).1 t (unaryI n ⟨(takes muls p.s).2, p.bad⟩).1) (unaryI n ⟨(takes muls p.s).2, p.bad⟩).2
          simp at c this ⊢; omega
    · simp only [unaryI]
      have b := takes_len opens p.s
      split
      · have c := h6 ⟨(takes opens p.s).2, p.bad⟩
        simp at c ⊢; omega
      · split
        · have c := h1 ⟨(takes opens p.s).2, p.bad⟩
          have d := takes_len [[41]] (exprI n ⟨(takes opens p.s).2, p.bad⟩).2.s
          simp at c ⊢; omega
        · have := atomI_len (takes opens p.s).2 p.bad
          omega

/-! ### the contracts -/
def Comes (f : FuncId) (n c : Nat) (m : PS → Tree × PS) : Prop :=
  ∀ (p : PS) (g : Nat) (w : World), IsP w g p → p.s.length ≤ 300 → 8 * p.s.length + c ≤ n →
    Calls Tryd.prog f #[ptr g] w fun e w' => ∃ a, e = .returned (ptr a) ∧ IsT w' g a (m p).1 ∧ IsP w' g (m p).2 ∧ But w w' g
def ExprS (n : Nat) : Prop := Comes 13 n 4 (exprI n)
def SumS (n : Nat) : Prop := Comes 24 n 3 (sumI n)
def ProdS (n : Nat) : Prop := Comes 38 n 2 (prodI n)
def UnaryS (n : Nat) : Prop := Comes 55 n 1 (unaryI n)

theorem isS_new (w : World) (xs : List Str) : IsS (w.alloc (.cells (xs.map fun x => Value.string (st x)).toArray 9)) w.heap.size xs := blk_new _ _
end Go.Proofs.YtmkajangkibgeaaDoor.Ar
