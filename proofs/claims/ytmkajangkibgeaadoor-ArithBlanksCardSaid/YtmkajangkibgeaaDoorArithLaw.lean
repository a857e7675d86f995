/-
The plain law of arith: what the program's parser and evaluator make of a text is what the reference's reckoner makes of it, at every text and all variables.
-/
import Derived.Test.YtmkajangkibgeaaDoorArithPure
set_option linter.unusedSimpArgs false
set_option linter.unusedVariables false
namespace Go.Proofs.YtmkajangkibgeaaDoor.Ar

theorem drop_tw (p : UInt8 → Bool) (l : Str) : l.drop (l.takeWhile p).length = l.dropWhile p := by
  induction l with
  | nil => rfl
  | cons a l ih => by_cases h : p a <;> simp [List.takeWhile_cons, List.dropWhile_cons, h, ih]

theorem skips_skips (l : Str) : skips (skips l) = skips l := by
  unfold skips
  induction l with
  | nil => rfl
  | cons a l ih => by_cases h : blank a <;> simp [List.dropWhile_cons, h, ih]

theorem skipR_drop (s : Str) (r : RS) : s.drop (skipR s r).i = skips (s.drop r.i) := by
  show s.drop (r.i + _) = _
  rw [← List.drop_drop, drop_tw]; rfl

theorem tw_le (p : UInt8 → Bool) (l : Str) : (l.takeWhile p).length ≤ l.length := by
  induction l with
  | nil => simp
  | cons a l ih => by_cases h : p a <;> simp [List.takeWhile_cons, h]; omega

theorem skipR_le (s : Str) (r : RS) (h : r.i ≤ s.length) : (skipR s r).i ≤ s.length := by
  show r.i + ((s.drop r.i).takeWhile blank).length ≤ _
  have := tw_le blank (s.drop r.i)
  simp at this; omega

/-- The two readers stand at one place. -/
structure At (s : Str) (p : Str) (r : RS) : Prop where
  form : r.form = false
  le : r.i ≤ s.length
  eq : p = s.drop r.i

theorem At.skip {s p : Str} {r : RS} (h : At s p r) : At s (skips p) (skipR s r) :=
  ⟨h.form, skipR_le s r h.le, by rw [h.eq, skipR_drop]⟩

theorem prefix_len {x l : Str} (h : x.isPrefixOf l = true) : x.length ≤ l.length := by
  rw [List.isPrefixOf_iff_prefix] at h; exact h.length_le

theorem eat_yes {s p x : Str} {r : RS} (h : At s p r) (hx : x.isPrefixOf (skips p) = true) :
    (eatR s x r).1 = true ∧ At s ((skips p).drop x.length) (eatR s x r).2 ∧ (eatR s x r).2.math = r.math := by
  have hk := h.skip
  have he : ¬ ((skipR s r).form = true ∨ ¬ x.isPrefixOf (s.drop (skipR s r).i) = true) := by
    rw [hk.form, ← hk.eq]; simp [hx]
  have hl := prefix_len hx
  rw [hk.eq] at hl
  unfold eatR
  rw [if_neg he]
  refine ⟨rfl, ⟨hk.form, ?_, ?_⟩, rfl⟩
  · simp at hl ⊢; have := hk.le; omega
  · rw [hk.eq, List.drop_drop]

theorem eat_no {s p x : Str} {r : RS} (h : At s p r) (hx : x.isPrefixOf (skips p) = false) :
    (eatR s x r).1 = false ∧ At s (skips p) (eatR s x r).2 ∧ (eatR s x r).2.math = r.math := by
  have hk := h.skip
  have he : ((skipR s r).form = true ∨ ¬ x.isPrefixOf (s.drop (skipR s r).i) = true) := by
    rw [← hk.eq]; simp [hx]
  unfold eatR
  rw [if_pos he]
  exact ⟨rfl, hk, rfl⟩

theorem eat_form {s x : Str} {r : RS} (h : r.form = true) : (eatR s x r).1 = false ∧ (eatR s x r).2.form = true := by
  unfold eatR
  rw [if_pos (.inl (by exact h))]
  exact ⟨rfl, h⟩

/-- What comes of one piece: the two texts stand at one place again, or both are bad; the number and whether it has one are the tree's. -/
structure Post (s : Str) (vars : List Bind) (m : Bool) (t : Tree × PS) (v : Int × RS) : Prop where
  bad : t.2.bad = v.2.form
  at_ : t.2.bad = false → At s t.2.s v.2
  math : t.2.bad = false → v.2.math = (m || !(evalI vars t.1).2)
  val : t.2.bad = false → (evalI vars t.1).2 = true → v.1 = (evalI vars t.1).1

theorem Post.of_bad {s : Str} {vars : List Bind} {m : Bool} {t : Tree × PS} {v : Int × RS} (h : t.2.bad = true) (k : v.2.form = true) : Post s vars m t v :=
  ⟨by rw [h, k], by simp [h], by simp [h], by simp [h]⟩

/-! ### bad stays bad -/
theorem atomI_bad (s : Str) : (atomI s true).2.bad = true := by
  unfold atomI
  split
  · rfl
  · split <;> rfl

theorem bad_all (n : Nat) : (∀ s, (exprI n ⟨s, true⟩).2.bad = true) ∧ (∀ s, (sumI n ⟨s, true⟩).2.bad = true) ∧ (∀ t s, (sumL n t ⟨s, true⟩).2.bad = true) ∧
    (∀ s, (prodI n ⟨s, true⟩).2.bad = true) ∧ (∀ t s, (prodL n t ⟨s, true⟩).2.bad = true) ∧ (∀ s, (unaryI n ⟨s, true⟩).2.bad = true) := by
  induction n with
  | zero => simp [exprI, sumI, sumL, prodI, prodL, unaryI]
  | succ n ih =>
    obtain ⟨h1, h2, h3, h4, h5, h6⟩ := ih
    have cs : ∀ p : PS, p.bad = true → p = ⟨p.s, true⟩ := fun p h => by cases p; simp_all
    refine ⟨fun s => ?_, fun s => ?_, fun t s => ?_, fun s => ?_, fun t s => ?_, fun s => ?_⟩
    · simp only [exprI]
      have h := h2 s
      split
      · exact h
      · show (sumI n ⟨_, _⟩).2.bad = true; rw [h]; exact h2 _
    · simp only [sumI]; have h := h4 s; rw [cs _ h]; exact h3 _ _
    · simp [sumL]
    · simp only [prodI]; have h := h6 s; rw [cs _ h]; exact h5 _ _
    · simp [prodL]
    · simp only [unaryI]
      split
      · exact h6 _
      · split
        · simp [h1]
        · exact atomI_bad _

theorem form_all (s : Str) (vars : List Bind) (n : Nat) : (∀ r, r.form = true → (exprR s vars n r).2.form = true) ∧ (∀ r, r.form = true → (sumR s vars n r).2.form = true) ∧ (∀ a r, r.form = true → (sumRL s vars n a r).2.form = true) ∧
    (∀ r, r.form = true → (prodR s vars n r).2.form = true) ∧ (∀ a r, r.form = true → (prodRL s vars n a r).2.form = true) ∧ (∀ r, r.form = true → (unaryR s vars n r).2.form = true) := by
  induction n with
  | zero => simp [exprR, sumR, sumRL, prodR, prodRL, unaryR]
  | succ n ih =>
    obtain ⟨h1, h2, h3, h4, h5, h6⟩ := ih
    refine ⟨fun r hr => ?_, fun r hr => ?_, fun a r hr => ?_, fun r hr => ?_, fun a r hr => ?_, fun r hr => ?_⟩
    · simp only [exprR]
      have g0 := h2 r hr
      have e1 := eat_form (s := s) (x := [60, 61]) g0
      have e2 := eat_form (s := s) (x := [62, 61]) e1.2
      have e3 := eat_form (s := s) (x := [61, 61]) e2.2
      have e4 := eat_form (s := s) (x := [33, 61]) e3.2
      have e5 := eat_form (s := s) (x := [60]) e4.2
      have e6 := eat_form (s := s) (x := [62]) e5.2
      simp only [e1.1, e2.1, e3.1, e4.1, e5.1, e6.1, Bool.false_eq_true, if_false]
      exact e6.2
    · simp only [sumR]; exact h3 _ _ (h4 _ hr)
    · simp only [sumRL]
      have e1 := eat_form (s := s) (x := [43]) hr
      have e2 := eat_form (s := s) (x := [45]) e1.2
      simp only [e1.1, e2.1, Bool.false_eq_true, if_false]
      exact e2.2
    · simp only [prodR]; exact h5 _ _ (h6 _ hr)
    · simp only [prodRL]
      have e1 := eat_form (s := s) (x := [42]) hr
      have e2 := eat_form (s := s) (x := [47]) e1.2
      have e3 := eat_form (s := s) (x := [37]) e2.2
      simp only [e1.1, e2.1, e3.1, Bool.false_eq_true, if_false]
      exact e3.2
    · simp only [unaryR]
      have e1 := eat_form (s := s) (x := [45]) hr
      have e2 := eat_form (s := s) (x := [33]) e1.2
      have e3 := eat_form (s := s) (x := [40]) e2.2
      simp only [e1.1, e2.1, e3.1, Bool.false_eq_true, if_false]
      have : (skipR s (eatR s [40] (eatR s [33] (eatR s [45] r).2).2).2).form = true := e3.2
      unfold atomR
      split
      · exact this
      · split
        · rfl
        · exact this

/-! ### numbers keep step -/
theorem wr_id {n : Int} (h0 : -9223372036854775808 ≤ n) (h1 : n ≤ 9223372036854775807) : wr n = n := by unfold wr; omega
theorem wr_range (n : Int) : -9223372036854775808 ≤ wr n ∧ wr n ≤ 9223372036854775807 := by unfold wr; omega
def In64 (n : Int) : Prop := -9223372036854775808 ≤ n ∧ n ≤ 9223372036854775807

theorem numZ_range (s : Str) : In64 ((numZ s).getD 0) := by
  unfold numZ In64
  split
  · simp
  · split
    · split
      · rename_i h; simp; omega
      · simp
    · split
      · rename_i h; simp; omega
      · simp

theorem valueZ_range (name : Str) (vars : List Bind) : In64 ((valueZ name vars).getD 0) := by
  unfold valueZ
  split
  · simp [In64]
  · split
    · simp [In64]
    · exact numZ_range _

theorem bitZ_range (b : Bool) : In64 (bitZ b) := by unfold bitZ In64; split <;> omega

theorem tmod_range {a b : Int} (ha : In64 a) : In64 (a.tmod b) := by
  unfold In64 at *
  have h1 := Int.tmod_lt_of_pos
  rcases Int.le_total 0 a with h | h
  · have := Int.tmod_nonneg b h
    have h2 : a.tmod b ≤ a := by
      have e := Int.mul_tdiv_add_tmod a b
      rcases Int.le_total 0 b with hb | hb
      · have := Int.mul_nonneg hb (Int.tdiv_nonneg h hb); omega
      · have := Int.mul_nonneg_of_nonpos_of_nonpos hb (Int.tdiv_nonpos_of_nonneg_of_nonpos h hb); omega
    omega
  · have e : (-(-a)).tmod b = -((-a).tmod b) := Int.neg_tmod _ _
    rw [Int.neg_neg] at e
    have := Int.tmod_nonneg b (show 0 ≤ -a by omega)
    have h2 : (-a).tmod b ≤ -a := by
      have e := Int.mul_tdiv_add_tmod (-a) b
      have h' : 0 ≤ -a := by omega
      rcases Int.le_total 0 b with hb | hb
      · have := Int.mul_nonneg hb (Int.tdiv_nonneg h' hb); omega
      · have := Int.mul_nonneg_of_nonpos_of_nonpos hb (Int.tdiv_nonpos_of_nonneg_of_nonpos h' hb); omega
    omega

theorem timesZ_range (a b : Int) : In64 (timesZ a b).1 := by
  unfold timesZ
  split
  · simp [In64]
  · split
    · simp [In64]
    · exact wr_range _

theorem twoZ_range (op : Str) {a b : Int} (ha : In64 a) : In64 (twoZ op a b).1 := by
  unfold twoZ
  repeat' split
  all_goals first | exact wr_range _ | exact bitZ_range _ | exact timesZ_range _ _ | exact tmod_range ha | simp [In64]

theorem evalI_range (vars : List Bind) (t : Tree) : In64 (evalI vars t).1 := by
  induction t with
  | leaf op text => unfold evalI; split
                    · exact numZ_range _
                    · exact valueZ_range _ _
  | un op a ih =>
    unfold evalI
    split
    · simp [In64]
    · split
      · exact bitZ_range _
      · exact wr_range _
  | bin op a b iha ihb =>
    unfold evalI
    split
    · simp [In64]
    · split
      · simp [In64]
      · exact twoZ_range _ iha

theorem evalI_bin (vars : List Bind) (op : Str) (t u : Tree) : evalI vars (.bin op t u) =
    if (evalI vars t).2 = false then (0, false) else if (evalI vars u).2 = false then (0, false) else twoZ op (evalI vars t).1 (evalI vars u).1 := by rw [evalI]

/-- A sign between two: flags and number keep step, if they do for the sign. -/
theorem bin_step {vars : List Bind} {op : Str} {t u : Tree} {m mb : Bool} {a b c : Int} {ov : Bool}
    (hmb : mb = ((m || !(evalI vars t).2) || !(evalI vars u).2)) (ha : (evalI vars t).2 = true → a = (evalI vars t).1) (hb : (evalI vars u).2 = true → b = (evalI vars u).1)
    (hov : In64 a → In64 b → ov = !(twoZ op a b).2) (hc : In64 a → In64 b → (twoZ op a b).2 = true → c = (twoZ op a b).1) :
    (mb || ov) = (m || !(evalI vars (.bin op t u)).2) ∧ ((evalI vars (.bin op t u)).2 = true → c = (evalI vars (.bin op t u)).1) := by
  have ra := evalI_range vars t
  have rb := evalI_range vars u
  rw [evalI_bin]
  cases h1 : (evalI vars t).2
  · rw [hmb, h1]; simp
  · cases h2 : (evalI vars u).2
    · rw [hmb, h1, h2]; simp
    · have ea := ha h1
      have eb := hb h2
      rw [← ea] at ra
      rw [← eb] at rb
      rw [hmb, h1, h2, hov ra rb, ← ea, ← eb]
      simp only [Bool.true_eq_false, if_false, Bool.not_true, Bool.or_false]
      exact ⟨trivial, hc ra rb⟩

theorem add_ov {a b : Int} (ha : In64 a) (hb : In64 b) :
    ((decide (0 < b) && decide (9223372036854775807 - b < a)) || (decide (b < 0) && decide (a < -9223372036854775808 - b))) = !(twoZ [43] a b).2 := by
  unfold In64 at *
  have e : (twoZ [43] a b).2 = ((decide (0 ≤ a) != decide (0 ≤ b)) || (decide (0 ≤ a) == decide (0 ≤ wr (a + b)))) := rfl
  rw [e]
  by_cases h : -9223372036854775808 ≤ a + b ∧ a + b ≤ 9223372036854775807
  · rw [wr_id h.1 h.2]
    by_cases h1 : 0 ≤ a <;> by_cases h2 : 0 ≤ b <;> by_cases h3 : 0 ≤ a + b <;> simp [h1, h2, h3] <;> omega
  · have e2 : decide (0 ≤ wr (a + b)) = !decide (0 ≤ a + b) := by
      unfold wr
      by_cases h3 : 0 ≤ a + b <;> simp [h3] <;> omega
    rw [e2]
    by_cases h1 : 0 ≤ a <;> by_cases h2 : 0 ≤ b <;> by_cases h3 : 0 ≤ a + b <;> simp [h1, h2, h3] <;> omega

theorem sub_ov {a b : Int} (ha : In64 a) (hb : In64 b) :
    ((decide (b < 0) && decide (9223372036854775807 + b < a)) || (decide (0 < b) && decide (a < -9223372036854775808 + b))) = !(twoZ [45] a b).2 := by
  unfold In64 at *
  have e : (twoZ [45] a b).2 = ((decide (0 ≤ a) == decide (0 ≤ b)) || (decide (0 ≤ a) == decide (0 ≤ wr (a - b)))) := rfl
  rw [e]
  by_cases h : -9223372036854775808 ≤ a - b ∧ a - b ≤ 9223372036854775807
  · rw [wr_id h.1 h.2]
    by_cases h1 : 0 ≤ a <;> by_cases h2 : 0 ≤ b <;> by_cases h3 : b ≤ a <;> simp [h1, h2, h3] <;> omega
  · have e2 : decide (0 ≤ wr (a - b)) = !decide (b ≤ a) := by
      unfold wr
      by_cases h3 : b ≤ a <;> simp [h3] <;> omega
    rw [e2]
    by_cases h1 : 0 ≤ a <;> by_cases h2 : 0 ≤ b <;> by_cases h3 : b ≤ a <;> simp [h1, h2, h3] <;> omega
end Go.Proofs.YtmkajangkibgeaaDoor.Ar
