/-
The plain law of arith, fourth part: the program's answer is the reference's.
-/
import Derived.Test.YtmkajangkibgeaaDoorArithLaw3
set_option linter.unusedSimpArgs false
set_option linter.unusedVariables false
namespace Go.Proofs.YtmkajangkibgeaaDoor.Ar

theorem takes_cons (x : Str) (l : List Str) (s : Str) : takes (x :: l) s = if x.isPrefixOf (skips s) = true then (x, (skips s).drop x.length) else takes l s := by
  unfold takes
  rw [List.find?_cons]
  cases h : x.isPrefixOf (skips s) <;> simp [h]
theorem takes_nil (s : Str) : takes [] s = ([], skips s) := rfl

theorem evalI_un (vars : List Bind) (op : Str) (a : Tree) : evalI vars (.un op a) =
    if (evalI vars a).2 = false then (0, false) else if op = [33] then (bitZ (decide ((evalI vars a).1 = 0)), true) else (wr (-(evalI vars a).1), decide ((evalI vars a).1 ≠ -9223372036854775808)) := by rw [evalI]

theorem expr_step {s : Str} {vars : List Bind} {n : Nat} (hs : Keeps s vars (sumI n) (sumR s vars n)) : Keeps s vars (exprI (n + 1)) (exprR s vars (n + 1)) := by
  intro p r h
  have fb := (bad_all n).2.1
  have gb := (form_all s vars n).2.1
  have hrg := (range_all s vars n).2.1
  have hA := hs p r h
  have rA := hrg r
  simp only [exprI, exprR]
  cases hb : (sumI n ⟨p, false⟩).2.bad
  · have hA' := hA.at_ hb
    generalize sumI n ⟨p, false⟩ = X at *
    generalize sumR s vars n r = Y at *
    obtain ⟨t, ⟨q, qb⟩⟩ := X
    obtain ⟨a, ra⟩ := Y
    simp only at hb hA' rA ⊢
    subst hb
    -- one comparison
    have key : ∀ (x : Str) (c : Int → Int → Bool), x ≠ [] → (∀ u v, twoZ x u v = (bitZ (c u v), true)) → ∀ r1, At s ((skips q).drop x.length) r1 → r1.math = ra.math →
        Post s vars r.math (.bin x t (sumI n ⟨(skips q).drop x.length, false⟩).1, (sumI n ⟨(skips q).drop x.length, false⟩).2) (bitZ (c a (sumR s vars n r1).1), (sumR s vars n r1).2) := by
      intro x c hne htw r1 h1 hm1
      have hP := hs _ _ h1
      cases hb2 : (sumI n ⟨(skips q).drop x.length, false⟩).2.bad
      · obtain ⟨g1, g2, g3⟩ := keeps_bin (op := x) (t := t) (a := a) (m := r.math) (r := r1) (c := bitZ (c a (sumR s vars n r1).1)) (ov := false) (r' := (sumR s vars n r1).2)
          (by rw [hm1]; exact hA.math rfl) (hA.val rfl) rA (hrg r1) hP hb2 (by simp) (by rw [htw]; rfl) (by intro _; rw [htw])
        exact ⟨hP.bad, fun _ => g1, fun _ => g2, fun _ => g3⟩
      · exact Post.of_bad hb2 (by show (sumR s vars n r1).2.form = true; rw [← hP.bad, hb2])
    have e0 := skips_skips q
    unfold cmps
    simp only [takes_cons, takes_nil]
    cases p1 : ([60, 61] : Str).isPrefixOf (skips q)
    case true =>
      obtain ⟨q1, q2, q3⟩ := eat_yes hA' p1
      simp only [q1, if_true, show ¬ (([60, 61] : Str) = []) from by simp, if_false]
      exact key [60, 61] (fun u v => decide (u ≤ v)) (by simp) (fun _ _ => rfl) _ q2 q3
    case false =>
    obtain ⟨q1, q2, q3⟩ := eat_no hA' p1
    simp only [q1, Bool.false_eq_true, if_false]
    cases p2 : ([62, 61] : Str).isPrefixOf (skips q)
    case true =>
      obtain ⟨k1, k2, k3⟩ := eat_yes q2 (x := [62, 61]) (by rw [e0]; exact p2)
      rw [e0] at k2
      simp only [k1, if_true, show ¬ (([62, 61] : Str) = []) from by simp, if_false]
      exact key [62, 61] (fun u v => decide (v ≤ u)) (by simp) (fun _ _ => rfl) _ k2 (k3.trans q3)
    case false =>
    obtain ⟨k1, k2, k3⟩ := eat_no q2 (x := [62, 61]) (by rw [e0]; exact p2)
    rw [e0] at k2
    simp only [k1, Bool.false_eq_true, if_false]
    have m2 := k3.trans q3
    cases p3 : ([61, 61] : Str).isPrefixOf (skips q)
    case true =>
      obtain ⟨j1, j2, j3⟩ := eat_yes k2 (x := [61, 61]) (by rw [e0]; exact p3)
      rw [e0] at j2
      simp only [j1, if_true, show ¬ (([61, 61] : Str) = []) from by simp, if_false]
      exact key [61, 61] (fun u v => decide (u = v)) (by simp) (fun _ _ => rfl) _ j2 (j3.trans m2)
    case false =>
    obtain ⟨j1, j2, j3⟩ := eat_no k2 (x := [61, 61]) (by rw [e0]; exact p3)
    rw [e0] at j2
    simp only [j1, Bool.false_eq_true, if_false]
    have m3 := j3.trans m2
    cases p4 : ([33, 61] : Str).isPrefixOf (skips q)
    case true =>
      obtain ⟨i1, i2, i3⟩ := eat_yes j2 (x := [33, 61]) (by rw [e0]; exact p4)
      rw [e0] at i2
      simp only [i1, if_true, show ¬ (([33, 61] : Str) = []) from by simp, if_false]
      exact key [33, 61] (fun u v => decide (u ≠ v)) (by simp) (fun _ _ => rfl) _ i2 (i3.trans m3)
    case false =>
    obtain ⟨i1, i2, i3⟩ := eat_no j2 (x := [33, 61]) (by rw [e0]; exact p4)
    rw [e0] at i2
    simp only [i1, Bool.false_eq_true, if_false]
    have m4 := i3.trans m3
    cases p5 : ([60] : Str).isPrefixOf (skips q)
    case true =>
      obtain ⟨l1, l2, l3⟩ := eat_yes i2 (x := [60]) (by rw [e0]; exact p5)
      rw [e0] at l2
      simp only [l1, if_true, show ¬ (([60] : Str) = []) from by simp, if_false]
      exact key [60] (fun u v => decide (u < v)) (by simp) (fun _ _ => rfl) _ l2 (l3.trans m4)
    case false =>
    obtain ⟨l1, l2, l3⟩ := eat_no i2 (x := [60]) (by rw [e0]; exact p5)
    rw [e0] at l2
    simp only [l1, Bool.false_eq_true, if_false]
    have m5 := l3.trans m4
    cases p6 : ([62] : Str).isPrefixOf (skips q)
    case true =>
      obtain ⟨o1, o2, o3⟩ := eat_yes l2 (x := [62]) (by rw [e0]; exact p6)
      rw [e0] at o2
      simp only [o1, if_true, show ¬ (([62] : Str) = []) from by simp, if_false]
      exact key [62] (fun u v => decide (v < u)) (by simp) (fun _ _ => rfl) _ o2 (o3.trans m5)
    case false =>
    obtain ⟨o1, o2, o3⟩ := eat_no l2 (x := [62]) (by rw [e0]; exact p6)
    rw [e0] at o2
    simp only [o1, Bool.false_eq_true, if_false, if_true]
    exact ⟨o2.form.symm, fun _ => o2, fun _ => by rw [← hA.math rfl]; exact o3.trans m5, fun _ => hA.val rfl⟩
  · have hf : (sumR s vars n r).2.form = true := by rw [← hA.bad, hb]
    have hF := (form_all s vars (n + 1)).1
    refine Post.of_bad ?_ ?_
    · split
      · rfl
      · exact fb _
    · have g := eat_form (s := s) (x := [60, 61]) hf
      have e2 := eat_form (s := s) (x := [62, 61]) g.2
      have e3 := eat_form (s := s) (x := [61, 61]) e2.2
      have e4 := eat_form (s := s) (x := [33, 61]) e3.2
      have e5 := eat_form (s := s) (x := [60]) e4.2
      have e6 := eat_form (s := s) (x := [62]) e5.2
      simp only [g.1, e2.1, e3.1, e4.1, e5.1, e6.1, Bool.false_eq_true, if_false]
      exact e6.2

theorem neg_twoZ {b : Int} (hb : In64 b) : subR 0 b = fun r => (wr (0 - b), { r with math := r.math || !decide (b ≠ -9223372036854775808) }) := by
  funext r
  unfold subR In64 at *
  by_cases h : b = -9223372036854775808
  · subst h; simp
  · have e1 : (decide (b < 0) && decide ((9223372036854775807 : Int) + b < 0)) = false := by simp; omega
    have e2 : (decide (0 < b) && decide ((0 : Int) < -9223372036854775808 + b)) = false := by simp; omega
    simp only [e1, e2]; simp [h]

theorem unary_step {s : Str} {vars : List Bind} {n : Nat} (hu : Keeps s vars (unaryI n) (unaryR s vars n)) (he : Keeps s vars (exprI n) (exprR s vars n)) : Keeps s vars (unaryI (n + 1)) (unaryR s vars (n + 1)) := by
  intro p r h
  have e0 := skips_skips p
  simp only [unaryI, unaryR]
  unfold opens
  simp only [takes_cons, takes_nil]
  cases p1 : ([45] : Str).isPrefixOf (skips p)
  case true =>
    obtain ⟨q1, q2, q3⟩ := eat_yes h p1
    simp only [q1, if_true, true_or]
    have hP := hu _ _ q2
    have rv := (range_all s vars n).2.2.2.2.2 (eatR s [45] r).2
    rw [neg_twoZ rv]
    cases hb : (unaryI n ⟨(skips p).drop ([45] : Str).length, false⟩).2.bad
    · have g := hP.at_ hb
      refine ⟨by show _ = (unaryR s vars n _).2.form; rw [← hP.bad], fun _ => ⟨g.form, g.le, g.eq⟩, fun _ => ?_, fun _ => ?_⟩
      · show (_ || _) = _
        rw [hP.math hb, q3, evalI_un]
        cases hk : (evalI vars (unaryI n ⟨(skips p).drop ([45] : Str).length, false⟩).1).2
        · simp
        · have := hP.val hb hk
          rw [if_neg (by simp), if_neg (by decide), this]; simp
      · show _ → wr (0 - _) = _
        rw [evalI_un]
        cases hk : (evalI vars (unaryI n ⟨(skips p).drop ([45] : Str).length, false⟩).1).2
        · simp
        · have := hP.val hb hk
          rw [if_neg (by simp), if_neg (by decide), this]; simp
    · exact Post.of_bad hb (by show (unaryR s vars n _).2.form = true; rw [← hP.bad, hb])
  case false =>
  obtain ⟨q1, q2, q3⟩ := eat_no h p1
  simp only [q1, Bool.false_eq_true, if_false]
  cases p2 : ([33] : Str).isPrefixOf (skips p)
  case true =>
    obtain ⟨k1, k2, k3⟩ := eat_yes q2 (x := [33]) (by rw [e0]; exact p2)
    rw [e0] at k2
    simp only [k1, if_true, or_true]
    have hP := hu _ _ k2
    cases hb : (unaryI n ⟨(skips p).drop ([33] : Str).length, false⟩).2.bad
    · refine ⟨hP.bad, fun _ => hP.at_ hb, fun _ => ?_, fun _ => ?_⟩
      · show (unaryR s vars n _).2.math = _
        rw [hP.math hb, k3, q3, evalI_un]
        cases hk : (evalI vars (unaryI n ⟨(skips p).drop ([33] : Str).length, false⟩).1).2
        · simp
        · rw [if_neg (by simp), if_pos rfl]
      · show _ → bitZ _ = _
        rw [evalI_un]
        cases hk : (evalI vars (unaryI n ⟨(skips p).drop ([33] : Str).length, false⟩).1).2
        · simp
        · have := hP.val hb hk
          rw [if_neg (by simp), if_pos rfl, this]; simp
    · exact Post.of_bad hb (by show (unaryR s vars n _).2.form = true; rw [← hP.bad, hb])
  case false =>
  obtain ⟨k1, k2, k3⟩ := eat_no q2 (x := [33]) (by rw [e0]; exact p2)
  rw [e0] at k2
  simp only [k1, Bool.false_eq_true, if_false]
  have m2 := k3.trans q3
  cases p3 : ([40] : Str).isPrefixOf (skips p)
  case true =>
    obtain ⟨j1, j2, j3⟩ := eat_yes k2 (x := [40]) (by rw [e0]; exact p3)
    rw [e0] at j2
    simp only [j1, if_true, show ¬ (([40] : Str) = [45] ∨ ([40] : Str) = [33]) from by decide, if_false]
    have hP := he _ _ j2
    cases hb : (exprI n ⟨(skips p).drop ([40] : Str).length, false⟩).2.bad
    · have g := hP.at_ hb
      cases p4 : ([41] : Str).isPrefixOf (skips (exprI n ⟨(skips p).drop ([40] : Str).length, false⟩).2.s)
      · obtain ⟨i1, i2, i3⟩ := eat_no g p4
        refine Post.of_bad ?_ ?_
        · simp
        · show (!_ || _) = true; rw [i1]; rfl
      · obtain ⟨i1, i2, i3⟩ := eat_yes g p4
        refine ⟨?_, fun _ => ⟨?_, i2.le, i2.eq⟩, fun _ => ?_, fun _ => hP.val hb⟩
        · have gf := i2.form; simp [takes_cons, p4, i1, gf, hb]
        · show (!_ || _) = false; rw [i1, i2.form]; rfl
        · show (eatR s [41] _).2.math = _; rw [i3, hP.math hb, j3, m2]
    · have hf : (exprR s vars n (eatR s [40] (eatR s [33] (eatR s [45] r).2).2).2).2.form = true := by rw [← hP.bad, hb]
      exact Post.of_bad (by simp) (by show (!_ || _) = true; rw [(eat_form (s := s) (x := [41]) hf).2]; simp)
  case false =>
  obtain ⟨j1, j2, j3⟩ := eat_no k2 (x := [40]) (by rw [e0]; exact p3)
  rw [e0] at j2
  simp only [j1, Bool.false_eq_true, if_false, show ¬ (([] : Str) = [45] ∨ ([] : Str) = [33]) from by decide, show ¬ (([] : Str) = [40]) from by decide]
  have hk := j2.skip
  rw [e0] at hk
  have hP := atom_step s vars _ _ hk
  have hm : (skipR s (eatR s [40] (eatR s [33] (eatR s [45] r).2).2).2).math = r.math := j3.trans m2
  rw [hm] at hP
  exact hP

theorem keeps_all (s : Str) (vars : List Bind) (n : Nat) : Keeps s vars (exprI n) (exprR s vars n) ∧ Keeps s vars (sumI n) (sumR s vars n) ∧ KeepsL s vars (sumL n) (sumRL s vars n) ∧
    Keeps s vars (prodI n) (prodR s vars n) ∧ KeepsL s vars (prodL n) (prodRL s vars n) ∧ Keeps s vars (unaryI n) (unaryR s vars n) := by
  induction n with
  | zero =>
    refine ⟨fun p r _ => ?_, fun p r _ => ?_, fun t a m p r _ _ _ _ => ?_, fun p r _ => ?_, fun t a m p r _ _ _ _ => ?_, fun p r _ => ?_⟩ <;> exact Post.of_bad rfl rfl
  | succ n ih =>
    obtain ⟨h1, h2, h3, h4, h5, h6⟩ := ih
    have b3 := (bad_all n).2.2.1
    have f3 := (form_all s vars n).2.2.1
    have b5 := (bad_all n).2.2.2.2.1
    have f5 := (form_all s vars n).2.2.2.2.1
    refine ⟨expr_step h2, fun p r h => ?_, sumL_step h4 h3, fun p r h => ?_, prodL_step h6 h5, unary_step h6 h1⟩
    · simp only [sumI, sumR]; exact keeps_seq h3 b3 f3 (h4 p r h) ((range_all s vars n).2.2.2.1 r)
    · simp only [prodI, prodR]; exact keeps_seq h5 b5 f5 (h6 p r h) ((range_all s vars n).2.2.2.2.2 r)

/-- The program's answer is the reference's, round by round. -/
theorem eval_same (n : Nat) (s : Str) (vars : List Bind) : EvalI n s vars = EvalR s vars n := by
  have h0 : At s s ⟨0, false, false⟩ := ⟨rfl, Nat.zero_le _, rfl⟩
  have hP := (keeps_all s vars n).1 s _ h0
  unfold EvalI EvalR
  simp only
  cases hb : (exprI n ⟨s, false⟩).2.bad
  · have g := (hP.at_ hb).skip
    have hn : nextR s (skipR s (exprR s vars n ⟨0, false, false⟩).2) = (skips (exprI n ⟨s, false⟩).2.s).headD 0 := by
      unfold nextR; rw [g.form, g.eq]; rfl
    by_cases he : skips (exprI n ⟨s, false⟩).2.s = []
    · have hi : ¬ (skipR s (exprR s vars n ⟨0, false, false⟩).2).i < s.length := by
        have := g.eq; rw [he] at this
        have := congrArg List.length this; simp at this; omega
      have c1 : ¬ (false = true ∨ skips (exprI n ⟨s, false⟩).2.s ≠ []) := by simp [he]
      have c2 : ¬ ((skipR s (exprR s vars n ⟨0, false, false⟩).2).form = true ∨ nextR s (skipR s (exprR s vars n ⟨0, false, false⟩).2) ≠ 0 ∨ (skipR s (exprR s vars n ⟨0, false, false⟩).2).i < s.length) := by
        rw [hn, he, g.form]; simp at hi ⊢; exact hi
      rw [if_neg c1, if_neg c2]
      have hm := hP.math hb
      have hv := hP.val hb
      show _ = if (exprR s vars n ⟨0, false, false⟩).2.math = true then _ else _
      rw [hm]
      cases hk : (evalI vars (exprI n ⟨s, false⟩).1).2
      · simp
      · rw [hv hk]; simp
    · have hi : (skipR s (exprR s vars n ⟨0, false, false⟩).2).i < s.length := by
        rcases Nat.lt_or_ge (skipR s (exprR s vars n ⟨0, false, false⟩).2).i s.length with h | h
        · exact h
        · exact absurd (by rw [g.eq]; exact List.drop_eq_nil_of_le h) he
      rw [if_pos (.inr he), if_pos (.inr (.inr hi))]
  · have hf : (skipR s (exprR s vars n ⟨0, false, false⟩).2).form = true := by show (exprR s vars n _).2.form = true; rw [← hP.bad, hb]
    rw [if_pos (.inl rfl), if_pos (.inl hf)]
end Go.Proofs.YtmkajangkibgeaaDoor.Ar
