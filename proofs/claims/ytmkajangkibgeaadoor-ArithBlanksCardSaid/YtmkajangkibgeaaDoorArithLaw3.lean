/-
The plain law of arith, third part: the readers keep step.
-/
import Derived.Test.YtmkajangkibgeaaDoorArithLaw2
set_option linter.unusedSimpArgs false
set_option linter.unusedVariables false
namespace Go.Proofs.YtmkajangkibgeaaDoor.Ar

theorem dw_drop (p : UInt8 → Bool) (l : Str) : l.dropWhile p = l.drop (l.takeWhile p).length := (drop_tw p l).symm

theorem At.tw {s p : Str} {r : RS} (h : At s p r) (q : UInt8 → Bool) (m : Bool) : At s (p.dropWhile q) { r with i := r.i + ((s.drop r.i).takeWhile q).length, math := m } := by
  refine ⟨h.form, ?_, ?_⟩
  · have := tw_le q (s.drop r.i)
    have := h.le
    simp at *; omega
  · show _ = s.drop (r.i + _)
    rw [h.eq, dw_drop, List.drop_drop]

/-- A leaf. -/
theorem atom_step (s : Str) (vars : List Bind) (p : Str) (r : RS) (h : At s p r) : Post s vars r.math (atomI p false) (atomR s vars r) := by
  have hn : nextR s r = p.headD 0 := by unfold nextR; rw [h.form, h.eq]; rfl
  have hd : digit (nextR s r) = true ↔ p.takeWhile digit ≠ [] := by
    rw [hn]
    cases p with
    | nil => simp; decide
    | cons c l => cases hc : digit c <;> simp [List.takeWhile_cons, hc]
  unfold atomI atomR
  rw [← h.eq]
  by_cases h1 : p.takeWhile digit ≠ []
  · rw [if_pos h1, if_pos (hd.2 h1)]
    have ha := h.tw digit (r.math || (numZ (p.takeWhile digit)).isNone)
    rw [← h.eq] at ha
    refine ⟨h.form.symm, fun _ => ha, fun _ => ?_, fun _ _ => ?_⟩
    · simp [evalI]
    · simp [evalI]
  · have hd' : ¬ digit (nextR s r) = true := by rw [hd]; exact h1
    rw [if_neg h1, if_neg hd']
    by_cases h2 : isName (p.takeWhile more) = true
    · rw [if_pos h2, if_neg (by rw [h.form, h2]; simp)]
      have ha := h.tw more (r.math || (valueZ (p.takeWhile more) vars).isNone)
      rw [← h.eq] at ha
      have hne : sName ≠ sDigits := by decide
      refine ⟨h.form.symm, fun _ => ha, fun _ => ?_, fun _ _ => ?_⟩
      · simp [evalI, hne, valueR]
      · simp [evalI, hne, valueR]
    · rw [if_neg h2, if_pos (by right; simpa using h2)]
      exact Post.of_bad rfl rfl

theorem takes_cases (signs : List Str) (s : Str) : (∃ x ∈ signs, x.isPrefixOf (skips s) = true ∧ takes signs s = (x, (skips s).drop x.length)) ∨ ((∀ x ∈ signs, x.isPrefixOf (skips s) = false) ∧ takes signs s = ([], skips s)) := by
  unfold takes
  cases h : signs.find? (fun x => x.isPrefixOf (skips s)) with
  | none => exact .inr ⟨fun x hx => by have := List.find?_eq_none.1 h x hx; cases hc : x.isPrefixOf (skips s) <;> simp_all, rfl⟩
  | some x => exact .inl ⟨x, List.mem_of_find?_eq_some h, by simpa using List.find?_some h, rfl⟩

theorem PS.eta (p : PS) : (⟨p.s, p.bad⟩ : PS) = p := rfl
theorem ps_false {p : PS} (h : p.bad = false) : p = ⟨p.s, false⟩ := by cases p; simp_all
theorem ps_true {p : PS} (h : p.bad = true) : p = ⟨p.s, true⟩ := by cases p; simp_all

def Keeps (s : Str) (vars : List Bind) (f : PS → Tree × PS) (g : RS → Int × RS) : Prop := ∀ p r, At s p r → Post s vars r.math (f ⟨p, false⟩) (g r)
def KeepsL (s : Str) (vars : List Bind) (f : Tree → PS → Tree × PS) (g : Int → RS → Int × RS) : Prop :=
  ∀ t a m p r, At s p r → r.math = (m || !(evalI vars t).2) → ((evalI vars t).2 = true → a = (evalI vars t).1) → In64 a → Post s vars m (f t ⟨p, false⟩) (g a r)

theorem keeps_seq {s : Str} {vars : List Bind} {m : Bool} {f : Tree → PS → Tree × PS} {g : Int → RS → Int × RS} (hL : KeepsL s vars f g) (fb : ∀ t s, (f t ⟨s, true⟩).2.bad = true) (gb : ∀ a r, r.form = true → (g a r).2.form = true)
    {x : Tree × PS} {y : Int × RS} (h : Post s vars m x y) (hy : In64 y.1) : Post s vars m (f x.1 x.2) (g y.1 y.2) := by
  cases hb : x.2.bad
  · rw [ps_false hb]
    exact hL _ _ _ _ _ (h.at_ hb) (h.math hb) (h.val hb) hy
  · rw [ps_true hb]
    exact Post.of_bad (fb _ _) (gb _ _ (by rw [← h.bad, hb]))

/-- One sign between two, as the loops and expr have it. -/
theorem keeps_bin {s : Str} {vars : List Bind} {m : Bool} {op : Str} {t : Tree} {a : Int} {r : RS} {x : Tree × PS} {y : Int × RS} {c : Int} {r' : RS} {ov : Bool}
    (hm : r.math = (m || !(evalI vars t).2)) (ha : (evalI vars t).2 = true → a = (evalI vars t).1) (ra : In64 a) (ry : In64 y.1)
    (h : Post s vars r.math x y) (hb : x.2.bad = false) (hr : r' = { y.2 with math := y.2.math || ov })
    (hov : ov = !(twoZ op a y.1).2) (hc : (twoZ op a y.1).2 = true → c = (twoZ op a y.1).1) :
    At s x.2.s r' ∧ r'.math = (m || !(evalI vars (.bin op t x.1)).2) ∧ ((evalI vars (.bin op t x.1)).2 = true → c = (evalI vars (.bin op t x.1)).1) := by
  have k := bin_step (vars := vars) (op := op) (t := t) (u := x.1) (m := m) (mb := y.2.math) (a := a) (b := y.1) (c := c) (ov := ov)
    (by rw [h.math hb, hm]) ha (h.val hb) (fun _ _ => hov) (fun _ _ => hc)
  have g := h.at_ hb
  subst hr
  exact ⟨⟨g.form, g.le, g.eq⟩, k.1, k.2⟩

theorem sumL_step {s : Str} {vars : List Bind} {n : Nat} (hp : Keeps s vars (prodI n) (prodR s vars n)) (hl : KeepsL s vars (sumL n) (sumRL s vars n)) : KeepsL s vars (sumL (n + 1)) (sumRL s vars (n + 1)) := by
  intro t a m p r h hm hv ra
  have fb := (bad_all n).2.2.1
  have gb := (form_all s vars n).2.2.1
  simp only [sumL, sumRL, Bool.false_eq_true, if_false]
  rcases takes_cases adds p with ⟨x, hx, hxp, e⟩ | ⟨hn, e⟩
  · rw [e]
    have key : ∀ (x : Str) (st : Int → Int → RS → Int × RS), x ≠ [] → x.isPrefixOf (skips p) = true → (∀ b r, In64 b → ∃ v, st a b r = (v, { r with math := r.math || !(twoZ x a b).2 }) ∧ In64 v ∧ ((twoZ x a b).2 = true → v = (twoZ x a b).1)) → ∀ r1, At s ((skips p).drop x.length) r1 → r1.math = r.math →
        Post s vars m (sumL n (.bin x t (prodI n ⟨(skips p).drop x.length, false⟩).1) (prodI n ⟨(skips p).drop x.length, false⟩).2) (sumRL s vars n (st a (prodR s vars n r1).1 (prodR s vars n r1).2).1 (st a (prodR s vars n r1).1 (prodR s vars n r1).2).2) := by
      intro x st hne hxp hst r1 h1 hm1
      have hP := hp _ _ h1
      have ry := (range_all s vars n).2.2.2.1 r1
      obtain ⟨v, e1, rv, hvv⟩ := hst (prodR s vars n r1).1 (prodR s vars n r1).2 ry
      rw [e1]
      cases hb : (prodI n ⟨(skips p).drop x.length, false⟩).2.bad
      · obtain ⟨g1, g2, g3⟩ := keeps_bin (m := m) (r := r1) (by rw [hm1, hm]) hv ra ry hP hb rfl rfl hvv
        rw [ps_false hb]
        exact hl _ _ _ _ _ g1 g2 g3 rv
      · rw [ps_true hb]
        exact Post.of_bad (fb _ _) (gb _ _ (by show (prodR s vars n r1).2.form = true; rw [← hP.bad, hb]))
    have hx2 : x = [43] ∨ x = [45] := by simpa [adds] using hx
    rcases hx2 with rfl | rfl
    · obtain ⟨q1, q2, q3⟩ := eat_yes h hxp
      simp only [q1, if_true, show ¬ (([43] : Str) = []) from by simp, if_false]
      exact key [43] addR (by simp) hxp (fun b r hb => ⟨_, addR_eq a b r ra hb, wr_range _, fun _ => rfl⟩) _ q2 q3
    · have hno : ([43] : Str).isPrefixOf (skips p) = false := by
        cases hsk : skips p with
        | nil => rfl
        | cons c l => rw [hsk] at hxp; simp [List.isPrefixOf] at hxp ⊢; rw [← hxp]; decide
      obtain ⟨q1, q2, q3⟩ := eat_no h hno
      have hxp' : ([45] : Str).isPrefixOf (skips (skips p)) = true := by rw [skips_skips]; exact hxp
      obtain ⟨k1, k2, k3⟩ := eat_yes q2 hxp'
      rw [skips_skips] at k2
      simp only [q1, k1, if_true, Bool.false_eq_true, show ¬ (([45] : Str) = []) from by simp, if_false]
      exact key [45] subR (by simp) hxp (fun b r hb => ⟨_, subR_eq a b r ra hb, wr_range _, fun _ => rfl⟩) _ k2 (k3.trans q3)
  · rw [e]
    obtain ⟨q1, q2, q3⟩ := eat_no h (hn [43] (by simp [adds]))
    obtain ⟨k1, k2, k3⟩ := eat_no q2 (x := [45]) (by rw [skips_skips]; exact hn [45] (by simp [adds]))
    rw [skips_skips] at k2
    simp only [q1, k1, Bool.false_eq_true, if_true, if_false]
    exact ⟨k2.form.symm, fun _ => k2, fun _ => by rw [← hm, ← q3]; exact k3, fun _ => hv⟩

theorem prodL_step {s : Str} {vars : List Bind} {n : Nat} (hp : Keeps s vars (unaryI n) (unaryR s vars n)) (hl : KeepsL s vars (prodL n) (prodRL s vars n)) : KeepsL s vars (prodL (n + 1)) (prodRL s vars (n + 1)) := by
  intro t a m p r h hm hv ra
  have fb := (bad_all n).2.2.2.2.1
  have gb := (form_all s vars n).2.2.2.2.1
  simp only [prodL, prodRL, Bool.false_eq_true, if_false]
  rcases takes_cases muls p with ⟨x, hx, hxp, e⟩ | ⟨hn, e⟩
  · rw [e]
    have key : ∀ (x : Str) (st : Int → Int → RS → Int × RS), x ≠ [] → x.isPrefixOf (skips p) = true → (∀ b r, In64 b → ∃ v, st a b r = (v, { r with math := r.math || !(twoZ x a b).2 }) ∧ In64 v ∧ ((twoZ x a b).2 = true → v = (twoZ x a b).1)) → ∀ r1, At s ((skips p).drop x.length) r1 → r1.math = r.math →
        Post s vars m (prodL n (.bin x t (unaryI n ⟨(skips p).drop x.length, false⟩).1) (unaryI n ⟨(skips p).drop x.length, false⟩).2) (prodRL s vars n (st a (unaryR s vars n r1).1 (unaryR s vars n r1).2).1 (st a (unaryR s vars n r1).1 (unaryR s vars n r1).2).2) := by
      intro x st hne hxp hst r1 h1 hm1
      have hP := hp _ _ h1
      have ry := (range_all s vars n).2.2.2.2.2 r1
      obtain ⟨v, e1, rv, hvv⟩ := hst (unaryR s vars n r1).1 (unaryR s vars n r1).2 ry
      rw [e1]
      cases hb : (unaryI n ⟨(skips p).drop x.length, false⟩).2.bad
      · obtain ⟨g1, g2, g3⟩ := keeps_bin (m := m) (r := r1) (by rw [hm1, hm]) hv ra ry hP hb rfl rfl hvv
        rw [ps_false hb]
        exact hl _ _ _ _ _ g1 g2 g3 rv
      · rw [ps_true hb]
        exact Post.of_bad (fb _ _) (gb _ _ (by show (unaryR s vars n r1).2.form = true; rw [← hP.bad, hb]))
    have other : ∀ c d : UInt8, c ≠ d → ([c] : Str).isPrefixOf (skips p) = true → ([d] : Str).isPrefixOf (skips p) = false := by
      intro c d hcd hc
      cases hsk : skips p with
      | nil => rfl
      | cons c' l => rw [hsk] at hc; simp [List.isPrefixOf] at hc ⊢; rw [← hc]; exact fun e => hcd e.symm
    have hx2 : x = [42] ∨ x = [47] ∨ x = [37] := by simpa [muls] using hx
    rcases hx2 with rfl | rfl | rfl
    · obtain ⟨q1, q2, q3⟩ := eat_yes h hxp
      simp only [q1, if_true, show ¬ (([42] : Str) = []) from by simp, if_false]
      exact key [42] mulR (by simp) hxp (fun b r hb => ⟨_, mulR_eq a b r, wr_range _, mul_val⟩) _ q2 q3
    · obtain ⟨q1, q2, q3⟩ := eat_no h (other 47 42 (by decide) hxp)
      obtain ⟨k1, k2, k3⟩ := eat_yes q2 (x := [47]) (by rw [skips_skips]; exact hxp)
      rw [skips_skips] at k2
      simp only [q1, k1, if_true, Bool.false_eq_true, show ¬ (([47] : Str) = []) from by simp, if_false]
      exact key [47] (fun a b r => divR a b false r) (by simp) hxp (fun b r hb => by
        obtain ⟨v, e1, e2⟩ := divR_eq a b r ra
        exact ⟨v, e1, by have := divR_range a b false r ra; rw [e1] at this; exact this, e2⟩) _ k2 (k3.trans q3)
    · obtain ⟨q1, q2, q3⟩ := eat_no h (other 37 42 (by decide) hxp)
      obtain ⟨k1, k2, k3⟩ := eat_no q2 (x := [47]) (by rw [skips_skips]; exact other 37 47 (by decide) hxp)
      rw [skips_skips] at k2
      obtain ⟨j1, j2, j3⟩ := eat_yes k2 (x := [37]) (by rw [skips_skips]; exact hxp)
      rw [skips_skips] at j2
      simp only [q1, k1, j1, if_true, Bool.false_eq_true, show ¬ (([37] : Str) = []) from by simp, if_false]
      exact key [37] (fun a b r => divR a b true r) (by simp) hxp (fun b r hb => by
        obtain ⟨v, e1, e2⟩ := modR_eq a b r
        exact ⟨v, e1, by have := divR_range a b true r ra; rw [e1] at this; exact this, e2⟩) _ j2 (j3.trans (k3.trans q3))
  · rw [e]
    obtain ⟨q1, q2, q3⟩ := eat_no h (hn [42] (by simp [muls]))
    obtain ⟨k1, k2, k3⟩ := eat_no q2 (x := [47]) (by rw [skips_skips]; exact hn [47] (by simp [muls]))
    rw [skips_skips] at k2
    obtain ⟨j1, j2, j3⟩ := eat_no k2 (x := [37]) (by rw [skips_skips]; exact hn [37] (by simp [muls]))
    rw [skips_skips] at j2
    simp only [q1, k1, j1, Bool.false_eq_true, if_true, if_false]
    exact ⟨j2.form.symm, fun _ => j2, fun _ => by rw [← hm, ← q3, ← k3]; exact j3, fun _ => hv⟩
end Go.Proofs.YtmkajangkibgeaaDoor.Ar
