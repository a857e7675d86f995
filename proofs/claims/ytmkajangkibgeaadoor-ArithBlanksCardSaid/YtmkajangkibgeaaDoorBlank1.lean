/-
The parser's model runs alike on a text and on the text with something behind it.
-/
import Derived.Test.YtmkajangkibgeaaDoorBlank0
set_option linter.unusedVariables false
set_option linter.unusedSimpArgs false
namespace Go.Proofs.YtmkajangkibgeaaDoor.Ar

def Alike (t : Str) (D : Prop) (x x' : Tree × PS) : Prop := (x.2.bad = true ∧ (D → x'.2.bad = true)) ∨ (x.2.bad = false ∧ x'.2.bad = false ∧ x'.1 = x.1 ∧ Rel t x.2.s x'.2.s)
theorem Alike.lift {t : Str} {D : Prop} {u u' : Tree × PS} (h : Alike t D u u') (f : Tree → Tree) : Alike t D (f u.1, u.2) (f u'.1, u'.2) := by
  rcases h with h | ⟨h1, h2, h3, h4⟩
  · exact .inl h
  · exact .inr ⟨h1, h2, by show f _ = f _; rw [h3], h4⟩
def NoSign (t : Str) (xs : List Str) : Prop := ∀ x, x ∈ xs → x ≠ [] ∧ ∀ c, c ∈ x → c ∉ t

theorem atom_alike {t r r' : Str} {D : Prop} (ht : Tail t) (h : Rel t r r') : Alike t D (atomI (skips r) false) (atomI (skips r') false) := by
  obtain ⟨c, u, hc, hm, hd⟩ := ht.cut
  rcases rel_skips ht h with e | ⟨_, e1, e2⟩
  · rw [e]
    generalize skips r = s
    have tw : ∀ q : UInt8 → Bool, q c = false → (s ++ t).takeWhile q = s.takeWhile q := fun q hq => by
      have hn : (c :: u).takeWhile q = [] := by rw [List.takeWhile_cons]; simp [hq]
      rw [List.takeWhile_append, hc, hn, List.append_nil]
      by_cases hl : (s.takeWhile q).length = s.length
      · rw [if_pos hl]; exact ((List.takeWhile_prefix q).eq_of_length hl).symm
      · rw [if_neg hl]
    have dw : ∀ q : UInt8 → Bool, q c = false → (s ++ t).dropWhile q = s.dropWhile q ++ t := fun q hq => by
      have hn : (c :: u).dropWhile q = c :: u := by rw [List.dropWhile_cons]; simp [hq]
      rw [List.dropWhile_append, hc, hn]
      by_cases hl : (s.dropWhile q).isEmpty = true
      · rw [if_pos hl, List.isEmpty_iff.1 hl]; rfl
      · rw [if_neg hl]
    unfold atomI
    rw [tw digit hd, tw more hm, dw digit hd, dw more hm]
    split
    · exact .inr ⟨rfl, rfl, rfl, .inl rfl⟩
    · split
      · exact .inr ⟨rfl, rfl, rfl, .inl rfl⟩
      · exact .inl ⟨rfl, fun _ => rfl⟩
  · rw [e1, e2]
    exact .inl ⟨rfl, fun _ => rfl⟩

section
variable {t : Str} {D : Prop}
theorem loop_alike (ht : Tail t) {n : Nat} {signs : List Str} (hs : NoSign t signs) {sub : PS → Tree × PS} {self : Tree → PS → Tree × PS} {step : Tree → PS → Tree × PS}
    (hstep : ∀ a p, step a p = if p.bad then (a, p) else if (takes signs p.s).1 = [] then (a, ⟨(takes signs p.s).2, p.bad⟩) else self (.bin (takes signs p.s).1 a (sub ⟨(takes signs p.s).2, p.bad⟩).1) (sub ⟨(takes signs p.s).2, p.bad⟩).2)
    (hsub : ∀ r r', Rel t r r' → Alike t D (sub ⟨r, false⟩) (sub ⟨r', false⟩)) (hself : ∀ a r r', Rel t r r' → Alike t D (self a ⟨r, false⟩) (self a ⟨r', false⟩)) (hbad : ∀ a s, (self a ⟨s, true⟩).2.bad = true)
    (a : Tree) (r r' : Str) (h : Rel t r r') : Alike t D (step a ⟨r, false⟩) (step a ⟨r', false⟩) := by
  obtain ⟨k1, k2⟩ := takes_rel ht h signs hs
  rw [hstep, hstep]
  simp only [Bool.false_eq_true, if_false, k1]
  by_cases hk : (takes signs r).1 = []
  · rw [if_pos hk, if_pos hk]; exact .inr ⟨rfl, rfl, rfl, k2⟩
  · rw [if_neg hk, if_neg hk]
    have hu := hsub _ _ k2
    generalize sub ⟨(takes signs r).2, false⟩ = u at *
    generalize sub ⟨(takes signs r').2, false⟩ = u' at *
    obtain ⟨c, ⟨q, b⟩⟩ := u
    obtain ⟨c', ⟨q', b'⟩⟩ := u'
    rcases hu with ⟨h1, h2⟩ | ⟨h1, h2, h3, h4⟩
    · simp only at h1 h2 ⊢
      subst h1
      refine .inl ⟨hbad _ _, fun hd => ?_⟩
      rw [h2 hd]; exact hbad _ _
    · simp only at h1 h2 h3 h4 ⊢
      subst h1; subst h2; subst h3
      exact hself _ _ _ h4
theorem first_alike {sub : PS → Tree × PS} {self : Tree → PS → Tree × PS}
    (hsub : ∀ r r', Rel t r r' → Alike t D (sub ⟨r, false⟩) (sub ⟨r', false⟩)) (hself : ∀ a r r', Rel t r r' → Alike t D (self a ⟨r, false⟩) (self a ⟨r', false⟩)) (hbad : ∀ a s, (self a ⟨s, true⟩).2.bad = true)
    (r r' : Str) (h : Rel t r r') : Alike t D (self (sub ⟨r, false⟩).1 (sub ⟨r, false⟩).2) (self (sub ⟨r', false⟩).1 (sub ⟨r', false⟩).2) := by
  have hu := hsub _ _ h
  generalize sub ⟨r, false⟩ = u at *
  generalize sub ⟨r', false⟩ = u' at *
  obtain ⟨c, ⟨q, b⟩⟩ := u
  obtain ⟨c', ⟨q', b'⟩⟩ := u'
  rcases hu with ⟨h1, h2⟩ | ⟨h1, h2, h3, h4⟩
  · simp only at h1 h2 ⊢
    subst h1
    refine .inl ⟨hbad _ _, fun hd => ?_⟩
    rw [h2 hd]; exact hbad _ _
  · simp only at h1 h2 h3 h4 ⊢
    subst h1; subst h2; subst h3
    exact hself _ _ _ h4

theorem close_found (ht : Tail t) {r r' : Str} (h : Rel t r r') (hk : (takes [[41]] r).1 ≠ []) : (takes [[41]] r').1 = (takes [[41]] r).1 ∧ Rel t (takes [[41]] r).2 (takes [[41]] r').2 := by
  have hp : ([41] : Str).isPrefixOf (skips r) = true := by
    cases hh : ([41] : Str).isPrefixOf (skips r)
    · exfalso; apply hk; unfold takes; rw [List.find?_cons, hh]; rfl
    · rfl
  rcases rel_skips ht h with e | ⟨_, e1, e2⟩
  · have hp' : ([41] : Str).isPrefixOf (skips r') = true := by
      rw [e, List.isPrefixOf_iff_prefix]; exact (List.isPrefixOf_iff_prefix.1 hp).trans (List.prefix_append _ _)
    have hl : ([41] : Str).length ≤ (skips r).length := (List.isPrefixOf_iff_prefix.1 hp).length_le
    unfold takes
    rw [List.find?_cons, List.find?_cons, hp, hp']
    exact ⟨rfl, .inl (by show (skips r').drop _ = _; rw [e, List.drop_append_of_le_length hl])⟩
  · rw [e1] at hp; exact absurd hp (by decide)

end
section
variable {t : Str} {D : Prop} (ht : Tail t) (hc : NoSign t cmps) (ha : NoSign t adds) (hm : NoSign t muls) (ho : NoSign t opens) (hD : D → NoSign t [[41]])
include ht hc ha hm ho hD

theorem behind (n : Nat) : (∀ r r', Rel t r r' → Alike t D (exprI n ⟨r, false⟩) (exprI n ⟨r', false⟩)) ∧ (∀ r r', Rel t r r' → Alike t D (sumI n ⟨r, false⟩) (sumI n ⟨r', false⟩)) ∧ (∀ a r r', Rel t r r' → Alike t D (sumL n a ⟨r, false⟩) (sumL n a ⟨r', false⟩)) ∧
    (∀ r r', Rel t r r' → Alike t D (prodI n ⟨r, false⟩) (prodI n ⟨r', false⟩)) ∧ (∀ a r r', Rel t r r' → Alike t D (prodL n a ⟨r, false⟩) (prodL n a ⟨r', false⟩)) ∧ (∀ r r', Rel t r r' → Alike t D (unaryI n ⟨r, false⟩) (unaryI n ⟨r', false⟩)) := by
  induction n with
  | zero => refine ⟨?_, ?_, ?_, ?_, ?_, ?_⟩ <;> intros <;> exact .inl ⟨rfl, fun _ => rfl⟩
  | succ n ih =>
    obtain ⟨i1, i2, i3, i4, i5, i6⟩ := ih
    obtain ⟨b1, b2, b3, b4, b5, b6⟩ := bad_all n
    refine ⟨fun r r' h => ?_, fun r r' h => ?_, fun a r r' h => ?_, fun r r' h => ?_, fun a r r' h => ?_, fun r r' h => ?_⟩
    · refine first_alike (sub := sumI n) (self := fun a p => if (takes cmps p.s).1 = [] then (a, ⟨(takes cmps p.s).2, p.bad⟩) else (.bin (takes cmps p.s).1 a (sumI n ⟨(takes cmps p.s).2, p.bad⟩).1, (sumI n ⟨(takes cmps p.s).2, p.bad⟩).2)) i2 (fun a q q' hq => ?_) (fun a s => ?_) r r' h
      · obtain ⟨k1, k2⟩ := takes_rel ht hq cmps hc
        simp only [k1]
        split
        · exact .inr ⟨rfl, rfl, rfl, k2⟩
        · exact (i2 _ _ k2).lift _
      · simp only
        split
        · rfl
        · exact b2 _
    · exact first_alike i4 i3 b3 r r' h
    · exact loop_alike ht (n := n) ha (sub := prodI n) (self := sumL n) (step := sumL (n + 1)) (fun a p => by simp only [sumL]) i4 i3 b3 a r r' h
    · exact first_alike i6 i5 b5 r r' h
    · exact loop_alike ht (n := n) hm (sub := unaryI n) (self := prodL n) (step := prodL (n + 1)) (fun a p => by simp only [prodL]) i6 i5 b5 a r r' h
    · obtain ⟨k1, k2⟩ := takes_rel ht h opens ho
      simp only [unaryI, k1]
      by_cases h1 : (takes opens r).1 = [45] ∨ (takes opens r).1 = [33]
      · rw [if_pos h1, if_pos h1]; exact (i6 _ _ k2).lift _
      · rw [if_neg h1, if_neg h1]
        by_cases h2 : (takes opens r).1 = [40]
        · rw [if_pos h2, if_pos h2]
          have hu := i1 _ _ k2
          generalize exprI n ⟨(takes opens r).2, false⟩ = u at *
          generalize exprI n ⟨(takes opens r').2, false⟩ = u' at *
          rcases hu with ⟨g1, g2⟩ | ⟨g1, g2, g3, g4⟩
          · exact .inl ⟨by show (u.2.bad || _) = true; rw [g1]; rfl, fun hd => by show (u'.2.bad || _) = true; rw [g2 hd]; rfl⟩
          · by_cases hk : (takes [[41]] u.2.s).1 = []
            · refine .inl ⟨by show (u.2.bad || decide _) = true; rw [decide_eq_true hk, Bool.or_true], fun hd => ?_⟩
              have := (takes_rel ht g4 [[41]] (hD hd)).1
              show (u'.2.bad || decide _) = true
              rw [this, decide_eq_true hk, Bool.or_true]
            · obtain ⟨m1, m2⟩ := close_found ht g4 hk
              refine .inr ⟨by show (u.2.bad || decide _) = false; rw [g1, decide_eq_false hk]; rfl, ?_, g3, m2⟩
              show (u'.2.bad || decide _) = false
              rw [m1, g2, decide_eq_false hk]; rfl
        · rw [if_neg h2, if_neg h2]
          have e : ∀ q, (takes opens q).1 = [] → (takes opens q).2 = skips q := fun q hq => by
            rcases takes_cases opens q with ⟨x, hx, _, e⟩ | ⟨_, e⟩
            · rw [e] at hq; simp only at hq; subst hq; simp [opens] at hx
            · rw [e]
          have h3 : (takes opens r).1 = [] := by
            rcases takes_cases opens r with ⟨x, hx, _, e⟩ | ⟨_, e⟩
            · rw [e] at h1 h2; simp [opens] at hx h1 h2; rcases hx with rfl | rfl | rfl <;> simp_all
            · rw [e]
          rw [e r h3, e r' (by rw [k1, h3])]
          exact atom_alike ht h
end
end Go.Proofs.YtmkajangkibgeaaDoor.Ar
