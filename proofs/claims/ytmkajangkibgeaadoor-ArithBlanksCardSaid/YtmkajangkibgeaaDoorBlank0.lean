/-
The parser's model at a text with something behind it or blanks ahead of it.
-/
import Derived.Test.YtmkajangkibgeaaDoorArithLaw4
set_option linter.unusedVariables false
set_option linter.unusedSimpArgs false
namespace Go.Proofs.YtmkajangkibgeaaDoor.Ar

/-! ### blanks ahead -/
theorem takes_ahead (xs : List Str) (b : UInt8) (s : Str) (hb : blank b = true) : takes xs (b :: s) = takes xs s := by
  have : skips (b :: s) = skips s := by unfold skips; rw [List.dropWhile_cons, if_pos hb]
  unfold takes; rw [this]
section
variable (b : UInt8) (s : Str) (bad : Bool) (hb : blank b = true)
include hb
theorem unary_ahead (n : Nat) : unaryI n ⟨b :: s, bad⟩ = unaryI n ⟨s, bad⟩ := by
  cases n with
  | zero => rfl
  | succ n => simp only [unaryI, takes_ahead _ b s hb]
theorem prod_ahead (n : Nat) : prodI n ⟨b :: s, bad⟩ = prodI n ⟨s, bad⟩ := by
  cases n with
  | zero => rfl
  | succ n => simp only [prodI, unary_ahead b s bad hb]
theorem sum_ahead (n : Nat) : sumI n ⟨b :: s, bad⟩ = sumI n ⟨s, bad⟩ := by
  cases n with
  | zero => rfl
  | succ n => simp only [sumI, prod_ahead b s bad hb]
theorem expr_ahead (n : Nat) : exprI n ⟨b :: s, bad⟩ = exprI n ⟨s, bad⟩ := by
  cases n with
  | zero => rfl
  | succ n => simp only [exprI, sum_ahead b s bad hb]
end
theorem eval_ahead (n : Nat) (b : UInt8) (s : Str) (vars : List Bind) (hb : blank b = true) : EvalI n (b :: s) vars = EvalI n s vars := by
  unfold EvalI
  rw [expr_ahead b s false hb]

/-! ### something behind -/
structure Tail (t : Str) : Prop where
  kind : t.all blank = true ∨ ∃ c r, t = c :: r ∧ blank c = false
  cut : ∃ c r, t = c :: r ∧ more c = false ∧ digit c = false
def Rel (t r r' : Str) : Prop := r' = r ++ t ∨ (t.all blank = true ∧ skips r = [] ∧ skips r' = [])
theorem all_skips {t : Str} (h : t.all blank = true) : skips t = [] := by
  unfold skips
  induction t with
  | nil => rfl
  | cons a l ih =>
    rw [List.all_cons, Bool.and_eq_true] at h
    rw [List.dropWhile_cons, if_pos h.1]; exact ih h.2
theorem rel_skips {t r r' : Str} (ht : Tail t) (h : Rel t r r') : skips r' = skips r ++ t ∨ (t.all blank = true ∧ skips r = [] ∧ skips r' = []) := by
  rcases h with rfl | h
  · cases hs : skips r with
    | nil =>
      have e : skips (r ++ t) = skips t := by
        unfold skips at hs ⊢
        rw [List.dropWhile_append, hs]; rfl
      rcases ht.kind with h | ⟨c, u, rfl, hc⟩
      · exact .inr ⟨h, rfl, by rw [e, all_skips h]⟩
      · left; rw [e]; unfold skips; rw [List.dropWhile_cons, if_neg (by simp [hc])]; rfl
    | cons a l =>
      left
      unfold skips at hs ⊢
      rw [List.dropWhile_append, hs]; rfl
  · exact .inr h
theorem pre_app {x a t : Str} (h : ∀ c, c ∈ x → c ∉ t) : x.isPrefixOf (a ++ t) = x.isPrefixOf a := by
  rw [Bool.eq_iff_iff, List.isPrefixOf_iff_prefix, List.isPrefixOf_iff_prefix]
  constructor
  · intro hp
    rcases Nat.le_total x.length a.length with hl | hl
    · exact List.prefix_of_prefix_length_le hp (List.prefix_append a t) hl
    · obtain ⟨y, rfl⟩ := List.prefix_of_prefix_length_le (List.prefix_append a t) hp hl
      cases y with
      | nil => simp
      | cons c y =>
        obtain ⟨z, hz⟩ := hp
        rw [List.append_assoc] at hz
        have := List.append_cancel_left hz
        exact absurd (by rw [← this]; simp) (h c (by simp))
  · exact fun hp => hp.trans (List.prefix_append a t)
theorem pre_nil {x : Str} (h : x ≠ []) : x.isPrefixOf [] = false := by cases x <;> simp_all
theorem find_same {xs : List Str} {p q : Str → Bool} (h : ∀ x, x ∈ xs → p x = q x) : xs.find? p = xs.find? q := by
  induction xs with
  | nil => rfl
  | cons a l ih =>
    rw [List.find?_cons, List.find?_cons, h a (by simp), ih fun x hx => h x (by simp [hx])]
theorem takes_rel {t r r' : Str} (ht : Tail t) (h : Rel t r r') (xs : List Str) (hxs : ∀ x, x ∈ xs → x ≠ [] ∧ ∀ c, c ∈ x → c ∉ t) :
    (takes xs r').1 = (takes xs r).1 ∧ Rel t (takes xs r).2 (takes xs r').2 := by
  rcases rel_skips ht h with e | ⟨e0, e1, e2⟩
  · have hf : xs.find? (fun x => x.isPrefixOf (skips r')) = xs.find? (fun x => x.isPrefixOf (skips r)) := find_same fun x hx => by rw [e, pre_app (hxs x hx).2]
    unfold takes
    rw [hf]
    cases hq : xs.find? (fun x => x.isPrefixOf (skips r)) with
    | none => exact ⟨rfl, .inl e⟩
    | some x =>
      have hp : x.isPrefixOf (skips r) = true := List.find?_some (p := fun x : Str => x.isPrefixOf (skips r)) hq
      have hl : x.length ≤ (skips r).length := (List.isPrefixOf_iff_prefix.1 hp).length_le
      exact ⟨rfl, .inl (by show (skips r').drop x.length = _; rw [e, List.drop_append_of_le_length hl])⟩
  · have hn : ∀ q : Str, skips q = [] → takes xs q = ([], []) := fun q hq => by
      unfold takes
      rw [hq, show xs.find? (fun x => x.isPrefixOf []) = none from List.find?_eq_none.2 fun x hx => by rw [pre_nil (hxs x hx).1]; simp]
    rw [hn r e1, hn r' e2]
    exact ⟨rfl, .inr ⟨e0, rfl, rfl⟩⟩
end Go.Proofs.YtmkajangkibgeaaDoor.Ar
