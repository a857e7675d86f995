/-
What the parser and the evaluator answer at a text with blanks around it, and in brackets.
-/
import Derived.Test.YtmkajangkibgeaaDoorBlank1
set_option linter.unusedVariables false
set_option linter.unusedSimpArgs false
namespace Go.Proofs.YtmkajangkibgeaaDoor.Ar

theorem skips_head {r : Str} {c : UInt8} {l : Str} (h : skips r = c :: l) : blank c = false := by
  unfold skips at h
  induction r with
  | nil => cases h
  | cons a r ih =>
    rw [List.dropWhile_cons] at h
    split at h
    · exact ih h
    · next hb => injection h with h1 h2; rw [← h1]; simpa using hb

def tBlank : Str := [32, 10]
theorem tail_blank : Tail tBlank := ⟨.inl (by decide), 32, [10], rfl, by decide, by decide⟩
theorem eval_behind (n : Nat) (s : Str) (vars : List Bind) : EvalI n (s ++ tBlank) vars = EvalI n s vars := by
  have h := (behind (t := tBlank) (D := True) tail_blank (by unfold NoSign; decide) (by unfold NoSign; decide) (by unfold NoSign; decide) (by unfold NoSign; decide) (fun _ => by unfold NoSign; decide) n).1 s (s ++ tBlank) (.inl rfl)
  unfold EvalI
  generalize exprI n ⟨s, false⟩ = u at *
  generalize exprI n ⟨s ++ tBlank, false⟩ = u' at *
  rcases h with ⟨h1, h2⟩ | ⟨h1, h2, h3, h4⟩
  · simp only
    rw [if_pos (.inl (h2 trivial)), if_pos (.inl h1)]
  · simp only
    rw [h1, h2, h3]
    have e : (skips u'.2.s = []) ↔ (skips u.2.s = []) := by
      rcases rel_skips tail_blank h4 with e | ⟨_, e1, e2⟩
      · constructor
        · intro h; rw [h] at e; simp [tBlank] at e
        · intro h
          rw [h] at e
          have := skips_head (c := 32) (l := [10]) e
          simp [blank] at this
      · rw [e1, e2]
    simp only [ne_eq, e]

def tClose : Str := [41]
theorem tail_close : Tail tClose := ⟨.inr ⟨41, [], rfl, by decide⟩, 41, [], rfl, by decide, by decide⟩
theorem takes_none (xs : List Str) (h : ∀ x, x ∈ xs → x ≠ []) : takes xs [] = ([], []) := by
  unfold takes
  rw [show skips [] = [] from rfl, show xs.find? (fun x => x.isPrefixOf []) = none from List.find?_eq_none.2 fun x hx => by rw [pre_nil (h x hx)]; simp]
theorem eval_brackets (n : Nat) (s : Str) (vars : List Bind) (he : (EvalI n s vars).2 ≠ 2) : EvalI (n + 4) (40 :: (s ++ tClose)) vars = EvalI n s vars := by
  have h := (behind (t := tClose) (D := False) tail_close (by unfold NoSign; decide) (by unfold NoSign; decide) (by unfold NoSign; decide) (by unfold NoSign; decide) (fun h => h.elim) n).1 s (s ++ tClose) (.inl rfl)
  have hto : takes opens (40 :: (s ++ tClose)) = ([40], s ++ tClose) := by
    have : skips (40 :: (s ++ tClose)) = 40 :: (s ++ tClose) := by unfold skips; rw [List.dropWhile_cons, if_neg (by decide)]
    unfold takes
    rw [this]
    simp [opens, List.isPrefixOf]
  have hx : ∀ a rest, exprI n ⟨s ++ tClose, false⟩ = (a, ⟨rest, false⟩) → skips rest = [41] → exprI (n + 4) ⟨40 :: (s ++ tClose), false⟩ = (a, ⟨[], false⟩) := fun a rest e1 e2 => by
    have hc : takes [[41]] rest = ([41], []) := by unfold takes; rw [e2]; rfl
    have hu : unaryI (n + 1) ⟨40 :: (s ++ tClose), false⟩ = (a, ⟨[], false⟩) := by
      simp only [unaryI, hto, e1, hc]
      rfl
    have hp : prodI (n + 2) ⟨40 :: (s ++ tClose), false⟩ = (a, ⟨[], false⟩) := by
      simp only [prodI, hu, prodL, takes_none muls (by decide)]
      rfl
    have hs : sumI (n + 3) ⟨40 :: (s ++ tClose), false⟩ = (a, ⟨[], false⟩) := by
      simp only [sumI, hp, sumL, takes_none adds (by decide)]
      rfl
    simp only [exprI, hs, takes_none cmps (by decide)]
    rfl
  unfold EvalI at he ⊢
  generalize exprI n ⟨s, false⟩ = u at *
  simp only at he ⊢
  by_cases hb : u.2.bad = true ∨ skips u.2.s ≠ []
  · rw [if_pos hb] at he; exact absurd rfl he
  · have hb1 : u.2.bad = false := by cases hq : u.2.bad <;> simp_all
    have hb2 : skips u.2.s = [] := by
      cases hq : skips u.2.s with
      | nil => rfl
      | cons a l => exact absurd (.inr (by rw [hq]; simp)) hb
    rw [if_neg hb]
    rcases h with ⟨h1, _⟩ | ⟨h1, h2, h3, h4⟩
    · rw [hb1] at h1; cases h1
    · have e : skips (exprI n ⟨s ++ tClose, false⟩).2.s = [41] := by
        rcases rel_skips tail_close h4 with e | ⟨e0, _, _⟩
        · rw [e, hb2]; rfl
        · exact absurd e0 (by decide)
      generalize exprI n ⟨s ++ tClose, false⟩ = u' at *
      obtain ⟨a', ⟨q', b'⟩⟩ := u'
      simp only at h2 h3 e
      subst h2
      rw [hx a' q' rfl e, h3]
      simp [skips]
end Go.Proofs.YtmkajangkibgeaaDoor.Ar
