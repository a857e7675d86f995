/-
The walk of arith.Eval, at every text of at most 300 bytes and all variables.
-/
import Derived.Test.YtmkajangkibgeaaDoorArithEval
set_option linter.unusedVariables false
set_option linter.unusedSimpArgs false
namespace Go.Proofs.YtmkajangkibgeaaDoor.Ar
open Go.RowKit Go.Shelf

theorem IsT.moved {w w' : World} {g a : Nat} {t : Tree} (h : IsT w g a t) (k : But w w' g) : IsT w' g a t := h.but k

set_option maxHeartbeats 3200000 in
set_option maxRecDepth 100000 in
theorem evalTop_c (n : Nat) (s : Str) (vars : List Bind) (A : Option Addr) (c : Nat) (w0 w : World) (hG : Gl w0) (hv : IsV w0 A vars) (hb : Below w0.heap.size w0 w) (hl : s.length ≤ 300) (hn : 8 * s.length + 4 ≤ n) :
    Calls Tryd.prog 7 #[.string (st s), .slice A vars.length c] w fun e w' => e = .returned (.tuple #[.int .i64 (EvalI n s vars).1, .int .i64 (EvalI n s vars).2]) ∧ Below w.heap.size w w' := by
  have hex : EvalI n s vars = if (exprI n ⟨s, false⟩).2.bad = true ∨ skips (exprI n ⟨s, false⟩).2.s ≠ [] then (0, 2) else if (evalI vars (exprI n ⟨s, false⟩).1).2 = false then (0, 6) else ((evalI vars (exprI n ⟨s, false⟩).1).1, 0) := rfl
  have hg0 : IsP (w.alloc (.cells #[.string (st s), .bool false] 39)) w.heap.size ⟨s, false⟩ := blk_new _ _
  have cx := (parse_all n).1 ⟨s, false⟩ w.heap.size _ hg0 hl hn
  have hwf := (wf_all n).1 ⟨s, false⟩ hl
  have ce := fun a w h h2 => eval_c vars A c w.heap.size w0 hG hv (exprI n ⟨s, false⟩).1 a w h hwf h2
  have ce' := fun (g : Nat) a w (h : IsT w g a (exprI n ⟨s, false⟩).1) h2 => eval_c vars A c g w0 hG hv (exprI n ⟨s, false⟩).1 a w h hwf h2
  clear ce hwf hg0
  have csk := fun p w1 h => skips_c w.heap.size p w1 h
  generalize exprI n ⟨s, false⟩ = r at *
  obtain ⟨t, p⟩ := r
  simp only at hex cx ce'
  have hBA : Below w.heap.size w (w.alloc (.cells #[.string (st s), .bool false] 39)) := (Below.refl _ _).alloc (Nat.le_refl _) _
  have HBA := Lib.hid hBA; clear hBA
  have HB := Lib.hid hb; clear hb
  have CX := Lib.hid cx; clear cx
  have CE := Lib.hid ce'; clear ce'
  have CS := Lib.hid (csk p); clear csk
  generalize evalI vars t = z at *
  generalize vars.length = m at *
  clear hv hG
  cases hbad : p.bad
  · by_cases hs : skips p.s = []
    · have hem := st_empty_true hs
      rw [hbad, if_neg (by simp [hs])] at hex
      obtain ⟨v, ok⟩ := z
      simp only at hex
      obtain ⟨S, hS⟩ : ∃ S, S = st (skips p.s) := ⟨_, rfl⟩
      rw [← hS] at hem
      have HS := Lib.hid hS; clear hS hs
      have HBad := Lib.hid hbad; clear hbad
      cases ok
      all_goals
        first
          | rw [if_pos rfl] at hex
          | rw [if_neg (by simp)] at hex
        have HX := Lib.hid hex; clear hex
        go_enter Tryd.func7, Tryd.ntmps7
        go_wp2_with (first
          | (go_at_call 13; refine CX.out.mono ?_; rintro e w1 ⟨a, rfl, ht, hp, hb1⟩; have HT := Lib.hid ht; have HP := Lib.hid hp; have HB1 := Lib.hid hb1; clear ht hp hb1)
          | (go_at_call 14; refine (CS.out _ HP.out).mono ?_; rintro e w2 ⟨rfl, hp2, hb2⟩; have k0 := hp2.c0; have k1 := hp2.c1; rw [← HS.out] at k0; rw [HBad.out] at k1; have HP2 := Lib.hid hp2; have HB2 := Lib.hid hb2; clear hp2 hb2)
          | (go_at_call 15; refine (CE.out _ _ _ (HT.out.but HB2.out) ((HB1.out.trans HB2.out).below (HB.out.trans (HBA.out.mono HB.out.size)) HB.out.size)).mono ?_; rintro e w3 ⟨rfl, hb3⟩; have HB3 := Lib.hid hb3; clear hb3))
        go_ret2
        have h12 := (HB1.out.trans HB2.out).below HBA.out (Nat.le_refl _)
        exact ⟨by rw [HX.out]; rfl, h12.trans (HB3.out.mono h12.size)⟩
    · have hem := st_empty_false hs
      rw [if_pos (.inr hs)] at hex
      obtain ⟨S, hS⟩ : ∃ S, S = st (skips p.s) := ⟨_, rfl⟩
      rw [← hS] at hem
      have HS := Lib.hid hS; clear hS hs
      have HBad := Lib.hid hbad; clear hbad
      have HX := Lib.hid hex; clear hex CE
      go_enter Tryd.func7, Tryd.ntmps7
      go_wp2_with (first
        | (go_at_call 13; refine CX.out.mono ?_; rintro e w1 ⟨a, rfl, ht, hp, hb1⟩; have HT := Lib.hid ht; have HP := Lib.hid hp; have HB1 := Lib.hid hb1; clear ht hp hb1)
        | (go_at_call 14; refine (CS.out _ HP.out).mono ?_; rintro e w2 ⟨rfl, hp2, hb2⟩; have k0 := hp2.c0; have k1 := hp2.c1; rw [← HS.out] at k0; rw [HBad.out] at k1; have HP2 := Lib.hid hp2; have HB2 := Lib.hid hb2; clear hp2 hb2))
      go_ret2
      exact ⟨by rw [HX.out]; rfl, (HB1.out.trans HB2.out).below HBA.out (Nat.le_refl _)⟩
  · rw [if_pos (.inl hbad)] at hex
    have HBad := Lib.hid hbad; clear hbad
    have HX := Lib.hid hex; clear hex CE
    go_enter Tryd.func7, Tryd.ntmps7
    go_wp2_with (first
      | (go_at_call 13; refine CX.out.mono ?_; rintro e w1 ⟨a, rfl, ht, hp, hb1⟩; have HT := Lib.hid ht; have HP := Lib.hid hp; have HB1 := Lib.hid hb1; clear ht hp hb1)
      | (go_at_call 14; refine (CS.out _ HP.out).mono ?_; rintro e w2 ⟨rfl, hp2, hb2⟩; have k0 := hp2.c0; have k1 := hp2.c1; rw [HBad.out] at k1; have HP2 := Lib.hid hp2; have HB2 := Lib.hid hb2; clear hp2 hb2))
    go_ret2
    exact ⟨by rw [HX.out]; rfl, (HB1.out.trans HB2.out).below HBA.out (Nat.le_refl _)⟩
end Go.Proofs.YtmkajangkibgeaaDoor.Ar
