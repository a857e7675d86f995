/-
What the reckoner makes of any text; the walk of the reference's Eval.
-/
import Derived.Test.YtmkajangkibgeaaDoorArithR8
set_option linter.unusedVariables false
set_option linter.unusedSimpArgs false
namespace Go.Proofs.YtmkajangkibgeaaDoor.Ar
open Go.RowKit Go.Shelf

theorem reckon_all (x : RC) (hx : x.Ok) (n : Nat) : RExpr x n ∧ RSum x n ∧ RProd x n ∧ RUnary x n := by
  induction n using Nat.strongRecOn with
  | _ n ih =>
    cases n with
    | zero => refine ⟨?_, ?_, ?_, ?_⟩ <;> (intro r w h hi hb hn; omega)
    | succ n =>
      refine ⟨rexpr_c x hx n (ih n (by omega)).2.1, rsum_c x hx n fun m hm => (ih m (by omega)).2.2.1, rprod_c x hx n fun m hm => (ih m (by omega)).2.2.2, ?_⟩
      refine runary_c x hx n (ih n (by omega)).2.2.2 (ih n (by omega)).1 ?_
      intro r w q1 q2 q3 e1 e2 e3 h hi hb
      cases hd : digit (nextR (B x.S) (skipR (B x.S) q3))
      · exact ratom_name x hx r q1 q2 q3 w e1 e2 e3 h hi hd fun w1 h1 => h1.below hb hx.2.2.1
      · exact ratom_digit x hx r q1 q2 q3 w e1 e2 e3 h hi hd

set_option maxHeartbeats 3200000 in
set_option maxRecDepth 100000 in
theorem evalR_c (n : Nat) (S : ByteArray) (vars : List Bind) (A : Option Addr) (c : Nat) (w0 w : World) (hG : Gl w0) (hv : IsV w0 A vars) (hb : Below w0.heap.size w0 w) (hl : S.size ≤ 300) (hn : 8 * S.size + 4 ≤ n) :
    Calls Tryd.prog 8 #[.string S, .slice A vars.length c] w fun e w' => e = .returned (.tuple #[.int .i64 (EvalR (B S) vars n).1, .int .i64 (EvalR (B S) vars n).2]) ∧ Below w.heap.size w w' := by
  have hex : EvalR (B S) vars n = if (skipR (B S) (exprR (B S) vars n ⟨0, false, false⟩).2).form = true ∨ nextR (B S) (skipR (B S) (exprR (B S) vars n ⟨0, false, false⟩).2) ≠ 0 ∨ (skipR (B S) (exprR (B S) vars n ⟨0, false, false⟩).2).i < (B S).length then (0, 2)
      else if (skipR (B S) (exprR (B S) vars n ⟨0, false, false⟩).2).math then (0, 6) else ((exprR (B S) vars n ⟨0, false, false⟩).1, 0) := rfl
  obtain ⟨res, hres⟩ : ∃ res, res = EvalR (B S) vars n := ⟨_, rfl⟩
  rw [← hres] at hex ⊢
  clear hres
  have hg0 : IsR (w.alloc (.cells #[.string S, .int .i64 (0 : Nat), .slice A vars.length c, .bool false, .bool false] 45)) w.heap.size S A vars.length c ⟨0, false, false⟩ := blk_new _ _
  have hBA : Below w.heap.size w (w.alloc (.cells #[.string S, .int .i64 (0 : Nat), .slice A vars.length c, .bool false, .bool false] 45)) := (Below.refl _ _).alloc (Nat.le_refl _) _
  have cx := (reckon_all ⟨w0, w.heap.size, S, A, vars, c⟩ ⟨hG, hv, hb.size, hl⟩ n).1 ⟨0, false, false⟩ _ hg0 (Nat.zero_le _) (hb.trans (hBA.mono hb.size)) (by show 8 * (S.size - 0) + 4 ≤ n; omega)
  have hmono := (mono_all (B S) vars n).1 ⟨0, false, false⟩ (Nat.zero_le _)
  rw [B_len] at hmono hex
  simp only at cx hmono
  generalize exprR (B S) vars n ⟨0, false, false⟩ = z at *
  obtain ⟨v, q⟩ := z
  simp only at cx hmono hex
  have cs := fun w1 h1 => skipR_c w.heap.size S A vars.length c q w1 h1 hl hmono.2
  have hsl := skipR_le (B S) q (by rw [B_len]; exact hmono.2)
  rw [B_len] at hsl
  generalize skipR (B S) q = r at *
  have hc8 : ((nextR (B S) r).toNat : Int) ≤ 255 := by have := (nextR (B S) r).toNat_lt; omega
  have hcz : (((nextR (B S) r).toNat : Int) == 0) = decide (nextR (B S) r = 0) := by
    rw [Bool.eq_iff_iff]; simp only [beq_iff_eq, decide_eq_true_eq]
    exact ⟨fun h => UInt8.toNat_inj.1 (by simpa using h), fun h => by rw [h]; rfl⟩
  generalize nextR (B S) r = k at *
  have HBA := Lib.hid hBA; have CX := Lib.hid cx; have CS := Lib.hid cs; have HX := Lib.hid hex
  clear hBA cx cs hex hg0 hG hv hb hmono
  generalize vars.length = m at *
  by_cases hk : k = 0
  · rw [hk, decide_eq_true rfl] at hcz
    by_cases hi : r.i < S.size
    · have hd : decide ((r.i : Int) < (S.size : Int)) = true := by simp; exact hi
      have hx2 : res = (0, 2) := by rw [HX.out, if_pos (.inr (.inr hi))]
      have HX2 := Lib.hid hx2; clear hx2 HX
      subst hk
      go_enter Tryd.func8, Tryd.ntmps8
      go_wp2_with (first
        | (go_at_call 16; refine CX.out.mono ?_; rintro e w1 ⟨rfl, hr, hb1⟩; have HR := Lib.hid hr; have HB := Lib.hid hb1; clear hr hb1)
        | (go_at_call 17; refine (CS.out _ HR.out).mono ?_; rintro e w2 ⟨rfl, hr, hb1⟩; have k1 := hr.c1; have k3 := hr.c3; have k4 := hr.c4; have kf := hr.f 3; have HR2 := Lib.hid hr; have HB2 := Lib.hid (HB.out.trans hb1); clear hr hb1))
      go_ret2
      exact ⟨by rw [HX2.out]; rfl, by exact (HB2.out.set 3 (.bool true)).below HBA.out (Nat.le_refl _)⟩
    · have hd : decide ((r.i : Int) < (S.size : Int)) = false := by simp; omega
      cases hf : r.form
      · have HF := Lib.hid hf
        cases hm : r.math
        · have HM := Lib.hid hm
          have hx2 : res = (v, 0) := by rw [HX.out, if_neg (by simp [hk, hf, hi]), if_neg (by simp [hm])]
          have HX2 := Lib.hid hx2; clear hx2 HX hf hm
          subst hk
          go_enter Tryd.func8, Tryd.ntmps8
          go_wp2_with (first
            | (go_at_call 16; refine CX.out.mono ?_; rintro e w1 ⟨rfl, hr, hb1⟩; have HR := Lib.hid hr; have HB := Lib.hid hb1; clear hr hb1)
            | (go_at_call 17; refine (CS.out _ HR.out).mono ?_; rintro e w2 ⟨rfl, hr, hb1⟩; have k1 := hr.c1; have k3 := hr.c3; have k4 := hr.c4; have kf := hr.f 3; rw [HF.out] at k3; rw [HM.out] at k4; have HR2 := Lib.hid hr; have HB2 := Lib.hid (HB.out.trans hb1); clear hr hb1))
          go_ret2
          exact ⟨by rw [HX2.out]; rfl, by exact HB2.out.below HBA.out (Nat.le_refl _)⟩
        · have HM := Lib.hid hm
          have hx2 : res = (0, 6) := by rw [HX.out, if_neg (by simp [hk, hf, hi]), if_pos hm]
          have HX2 := Lib.hid hx2; clear hx2 HX hf hm
          subst hk
          go_enter Tryd.func8, Tryd.ntmps8
          go_wp2_with (first
            | (go_at_call 16; refine CX.out.mono ?_; rintro e w1 ⟨rfl, hr, hb1⟩; have HR := Lib.hid hr; have HB := Lib.hid hb1; clear hr hb1)
            | (go_at_call 17; refine (CS.out _ HR.out).mono ?_; rintro e w2 ⟨rfl, hr, hb1⟩; have k1 := hr.c1; have k3 := hr.c3; have k4 := hr.c4; have kf := hr.f 3; rw [HF.out] at k3; rw [HM.out] at k4; have HR2 := Lib.hid hr; have HB2 := Lib.hid (HB.out.trans hb1); clear hr hb1))
          go_ret2
          exact ⟨by rw [HX2.out]; rfl, by exact HB2.out.below HBA.out (Nat.le_refl _)⟩
      · have HF := Lib.hid hf
        have hx2 : res = (0, 2) := by rw [HX.out, if_pos (.inl hf)]
        have HX2 := Lib.hid hx2; clear hx2 HX hf
        subst hk
        go_enter Tryd.func8, Tryd.ntmps8
        go_wp2_with (first
          | (go_at_call 16; refine CX.out.mono ?_; rintro e w1 ⟨rfl, hr, hb1⟩; have HR := Lib.hid hr; have HB := Lib.hid hb1; clear hr hb1)
          | (go_at_call 17; refine (CS.out _ HR.out).mono ?_; rintro e w2 ⟨rfl, hr, hb1⟩; have k1 := hr.c1; have k3 := hr.c3; have k4 := hr.c4; have kf := hr.f 3; rw [HF.out] at k3; have HR2 := Lib.hid hr; have HB2 := Lib.hid (HB.out.trans hb1); clear hr hb1))
        go_ret2
        exact ⟨by rw [HX2.out]; rfl, by exact HB2.out.below HBA.out (Nat.le_refl _)⟩
  · rw [decide_eq_false hk] at hcz
    have hx2 : res = (0, 2) := by rw [HX.out, if_pos (.inr (.inl hk))]
    have HX2 := Lib.hid hx2; clear hx2 HX
    have hkn : ¬ (k.toNat = 0) := fun h => hk (UInt8.toNat_inj.1 (by simpa using h))
    have HK := Lib.hid hk; clear hk
    go_enter Tryd.func8, Tryd.ntmps8
    go_wp2_with (first
      | (go_at_call 16; refine CX.out.mono ?_; rintro e w1 ⟨rfl, hr, hb1⟩; have HR := Lib.hid hr; have HB := Lib.hid hb1; clear hr hb1)
      | (go_at_call 17; refine (CS.out _ HR.out).mono ?_; rintro e w2 ⟨rfl, hr, hb1⟩; have k1 := hr.c1; have k3 := hr.c3; have k4 := hr.c4; have kf := hr.f 3; have HR2 := Lib.hid hr; have HB2 := Lib.hid (HB.out.trans hb1); clear hr hb1))
    go_ret2
    exact ⟨by rw [HX2.out]; rfl, by exact (HB2.out.set 3 (.bool true)).below HBA.out (Nat.le_refl _)⟩
end Go.Proofs.YtmkajangkibgeaaDoor.Ar
