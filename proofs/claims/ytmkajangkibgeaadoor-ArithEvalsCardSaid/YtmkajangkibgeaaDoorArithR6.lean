/-
The walks of the reckoner's expr and unary.
-/
import Derived.Test.YtmkajangkibgeaaDoorArithR5
import Derived.Deep.RegionHeld3
set_option linter.unusedVariables false
set_option linter.unusedSimpArgs false
namespace Go.Proofs.YtmkajangkibgeaaDoor.Ar
open Go.RowKit Go.Shelf

set_option maxHeartbeats 6400000 in
set_option maxRecDepth 100000 in
theorem rexpr_c (x : RC) (hx : x.Ok) (n : Nat) (hp : Hid (RSum x n)) : RExpr x (n + 1) := by
  intro r w h hi hb hn
  have hmono := (mono_all (B x.S) x.vars n).2.1 r hi
  rw [B_len] at hmono
  have hc := hp.out r w h hi hb (by omega)
  obtain ⟨z, hz⟩ : ∃ z, z = sumR (B x.S) x.vars n r := ⟨_, rfl⟩
  obtain ⟨res, hres⟩ : ∃ res, res = exprR (B x.S) x.vars (n + 1) r := ⟨_, rfl⟩
  rw [← hz] at hmono hc
  rw [← hres]
  simp only [exprR, ← hz] at hres
  clear hz
  obtain ⟨a0, q⟩ := z
  simp only at hmono hc hres
  have HE := Lib.hid hres; clear hres
  have hgb : ∀ w1, But w w1 x.g → Below x.w0.heap.size x.w0 w1 := fun w1 h1 => h1.below hb hx.2.2.1
  have HGB := Lib.hid hgb; clear hgb
  have HX := Lib.hid hx; clear hx
  have CC := Lib.hid hc; clear hc
  clear h hb
  obtain ⟨sz, hsz⟩ : ∃ sz, sz = x.S.size := ⟨_, rfl⟩
  rw [← hsz] at hmono hi hn
  have HSz := Lib.hid hsz; clear hsz
  have tokS : True := trivial
  have l0 := eatR_le (B x.S) [60, 61] q (by rw [B_len, ← HSz.out]; omega)
  rw [B_len, ← HSz.out] at l0
  have c0 := fun w1 (h1 : IsR w1 x.g x.S x.A x.vars.length x.c q) => x.eat HX.out [60, 61] (by decide) q w1 h1 (by rw [← HSz.out]; omega)
  generalize hy0 : eatR (B x.S) [60, 61] q = y0 at *
  obtain ⟨b0, q1⟩ := y0
  simp only at l0 c0
  have C0 := Lib.hid c0; clear c0
  have Y0 := Lib.hid hy0; clear hy0
  cases b0
  case true =>
    have cp := fun w1 h1 (h2 : But w w1 x.g) => hp.out q1 w1 h1 (by rw [← HSz.out]; omega) (HGB.out w1 h2) (by rw [← HSz.out]; omega)
    have hex : res = (bitZ (decide (a0 ≤ (sumR (B x.S) x.vars n q1).1)), (sumR (B x.S) x.vars n q1).2) := by
      rw [HE.out]; simp only [Y0.out, Bool.false_eq_true, if_false, if_true]
    generalize sumR (B x.S) x.vars n q1 = u at *
    obtain ⟨b, ru⟩ := u
    simp only at cp hex
    have CP := Lib.hid cp; have HX2 := Lib.hid hex
    clear cp hex
    have tok0 : True := trivial
    go_enter Tryd.func16, Tryd.ntmps16
    go_wp2_with (first
      | (go_at_call 30; have _t := tokS; refine CC.out.mono ?_; clear tokS; rintro e vs ⟨rfl, hr1, hb1⟩; have ES := Lib.hid hr1; have FS := Lib.hid hb1; clear hr1 hb1)
      | (go_at_call 31; have _t := tok0; refine (C0.out _ ES.out).mono ?_; clear tok0; rintro e v0 ⟨rfl, hr1, hb1⟩; have E0 := Lib.hid hr1; have F0 := Lib.hid (FS.out.trans (hb1)); clear hr1 hb1)
      | (go_at_call 30; refine (CP.out _ E0.out F0.out).mono ?_; rintro e v8 ⟨rfl, hr1, hb1⟩; have E8 := Lib.hid hr1; have F8 := Lib.hid (F0.out.trans hb1); clear hr1 hb1)
      | (go_at_call 32; refine (yes_c _ _).mono ?_; rintro e v9 ⟨rfl, rfl⟩))
    go_ret
    exact ⟨by rw [HX2.out]; first | rfl | (by_cases hab : a0 = b <;> simp [hab, bitZ]), by rw [HX2.out]; exact E8.out, F8.out⟩
  case false =>
    have l1 := eatR_le (B x.S) [62, 61] q1 (by rw [B_len, ← HSz.out]; omega)
    rw [B_len, ← HSz.out] at l1
    have c1 := fun w1 (h1 : IsR w1 x.g x.S x.A x.vars.length x.c q1) => x.eat HX.out [62, 61] (by decide) q1 w1 h1 (by rw [← HSz.out]; omega)
    generalize hy1 : eatR (B x.S) [62, 61] q1 = y1 at *
    obtain ⟨b1, q2⟩ := y1
    simp only at l1 c1
    have C1 := Lib.hid c1; clear c1
    have Y1 := Lib.hid hy1; clear hy1
    cases b1
    case true =>
      have cp := fun w1 h1 (h2 : But w w1 x.g) => hp.out q2 w1 h1 (by rw [← HSz.out]; omega) (HGB.out w1 h2) (by rw [← HSz.out]; omega)
      have hex : res = (bitZ (decide ((sumR (B x.S) x.vars n q2).1 ≤ a0)), (sumR (B x.S) x.vars n q2).2) := by
        rw [HE.out]; simp only [Y0.out, Y1.out, Bool.false_eq_true, if_false, if_true]
      generalize sumR (B x.S) x.vars n q2 = u at *
      obtain ⟨b, ru⟩ := u
      simp only at cp hex
      have CP := Lib.hid cp; have HX2 := Lib.hid hex
      clear cp hex
      have tok0 : True := trivial
      have tok1 : True := trivial
      go_enter Tryd.func16, Tryd.ntmps16
      go_wp2_with (first
        | (go_at_call 30; have _t := tokS; refine CC.out.mono ?_; clear tokS; rintro e vs ⟨rfl, hr1, hb1⟩; have ES := Lib.hid hr1; have FS := Lib.hid hb1; clear hr1 hb1)
        | (go_at_call 31; have _t := tok0; refine (C0.out _ ES.out).mono ?_; clear tok0; rintro e v0 ⟨rfl, hr1, hb1⟩; have E0 := Lib.hid hr1; have F0 := Lib.hid (FS.out.trans (hb1)); clear hr1 hb1)
        | (go_at_call 31; have _t := tok1; refine (C1.out _ E0.out).mono ?_; clear tok1; rintro e v1 ⟨rfl, hr1, hb1⟩; have E1 := Lib.hid hr1; have F1 := Lib.hid (F0.out.trans (hb1)); clear hr1 hb1)
        | (go_at_call 30; refine (CP.out _ E1.out F1.out).mono ?_; rintro e v8 ⟨rfl, hr1, hb1⟩; have E8 := Lib.hid hr1; have F8 := Lib.hid (F1.out.trans hb1); clear hr1 hb1)
        | (go_at_call 32; refine (yes_c _ _).mono ?_; rintro e v9 ⟨rfl, rfl⟩))
      go_ret
      exact ⟨by rw [HX2.out]; first | rfl | (by_cases hab : a0 = b <;> simp [hab, bitZ]), by rw [HX2.out]; exact E8.out, F8.out⟩
    case false =>
      have l2 := eatR_le (B x.S) [61, 61] q2 (by rw [B_len, ← HSz.out]; omega)
      rw [B_len, ← HSz.out] at l2
      have c2 := fun w1 (h1 : IsR w1 x.g x.S x.A x.vars.length x.c q2) => x.eat HX.out [61, 61] (by decide) q2 w1 h1 (by rw [← HSz.out]; omega)
      generalize hy2 : eatR (B x.S) [61, 61] q2 = y2 at *
      obtain ⟨b2, q3⟩ := y2
      simp only at l2 c2
      have C2 := Lib.hid c2; clear c2
      have Y2 := Lib.hid hy2; clear hy2
      cases b2
      case true =>
        have cp := fun w1 h1 (h2 : But w w1 x.g) => hp.out q3 w1 h1 (by rw [← HSz.out]; omega) (HGB.out w1 h2) (by rw [← HSz.out]; omega)
        have hex : res = (bitZ (decide (a0 = (sumR (B x.S) x.vars n q3).1)), (sumR (B x.S) x.vars n q3).2) := by
          rw [HE.out]; simp only [Y0.out, Y1.out, Y2.out, Bool.false_eq_true, if_false, if_true]
        generalize sumR (B x.S) x.vars n q3 = u at *
        obtain ⟨b, ru⟩ := u
        simp only at cp hex
        have CP := Lib.hid cp; have HX2 := Lib.hid hex
        clear cp hex
        have tok0 : True := trivial
        have tok1 : True := trivial
        have tok2 : True := trivial
        go_enter Tryd.func16, Tryd.ntmps16
        go_wp2_with (first
          | (go_at_call 30; have _t := tokS; refine CC.out.mono ?_; clear tokS; rintro e vs ⟨rfl, hr1, hb1⟩; have ES := Lib.hid hr1; have FS := Lib.hid hb1; clear hr1 hb1)
          | (go_at_call 31; have _t := tok0; refine (C0.out _ ES.out).mono ?_; clear tok0; rintro e v0 ⟨rfl, hr1, hb1⟩; have E0 := Lib.hid hr1; have F0 := Lib.hid (FS.out.trans (hb1)); clear hr1 hb1)
          | (go_at_call 31; have _t := tok1; refine (C1.out _ E0.out).mono ?_; clear tok1; rintro e v1 ⟨rfl, hr1, hb1⟩; have E1 := Lib.hid hr1; have F1 := Lib.hid (F0.out.trans (hb1)); clear hr1 hb1)
          | (go_at_call 31; have _t := tok2; refine (C2.out _ E1.out).mono ?_; clear tok2; rintro e v2 ⟨rfl, hr1, hb1⟩; have E2 := Lib.hid hr1; have F2 := Lib.hid (F1.out.trans (hb1)); clear hr1 hb1)
          | (go_at_call 30; refine (CP.out _ E2.out F2.out).mono ?_; rintro e v8 ⟨rfl, hr1, hb1⟩; have E8 := Lib.hid hr1; have F8 := Lib.hid (F2.out.trans hb1); clear hr1 hb1)
          | (go_at_call 32; refine (yes_c _ _).mono ?_; rintro e v9 ⟨rfl, rfl⟩))
        go_ret
        exact ⟨by rw [HX2.out]; first | rfl | (by_cases hab : a0 = b <;> simp [hab, bitZ]), by rw [HX2.out]; exact E8.out, F8.out⟩
      case false =>
        have l3 := eatR_le (B x.S) [33, 61] q3 (by rw [B_len, ← HSz.out]; omega)
        rw [B_len, ← HSz.out] at l3
        have c3 := fun w1 (h1 : IsR w1 x.g x.S x.A x.vars.length x.c q3) => x.eat HX.out [33, 61] (by decide) q3 w1 h1 (by rw [← HSz.out]; omega)
        generalize hy3 : eatR (B x.S) [33, 61] q3 = y3 at *
        obtain ⟨b3, q4⟩ := y3
        simp only at l3 c3
        have C3 := Lib.hid c3; clear c3
        have Y3 := Lib.hid hy3; clear hy3
        cases b3
        case true =>
          have cp := fun w1 h1 (h2 : But w w1 x.g) => hp.out q4 w1 h1 (by rw [← HSz.out]; omega) (HGB.out w1 h2) (by rw [← HSz.out]; omega)
          have hex : res = (bitZ (decide (a0 ≠ (sumR (B x.S) x.vars n q4).1)), (sumR (B x.S) x.vars n q4).2) := by
            rw [HE.out]; simp only [Y0.out, Y1.out, Y2.out, Y3.out, Bool.false_eq_true, if_false, if_true]
          generalize sumR (B x.S) x.vars n q4 = u at *
          obtain ⟨b, ru⟩ := u
          simp only at cp hex
          have CP := Lib.hid cp; have HX2 := Lib.hid hex
          clear cp hex
          have tok0 : True := trivial
          have tok1 : True := trivial
          have tok2 : True := trivial
          have tok3 : True := trivial
          go_enter Tryd.func16, Tryd.ntmps16
          go_wp2_with (first
            | (go_at_call 30; have _t := tokS; refine CC.out.mono ?_; clear tokS; rintro e vs ⟨rfl, hr1, hb1⟩; have ES := Lib.hid hr1; have FS := Lib.hid hb1; clear hr1 hb1)
            | (go_at_call 31; have _t := tok0; refine (C0.out _ ES.out).mono ?_; clear tok0; rintro e v0 ⟨rfl, hr1, hb1⟩; have E0 := Lib.hid hr1; have F0 := Lib.hid (FS.out.trans (hb1)); clear hr1 hb1)
            | (go_at_call 31; have _t := tok1; refine (C1.out _ E0.out).mono ?_; clear tok1; rintro e v1 ⟨rfl, hr1, hb1⟩; have E1 := Lib.hid hr1; have F1 := Lib.hid (F0.out.trans (hb1)); clear hr1 hb1)
            | (go_at_call 31; have _t := tok2; refine (C2.out _ E1.out).mono ?_; clear tok2; rintro e v2 ⟨rfl, hr1, hb1⟩; have E2 := Lib.hid hr1; have F2 := Lib.hid (F1.out.trans (hb1)); clear hr1 hb1)
            | (go_at_call 31; have _t := tok3; refine (C3.out _ E2.out).mono ?_; clear tok3; rintro e v3 ⟨rfl, hr1, hb1⟩; have E3 := Lib.hid hr1; have F3 := Lib.hid (F2.out.trans (hb1)); clear hr1 hb1)
            | (go_at_call 30; refine (CP.out _ E3.out F3.out).mono ?_; rintro e v8 ⟨rfl, hr1, hb1⟩; have E8 := Lib.hid hr1; have F8 := Lib.hid (F3.out.trans hb1); clear hr1 hb1)
            | (go_at_call 32; refine (yes_c _ _).mono ?_; rintro e v9 ⟨rfl, rfl⟩))
          go_ret
          exact ⟨by rw [HX2.out]; first | rfl | (by_cases hab : a0 = b <;> simp [hab, bitZ]), by rw [HX2.out]; exact E8.out, F8.out⟩
        case false =>
          have l4 := eatR_le (B x.S) [60] q4 (by rw [B_len, ← HSz.out]; omega)
          rw [B_len, ← HSz.out] at l4
          have c4 := fun w1 (h1 : IsR w1 x.g x.S x.A x.vars.length x.c q4) => x.eat HX.out [60] (by decide) q4 w1 h1 (by rw [← HSz.out]; omega)
          generalize hy4 : eatR (B x.S) [60] q4 = y4 at *
          obtain ⟨b4, q5⟩ := y4
          simp only at l4 c4
          have C4 := Lib.hid c4; clear c4
          have Y4 := Lib.hid hy4; clear hy4
          cases b4
          case true =>
            have cp := fun w1 h1 (h2 : But w w1 x.g) => hp.out q5 w1 h1 (by rw [← HSz.out]; omega) (HGB.out w1 h2) (by rw [← HSz.out]; omega)
            have hex : res = (bitZ (decide (a0 < (sumR (B x.S) x.vars n q5).1)), (sumR (B x.S) x.vars n q5).2) := by
              rw [HE.out]; simp only [Y0.out, Y1.out, Y2.out, Y3.out, Y4.out, Bool.false_eq_true, if_false, if_true]
            generalize sumR (B x.S) x.vars n q5 = u at *
            obtain ⟨b, ru⟩ := u
            simp only at cp hex
            have CP := Lib.hid cp; have HX2 := Lib.hid hex
            clear cp hex
            have tok0 : True := trivial
            have tok1 : True := trivial
            have tok2 : True := trivial
            have tok3 : True := trivial
            have tok4 : True := trivial
            go_enter Tryd.func16, Tryd.ntmps16
            go_wp2_with (first
              | (go_at_call 30; have _t := tokS; refine CC.out.mono ?_; clear tokS; rintro e vs ⟨rfl, hr1, hb1⟩; have ES := Lib.hid hr1; have FS := Lib.hid hb1; clear hr1 hb1)
              | (go_at_call 31; have _t := tok0; refine (C0.out _ ES.out).mono ?_; clear tok0; rintro e v0 ⟨rfl, hr1, hb1⟩; have E0 := Lib.hid hr1; have F0 := Lib.hid (FS.out.trans (hb1)); clear hr1 hb1)
              | (go_at_call 31; have _t := tok1; refine (C1.out _ E0.out).mono ?_; clear tok1; rintro e v1 ⟨rfl, hr1, hb1⟩; have E1 := Lib.hid hr1; have F1 := Lib.hid (F0.out.trans (hb1)); clear hr1 hb1)
              | (go_at_call 31; have _t := tok2; refine (C2.out _ E1.out).mono ?_; clear tok2; rintro e v2 ⟨rfl, hr1, hb1⟩; have E2 := Lib.hid hr1; have F2 := Lib.hid (F1.out.trans (hb1)); clear hr1 hb1)
              | (go_at_call 31; have _t := tok3; refine (C3.out _ E2.out).mono ?_; clear tok3; rintro e v3 ⟨rfl, hr1, hb1⟩; have E3 := Lib.hid hr1; have F3 := Lib.hid (F2.out.trans (hb1)); clear hr1 hb1)
              | (go_at_call 31; have _t := tok4; refine (C4.out _ E3.out).mono ?_; clear tok4; rintro e v4 ⟨rfl, hr1, hb1⟩; have E4 := Lib.hid hr1; have F4 := Lib.hid (F3.out.trans (hb1)); clear hr1 hb1)
              | (go_at_call 30; refine (CP.out _ E4.out F4.out).mono ?_; rintro e v8 ⟨rfl, hr1, hb1⟩; have E8 := Lib.hid hr1; have F8 := Lib.hid (F4.out.trans hb1); clear hr1 hb1)
              | (go_at_call 32; refine (yes_c _ _).mono ?_; rintro e v9 ⟨rfl, rfl⟩))
            go_ret
            exact ⟨by rw [HX2.out]; first | rfl | (by_cases hab : a0 = b <;> simp [hab, bitZ]), by rw [HX2.out]; exact E8.out, F8.out⟩
          case false =>
            have l5 := eatR_le (B x.S) [62] q5 (by rw [B_len, ← HSz.out]; omega)
            rw [B_len, ← HSz.out] at l5
            have c5 := fun w1 (h1 : IsR w1 x.g x.S x.A x.vars.length x.c q5) => x.eat HX.out [62] (by decide) q5 w1 h1 (by rw [← HSz.out]; omega)
            generalize hy5 : eatR (B x.S) [62] q5 = y5 at *
            obtain ⟨b5, q6⟩ := y5
            simp only at l5 c5
            have C5 := Lib.hid c5; clear c5
            have Y5 := Lib.hid hy5; clear hy5
            cases b5
            case true =>
              have cp := fun w1 h1 (h2 : But w w1 x.g) => hp.out q6 w1 h1 (by rw [← HSz.out]; omega) (HGB.out w1 h2) (by rw [← HSz.out]; omega)
              have hex : res = (bitZ (decide ((sumR (B x.S) x.vars n q6).1 < a0)), (sumR (B x.S) x.vars n q6).2) := by
                rw [HE.out]; simp only [Y0.out, Y1.out, Y2.out, Y3.out, Y4.out, Y5.out, Bool.false_eq_true, if_false, if_true]
              generalize sumR (B x.S) x.vars n q6 = u at *
              obtain ⟨b, ru⟩ := u
              simp only at cp hex
              have CP := Lib.hid cp; have HX2 := Lib.hid hex
              clear cp hex
              have tok0 : True := trivial
              have tok1 : True := trivial
              have tok2 : True := trivial
              have tok3 : True := trivial
              have tok4 : True := trivial
              have tok5 : True := trivial
              go_enter Tryd.func16, Tryd.ntmps16
              go_wp2_with (first
                | (go_at_call 30; have _t := tokS; refine CC.out.mono ?_; clear tokS; rintro e vs ⟨rfl, hr1, hb1⟩; have ES := Lib.hid hr1; have FS := Lib.hid hb1; clear hr1 hb1)
                | (go_at_call 31; have _t := tok0; refine (C0.out _ ES.out).mono ?_; clear tok0; rintro e v0 ⟨rfl, hr1, hb1⟩; have E0 := Lib.hid hr1; have F0 := Lib.hid (FS.out.trans (hb1)); clear hr1 hb1)
                | (go_at_call 31; have _t := tok1; refine (C1.out _ E0.out).mono ?_; clear tok1; rintro e v1 ⟨rfl, hr1, hb1⟩; have E1 := Lib.hid hr1; have F1 := Lib.hid (F0.out.trans (hb1)); clear hr1 hb1)
                | (go_at_call 31; have _t := tok2; refine (C2.out _ E1.out).mono ?_; clear tok2; rintro e v2 ⟨rfl, hr1, hb1⟩; have E2 := Lib.hid hr1; have F2 := Lib.hid (F1.out.trans (hb1)); clear hr1 hb1)
                | (go_at_call 31; have _t := tok3; refine (C3.out _ E2.out).mono ?_; clear tok3; rintro e v3 ⟨rfl, hr1, hb1⟩; have E3 := Lib.hid hr1; have F3 := Lib.hid (F2.out.trans (hb1)); clear hr1 hb1)
                | (go_at_call 31; have _t := tok4; refine (C4.out _ E3.out).mono ?_; clear tok4; rintro e v4 ⟨rfl, hr1, hb1⟩; have E4 := Lib.hid hr1; have F4 := Lib.hid (F3.out.trans (hb1)); clear hr1 hb1)
                | (go_at_call 31; have _t := tok5; refine (C5.out _ E4.out).mono ?_; clear tok5; rintro e v5 ⟨rfl, hr1, hb1⟩; have E5 := Lib.hid hr1; have F5 := Lib.hid (F4.out.trans (hb1)); clear hr1 hb1)
                | (go_at_call 30; refine (CP.out _ E5.out F5.out).mono ?_; rintro e v8 ⟨rfl, hr1, hb1⟩; have E8 := Lib.hid hr1; have F8 := Lib.hid (F5.out.trans hb1); clear hr1 hb1)
                | (go_at_call 32; refine (yes_c _ _).mono ?_; rintro e v9 ⟨rfl, rfl⟩))
              go_ret
              exact ⟨by rw [HX2.out]; first | rfl | (by_cases hab : a0 = b <;> simp [hab, bitZ]), by rw [HX2.out]; exact E8.out, F8.out⟩
            case false =>
              have hex : res = (a0, q6) := by
                rw [HE.out]; simp only [Y0.out, Y1.out, Y2.out, Y3.out, Y4.out, Y5.out, Bool.false_eq_true, if_false]
              have HX2 := Lib.hid hex; clear hex
              have tok0 : True := trivial
              have tok1 : True := trivial
              have tok2 : True := trivial
              have tok3 : True := trivial
              have tok4 : True := trivial
              have tok5 : True := trivial
              go_enter Tryd.func16, Tryd.ntmps16
              go_wp2_with (first
                | (go_at_call 30; have _t := tokS; refine CC.out.mono ?_; clear tokS; rintro e vs ⟨rfl, hr1, hb1⟩; have ES := Lib.hid hr1; have FS := Lib.hid hb1; clear hr1 hb1)
                | (go_at_call 31; have _t := tok0; refine (C0.out _ ES.out).mono ?_; clear tok0; rintro e v0 ⟨rfl, hr1, hb1⟩; have E0 := Lib.hid hr1; have F0 := Lib.hid (FS.out.trans (hb1)); clear hr1 hb1)
                | (go_at_call 31; have _t := tok1; refine (C1.out _ E0.out).mono ?_; clear tok1; rintro e v1 ⟨rfl, hr1, hb1⟩; have E1 := Lib.hid hr1; have F1 := Lib.hid (F0.out.trans (hb1)); clear hr1 hb1)
                | (go_at_call 31; have _t := tok2; refine (C2.out _ E1.out).mono ?_; clear tok2; rintro e v2 ⟨rfl, hr1, hb1⟩; have E2 := Lib.hid hr1; have F2 := Lib.hid (F1.out.trans (hb1)); clear hr1 hb1)
                | (go_at_call 31; have _t := tok3; refine (C3.out _ E2.out).mono ?_; clear tok3; rintro e v3 ⟨rfl, hr1, hb1⟩; have E3 := Lib.hid hr1; have F3 := Lib.hid (F2.out.trans (hb1)); clear hr1 hb1)
                | (go_at_call 31; have _t := tok4; refine (C4.out _ E3.out).mono ?_; clear tok4; rintro e v4 ⟨rfl, hr1, hb1⟩; have E4 := Lib.hid hr1; have F4 := Lib.hid (F3.out.trans (hb1)); clear hr1 hb1)
                | (go_at_call 31; have _t := tok5; refine (C5.out _ E4.out).mono ?_; clear tok5; rintro e v5 ⟨rfl, hr1, hb1⟩; have E5 := Lib.hid hr1; have F5 := Lib.hid (F4.out.trans (hb1)); clear hr1 hb1))
              go_ret
              exact ⟨by rw [HX2.out]; rfl, by rw [HX2.out]; exact E5.out, F5.out⟩

set_option maxHeartbeats 6400000 in
set_option maxRecDepth 100000 in
theorem runary_c (x : RC) (hx : x.Ok) (n : Nat) (hp : Hid (RUnary x n)) (he : Hid (RExpr x n)) (hat : Hid (∀ (r : RS) (w : World) (q1 q2 q3 : RS), eatR (B x.S) [45] r = (false, q1) → eatR (B x.S) [33] q1 = (false, q2) → eatR (B x.S) [40] q2 = (false, q3) → IsR w x.g x.S x.A x.vars.length x.c r → r.i ≤ x.S.size → Below x.w0.heap.size x.w0 w →
    Calls Tryd.prog 59 #[ptr x.g] w fun e w' => e = .returned (.int .i64 (atomR (B x.S) x.vars (skipR (B x.S) q3)).1) ∧ IsR w' x.g x.S x.A x.vars.length x.c (atomR (B x.S) x.vars (skipR (B x.S) q3)).2 ∧ But w w' x.g)) : RUnary x (n + 1) := by
  intro q w h hi hb hn
  have hat := Lib.hid (fun q1 q2 q3 e1 e2 e3 => hat.out q w q1 q2 q3 e1 e2 e3 h hi hb)
  obtain ⟨res, hres⟩ : ∃ res, res = unaryR (B x.S) x.vars (n + 1) q := ⟨_, rfl⟩
  rw [← hres]
  simp only [unaryR] at hres
  have HE := Lib.hid hres; clear hres
  have hgb : ∀ w1, But w w1 x.g → Below x.w0.heap.size x.w0 w1 := fun w1 h1 => h1.below hb hx.2.2.1
  have HGB := Lib.hid hgb; clear hgb
  have HX := Lib.hid hx; clear hx
  have HQ := Lib.hid h; clear h
  clear hb
  obtain ⟨sz, hsz⟩ : ∃ sz, sz = x.S.size := ⟨_, rfl⟩
  rw [← hsz] at hi hn
  have HSz := Lib.hid hsz; clear hsz
  have l0 := eatR_le (B x.S) [45] q (by rw [B_len, ← HSz.out]; omega)
  rw [B_len, ← HSz.out] at l0
  have c0 := fun w1 (h1 : IsR w1 x.g x.S x.A x.vars.length x.c q) => x.eat HX.out [45] (by decide) q w1 h1 (by rw [← HSz.out]; omega)
  generalize hy0 : eatR (B x.S) [45] q = y0 at *
  obtain ⟨b0, q1⟩ := y0
  simp only at l0 c0
  have C0 := Lib.hid c0; clear c0
  have Y0 := Lib.hid hy0; clear hy0
  cases b0
  case true =>
    have lt0 := l0.2.2 rfl
    simp at lt0
    have hm2 := (mono_all (B x.S) x.vars n).2.2.2.2.2 q1 (by rw [B_len, ← HSz.out]; omega)
    rw [B_len, ← HSz.out] at hm2
    have hr2 := (range_all (B x.S) x.vars n).2.2.2.2.2 q1
    have cp := fun w1 h1 (h2 : But w w1 x.g) => hp.out q1 w1 h1 (by rw [← HSz.out]; omega) (HGB.out w1 h2) (by rw [← HSz.out]; omega)
    have hex : res = subR 0 (unaryR (B x.S) x.vars n q1).1 (unaryR (B x.S) x.vars n q1).2 := by
      rw [HE.out]; simp only [Y0.out, Bool.false_eq_true, if_false, if_true]
    generalize unaryR (B x.S) x.vars n q1 = u at *
    obtain ⟨b, ru⟩ := u
    simp only at hm2 hr2 cp hex
    have cs := fun w1 (h1 : IsR w1 x.g x.S x.A x.vars.length x.c ru) => subR_c x.g x.S x.A x.vars.length x.c ru w1 0 b h1 ⟨by decide, by decide⟩ hr2
    rw [← hex] at cs
    have CS := Lib.hid cs; clear cs
    have CP := Lib.hid cp; have HX2 := Lib.hid hex
    clear cp hex hr2
    have tok0 : True := trivial
    go_enter Tryd.func59, Tryd.ntmps59
    go_wp2_with (first
      | (go_at_call 31; have _t := tok0; refine (C0.out _ HQ.out).mono ?_; clear tok0; rintro e v0 ⟨rfl, hr1, hb1⟩; have E0 := Lib.hid hr1; have F0 := Lib.hid (hb1); clear hr1 hb1)
      | (go_at_call 59; refine (CP.out _ E0.out F0.out).mono ?_; rintro e v8 ⟨rfl, hr1, hb1⟩; have E8 := Lib.hid hr1; have F8 := Lib.hid (F0.out.trans hb1); clear hr1 hb1)
      | (go_at_call 48; refine (CS.out _ E8.out).mono ?_; rintro e v9 ⟨rfl, hr1, hb1⟩; have E9 := Lib.hid hr1; have F9 := Lib.hid (F8.out.trans hb1); clear hr1 hb1))
    go_ret
    exact ⟨rfl, E9.out, F9.out⟩
  case false =>
    have l1 := eatR_le (B x.S) [33] q1 (by rw [B_len, ← HSz.out]; omega)
    rw [B_len, ← HSz.out] at l1
    have c1 := fun w1 (h1 : IsR w1 x.g x.S x.A x.vars.length x.c q1) => x.eat HX.out [33] (by decide) q1 w1 h1 (by rw [← HSz.out]; omega)
    generalize hy1 : eatR (B x.S) [33] q1 = y1 at *
    obtain ⟨b1, q2⟩ := y1
    simp only at l1 c1
    have C1 := Lib.hid c1; clear c1
    have Y1 := Lib.hid hy1; clear hy1
    cases b1
    case true =>
      have lt1 := l1.2.2 rfl
      simp at lt1
      have hm2 := (mono_all (B x.S) x.vars n).2.2.2.2.2 q2 (by rw [B_len, ← HSz.out]; omega)
      rw [B_len, ← HSz.out] at hm2
      have hr2 := (range_all (B x.S) x.vars n).2.2.2.2.2 q2
      have cp := fun w1 h1 (h2 : But w w1 x.g) => hp.out q2 w1 h1 (by rw [← HSz.out]; omega) (HGB.out w1 h2) (by rw [← HSz.out]; omega)
      have hex : res = (bitZ (decide ((unaryR (B x.S) x.vars n q2).1 = 0)), (unaryR (B x.S) x.vars n q2).2) := by
        rw [HE.out]; simp only [Y0.out, Y1.out, Bool.false_eq_true, if_false, if_true]
      generalize unaryR (B x.S) x.vars n q2 = u at *
      obtain ⟨b, ru⟩ := u
      simp only at hm2 hr2 cp hex
      have CP := Lib.hid cp; have HX2 := Lib.hid hex
      clear cp hex hr2
      have tok0 : True := trivial
      have tok1 : True := trivial
      go_enter Tryd.func59, Tryd.ntmps59
      go_wp2_with (first
        | (go_at_call 31; have _t := tok0; refine (C0.out _ HQ.out).mono ?_; clear tok0; rintro e v0 ⟨rfl, hr1, hb1⟩; have E0 := Lib.hid hr1; have F0 := Lib.hid (hb1); clear hr1 hb1)
        | (go_at_call 31; have _t := tok1; refine (C1.out _ E0.out).mono ?_; clear tok1; rintro e v1 ⟨rfl, hr1, hb1⟩; have E1 := Lib.hid hr1; have F1 := Lib.hid (F0.out.trans (hb1)); clear hr1 hb1)
        | (go_at_call 59; refine (CP.out _ E1.out F1.out).mono ?_; rintro e v8 ⟨rfl, hr1, hb1⟩; have E8 := Lib.hid hr1; have F8 := Lib.hid (F1.out.trans hb1); clear hr1 hb1)
        | (go_at_call 32; refine (yes_c _ _).mono ?_; rintro e v9 ⟨rfl, rfl⟩))
      go_ret
      exact ⟨by rw [HX2.out]; first | rfl | (by_cases hab : a0 = b <;> simp [hab, bitZ]), by rw [HX2.out]; exact E8.out, F8.out⟩
    case false =>
      have l2 := eatR_le (B x.S) [40] q2 (by rw [B_len, ← HSz.out]; omega)
      rw [B_len, ← HSz.out] at l2
      have c2 := fun w1 (h1 : IsR w1 x.g x.S x.A x.vars.length x.c q2) => x.eat HX.out [40] (by decide) q2 w1 h1 (by rw [← HSz.out]; omega)
      generalize hy2 : eatR (B x.S) [40] q2 = y2 at *
      obtain ⟨b2, q3⟩ := y2
      simp only at l2 c2
      have C2 := Lib.hid c2; clear c2
      have Y2 := Lib.hid hy2; clear hy2
      cases b2
      case true =>
        have lt2 := l2.2.2 rfl
        simp at lt2
        have hm2 := (mono_all (B x.S) x.vars n).1 q3 (by rw [B_len, ← HSz.out]; omega)
        rw [B_len, ← HSz.out] at hm2
        have hr2 := (range_all (B x.S) x.vars n).1 q3
        have cp := fun w1 h1 (h2 : But w w1 x.g) => he.out q3 w1 h1 (by rw [← HSz.out]; omega) (HGB.out w1 h2) (by rw [← HSz.out]; omega)
        have hex : res = ((exprR (B x.S) x.vars n q3).1, { (eatR (B x.S) [41] (exprR (B x.S) x.vars n q3).2).2 with form := !(eatR (B x.S) [41] (exprR (B x.S) x.vars n q3).2).1 || (eatR (B x.S) [41] (exprR (B x.S) x.vars n q3).2).2.form }) := by
          rw [HE.out]; simp only [Y0.out, Y1.out, Y2.out, Bool.false_eq_true, if_false, if_true]
        generalize exprR (B x.S) x.vars n q3 = u at *
        obtain ⟨b, ru⟩ := u
        simp only at hm2 hr2 cp hex
        have cs := fun w1 (h1 : IsR w1 x.g x.S x.A x.vars.length x.c ru) => x.eat HX.out [41] (by decide) ru w1 h1 (by rw [← HSz.out]; omega)
        generalize eatR (B x.S) [41] ru = y9 at *
        obtain ⟨b9, q9⟩ := y9
        simp only at cs hex
        have CS := Lib.hid cs; clear cs
        have CP := Lib.hid cp; have HX2 := Lib.hid hex
        clear cp hex hr2
        have tok0 : True := trivial
        have tok1 : True := trivial
        have tok2 : True := trivial
        cases b9 <;> cases hf : q9.form
        all_goals
          simp only [hf, Bool.not_true, Bool.not_false, Bool.false_or, Bool.true_or] at HX2
          have HF := Lib.hid hf; clear hf
          go_enter Tryd.func59, Tryd.ntmps59
          go_wp2_with (first
          | (go_at_call 31; have _t := tok0; refine (C0.out _ HQ.out).mono ?_; clear tok0; rintro e v0 ⟨rfl, hr1, hb1⟩; have E0 := Lib.hid hr1; have F0 := Lib.hid (hb1); clear hr1 hb1)
          | (go_at_call 31; have _t := tok1; refine (C1.out _ E0.out).mono ?_; clear tok1; rintro e v1 ⟨rfl, hr1, hb1⟩; have E1 := Lib.hid hr1; have F1 := Lib.hid (F0.out.trans (hb1)); clear hr1 hb1)
          | (go_at_call 31; have _t := tok2; refine (C2.out _ E1.out).mono ?_; clear tok2; rintro e v2 ⟨rfl, hr1, hb1⟩; have E2 := Lib.hid hr1; have F2 := Lib.hid (F1.out.trans (hb1)); clear hr1 hb1)
          | (go_at_call 16; refine (CP.out _ E2.out F2.out).mono ?_; rintro e v8 ⟨rfl, hr1, hb1⟩; have E8 := Lib.hid hr1; have F8 := Lib.hid (F2.out.trans hb1); clear hr1 hb1)
            | (go_at_call 31; refine (CS.out _ E8.out).mono ?_; rintro e v9 ⟨rfl, hr1, hb1⟩; have k3 := hr1.c3; rw [HF.out] at k3; have kf := hr1.f 3; have E9 := Lib.hid hr1; have F9 := Lib.hid (F8.out.trans hb1); clear hr1 hb1))
          go_ret
          exact ⟨by rw [HX2.out]; rfl, by rw [HX2.out]; exact E9.out.set3 _, F9.out.set _ _⟩
      case false =>
        have hex : res = atomR (B x.S) x.vars (skipR (B x.S) q3) := by
          rw [HE.out]; simp only [Y0.out, Y1.out, Y2.out, Bool.false_eq_true, if_false]
        rw [hex]
        exact hat.out q1 q2 q3 rfl Y1.out Y2.out
end Go.Proofs.YtmkajangkibgeaaDoor.Ar
