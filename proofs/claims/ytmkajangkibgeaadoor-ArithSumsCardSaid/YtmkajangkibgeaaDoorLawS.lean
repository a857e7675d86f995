/-
The walk of the law on what is reckoned of two numbers.
-/
import Derived.Test.YtmkajangkibgeaaDoorKnown
import Derived.Test.YtmkajangkibgeaaDoorSums0
set_option linter.unusedVariables false
set_option linter.unusedSimpArgs false
namespace Go.Proofs.YtmkajangkibgeaaDoor.Ar
open Go.RowKit Go.Shelf

theorem isV_two (w : World) (T : TypeId) (a b : Int) : IsV (w.alloc (.cells #[.string (st vA), .string (st (itoaZ a)), .string (st vB), .string (st (itoaZ b))] T)) (some ⟨w.heap.size, 0, none⟩) (vars2 a b) := by
  have hl : (vars2 a b).length = 2 := rfl
  refine ⟨by simp [vars2], fun j hj => ?_, fun j hj => ?_⟩
  · rcases (by omega : j = 0 ∨ j = 1) with rfl | rfl
    · exact ⟨_, _, rfl, blk_lt (blk_new w _), (blk_cell (blk_new w _) 0).trans rfl, (blk_cell (blk_new w _) 1).trans rfl⟩
    · exact ⟨_, _, rfl, blk_lt (blk_new w _), (blk_cell (blk_new w _) 2).trans rfl, (blk_cell (blk_new w _) 3).trans rfl⟩
  · rcases (by omega : j = 0 ∨ j = 1) with rfl | rfl
    · show (itoaZ a).length ≤ _
      have := itoaZ_len a; omega
    · show (itoaZ b).length ≤ _
      have := itoaZ_len b; omega

theorem evals_at (n : Nat) (s : Str) (res : Int × Int) (a b : Int) (he : EvalI n s (vars2 a b) = res) (hn : 8 * s.length + 4 ≤ n) (hl : s.length ≤ 300) (w0 w : World) (A : Option Addr) (hG : Gl w0) (hv : IsV w0 A (vars2 a b)) (hb : Below w0.heap.size w0 w) :
    Calls Tryd.prog 7 #[.string (st s), .slice A 2 2] w fun e w' => e = .returned (.tuple #[.int .i64 res.1, .int .i64 res.2]) ∧ Below w.heap.size w w' := by
  rw [← he]
  exact evalTop_c n s (vars2 a b) A 2 w0 w hG hv hb hl hn

set_option maxHeartbeats 1600000 in
set_option maxRecDepth 100000 in
theorem sums_c (W : World) (hG : Gl W) (a b : Int) (ha1 : -9223372036854775808 ≤ a) (ha2 : a ≤ 9223372036854775807) (hb1 : -9223372036854775808 ≤ b) (hb2 : b ≤ 9223372036854775807) :
    Calls Tryd.prog 5 #[.int .i64 a, .int .i64 b] W fun e w' => e = .returned (.bool true) ∧ Below W.heap.size W w' := by
  by_cases r1 : a < -1073741824
  · go_enter Tryd.func5, Tryd.ntmps5
    go_wp2
    go_ret
    exact ⟨rfl, Below.refl _ _⟩
  by_cases r2 : 1073741824 < a
  · go_enter Tryd.func5, Tryd.ntmps5
    go_wp2
    go_ret
    exact ⟨rfl, Below.refl _ _⟩
  by_cases r3 : b < -1073741824
  · go_enter Tryd.func5, Tryd.ntmps5
    go_wp2
    go_ret
    exact ⟨rfl, Below.refl _ _⟩
  by_cases r4 : 1073741824 < b
  · go_enter Tryd.func5, Tryd.ntmps5
    go_wp2
    go_ret
    exact ⟨rfl, Below.refl _ _⟩
  have q1 := @sum1 a b (by omega) (by omega) (by omega) (by omega)
  have q2 := @sum2 a b (by omega) (by omega) (by omega) (by omega)
  have q3 := @sum3 a b (by omega) (by omega) (by omega) (by omega)
  have q4 := @sum4 a b (by omega) (by omega) (by omega) (by omega)
  obtain ⟨m1, m2⟩ := mul_small a b (by omega) (by omega)
  have ia := itoa_c a ha1 ha2
  have ib := itoa_c b hb1 hb2
  have key : ∀ w : World, Below W.heap.size W w →
      Below W.heap.size W (w.alloc (.cells #[.string (st vA), .string (st (itoaZ a)), .string (st vB), .string (st (itoaZ b))] 35)) ∧ Gl (w.alloc (.cells #[.string (st vA), .string (st (itoaZ a)), .string (st vB), .string (st (itoaZ b))] 35)) ∧
      IsV (w.alloc (.cells #[.string (st vA), .string (st (itoaZ a)), .string (st vB), .string (st (itoaZ b))] 35)) (some ⟨w.heap.size, 0, none⟩) (vars2 a b) := fun w hb => by
    have h := hb.alloc hb.size (.cells #[.string (st vA), .string (st (itoaZ a)), .string (st vB), .string (st (itoaZ b))] 35)
    exact ⟨h, hG.mono h, isV_two w _ a b⟩
  have ck := fun w1 (h1 : Below W.heap.size W w1) => known_c W w1 hG h1
  have c1 := evals_at 44 e1 _ a b q1 (by decide) (by decide)
  have c2 := evals_at 60 e2 _ a b q2 (by decide) (by decide)
  have c3 := evals_at 44 e3 _ a b q3 (by decide) (by decide)
  have c4 := evals_at 140 e4 _ a b q4 (by decide) (by decide)
  simp only at c1 c2 c3
  generalize itoaZ a = TA at *
  generalize itoaZ b = TB at *
  generalize vars2 a b = V at *
  obtain ⟨SA, hSA⟩ : ∃ SA, SA = st TA := ⟨_, rfl⟩
  obtain ⟨SB, hSB⟩ : ∃ SB, SB = st TB := ⟨_, rfl⟩
  rw [← hSA, ← hSB] at key
  rw [← hSA] at ia
  rw [← hSB] at ib
  clear q1 q2 q3 q4 hSA hSB ha1 ha2 hb1 hb2
  by_cases h0 : b = 0
  · subst h0
    rw [if_pos rfl] at c4
    simp only [Int.mul_zero, Int.sub_zero, Int.add_zero] at c1 c2
    clear m1 m2
    have CK := Lib.hid ck; have C1 := Lib.hid c1; have C2 := Lib.hid c2; have C3 := Lib.hid c3; have IA := Lib.hid ia; have IB := Lib.hid ib; have KEY := Lib.hid key
    clear ck c1 c2 c3 ia ib key hG
    have C4 := Lib.hid c4; clear c4
    by_cases hlt : a < 0
    · have hbz := decide_eq_true hlt
      rw [hbz, show bitZ true = 1 from rfl] at C3
      clear hbz
      have tokA : True := trivial; have tok1 : True := trivial; have tok2 : True := trivial; have tok3 : True := trivial; have tok4 : True := trivial
      go_enter Tryd.func5, Tryd.ntmps5
      go_wp2_with (first
        | (go_at_call 12; have _t := tokA; refine (IA.out _).mono ?_; clear tokA; rintro e w1 ⟨rfl, hb1⟩; have HB1 := Lib.hid hb1; clear hb1)
        | (go_at_call 12; refine (IB.out _).mono ?_; rintro e w2 ⟨rfl, hb2⟩; have HK := Lib.hid (KEY.out _ (HB1.out.trans (hb2.mono HB1.out.size))); clear hb2)
        | (go_at_call 7; have _t := tok1; clear tok1; refine (C1.out _ _ _ HK.out.2.1 HK.out.2.2 (Below.refl _ _)).mono ?_; rintro e w3 ⟨rfl, hb3⟩; have HB3 := Lib.hid hb3; clear hb3)
        | (go_at_call 7; have _t := tok2; clear tok2; refine (C2.out _ _ _ HK.out.2.1 HK.out.2.2 HB3.out).mono ?_; rintro e w4 ⟨rfl, hb4⟩; have HB4 := Lib.hid (HB3.out.trans (hb4.mono HB3.out.size)); clear hb4)
        | (go_at_call 7; have _t := tok3; clear tok3; refine (C3.out _ _ _ HK.out.2.1 HK.out.2.2 HB4.out).mono ?_; rintro e w5 ⟨rfl, hb5⟩; have HB5 := Lib.hid (HB4.out.trans (hb5.mono HB4.out.size)); clear hb5)
        | (go_at_call 7; have _t := tok4; clear tok4; refine (C4.out _ _ _ HK.out.2.1 HK.out.2.2 HB5.out).mono ?_; rintro e w6 ⟨rfl, hb6⟩; have HB6 := Lib.hid (HK.out.1.trans ((HB5.out.trans (hb6.mono HB5.out.size)).mono HK.out.1.size)); clear hb6)
        | (go_at_call 9; refine (CK.out _ HB6.out).mono ?_; rintro e w7 ⟨rfl, hb7⟩; have HB7 := Lib.hid (HB6.out.trans (hb7.mono HB6.out.size)); clear hb7))
      go_ret
      first | exact ⟨rfl, HB7.out⟩ | exact ⟨ret_bool (by simp; omega), HB7.out⟩ | exact ⟨ret_bool (by simp [h0]), HB7.out⟩ | exact ⟨ret_bool (by simp [h0]; omega), HB7.out⟩
    · have hbz := decide_eq_false hlt
      rw [hbz, show bitZ false = 0 from rfl] at C3
      clear hbz
      have tokA : True := trivial; have tok1 : True := trivial; have tok2 : True := trivial; have tok3 : True := trivial; have tok4 : True := trivial
      go_enter Tryd.func5, Tryd.ntmps5
      go_wp2_with (first
        | (go_at_call 12; have _t := tokA; refine (IA.out _).mono ?_; clear tokA; rintro e w1 ⟨rfl, hb1⟩; have HB1 := Lib.hid hb1; clear hb1)
        | (go_at_call 12; refine (IB.out _).mono ?_; rintro e w2 ⟨rfl, hb2⟩; have HK := Lib.hid (KEY.out _ (HB1.out.trans (hb2.mono HB1.out.size))); clear hb2)
        | (go_at_call 7; have _t := tok1; clear tok1; refine (C1.out _ _ _ HK.out.2.1 HK.out.2.2 (Below.refl _ _)).mono ?_; rintro e w3 ⟨rfl, hb3⟩; have HB3 := Lib.hid hb3; clear hb3)
        | (go_at_call 7; have _t := tok2; clear tok2; refine (C2.out _ _ _ HK.out.2.1 HK.out.2.2 HB3.out).mono ?_; rintro e w4 ⟨rfl, hb4⟩; have HB4 := Lib.hid (HB3.out.trans (hb4.mono HB3.out.size)); clear hb4)
        | (go_at_call 7; have _t := tok3; clear tok3; refine (C3.out _ _ _ HK.out.2.1 HK.out.2.2 HB4.out).mono ?_; rintro e w5 ⟨rfl, hb5⟩; have HB5 := Lib.hid (HB4.out.trans (hb5.mono HB4.out.size)); clear hb5)
        | (go_at_call 7; have _t := tok4; clear tok4; refine (C4.out _ _ _ HK.out.2.1 HK.out.2.2 HB5.out).mono ?_; rintro e w6 ⟨rfl, hb6⟩; have HB6 := Lib.hid (HK.out.1.trans ((HB5.out.trans (hb6.mono HB5.out.size)).mono HK.out.1.size)); clear hb6)
        | (go_at_call 9; refine (CK.out _ HB6.out).mono ?_; rintro e w7 ⟨rfl, hb7⟩; have HB7 := Lib.hid (HB6.out.trans (hb7.mono HB6.out.size)); clear hb7))
      go_ret
      first | exact ⟨rfl, HB7.out⟩ | exact ⟨ret_bool (by simp; omega), HB7.out⟩ | exact ⟨ret_bool (by simp [h0]), HB7.out⟩ | exact ⟨ret_bool (by simp [h0]; omega), HB7.out⟩
  · rw [if_neg h0] at c4
    have CK := Lib.hid ck; have C1 := Lib.hid c1; have C2 := Lib.hid c2; have C3 := Lib.hid c3; have IA := Lib.hid ia; have IB := Lib.hid ib; have KEY := Lib.hid key
    clear ck c1 c2 c3 ia ib key hG
    have C4 := Lib.hid c4; clear c4
    by_cases hlt : a < b
    · have hbz := decide_eq_true hlt
      rw [hbz, show bitZ true = 1 from rfl] at C3
      clear hbz
      have tokA : True := trivial; have tok1 : True := trivial; have tok2 : True := trivial; have tok3 : True := trivial; have tok4 : True := trivial
      go_enter Tryd.func5, Tryd.ntmps5
      go_wp2_with (first
        | (go_at_call 12; have _t := tokA; refine (IA.out _).mono ?_; clear tokA; rintro e w1 ⟨rfl, hb1⟩; have HB1 := Lib.hid hb1; clear hb1)
        | (go_at_call 12; refine (IB.out _).mono ?_; rintro e w2 ⟨rfl, hb2⟩; have HK := Lib.hid (KEY.out _ (HB1.out.trans (hb2.mono HB1.out.size))); clear hb2)
        | (go_at_call 7; have _t := tok1; clear tok1; refine (C1.out _ _ _ HK.out.2.1 HK.out.2.2 (Below.refl _ _)).mono ?_; rintro e w3 ⟨rfl, hb3⟩; have HB3 := Lib.hid hb3; clear hb3)
        | (go_at_call 7; have _t := tok2; clear tok2; refine (C2.out _ _ _ HK.out.2.1 HK.out.2.2 HB3.out).mono ?_; rintro e w4 ⟨rfl, hb4⟩; have HB4 := Lib.hid (HB3.out.trans (hb4.mono HB3.out.size)); clear hb4)
        | (go_at_call 7; have _t := tok3; clear tok3; refine (C3.out _ _ _ HK.out.2.1 HK.out.2.2 HB4.out).mono ?_; rintro e w5 ⟨rfl, hb5⟩; have HB5 := Lib.hid (HB4.out.trans (hb5.mono HB4.out.size)); clear hb5)
        | (go_at_call 7; have _t := tok4; clear tok4; refine (C4.out _ _ _ HK.out.2.1 HK.out.2.2 HB5.out).mono ?_; rintro e w6 ⟨rfl, hb6⟩; have HB6 := Lib.hid (HK.out.1.trans ((HB5.out.trans (hb6.mono HB5.out.size)).mono HK.out.1.size)); clear hb6)
        | (go_at_call 9; refine (CK.out _ HB6.out).mono ?_; rintro e w7 ⟨rfl, hb7⟩; have HB7 := Lib.hid (HB6.out.trans (hb7.mono HB6.out.size)); clear hb7))
      go_ret
      first | exact ⟨rfl, HB7.out⟩ | exact ⟨ret_bool (by simp; omega), HB7.out⟩ | exact ⟨ret_bool (by simp [h0]), HB7.out⟩ | exact ⟨ret_bool (by simp [h0]; omega), HB7.out⟩
    · have hbz := decide_eq_false hlt
      rw [hbz, show bitZ false = 0 from rfl] at C3
      clear hbz
      have tokA : True := trivial; have tok1 : True := trivial; have tok2 : True := trivial; have tok3 : True := trivial; have tok4 : True := trivial
      go_enter Tryd.func5, Tryd.ntmps5
      go_wp2_with (first
        | (go_at_call 12; have _t := tokA; refine (IA.out _).mono ?_; clear tokA; rintro e w1 ⟨rfl, hb1⟩; have HB1 := Lib.hid hb1; clear hb1)
        | (go_at_call 12; refine (IB.out _).mono ?_; rintro e w2 ⟨rfl, hb2⟩; have HK := Lib.hid (KEY.out _ (HB1.out.trans (hb2.mono HB1.out.size))); clear hb2)
        | (go_at_call 7; have _t := tok1; clear tok1; refine (C1.out _ _ _ HK.out.2.1 HK.out.2.2 (Below.refl _ _)).mono ?_; rintro e w3 ⟨rfl, hb3⟩; have HB3 := Lib.hid hb3; clear hb3)
        | (go_at_call 7; have _t := tok2; clear tok2; refine (C2.out _ _ _ HK.out.2.1 HK.out.2.2 HB3.out).mono ?_; rintro e w4 ⟨rfl, hb4⟩; have HB4 := Lib.hid (HB3.out.trans (hb4.mono HB3.out.size)); clear hb4)
        | (go_at_call 7; have _t := tok3; clear tok3; refine (C3.out _ _ _ HK.out.2.1 HK.out.2.2 HB4.out).mono ?_; rintro e w5 ⟨rfl, hb5⟩; have HB5 := Lib.hid (HB4.out.trans (hb5.mono HB4.out.size)); clear hb5)
        | (go_at_call 7; have _t := tok4; clear tok4; refine (C4.out _ _ _ HK.out.2.1 HK.out.2.2 HB5.out).mono ?_; rintro e w6 ⟨rfl, hb6⟩; have HB6 := Lib.hid (HK.out.1.trans ((HB5.out.trans (hb6.mono HB5.out.size)).mono HK.out.1.size)); clear hb6)
        | (go_at_call 9; refine (CK.out _ HB6.out).mono ?_; rintro e w7 ⟨rfl, hb7⟩; have HB7 := Lib.hid (HB6.out.trans (hb7.mono HB6.out.size)); clear hb7))
      go_ret
      first | exact ⟨rfl, HB7.out⟩ | exact ⟨ret_bool (by simp; omega), HB7.out⟩ | exact ⟨ret_bool (by simp [h0]), HB7.out⟩ | exact ⟨ret_bool (by simp [h0]; omega), HB7.out⟩
end Go.Proofs.YtmkajangkibgeaaDoor.Ar
