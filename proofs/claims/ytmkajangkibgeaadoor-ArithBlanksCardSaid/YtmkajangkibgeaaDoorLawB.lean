/-
The walk of the law that blanks and brackets around do not matter.
-/
import Derived.Test.YtmkajangkibgeaaDoorKnown
import Derived.Test.YtmkajangkibgeaaDoorBlank2
set_option linter.unusedVariables false
set_option linter.unusedSimpArgs false
namespace Go.Proofs.YtmkajangkibgeaaDoor.Ar
open Go.RowKit Go.Shelf

theorem blank_around (n : Nat) (L : Str) (vars : List Bind) : EvalI n (32 :: 9 :: (L ++ tBlank)) vars = EvalI n L vars := by
  rw [eval_ahead n 32 _ vars (by decide), eval_ahead n 9 _ vars (by decide), eval_behind]

set_option maxHeartbeats 1600000 in
set_option maxRecDepth 100000 in
theorem blanks_st (W : World) (hG : Gl W) (L : Str) (A : Option Addr) (vars : List Bind) (c : Nat) (hv : vars.length ≤ 20 → IsV W A vars) :
    Calls Tryd.prog 6 #[.string (st L), .slice A vars.length c] W fun e w' => e = .returned (.bool true) ∧ Below W.heap.size W w' := by
  obtain ⟨S, hS⟩ : ∃ S, S = st L := ⟨_, rfl⟩
  have hsz : S.size = L.length := by rw [hS, st_size]
  rw [← hS]
  by_cases h1 : 200 < S.size
  · have d1 : decide ((200 : Int) < (S.size : Int)) = true := by simp; omega
    clear hv hS hsz
    generalize vars.length = m at *
    go_enter Tryd.func6, Tryd.ntmps6
    go_wp2
    go_ret
    exact ⟨rfl, Below.refl _ _⟩
  · have d1 : decide ((200 : Int) < (S.size : Int)) = false := by simp; omega
    by_cases h2 : 20 < vars.length
    · have d2 : decide ((20 : Int) < (vars.length : Int)) = true := by simp; omega
      clear hv hS hsz
      generalize vars.length = m at *
      go_enter Tryd.func6, Tryd.ntmps6
      go_wp2
      go_ret
      exact ⟨rfl, Below.refl _ _⟩
    · have d2 : decide ((20 : Int) < (vars.length : Int)) = false := by simp; omega
      have hV := hv (by omega)
      clear hv
      have c1 := evalTop_c (8 * L.length + 40) L vars A c W W hG hV (Below.refl _ _) (by omega) (by omega)
      have c2 := fun (T : ByteArray) (w1 : World) (hT : T = st (32 :: 9 :: (L ++ tBlank))) (h1 : Below W.heap.size W w1) => evalTop_c (8 * L.length + 40) (32 :: 9 :: (L ++ tBlank)) vars A c W w1 hG hV h1 (by simp [tBlank]; omega) (by simp [tBlank]; omega)
      have c3 := fun (T : ByteArray) (w1 : World) (hT : T = st (40 :: (L ++ tClose))) (h1 : Below W.heap.size W w1) => evalTop_c (8 * L.length + 40 + 4) (40 :: (L ++ tClose)) vars A c W w1 hG hV h1 (by simp [tClose]; omega) (by simp [tClose]; omega)
      have c2' : ∀ (T : ByteArray) (w1 : World), T = st (32 :: 9 :: (L ++ tBlank)) → Below W.heap.size W w1 → Calls Tryd.prog 7 #[.string T, .slice A vars.length c] w1 fun e w' => e = .returned (.tuple #[.int .i64 (EvalI (8 * L.length + 40) L vars).1, .int .i64 (EvalI (8 * L.length + 40) L vars).2]) ∧ Below w1.heap.size w1 w' := fun T w1 hT h1 => by
        have := c2 T w1 hT h1
        rw [blank_around] at this
        rw [hT]; exact this
      have c3' : ∃ u v : Int, ((EvalI (8 * L.length + 40) L vars).2 ≠ 2 → u = (EvalI (8 * L.length + 40) L vars).1 ∧ v = (EvalI (8 * L.length + 40) L vars).2) ∧ ∀ (T : ByteArray) (w1 : World), T = st (40 :: (L ++ tClose)) → Below W.heap.size W w1 → Calls Tryd.prog 7 #[.string T, .slice A vars.length c] w1 fun e w' => e = .returned (.tuple #[.int .i64 u, .int .i64 v]) ∧ Below w1.heap.size w1 w' := by
        refine ⟨_, _, fun he => ?_, fun T w1 hT h1 => by rw [hT]; exact c3 T w1 hT h1⟩
        rw [eval_brackets _ L vars he]
        exact ⟨rfl, rfl⟩
      have ck := fun w1 (h1 : Below W.heap.size W w1) => known_c W w1 hG h1
      obtain ⟨u, v, huv, c3'⟩ := c3'
      clear c2 c3
      rw [← hS] at c1
      generalize EvalI (8 * L.length + 40) L vars = res at *
      obtain ⟨x, y⟩ := res
      generalize vars.length = m at *
      have e2 : st (32 :: 9 :: (L ++ tBlank)) = st (32 :: 9 :: (B S ++ tBlank)) := by rw [hS]
      have e3 : st (40 :: (L ++ tClose)) = st (40 :: (B S ++ tClose)) := by rw [hS]
      rw [e2] at c2'
      rw [e3] at c3'
      have g1 : ¬ (9223372036854775807 < 2 + S.size) := by omega
      have g2 : ¬ (9223372036854775807 < 2 + S.size + 2) := by omega
      have g3 : ¬ (9223372036854775807 < 1 + S.size) := by omega
      have g4 : ¬ (9223372036854775807 < 1 + S.size + 1) := by omega
      have CE := Lib.hid c1; have C2 := Lib.hid c2'; have C3 := Lib.hid c3'; have CK := Lib.hid ck
      clear c1 c2' c3' ck hV hG hS hsz e2 e3
      simp only at huv
      by_cases hy : y = 2
      · subst hy
        clear huv
        have tok1 : True := trivial; have tok2 : True := trivial
        go_enter Tryd.func6, Tryd.ntmps6
        go_wp2_with (first
          | (go_at_call 7; have _t := tok1; clear tok1; refine CE.out.mono ?_; rintro e w1 ⟨rfl, hb1⟩; have HB1 := Lib.hid hb1; clear hb1)
          | (go_at_call 7; have _t := tok2; clear tok2; refine (C2.out _ _ (by first | rfl | (apply ByteArray.ext; simp [B, tBlank])) HB1.out).mono ?_; rintro e w2 ⟨rfl, hb2⟩; have HB2 := Lib.hid (HB1.out.trans (hb2.mono HB1.out.size)); clear hb2)
          | (go_at_call 7; refine (C3.out _ _ (by first | rfl | (apply ByteArray.ext; simp [B, tClose])) HB2.out).mono ?_; rintro e w3 ⟨rfl, hb3⟩; have HB3 := Lib.hid (HB2.out.trans (hb3.mono HB2.out.size)); clear hb3)
          | (go_at_call 9; refine (CK.out _ HB3.out).mono ?_; rintro e w4 ⟨rfl, hb4⟩; have HB4 := Lib.hid (HB3.out.trans (hb4.mono HB3.out.size)); clear hb4))
        go_ret
        exact ⟨rfl, HB4.out⟩
      · obtain ⟨rfl, rfl⟩ := huv hy
        clear huv
        have tok1 : True := trivial; have tok2 : True := trivial
        go_enter Tryd.func6, Tryd.ntmps6
        go_wp2_with (first
          | (go_at_call 7; have _t := tok1; clear tok1; refine CE.out.mono ?_; rintro e w1 ⟨rfl, hb1⟩; have HB1 := Lib.hid hb1; clear hb1)
          | (go_at_call 7; have _t := tok2; clear tok2; refine (C2.out _ _ (by first | rfl | (apply ByteArray.ext; simp [B, tBlank])) HB1.out).mono ?_; rintro e w2 ⟨rfl, hb2⟩; have HB2 := Lib.hid (HB1.out.trans (hb2.mono HB1.out.size)); clear hb2)
          | (go_at_call 7; refine (C3.out _ _ (by first | rfl | (apply ByteArray.ext; simp [B, tClose])) HB2.out).mono ?_; rintro e w3 ⟨rfl, hb3⟩; have HB3 := Lib.hid (HB2.out.trans (hb3.mono HB2.out.size)); clear hb3)
          | (go_at_call 9; refine (CK.out _ HB3.out).mono ?_; rintro e w4 ⟨rfl, hb4⟩; have HB4 := Lib.hid (HB3.out.trans (hb4.mono HB3.out.size)); clear hb4))
        go_ret
        exact ⟨rfl, HB4.out⟩
theorem blanks_c (W : World) (hG : Gl W) (S : ByteArray) (A : Option Addr) (vars : List Bind) (c : Nat) (hv : vars.length ≤ 20 → IsV W A vars) :
    Calls Tryd.prog 6 #[.string S, .slice A vars.length c] W fun e w' => e = .returned (.bool true) ∧ Below W.heap.size W w' := blanks_st W hG (B S) A vars c hv
end Go.Proofs.YtmkajangkibgeaaDoor.Ar
