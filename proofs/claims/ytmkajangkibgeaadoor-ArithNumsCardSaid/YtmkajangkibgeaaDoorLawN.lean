/-
The walk of the law that numbers are read as they are put.
-/
import Derived.Test.YtmkajangkibgeaaDoorKnown
import Derived.Test.YtmkajangkibgeaaDoorItoa2
set_option linter.unusedVariables false
set_option linter.unusedSimpArgs false
namespace Go.Proofs.YtmkajangkibgeaaDoor.Ar
open Go.RowKit Go.Shelf

theorem num_c2 (s : Str) (w0 w : World) (hG : Gl w0) (hb : Below w0.heap.size w0 w) (hl : s.length ≤ 140737488351232) :
    Calls Tryd.prog 10 #[.string (st s)] w fun e w' => e = .returned (.tuple #[.int .i64 ((numZ s).getD 0), .bool (numZ s).isSome]) ∧ Below w.heap.size w w' :=
  (num_c s w0 w hG hb hl).mono (by
    rintro e w' ⟨⟨v, rfl, rfl⟩, h⟩
    exact ⟨rfl, h⟩)

set_option maxHeartbeats 1600000 in
set_option maxRecDepth 100000 in
theorem nums_c (W : World) (hG : Gl W) (S : ByteArray) (n : Int) (h1 : -9223372036854775808 ≤ n) (h2 : n ≤ 9223372036854775807) :
    Calls Tryd.prog 4 #[.string S, .int .i64 n] W fun e w' => e = .returned (.bool true) ∧ Below W.heap.size W w' := by
  by_cases hs : 100 < S.size
  · have d1 : decide ((100 : Int) < (S.size : Int)) = true := by simp; omega
    go_enter Tryd.func4, Tryd.ntmps4
    go_wp2
    go_ret
    exact ⟨rfl, Below.refl _ _⟩
  · have d1 : decide ((100 : Int) < (S.size : Int)) = false := by simp; omega
    have ca := num_c2 (B S) W W hG (Below.refl _ _) (by rw [B_len]; omega)
    have cb := fun w1 => numR_c S w1 (by omega)
    have ci := fun w1 => itoa_c n h1 h2 w1
    have cc := fun w1 (h1 : Below W.heap.size W w1) => num_c2 (itoaZ n) W w1 hG h1 (by have := itoaZ_len n; omega)
    rw [num_itoa n h1 h2] at cc
    have ck := fun w1 (h1 : Below W.heap.size W w1) => known_c W w1 hG h1
    rw [st_B] at ca
    generalize numZ (B S) = res at *
    generalize res.getD 0 = x at *
    generalize res.isSome = ok at *
    simp only [Option.getD_some, Option.isSome_some] at cc
    obtain ⟨T, hT⟩ : ∃ T, T = st (itoaZ n) := ⟨_, rfl⟩
    rw [← hT] at ci cc
    have CA := Lib.hid ca; have CB := Lib.hid cb; have CC := Lib.hid cc; have CI := Lib.hid ci; have CK := Lib.hid ck
    clear ca cb cc ci ck hG hT
    have tok0 : True := trivial
    go_enter Tryd.func4, Tryd.ntmps4
    go_wp2_with (first
      | (go_at_call 10; have _t := tok0; refine CA.out.mono ?_; clear tok0; rintro e w1 ⟨rfl, hb1⟩; have HB1 := Lib.hid hb1; clear hb1)
      | (go_at_call 11; refine (CB.out _).mono ?_; rintro e w2 ⟨rfl, rfl⟩)
      | (go_at_call 12; refine (CI.out _).mono ?_; rintro e w3 ⟨rfl, hb3⟩; have HB3 := Lib.hid (HB1.out.trans (hb3.mono HB1.out.size)); clear hb3)
      | (go_at_call 10; refine (CC.out _ HB3.out).mono ?_; rintro e w4 ⟨rfl, hb4⟩; have HB4 := Lib.hid (HB3.out.trans (hb4.mono HB3.out.size)); clear hb4)
      | (go_at_call 9; refine (CK.out _ HB4.out).mono ?_; rintro e w5 ⟨rfl, hb5⟩; have HB5 := Lib.hid (HB4.out.trans (hb5.mono HB4.out.size)); clear hb5))
    go_ret
    exact ⟨rfl, HB5.out⟩
end Go.Proofs.YtmkajangkibgeaaDoor.Ar
