/-
The walk of the law that two ways of reckoning agree.
-/
import Derived.Test.YtmkajangkibgeaaDoorKnown
import Derived.Test.YtmkajangkibgeaaDoorArithR9
set_option linter.unusedVariables false
set_option linter.unusedSimpArgs false
namespace Go.Proofs.YtmkajangkibgeaaDoor.Ar
open Go.RowKit Go.Shelf

set_option maxHeartbeats 1600000 in
set_option maxRecDepth 100000 in
theorem evals_c (W : World) (hG : Gl W) (S : ByteArray) (A : Option Addr) (vars : List Bind) (c : Nat) (hv : vars.length ≤ 20 → IsV W A vars) :
    Calls Tryd.prog 3 #[.string S, .slice A vars.length c] W fun e w' => e = .returned (.bool true) ∧ Below W.heap.size W w' := by
  by_cases h1 : 200 < S.size
  · have d1 : decide ((200 : Int) < (S.size : Int)) = true := by simp; omega
    clear hv
    generalize vars.length = m at *
    go_enter Tryd.func3, Tryd.ntmps3
    go_wp2
    go_ret
    exact ⟨rfl, Below.refl _ _⟩
  · have d1 : decide ((200 : Int) < (S.size : Int)) = false := by simp; omega
    by_cases h2 : 20 < vars.length
    · have d2 : decide ((20 : Int) < (vars.length : Int)) = true := by simp; omega
      clear hv
      generalize vars.length = m at *
      go_enter Tryd.func3, Tryd.ntmps3
      go_wp2
      go_ret
      exact ⟨rfl, Below.refl _ _⟩
    · have d2 : decide ((20 : Int) < (vars.length : Int)) = false := by simp; omega
      have hV := hv (by omega)
      clear hv
      have ce := evalTop_c (8 * S.size + 4) (B S) vars A c W W hG hV (Below.refl _ _) (by rw [B_len]; omega) (by rw [B_len]; omega)
      rw [eval_same, st_B] at ce
      have cr := fun w1 (h1 : Below W.heap.size W w1) => evalR_c (8 * S.size + 4) S vars A c W w1 hG hV h1 (by omega) (Nat.le_refl _)
      have ck := fun w1 (h1 : Below W.heap.size W w1) => known_c W w1 hG h1
      generalize EvalR (B S) vars (8 * S.size + 4) = res at *
      obtain ⟨x, y⟩ := res
      generalize vars.length = m at *
      have CE := Lib.hid ce; have CR := Lib.hid cr; have CK := Lib.hid ck
      clear ce cr ck hV hG
      go_enter Tryd.func3, Tryd.ntmps3
      go_wp2_with (first
        | (go_at_call 7; refine CE.out.mono ?_; rintro e w1 ⟨rfl, hb1⟩; have HB1 := Lib.hid hb1; clear hb1)
        | (go_at_call 8; refine (CR.out _ HB1.out).mono ?_; rintro e w2 ⟨rfl, hb2⟩; have HB2 := Lib.hid (HB1.out.trans (hb2.mono HB1.out.size)); clear hb2)
        | (go_at_call 9; refine (CK.out _ HB2.out).mono ?_; rintro e w3 ⟨rfl, hb3⟩; have HB3 := Lib.hid (HB2.out.trans (hb3.mono HB2.out.size)); clear hb3))
      go_ret
      exact ⟨rfl, HB3.out⟩
end Go.Proofs.YtmkajangkibgeaaDoor.Ar
