/-
The walks of arith's expr and unary; what the parser makes of any text.
-/
import Derived.Test.YtmkajangkibgeaaDoorArithLoops
set_option linter.unusedVariables false
namespace Go.Proofs.YtmkajangkibgeaaDoor.Ar
open Go.RowKit Go.Shelf

set_option maxHeartbeats 1600000 in
set_option maxRecDepth 100000 in
theorem expr_c (n : Nat) (hp : Hid (SumS n)) : ExprS (n + 1) := by
  intro p g w h hl hn
  have hlen := (len_all n).2.1 p
  have hc := hp.out p g w h hl (by omega)
  generalize hr : sumI n p = r at hc hlen
  have hex : exprI (n + 1) p = if (takes cmps r.2.s).1 = [] then (r.1, ⟨(takes cmps r.2.s).2, r.2.bad⟩) else (.bin (takes cmps r.2.s).1 r.1 (sumI n ⟨(takes cmps r.2.s).2, r.2.bad⟩).1, (sumI n ⟨(takes cmps r.2.s).2, r.2.bad⟩).2) := by
    simp only [exprI, hr]
  have HR := Lib.hid hr; clear hr
  generalize exprI (n + 1) p = res at hex ⊢
  have HX := Lib.hid hex; clear hex
  have H := Lib.hid h; clear h
  have ctk := fun w1 (h1 : IsP w1 g r.2) => takes_c g w1.heap.size r.2 cmps 6 _ rfl (by decide) (h1.alloc _) (isS_new w1 cmps) (by have := h1.lt; omega)
  obtain ⟨S, hSe⟩ : ∃ S, S = st (takes cmps r.2.s).1 := ⟨_, rfl⟩
  rw [← hSe] at ctk
  have HS := Lib.hid hSe; clear hSe
  have CTK := Lib.hid ctk; clear ctk
  by_cases hop : (takes cmps r.2.s).1 = []
  · have hSe : S.toList.isEmpty = true := by rw [HS.out, opS, hop]; rfl
    have HO := Lib.hid hop; clear hop
    go_enter Tryd.func13, Tryd.ntmps13
    go_wp2_with (first
      | (go_at_call 24; refine hc.mono ?_; rintro e w1 ⟨a1, rfl, ht, hp1, hb1⟩; have HT := Lib.hid ht; have HP := Lib.hid hp1; have HB := Lib.hid hb1; clear ht hp1 hb1)
      | (go_at_call 25; refine (CTK.out _ HP.out).mono ?_; rintro e w2 ⟨rfl, hp2, hb2⟩; have HP2 := Lib.hid hp2; have HB2 := Lib.hid hb2; clear hp2 hb2))
    go_ret
    have hb3 := ((But.refl w1 g).alloc _).trans HB2.out
    rw [HX.out, if_pos HO.out]
    exact ⟨a1, rfl, HT.out.but hb3, HP2.out, HB.out.trans hb3⟩
  · have hSe : S.toList.isEmpty = false := by
      rw [HS.out, opS]
      cases hh : (takes cmps r.2.s).1 with
      | nil => exact absurd hh hop
      | cons _ _ => rfl
    have hless := takes_less hop
    have hcp := fun w h => hp.out ⟨(takes cmps r.2.s).2, r.2.bad⟩ g w h (by simp; omega) (by simp; omega)
    have HO := Lib.hid hop; clear hop
    have HCP := Lib.hid hcp; clear hcp
    have HC := Lib.hid hc; clear hc
    go_enter Tryd.func13, Tryd.ntmps13
    have tok1 : True := trivial
    go_wp2_with (first
      | (go_at_call 24; have _t := tok1; refine HC.out.mono ?_; rintro e w1 ⟨a1, rfl, ht, hp1, hb1⟩; clear tok1; have HT := Lib.hid ht; have HP := Lib.hid hp1; have HB := Lib.hid hb1; clear ht hp1 hb1)
      | (go_at_call 25; refine (CTK.out _ HP.out).mono ?_; rintro e w2 ⟨rfl, hp2, hb2⟩; have HP2 := Lib.hid hp2; have HB2 := Lib.hid hb2; clear hp2 hb2)
      | (go_at_call 24; refine (HCP.out _ HP2.out).mono ?_; rintro e w3 ⟨c, rfl, ht3, hp3, hb3⟩; have HT3 := Lib.hid ht3; have HP3 := Lib.hid hp3; have HB3 := Lib.hid hb3; clear ht3 hp3 hb3))
    go_ret
    have hb4 := (((But.refl w1 g).alloc _).trans HB2.out).trans HB3.out
    rw [HX.out, if_neg HO.out]
    refine ⟨w3.heap.size + 1, rfl, ?_, ?_, ?_⟩
    · rw [HS.out]; exact IsT.new_bin HP3.out.lt (HT.out.but hb4) HT3.out
    · exact (HP3.out.alloc _).alloc _
    · exact ((HB.out.trans hb4).alloc _).alloc _
end Go.Proofs.YtmkajangkibgeaaDoor.Ar
