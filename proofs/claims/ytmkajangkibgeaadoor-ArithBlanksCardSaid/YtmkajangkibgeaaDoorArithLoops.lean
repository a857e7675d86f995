/-
The walks of arith's sum and prod: a piece, then as long as a sign is next, another one.
-/
import Derived.Test.YtmkajangkibgeaaDoorArithTree
set_option linter.unusedVariables false
namespace Go.Proofs.YtmkajangkibgeaaDoor.Ar
open Go.RowKit Go.Shelf

theorem opS (l : Str) : (st l).toList = l := ByteArray.toList_eq _

set_option maxHeartbeats 1600000 in
set_option maxRecDepth 100000 in
theorem sum_c (n : Nat) (hp : Hid (∀ m, m ≤ n → ProdS m)) : SumS (n + 1) := by
  intro p g w h hl hn
  have hlen := (len_all n).2.2.2.1 p
  have hc := (hp.out n (Nat.le_refl _)) p g w h hl (by omega)
  have e0 : sumI (n + 1) p = sumL n (prodI n p).1 (prodI n p).2 := by simp only [sumI]
  rw [e0]
  have E0 := Lib.hid e0; clear e0
  generalize hr : prodI n p = r at hc hlen ⊢
  have HR := Lib.hid hr; clear hr
  have H := Lib.hid h; clear h
  have hgl := H.out.lt
  have hrl : 8 * r.2.s.length + 1 ≤ n := by omega
  generalize hres : sumL n r.1 r.2 = res
  have HRES := Lib.hid hres; clear hres
  go_enter Tryd.func24, Tryd.ntmps24
  go_wp2_with (go_at_call 38; refine hc.mono ?_; rintro e w1 ⟨a1, rfl, ht, hp1, hb1⟩)
  have HT := Lib.hid ht; clear ht
  have HP := Lib.hid hp1; clear hp1
  have HB := Lib.hid hb1; clear hb1
  clear hc
  go_loopg [3] n (fun kq v wr => ∃ (a : Nat) (t : Tree) (q : PS), v = ptr a ∧ Hid (IsT wr g a t) ∧ Hid (IsP wr g q) ∧ Hid (But w wr g) ∧ Hid (sumL kq t q = res) ∧ q.s.length ≤ p.s.length ∧ 8 * q.s.length + 1 ≤ kq ∧ kq ≤ n)
  case atStart => exact ⟨a1, r.1, r.2, rfl, HT, HP, HB, HRES, by omega, by omega, Nat.le_refl _⟩
  case round =>
    clear HT HP HB HRES
    obtain ⟨a, t, q, rfl, HT, HP, HB, HE, hq1, hq2, hq3⟩ := hrel
    cases gk with
    | zero => omega
    | succ m =>
      have k1 := HP.out.c1
      cases hbad : q.bad
      case true =>
        rw [hbad] at k1
        have hex : res = (t, q) := by rw [← HE.out]; simp [sumL, hbad]
        have HX := Lib.hid hex; clear hex
        have HBd := Lib.hid hbad; clear hbad
        go_wp2_with fail
        go_ret
        rw [HX.out]
        exact ⟨a, rfl, HT.out, HP.out, HB.out⟩
      case false =>
        rw [hbad] at k1
        have HBd := Lib.hid hbad; clear hbad
        have hgl2 : g < wr.heap.size := HP.out.lt
        have hs := isS_new wr adds
        have ctk := takes_c g wr.heap.size q adds 2 _ rfl (by decide) (HP.out.alloc _) hs (by omega)
        have hS := (rfl : st (takes adds q.s).1 = st (takes adds q.s).1)
        obtain ⟨S, hSe⟩ : ∃ S, S = st (takes adds q.s).1 := ⟨_, rfl⟩
        rw [← hSe] at ctk
        clear hS hs
        have HS := Lib.hid hSe; clear hSe
        have CTK := Lib.hid ctk; clear ctk
        by_cases hop : (takes adds q.s).1 = []
        · have hSe : S.toList.isEmpty = true := by rw [HS.out, opS, hop]; rfl
          have hex : res = (t, ⟨(takes adds q.s).2, q.bad⟩) := by rw [← HE.out]; simp [sumL, HBd.out, hop]
          have HX := Lib.hid hex; clear hex hop
          go_wp2_with (go_at_call 25; refine CTK.out.mono ?_; rintro e w2 ⟨rfl, hp2, hb2⟩; have HP2 := Lib.hid hp2; have HB2 := Lib.hid hb2; clear hp2 hb2)
          go_ret
          rw [HX.out]
          have hb3 := ((But.refl wr g).alloc _).trans HB2.out
          exact ⟨a, rfl, HT.out.but hb3, HP2.out, HB.out.trans hb3⟩
        · have hSe : S.toList.isEmpty = false := by
            rw [HS.out, opS]
            cases hh : (takes adds q.s).1 with
            | nil => exact absurd hh hop
            | cons _ _ => rfl
          have hless := takes_less hop
          have hll := (len_all m).2.2.2.1 ⟨(takes adds q.s).2, q.bad⟩
          have hex : res = sumL m (.bin (takes adds q.s).1 t (prodI m ⟨(takes adds q.s).2, q.bad⟩).1) (prodI m ⟨(takes adds q.s).2, q.bad⟩).2 := by rw [← HE.out]; simp [sumL, HBd.out, hop]
          have hcp := fun w h => hp.out m (by omega) ⟨(takes adds q.s).2, q.bad⟩ g w h (by simp; omega) (by simp; omega)
          generalize hu : prodI m ⟨(takes adds q.s).2, q.bad⟩ = u at *
          have HU := Lib.hid hu; clear hu
          have HX := Lib.hid hex; clear hex hop
          have HCP := Lib.hid hcp; clear hcp
          go_wp2_with (first
            | (go_at_call 25; refine CTK.out.mono ?_; rintro e w2 ⟨rfl, hp2, hb2⟩; have HP2 := Lib.hid hp2; have HB2 := Lib.hid hb2; clear hp2 hb2)
            | (go_at_call 38; refine (HCP.out _ HP2.out).mono ?_; rintro e w3 ⟨c, rfl, ht3, hp3, hb3⟩; have HT3 := Lib.hid ht3; have HP3 := Lib.hid hp3; have HB3 := Lib.hid hb3; clear ht3 hp3 hb3))
          have hb4 := (((But.refl wr g).alloc _).trans HB2.out).trans HB3.out
          have hgl3 : g < w3.heap.size := HP3.out.lt
          go_roundg m
          case measure => omega
          case rel =>
            refine ⟨w3.heap.size + 1, _, u.2, rfl, ?_, ?_, ?_, HX.out.symm, by (try simp at hll); omega, by (try simp at hll); omega, by omega⟩
            · rw [HS.out]; exact IsT.new_bin hgl3 (HT.out.but hb4) HT3.out
            · exact (HP3.out.alloc _).alloc _
            · exact ((HB.out.trans hb4).alloc _).alloc _

set_option maxHeartbeats 1600000 in
set_option maxRecDepth 100000 in
theorem prod_c (n : Nat) (hp : Hid (∀ m, m ≤ n → UnaryS m)) : ProdS (n + 1) := by
  intro p g w h hl hn
  have hlen := (len_all n).2.2.2.2.2 p
  have hc := (hp.out n (Nat.le_refl _)) p g w h hl (by omega)
  have e0 : prodI (n + 1) p = prodL n (unaryI n p).1 (unaryI n p).2 := by simp only [prodI]
  rw [e0]
  have E0 := Lib.hid e0; clear e0
  generalize hr : unaryI n p = r at hc hlen ⊢
  have HR := Lib.hid hr; clear hr
  have H := Lib.hid h; clear h
  have hgl := H.out.lt
  have hrl : 8 * r.2.s.length + 1 ≤ n := by omega
  generalize hres : prodL n r.1 r.2 = res
  have HRES := Lib.hid hres; clear hres
  go_enter Tryd.func38, Tryd.ntmps38
  go_wp2_with (go_at_call 55; refine hc.mono ?_; rintro e w1 ⟨a1, rfl, ht, hp1, hb1⟩)
  have HT := Lib.hid ht; clear ht
  have HP := Lib.hid hp1; clear hp1
  have HB := Lib.hid hb1; clear hb1
  clear hc
  go_loopg [3] n (fun kq v wr => ∃ (a : Nat) (t : Tree) (q : PS), v = ptr a ∧ Hid (IsT wr g a t) ∧ Hid (IsP wr g q) ∧ Hid (But w wr g) ∧ Hid (prodL kq t q = res) ∧ q.s.length ≤ p.s.length ∧ 8 * q.s.length + 1 ≤ kq ∧ kq ≤ n)
  case atStart => exact ⟨a1, r.1, r.2, rfl, HT, HP, HB, HRES, by omega, by omega, Nat.le_refl _⟩
  case round =>
    clear HT HP HB HRES
    obtain ⟨a, t, q, rfl, HT, HP, HB, HE, hq1, hq2, hq3⟩ := hrel
    cases gk with
    | zero => omega
    | succ m =>
      have k1 := HP.out.c1
      cases hbad : q.bad
      case true =>
        rw [hbad] at k1
        have hex : res = (t, q) := by rw [← HE.out]; simp [prodL, hbad]
        have HX := Lib.hid hex; clear hex
        have HBd := Lib.hid hbad; clear hbad
        go_wp2_with fail
        go_ret
        rw [HX.out]
        exact ⟨a, rfl, HT.out, HP.out, HB.out⟩
      case false =>
        rw [hbad] at k1
        have HBd := Lib.hid hbad; clear hbad
        have hgl2 : g < wr.heap.size := HP.out.lt
        have hs := isS_new wr muls
        have ctk := takes_c g wr.heap.size q muls 3 _ rfl (by decide) (HP.out.alloc _) hs (by omega)
        have hS := (rfl : st (takes muls q.s).1 = st (takes muls q.s).1)
        obtain ⟨S, hSe⟩ : ∃ S, S = st (takes muls q.s).1 := ⟨_, rfl⟩
        rw [← hSe] at ctk
        clear hS hs
        have HS := Lib.hid hSe; clear hSe
        have CTK := Lib.hid ctk; clear ctk
        by_cases hop : (takes muls q.s).1 = []
        · have hSe : S.toList.isEmpty = true := by rw [HS.out, opS, hop]; rfl
          have hex : res = (t, ⟨(takes muls q.s).2, q.bad⟩) := by rw [← HE.out]; simp [prodL, HBd.out, hop]
          have HX := Lib.hid hex; clear hex hop
          go_wp2_with (go_at_call 25; refine CTK.out.mono ?_; rintro e w2 ⟨rfl, hp2, hb2⟩; have HP2 := Lib.hid hp2; have HB2 := Lib.hid hb2; clear hp2 hb2)
          go_ret
          rw [HX.out]
          have hb3 := ((But.refl wr g).alloc _).trans HB2.out
          exact ⟨a, rfl, HT.out.but hb3, HP2.out, HB.out.trans hb3⟩
        · have hSe : S.toList.isEmpty = false := by
            rw [HS.out, opS]
            cases hh : (takes muls q.s).1 with
            | nil => exact absurd hh hop
            | cons _ _ => rfl
          have hless := takes_less hop
          have hll := (len_all m).2.2.2.2.2 ⟨(takes muls q.s).2, q.bad⟩
          have hex : res = prodL m (.bin (takes muls q.s).1 t (unaryI m ⟨(takes muls q.s).2, q.bad⟩).1) (unaryI m ⟨(takes muls q.s).2, q.bad⟩).2 := by rw [← HE.out]; simp [prodL, HBd.out, hop]
          have hcp := fun w h => hp.out m (by omega) ⟨(takes muls q.s).2, q.bad⟩ g w h (by simp; omega) (by simp; omega)
          generalize hu : unaryI m ⟨(takes muls q.s).2, q.bad⟩ = u at *
          have HU := Lib.hid hu; clear hu
          have HX := Lib.hid hex; clear hex hop
          have HCP := Lib.hid hcp; clear hcp
          go_wp2_with (first
            | (go_at_call 25; refine CTK.out.mono ?_; rintro e w2 ⟨rfl, hp2, hb2⟩; have HP2 := Lib.hid hp2; have HB2 := Lib.hid hb2; clear hp2 hb2)
            | (go_at_call 55; refine (HCP.out _ HP2.out).mono ?_; rintro e w3 ⟨c, rfl, ht3, hp3, hb3⟩; have HT3 := Lib.hid ht3; have HP3 := Lib.hid hp3; have HB3 := Lib.hid hb3; clear ht3 hp3 hb3))
          have hb4 := (((But.refl wr g).alloc _).trans HB2.out).trans HB3.out
          have hgl3 : g < w3.heap.size := HP3.out.lt
          go_roundg m
          case measure => omega
          case rel =>
            refine ⟨w3.heap.size + 1, _, u.2, rfl, ?_, ?_, ?_, HX.out.symm, by (try simp at hll); omega, by (try simp at hll); omega, by omega⟩
            · rw [HS.out]; exact IsT.new_bin hgl3 (HT.out.but hb4) HT3.out
            · exact (HP3.out.alloc _).alloc _
            · exact ((HB.out.trans hb4).alloc _).alloc _
end Go.Proofs.YtmkajangkibgeaaDoor.Ar
