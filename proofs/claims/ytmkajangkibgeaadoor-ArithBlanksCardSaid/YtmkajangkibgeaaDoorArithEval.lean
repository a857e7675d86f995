/-
The walk of arith's eval, and of arith.Eval: at every text and all variables.
-/
import Derived.Test.YtmkajangkibgeaaDoorArithVal
set_option linter.unusedVariables false
set_option linter.unusedSimpArgs false
namespace Go.Proofs.YtmkajangkibgeaaDoor.Ar
open Go.RowKit Go.Shelf

/-- A tree as the parser makes them. -/
def WfT : Tree → Prop
  | .leaf op text => (op = sDigits ∨ op = sName) ∧ text.length ≤ 300
  | .un op t => (op = [45] ∨ op = [33]) ∧ WfT t
  | .bin op t u => (op ∈ cmps ∨ op ∈ adds ∨ op ∈ muls) ∧ WfT t ∧ WfT u

theorem takes_mem {xs : List Str} {s : Str} (h : (takes xs s).1 ≠ []) : (takes xs s).1 ∈ xs := by
  rcases takes_cases xs s with ⟨x, hx, _, e⟩ | ⟨_, e⟩
  · rw [e]; exact hx
  · rw [e] at h; exact absurd rfl h
theorem tw_len (q : UInt8 → Bool) (s : Str) : (s.takeWhile q).length ≤ s.length := tw_le q s
theorem wf_all (n : Nat) : (∀ p, p.s.length ≤ 300 → WfT (exprI n p).1) ∧ (∀ p, p.s.length ≤ 300 → WfT (sumI n p).1) ∧ (∀ t p, WfT t → p.s.length ≤ 300 → WfT (sumL n t p).1) ∧
    (∀ p, p.s.length ≤ 300 → WfT (prodI n p).1) ∧ (∀ t p, WfT t → p.s.length ≤ 300 → WfT (prodL n t p).1) ∧ (∀ p, p.s.length ≤ 300 → WfT (unaryI n p).1) := by
  have h0 : WfT (.leaf sName []) := ⟨.inr rfl, by simp⟩
  induction n with
  | zero => exact ⟨fun _ _ => h0, fun _ _ => h0, fun _ _ _ _ => h0, fun _ _ => h0, fun _ _ _ _ => h0, fun _ _ => h0⟩
  | succ n ih =>
    obtain ⟨h1, h2, h3, h4, h5, h6⟩ := ih
    obtain ⟨l1, l2, l3, l4, l5, l6⟩ := len_all n
    refine ⟨fun p hp => ?_, fun p hp => ?_, fun t p ht hp => ?_, fun p hp => ?_, fun t p ht hp => ?_, fun p hp => ?_⟩
    · simp only [exprI]
      have a := l2 p
      have b := takes_len cmps (sumI n p).2.s
      split
      · exact h2 p hp
      · rename_i hne
        exact ⟨.inl (takes_mem hne), h2 p hp, h2 _ (by simp; omega)⟩
    · simp only [sumI]; exact h3 _ _ (h4 p hp) (Nat.le_trans (l4 p) hp)
    · simp only [sumL]
      have b := takes_len adds p.s
      split
      · exact ht
      · split
        · exact ht
        · rename_i hne
          have c := l4 ⟨(takes adds p.s).2, p.bad⟩
          have d : (takes adds p.s).2.length ≤ 300 := by omega
          exact h3 _ _ ⟨.inr (.inl (takes_mem hne)), ht, h4 _ d⟩ (Nat.le_trans c d)
    · simp only [prodI]; exact h5 _ _ (h6 p hp) (Nat.le_trans (l6 p) hp)
    · simp only [prodL]
      have b := takes_len muls p.s
      split
      · exact ht
      · split
        · exact ht
        · rename_i hne
          have c := l6 ⟨(takes muls p.s).2, p.bad⟩
          have d : (takes muls p.s).2.length ≤ 300 := by omega
          exact h5 _ _ ⟨.inr (.inr (takes_mem hne)), ht, h6 _ d⟩ (Nat.le_trans c d)
    · simp only [unaryI]
      have b := takes_len opens p.s
      split
      · rename_i hx
        exact ⟨hx, h6 _ (by simp; omega)⟩
      · split
        · exact h1 _ (by simp; omega)
        · unfold atomI
          have c := tw_len digit (takes opens p.s).2
          have d := tw_len more (takes opens p.s).2
          split
          · exact ⟨.inl rfl, by omega⟩
          · split
            · exact ⟨.inr rfl, by omega⟩
            · exact ⟨.inr rfl, by omega⟩

theorem IsT.below {w w' : World} {g a : Nat} {t : Tree} (h : IsT w g a t) (k : Below w.heap.size w w') : IsT w' g a t := h.but (But.of_below k g)

set_option maxHeartbeats 3200000 in
set_option maxRecDepth 100000 in
theorem eval_c (vars : List Bind) (A : Option Addr) (c g : Nat) (w0 : World) (hG : Gl w0) (hv : Hid (IsV w0 A vars)) (t : Tree) : ∀ (a : Nat) (w : World), IsT w g a t → WfT t → Below w0.heap.size w0 w →
    Calls Tryd.prog 15 #[ptr a, .slice A vars.length c] w fun e w' => e = .returned (.tuple #[.int .i64 (evalI vars t).1, .bool (evalI vars t).2]) ∧ Below w.heap.size w w' := by
  induction t with
  | leaf op text =>
    intro a w ht hwf hb
    obtain ⟨_, hcell⟩ := ht
    obtain ⟨hop, hlen⟩ := hwf
    have cn := fun w h => num_c text w0 w hG h (by omega)
    have cv := fun w h => value_c text vars A c w0 w hG hv.out h
    have HB := Lib.hid hb; clear hb
    rcases hop with rfl | rfl
    · have e : evalI vars (.leaf sDigits text) = ((numZ text).getD 0, (numZ text).isSome) := by simp [evalI]
      rw [e]
      have k0 : w.cell? ⟨a, 0, none⟩ = some (.string ⟨#[100, 105, 103, 105, 116, 115]⟩) := (blk_cell hcell 0).trans rfl
      have k1 : w.cell? ⟨a, 1, none⟩ = some (.string (st text)) := (blk_cell hcell 1).trans rfl
      clear hcell cv e
      have CN := Lib.hid cn; clear cn
      generalize vars.length = n
      go_enter Tryd.func15, Tryd.ntmps15
      go_wp2_with (go_at_call 10; refine (CN.out _ HB.out).mono ?_; rintro e w3 ⟨⟨vv, rfl, hvv⟩, hb3⟩; have HV3 := Lib.hid hvv; have HB3 := Lib.hid hb3; clear hvv hb3)
      go_ret2
      exact ⟨by rw [← HV3.out]; rfl, HB3.out⟩
    · have e : evalI vars (.leaf sName text) = ((valueZ text vars).getD 0, (valueZ text vars).isSome) := by
        have hne : sName ≠ sDigits := by decide
        simp [evalI, hne]
      rw [e]
      have k0 : w.cell? ⟨a, 0, none⟩ = some (.string ⟨#[110, 97, 109, 101]⟩) := (blk_cell hcell 0).trans rfl
      have k1 : w.cell? ⟨a, 1, none⟩ = some (.string (st text)) := (blk_cell hcell 1).trans rfl
      clear hcell cn e
      have CV := Lib.hid cv; clear cv
      generalize vars.length = n at *
      go_enter Tryd.func15, Tryd.ntmps15
      go_wp2_with (go_at_call 27; refine (CV.out _ HB.out).mono ?_; rintro e w3 ⟨rfl, hb3⟩; have HB3 := Lib.hid hb3; clear hb3)
      go_ret2
      exact ⟨rfl, HB3.out⟩
  | un op t ih =>
    intro a w ht hwf hb
    obtain ⟨_, k, b, _, hcell, hkids, hsub⟩ := ht
    obtain ⟨hop, hwt⟩ := hwf
    have ce := ih b w hsub hwt hb
    have k2 : w.cell? ⟨a, 2, none⟩ = some (.slice (some ⟨k, 0, none⟩) 1 1) := (blk_cell hcell 2).trans rfl
    have kk : w.cell? ⟨k, 0, none⟩ = some (ptr b) := (blk_cell hkids 0).trans rfl
    have hex := evalI_un vars op t
    have hrng := evalI_range vars t
    generalize evalI vars t = r at *
    obtain ⟨v, ok⟩ := r
    have CE := Lib.hid ce; clear ce ih hsub hkids hb
    have HCell := Lib.hid hcell; clear hcell
    generalize vars.length = n at *
    simp only at hex hrng
    unfold In64 at hrng
    have keep : ∀ w2, Below w.heap.size w w2 → ∀ i, w2.cell? ⟨a, i, none⟩ = w.cell? ⟨a, i, none⟩ := fun w2 h i => h.cell (p := ⟨a, i, none⟩) (blk_lt HCell.out)
    have KP := Lib.hid keep; clear keep
    cases ok
    · rw [if_pos rfl] at hex
      have HX := Lib.hid hex; clear hex
      rcases hop with rfl | rfl
      all_goals
        have k0 := (blk_cell HCell.out 0)
        simp at k0
        go_enter Tryd.func15, Tryd.ntmps15
        go_wp2_with (go_at_call 15; refine CE.out.mono ?_; rintro e w3 ⟨rfl, hb3⟩; have HB3 := Lib.hid hb3; clear hb3)
        go_ret2
        exact ⟨by rw [HX.out]; rfl, HB3.out⟩
    · rw [if_neg (by simp)] at hex
      rcases hop with rfl | rfl
      · rw [if_neg (by decide)] at hex
        have k0 := (blk_cell HCell.out 0)
        simp at k0
        cases hm : (v != -9223372036854775808)
        all_goals
          have hd : decide (v ≠ -9223372036854775808) = (v != -9223372036854775808) := by
            rw [Bool.eq_iff_iff]; simp
          rw [hd, hm] at hex
          clear hd
          have HX := Lib.hid hex; clear hex
          go_enter Tryd.func15, Tryd.ntmps15
          go_wp2_with (go_at_call 15; refine CE.out.mono ?_; rintro e w3 ⟨rfl, hb3⟩; have c0 := (KP.out _ hb3 0).trans k0; have c2 := (KP.out _ hb3 2).trans k2; have HB3 := Lib.hid hb3; clear hb3)
          go_ret2
          exact ⟨by rw [HX.out, ← wrap_wr]; rfl, HB3.out⟩
      · rw [if_pos rfl] at hex
        have k0 := (blk_cell HCell.out 0)
        simp at k0
        have hz : decide (v = 0) = (v == 0) := by rw [Bool.eq_iff_iff]; simp
        rw [hz] at hex
        clear hz
        have cb := fun w => bit_c (v == 0) w
        cases hm : (v == 0)
        all_goals
          rw [hm] at cb hex
          have HX := Lib.hid hex; clear hex
          have CB := Lib.hid cb; clear cb
          go_enter Tryd.func15, Tryd.ntmps15
          go_wp2_with (first
            | (go_at_call 15; refine CE.out.mono ?_; rintro e w3 ⟨rfl, hb3⟩; have c0 := (KP.out _ hb3 0).trans k0; have c2 := (KP.out _ hb3 2).trans k2; have HB3 := Lib.hid hb3; clear hb3)
            | (go_at_call 28; refine (CB.out _).mono ?_; rintro e w4 ⟨rfl, rfl⟩))
          go_ret2
          exact ⟨by rw [HX.out]; rfl, HB3.out⟩
  | bin op t u iht ihu =>
    intro a w ht hwf hb
    obtain ⟨_, k, b, d, _, hcell, hkids, hs1, hs2⟩ := ht
    obtain ⟨hop, hw1, hw2⟩ := hwf
    have ce1 := iht b w hs1 hw1 hb
    have ce2 := fun w2 (h : Below w.heap.size w w2) => ihu d w2 (hs2.below h) hw2 (hb.trans (h.mono hb.size))
    have k2 : w.cell? ⟨a, 2, none⟩ = some (.slice (some ⟨k, 0, none⟩) 2 2) := (blk_cell hcell 2).trans rfl
    have k0 : w.cell? ⟨a, 0, none⟩ = some (.string (st op)) := (blk_cell hcell 0).trans rfl
    have kk0 : w.cell? ⟨k, 0, none⟩ = some (ptr b) := (blk_cell hkids 0).trans rfl
    have kk1 : w.cell? ⟨k, 1, none⟩ = some (ptr d) := (blk_cell hkids 1).trans rfl
    have hex := evalI_bin vars op t u
    have r1 := evalI_range vars t
    have r2 := evalI_range vars u
    have htwo := two_all op hop
    have hno1 : (st op).toList = op := opS op
    have hne : op ≠ sDigits ∧ op ≠ sName ∧ op ≠ [33] := by
      rcases hop with h | h | h
      · have : op = [60, 61] ∨ op = [62, 61] ∨ op = [61, 61] ∨ op = [33, 61] ∨ op = [60] ∨ op = [62] := by simpa [cmps] using h
        rcases this with rfl | rfl | rfl | rfl | rfl | rfl <;> decide
      · have : op = [43] ∨ op = [45] := by simpa [adds] using h
        rcases this with rfl | rfl <;> decide
      · have : op = [42] ∨ op = [47] ∨ op = [37] := by simpa [muls] using h
        rcases this with rfl | rfl | rfl <;> decide
    have keep : ∀ w2, Below w.heap.size w w2 → ∀ i, w2.cell? ⟨a, i, none⟩ = w.cell? ⟨a, i, none⟩ := fun w2 h i => h.cell (p := ⟨a, i, none⟩) (blk_lt hcell)
    have keepk : ∀ w2, Below w.heap.size w w2 → ∀ i, w2.cell? ⟨k, i, none⟩ = w.cell? ⟨k, i, none⟩ := fun w2 h i => h.cell (p := ⟨k, i, none⟩) (blk_lt hkids)
    have KP := Lib.hid keep; clear keep
    have KK := Lib.hid keepk; clear keepk
    have n1 : ((st op).toList == [100, 105, 103, 105, 116, 115]) = false := beq_eq_false_iff_ne.2 (by rw [hno1]; exact hne.1)
    have n2 : ((st op).toList == [110, 97, 109, 101]) = false := beq_eq_false_iff_ne.2 (by rw [hno1]; exact hne.2.1)
    unfold TwoS at htwo
    obtain ⟨S, hS⟩ : ∃ S, S = st op := ⟨_, rfl⟩
    rw [← hS] at n1 n2 k0 htwo
    clear hS hno1 hne hcell hkids hs1 hs2 iht ihu hb
    generalize evalI vars t = x at *
    generalize evalI vars u = y at *
    obtain ⟨v1, ok1⟩ := x
    obtain ⟨v2, ok2⟩ := y
    simp only at hex r1 r2
    have CE1 := Lib.hid ce1; clear ce1
    have CE2 := Lib.hid ce2; clear ce2
    have CT := Lib.hid (fun w => htwo v1 v2 w r1 r2)
    clear htwo r1 r2
    generalize vars.length = n at *
    cases ok1
    · rw [if_pos rfl] at hex
      have HX := Lib.hid hex; clear hex CE2 CT
      go_enter Tryd.func15, Tryd.ntmps15
      go_wp2_with (go_at_call 15; refine CE1.out.mono ?_; rintro e w3 ⟨rfl, hb3⟩; have HB3 := Lib.hid hb3; clear hb3)
      go_ret2
      exact ⟨by rw [HX.out]; rfl, HB3.out⟩
    · rw [if_neg (by simp)] at hex
      cases ok2
      · rw [if_pos rfl] at hex
        have HX := Lib.hid hex; clear hex CT
        go_enter Tryd.func15, Tryd.ntmps15
        have tok1 : True := trivial
        go_wp2_with (first
          | (go_at_call 15; have _t := tok1; refine CE1.out.mono ?_; rintro e w3 ⟨rfl, hb3⟩; clear tok1; have c2 := (KP.out _ hb3 2).trans k2; have cc := (KK.out _ hb3 1).trans kk1; have HB3 := Lib.hid hb3; clear hb3)
          | (go_at_call 15; refine (CE2.out _ HB3.out).mono ?_; rintro e w4 ⟨rfl, hb4⟩; have HB4 := Lib.hid hb4; clear hb4))
        go_ret2
        exact ⟨by rw [HX.out]; rfl, HB3.out.trans (HB4.out.mono HB3.out.size)⟩
      · rw [if_neg (by simp)] at hex
        have HX := Lib.hid hex; clear hex
        generalize twoZ op v1 v2 = z at *
        go_enter Tryd.func15, Tryd.ntmps15
        have tok1 : True := trivial
        go_wp2_with (first
          | (go_at_call 15; have _t := tok1; refine CE1.out.mono ?_; rintro e w3 ⟨rfl, hb3⟩; clear tok1; have c2 := (KP.out _ hb3 2).trans k2; have cc := (KK.out _ hb3 1).trans kk1; have HB3 := Lib.hid hb3; clear hb3)
          | (go_at_call 15; refine (CE2.out _ HB3.out).mono ?_; rintro e w4 ⟨rfl, hb4⟩; have hb5 := HB3.out.trans (hb4.mono HB3.out.size); have c0 := (KP.out _ hb5 0).trans k0; have HB5 := Lib.hid hb5; clear hb4 hb5)
          | (go_at_call 29; refine (CT.out _).mono ?_; rintro e w6 ⟨rfl, ⟨nn, rfl⟩⟩))
        go_ret2
        exact ⟨by rw [HX.out]; rfl, ⟨HB5.out.os, HB5.out.tape, HB5.out.output, HB5.out.size, HB5.out.block⟩⟩
end Go.Proofs.YtmkajangkibgeaaDoor.Ar
