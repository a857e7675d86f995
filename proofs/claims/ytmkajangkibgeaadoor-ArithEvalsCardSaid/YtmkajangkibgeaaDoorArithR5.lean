/-
The walks of the reckoner's sum and prod.
-/
import Derived.Test.YtmkajangkibgeaaDoorArithR4
set_option linter.unusedVariables false
set_option linter.unusedSimpArgs false
namespace Go.Proofs.YtmkajangkibgeaaDoor.Ar
open Go.RowKit Go.Shelf

theorem eatR_le (s x : Str) (r : RS) (h : r.i ≤ s.length) : r.i ≤ (eatR s x r).2.i ∧ (eatR s x r).2.i ≤ s.length ∧ ((eatR s x r).1 = true → r.i + x.length ≤ (eatR s x r).2.i) := by
  have h1 := skipR_le s r h
  have h2 : r.i ≤ (skipR s r).i := Nat.le_add_right _ _
  unfold eatR
  by_cases hc : (skipR s r).form = true ∨ ¬ x.isPrefixOf (s.drop (skipR s r).i) = true
  · rw [if_pos hc]; exact ⟨h2, h1, by simp⟩
  · rw [if_neg hc]
    have hp : x.isPrefixOf (s.drop (skipR s r).i) = true := by
      cases hh : x.isPrefixOf (s.drop (skipR s r).i)
      · exact absurd (.inr (by simp [hh])) hc
      · rfl
    have := prefix_len hp
    rw [List.length_drop] at this
    exact ⟨by simp; omega, by simp; omega, fun _ => by simp; omega⟩

theorem i_add (a b : Int) (r : RS) : (addR a b r).2.i = r.i := rfl
theorem i_sub (a b : Int) (r : RS) : (subR a b r).2.i = r.i := rfl
theorem i_mul (a b : Int) (r : RS) : (mulR a b r).2.i = r.i := by unfold mulR; split <;> rfl
theorem i_div (a b : Int) (l : Bool) (r : RS) : (divR a b l r).2.i = r.i := by unfold divR; repeat' split
                                                                               all_goals rfl
theorem atomR_le (s : Str) (vars : List Bind) (r : RS) (h : r.i ≤ s.length) : r.i ≤ (atomR s vars r).2.i ∧ (atomR s vars r).2.i ≤ s.length := by
  have h1 := tw_le digit (s.drop r.i)
  have h2 := tw_le more (s.drop r.i)
  rw [List.length_drop] at h1 h2
  unfold atomR
  split
  · exact ⟨by simp, by simp; omega⟩
  · split
    · exact ⟨by simp, by simp; omega⟩
    · exact ⟨by simp [valueR], by simp [valueR]; omega⟩

def Mono (s : Str) (f : RS → Int × RS) : Prop := ∀ r, r.i ≤ s.length → r.i ≤ (f r).2.i ∧ (f r).2.i ≤ s.length
theorem mono_all (s : Str) (vars : List Bind) (n : Nat) : Mono s (exprR s vars n) ∧ Mono s (sumR s vars n) ∧ (∀ a, Mono s (sumRL s vars n a)) ∧ Mono s (prodR s vars n) ∧ (∀ a, Mono s (prodRL s vars n a)) ∧ Mono s (unaryR s vars n) := by
  induction n with
  | zero =>
    refine ⟨fun r h => ?_, fun r h => ?_, fun a r h => ?_, fun r h => ?_, fun a r h => ?_, fun r h => ?_⟩ <;> exact ⟨Nat.le_refl _, h⟩
  | succ n ih =>
    obtain ⟨h1, h2, h3, h4, h5, h6⟩ := ih
    have tr : ∀ {a b c d : Nat}, a ≤ b ∧ b ≤ d → (b ≤ d → b ≤ c ∧ c ≤ d) → a ≤ c ∧ c ≤ d := fun p q => ⟨Nat.le_trans p.1 (q p.2).1, (q p.2).2⟩
    have te : ∀ x r, r.i ≤ s.length → r.i ≤ (eatR s x r).2.i ∧ (eatR s x r).2.i ≤ s.length := fun x r h => ⟨(eatR_le s x r h).1, (eatR_le s x r h).2.1⟩
    refine ⟨fun r h => ?_, fun r h => ?_, fun a r h => ?_, fun r h => ?_, fun a r h => ?_, fun r h => ?_⟩
    · simp only [exprR]
      refine tr (h2 r h) fun k0 => ?_
      split
      · exact tr (te _ _ k0) fun k => h2 _ k
      · refine tr (te [60, 61] _ k0) fun k1 => ?_
        split
        · exact tr (te _ _ k1) fun k => h2 _ k
        · refine tr (te [62, 61] _ k1) fun k2 => ?_
          split
          · exact tr (te _ _ k2) fun k => h2 _ k
          · refine tr (te [61, 61] _ k2) fun k3 => ?_
            split
            · exact tr (te _ _ k3) fun k => h2 _ k
            · refine tr (te [33, 61] _ k3) fun k4 => ?_
              split
              · exact tr (te _ _ k4) fun k => h2 _ k
              · refine tr (te [60] _ k4) fun k5 => ?_
                split
                · exact tr (te _ _ k5) fun k => h2 _ k
                · exact te _ _ k5
    · simp only [sumR]; exact tr (h4 r h) fun k => h3 _ _ k
    · simp only [sumRL]
      split
      · exact tr (te _ _ h) fun k => tr (h4 _ k) fun k2 => by have := h3 (addR a (prodR s vars n (eatR s [43] r).2).1 (prodR s vars n (eatR s [43] r).2).2).1 (addR a (prodR s vars n (eatR s [43] r).2).1 (prodR s vars n (eatR s [43] r).2).2).2; rw [i_add] at this; exact this k2
      · refine tr (te [43] _ h) fun k1 => ?_
        split
        · exact tr (te _ _ k1) fun k => tr (h4 _ k) fun k2 => by have := h3 (subR a (prodR s vars n (eatR s [45] (eatR s [43] r).2).2).1 (prodR s vars n (eatR s [45] (eatR s [43] r).2).2).2).1 (subR a (prodR s vars n (eatR s [45] (eatR s [43] r).2).2).1 (prodR s vars n (eatR s [45] (eatR s [43] r).2).2).2).2; rw [i_sub] at this; exact this k2
        · exact te _ _ k1
    · simp only [prodR]; exact tr (h6 r h) fun k => h5 _ _ k
    · simp only [prodRL]
      split
      · exact tr (te _ _ h) fun k => tr (h6 _ k) fun k2 => by have := h5 (mulR a (unaryR s vars n (eatR s [42] r).2).1 (unaryR s vars n (eatR s [42] r).2).2).1 (mulR a (unaryR s vars n (eatR s [42] r).2).1 (unaryR s vars n (eatR s [42] r).2).2).2; rw [i_mul] at this; exact this k2
      · refine tr (te [42] _ h) fun k1 => ?_
        split
        · exact tr (te _ _ k1) fun k => tr (h6 _ k) fun k2 => by have := h5 (divR a (unaryR s vars n (eatR s [47] (eatR s [42] r).2).2).1 false (unaryR s vars n (eatR s [47] (eatR s [42] r).2).2).2).1 (divR a (unaryR s vars n (eatR s [47] (eatR s [42] r).2).2).1 false (unaryR s vars n (eatR s [47] (eatR s [42] r).2).2).2).2; rw [i_div] at this; exact this k2
        · refine tr (te [47] _ k1) fun k2 => ?_
          split
          · exact tr (te _ _ k2) fun k => tr (h6 _ k) fun k3 => by have := h5 (divR a (unaryR s vars n (eatR s [37] (eatR s [47] (eatR s [42] r).2).2).2).1 true (unaryR s vars n (eatR s [37] (eatR s [47] (eatR s [42] r).2).2).2).2).1 (divR a (unaryR s vars n (eatR s [37] (eatR s [47] (eatR s [42] r).2).2).2).1 true (unaryR s vars n (eatR s [37] (eatR s [47] (eatR s [42] r).2).2).2).2).2; rw [i_div] at this; exact this k3
          · exact te _ _ k2
    · simp only [unaryR]
      split
      · exact tr (te _ _ h) fun k => by rw [i_sub]; exact h6 _ k
      · refine tr (te [45] _ h) fun k1 => ?_
        split
        · exact tr (te _ _ k1) fun k => h6 _ k
        · refine tr (te [33] _ k1) fun k2 => ?_
          split
          · exact tr (te _ _ k2) fun k => tr (h1 _ k) fun k3 => te _ _ k3
          · refine tr (te [40] _ k2) fun k3 => ?_
            have hs := skipR_le s (eatR s [40] (eatR s [33] (eatR s [45] r).2).2).2 k3
            have hs2 : (eatR s [40] (eatR s [33] (eatR s [45] r).2).2).2.i ≤ (skipR s (eatR s [40] (eatR s [33] (eatR s [45] r).2).2).2).i := Nat.le_add_right _ _
            exact tr ⟨hs2, hs⟩ fun k => atomR_le _ _ _ k

/-! ### the contracts -/
structure RC where
  w0 : World
  g : Nat
  S : ByteArray
  A : Option Addr
  vars : List Bind
  c : Nat
def RC.Ok (x : RC) : Prop := Gl x.w0 ∧ IsV x.w0 x.A x.vars ∧ x.w0.heap.size ≤ x.g ∧ x.S.size ≤ 300
def RComes (x : RC) (f : FuncId) (n k : Nat) (m : RS → Int × RS) : Prop :=
  ∀ (r : RS) (w : World), IsR w x.g x.S x.A x.vars.length x.c r → r.i ≤ x.S.size → Below x.w0.heap.size x.w0 w → 8 * (x.S.size - r.i) + k ≤ n →
    Calls Tryd.prog f #[ptr x.g] w fun e w' => e = .returned (.int .i64 (m r).1) ∧ IsR w' x.g x.S x.A x.vars.length x.c (m r).2 ∧ But w w' x.g
def RExpr (x : RC) (n : Nat) : Prop := RComes x 16 n 4 (exprR (B x.S) x.vars n)
def RSum (x : RC) (n : Nat) : Prop := RComes x 30 n 3 (sumR (B x.S) x.vars n)
def RProd (x : RC) (n : Nat) : Prop := RComes x 46 n 2 (prodR (B x.S) x.vars n)
def RUnary (x : RC) (n : Nat) : Prop := RComes x 59 n 1 (unaryR (B x.S) x.vars n)
/-- One sign asked for. -/
theorem RC.eat (x : RC) (hx : x.Ok) (y : Str) (hy : y.length ≤ 2) (r : RS) (w : World) (h : IsR w x.g x.S x.A x.vars.length x.c r) (hi : r.i ≤ x.S.size) :
    Calls Tryd.prog 31 #[ptr x.g, .string (st y)] w fun e w' => e = .returned (.bool (eatR (B x.S) y r).1) ∧ IsR w' x.g x.S x.A x.vars.length x.c (eatR (B x.S) y r).2 ∧ But w w' x.g :=
  eat_c x.g x.S x.A x.vars.length x.c r y w h hx.2.2.2 hy hi

set_option maxHeartbeats 6400000 in
set_option maxRecDepth 100000 in
theorem rsum_c (x : RC) (hx : x.Ok) (n : Nat) (hp : Hid (∀ m, m ≤ n → RProd x m)) : RSum x (n + 1) := by
  intro r w h hi hb hn
  have hmono := (mono_all (B x.S) x.vars n).2.2.2.1 r hi
  rw [B_len] at hmono
  have hrng := (range_all (B x.S) x.vars n).2.2.2.1 r
  have hc := hp.out n (Nat.le_refl _) r w h hi hb (by omega)
  have e0 : sumR (B x.S) x.vars (n + 1) r = sumRL (B x.S) x.vars n (prodR (B x.S) x.vars n r).1 (prodR (B x.S) x.vars n r).2 := by simp only [sumR]
  rw [e0]
  clear e0
  generalize prodR (B x.S) x.vars n r = z at *
  obtain ⟨a0, r0⟩ := z
  simp only at hmono hrng hc ⊢
  generalize hres : sumRL (B x.S) x.vars n a0 r0 = res
  have HRES := Lib.hid hres; clear hres
  have hgb : ∀ w1, But w w1 x.g → Below x.w0.heap.size x.w0 w1 := fun w1 h1 => h1.below hb hx.2.2.1
  have HGB := Lib.hid hgb; clear hgb
  have HX := Lib.hid hx; clear hx
  have CC := Lib.hid hc; clear hc
  have HRng := Lib.hid hrng; clear hrng
  clear h hb
  obtain ⟨sz, hsz⟩ : ∃ sz, sz = x.S.size := ⟨_, rfl⟩
  rw [← hsz] at hmono hi hn
  have HSz := Lib.hid hsz; clear hsz
  go_enter Tryd.func30, Tryd.ntmps30
  go_wp2_with (go_at_call 46; refine CC.out.mono ?_; rintro e w1 ⟨rfl, hr1, hb1⟩; have HR1 := Lib.hid hr1; have HB1 := Lib.hid hb1; clear hr1 hb1)
  go_loopg [3] n (fun kq v wr => ∃ (a : Int) (q : RS), v = .int .i64 a ∧ Hid (IsR wr x.g x.S x.A x.vars.length x.c q) ∧ Hid (But w wr x.g) ∧ Hid (sumRL (B x.S) x.vars kq a q = res) ∧ Hid (In64 a) ∧ q.i ≤ sz ∧ r.i ≤ q.i ∧ 8 * (sz - q.i) + 1 ≤ kq ∧ kq ≤ n)
  case atStart => exact ⟨a0, r0, rfl, HR1, HB1, HRES, HRng, by omega, by omega, by omega, Nat.le_refl _⟩
  case round =>
    clear HR1 HB1 HRES HRng CC
    obtain ⟨a, q, rfl, HR, HB, HE, HRa, hq1, hq2, hq3, hq4⟩ := hrel
    cases gk with
    | zero => omega
    | succ m =>
      have l0 := eatR_le (B x.S) [43] q (by rw [B_len, ← HSz.out]; omega)
      rw [B_len, ← HSz.out] at l0
      have c0 := fun w1 (h1 : IsR w1 x.g x.S x.A x.vars.length x.c q) => x.eat HX.out [43] (by decide) q w1 h1 (by rw [← HSz.out]; omega)
      generalize hy0 : eatR (B x.S) [43] q = y0 at *
      obtain ⟨b0, q1⟩ := y0
      simp only at l0 c0
      have C0 := Lib.hid c0; clear c0
      have Y0 := Lib.hid hy0; clear hy0
      cases b0
      case true =>
        have lt0 := l0.2.2 rfl
        have hm2 := (mono_all (B x.S) x.vars m).2.2.2.1 q1 (by rw [B_len, ← HSz.out]; omega)
        rw [B_len, ← HSz.out] at hm2
        have hr2 := (range_all (B x.S) x.vars m).2.2.2.1 q1
        have cp := fun w1 h1 (h2 : But w w1 x.g) => hp.out m (by omega) q1 w1 h1 (by rw [← HSz.out]; omega) (HGB.out w1 h2) (by rw [← HSz.out]; simp at lt0; omega)
        have hex : sumRL (B x.S) x.vars m (addR a (prodR (B x.S) x.vars m q1).1 (prodR (B x.S) x.vars m q1).2).1 (addR a (prodR (B x.S) x.vars m q1).1 (prodR (B x.S) x.vars m q1).2).2 = res := by
          rw [← HE.out]; simp only [sumRL, Y0.out, Bool.false_eq_true, if_false, if_true]
        generalize prodR (B x.S) x.vars m q1 = u at *
        obtain ⟨b, ru⟩ := u
        simp only at hm2 hr2 cp hex
        have cs := fun w1 (h1 : IsR w1 x.g x.S x.A x.vars.length x.c ru) => addR_c x.g x.S x.A x.vars.length x.c ru w1 a b h1 HRa.out hr2
        have hi3 : (addR a b ru).2.i = ru.i := rfl
        have hr3 : In64 (addR a b ru).1 := addR_range _ _ _
        generalize addR a b ru = t at *
        obtain ⟨a2, q9⟩ := t
        simp only at hi3 hr3 hex cs
        have CP := Lib.hid cp; have CS := Lib.hid cs; have HX2 := Lib.hid hex; have HR3 := Lib.hid hr3; have HI3 := Lib.hid hi3
        clear cp cs hex hr3 hr2 hi3
        have tok0 : True := trivial
        go_wp2_with (first
          | (go_at_call 31; have _t := tok0; refine (C0.out _ HR.out).mono ?_; clear tok0; rintro e v0 ⟨rfl, hr1, hb1⟩; have E0 := Lib.hid hr1; have F0 := Lib.hid (HB.out.trans hb1); clear hr1 hb1)
          | (go_at_call 46; refine (CP.out _ E0.out F0.out).mono ?_; rintro e v8 ⟨rfl, hr1, hb1⟩; have E8 := Lib.hid hr1; have F8 := Lib.hid (F0.out.trans hb1); clear hr1 hb1)
          | (go_at_call 47; refine (CS.out _ E8.out).mono ?_; rintro e v9 ⟨rfl, hr1, hb1⟩; have E9 := Lib.hid hr1; have F9 := Lib.hid (F8.out.trans hb1); clear hr1 hb1))
        go_roundg m
        case measure => omega
        case rel =>
          have hi3 := HI3.out
          exact ⟨a2, q9, rfl, E9, F9, HX2, HR3, by omega, by omega, by (try simp at lt0); omega, by omega⟩
      case false =>
        have l1 := eatR_le (B x.S) [45] q1 (by rw [B_len, ← HSz.out]; omega)
        rw [B_len, ← HSz.out] at l1
        have c1 := fun w1 (h1 : IsR w1 x.g x.S x.A x.vars.length x.c q1) => x.eat HX.out [45] (by decide) q1 w1 h1 (by rw [← HSz.out]; omega)
        generalize hy1 : eatR (B x.S) [45] q1 = y1 at *
        obtain ⟨b1, q2⟩ := y1
        simp only at l1 c1
        have C1 := Lib.hid c1; clear c1
        have Y1 := Lib.hid hy1; clear hy1
        cases b1
        case true =>
          have lt1 := l1.2.2 rfl
          have hm2 := (mono_all (B x.S) x.vars m).2.2.2.1 q2 (by rw [B_len, ← HSz.out]; omega)
          rw [B_len, ← HSz.out] at hm2
          have hr2 := (range_all (B x.S) x.vars m).2.2.2.1 q2
          have cp := fun w1 h1 (h2 : But w w1 x.g) => hp.out m (by omega) q2 w1 h1 (by rw [← HSz.out]; omega) (HGB.out w1 h2) (by rw [← HSz.out]; simp at lt1; omega)
          have hex : sumRL (B x.S) x.vars m (subR a (prodR (B x.S) x.vars m q2).1 (prodR (B x.S) x.vars m q2).2).1 (subR a (prodR (B x.S) x.vars m q2).1 (prodR (B x.S) x.vars m q2).2).2 = res := by
            rw [← HE.out]; simp only [sumRL, Y0.out, Y1.out, Bool.false_eq_true, if_false, if_true]
          generalize prodR (B x.S) x.vars m q2 = u at *
          obtain ⟨b, ru⟩ := u
          simp only at hm2 hr2 cp hex
          have cs := fun w1 (h1 : IsR w1 x.g x.S x.A x.vars.length x.c ru) => subR_c x.g x.S x.A x.vars.length x.c ru w1 a b h1 HRa.out hr2
          have hi3 : (subR a b ru).2.i = ru.i := rfl
          have hr3 : In64 (subR a b ru).1 := subR_range _ _ _
          generalize subR a b ru = t at *
          obtain ⟨a2, q9⟩ := t
          simp only at hi3 hr3 hex cs
          have CP := Lib.hid cp; have CS := Lib.hid cs; have HX2 := Lib.hid hex; have HR3 := Lib.hid hr3; have HI3 := Lib.hid hi3
          clear cp cs hex hr3 hr2 hi3
          have tok0 : True := trivial
          have tok1 : True := trivial
          go_wp2_with (first
            | (go_at_call 31; have _t := tok0; refine (C0.out _ HR.out).mono ?_; clear tok0; rintro e v0 ⟨rfl, hr1, hb1⟩; have E0 := Lib.hid hr1; have F0 := Lib.hid (HB.out.trans hb1); clear hr1 hb1)
            | (go_at_call 31; have _t := tok1; refine (C1.out _ E0.out).mono ?_; clear tok1; rintro e v1 ⟨rfl, hr1, hb1⟩; have E1 := Lib.hid hr1; have F1 := Lib.hid (F0.out.trans hb1); clear hr1 hb1)
            | (go_at_call 46; refine (CP.out _ E1.out F1.out).mono ?_; rintro e v8 ⟨rfl, hr1, hb1⟩; have E8 := Lib.hid hr1; have F8 := Lib.hid (F1.out.trans hb1); clear hr1 hb1)
            | (go_at_call 48; refine (CS.out _ E8.out).mono ?_; rintro e v9 ⟨rfl, hr1, hb1⟩; have E9 := Lib.hid hr1; have F9 := Lib.hid (F8.out.trans hb1); clear hr1 hb1))
          go_roundg m
          case measure => omega
          case rel =>
            have hi3 := HI3.out
            exact ⟨a2, q9, rfl, E9, F9, HX2, HR3, by omega, by omega, by (try simp at lt1); omega, by omega⟩
        case false =>
          have hex : res = (a, q2) := by
            rw [← HE.out]; simp only [sumRL, Y0.out, Y1.out, Bool.false_eq_true, if_false]
          have HX2 := Lib.hid hex; clear hex
          have tok0 : True := trivial
          have tok1 : True := trivial
          go_wp2_with (first
            | (go_at_call 31; have _t := tok0; refine (C0.out _ HR.out).mono ?_; clear tok0; rintro e v0 ⟨rfl, hr1, hb1⟩; have E0 := Lib.hid hr1; have F0 := Lib.hid (HB.out.trans hb1); clear hr1 hb1)
            | (go_at_call 31; have _t := tok1; refine (C1.out _ E0.out).mono ?_; clear tok1; rintro e v1 ⟨rfl, hr1, hb1⟩; have E1 := Lib.hid hr1; have F1 := Lib.hid (F0.out.trans hb1); clear hr1 hb1))
          go_ret
          exact ⟨by rw [HX2.out]; rfl, by rw [HX2.out]; exact E1.out, F1.out⟩

set_option maxHeartbeats 6400000 in
set_option maxRecDepth 100000 in
theorem rprod_c (x : RC) (hx : x.Ok) (n : Nat) (hp : Hid (∀ m, m ≤ n → RUnary x m)) : RProd x (n + 1) := by
  intro r w h hi hb hn
  have hmono := (mono_all (B x.S) x.vars n).2.2.2.2.2 r hi
  rw [B_len] at hmono
  have hrng := (range_all (B x.S) x.vars n).2.2.2.2.2 r
  have hc := hp.out n (Nat.le_refl _) r w h hi hb (by omega)
  have e0 : prodR (B x.S) x.vars (n + 1) r = prodRL (B x.S) x.vars n (unaryR (B x.S) x.vars n r).1 (unaryR (B x.S) x.vars n r).2 := by simp only [prodR]
  rw [e0]
  clear e0
  generalize unaryR (B x.S) x.vars n r = z at *
  obtain ⟨a0, r0⟩ := z
  simp only at hmono hrng hc ⊢
  generalize hres : prodRL (B x.S) x.vars n a0 r0 = res
  have HRES := Lib.hid hres; clear hres
  have hgb : ∀ w1, But w w1 x.g → Below x.w0.heap.size x.w0 w1 := fun w1 h1 => h1.below hb hx.2.2.1
  have HGB := Lib.hid hgb; clear hgb
  have HX := Lib.hid hx; clear hx
  have CC := Lib.hid hc; clear hc
  have HRng := Lib.hid hrng; clear hrng
  clear h hb
  obtain ⟨sz, hsz⟩ : ∃ sz, sz = x.S.size := ⟨_, rfl⟩
  rw [← hsz] at hmono hi hn
  have HSz := Lib.hid hsz; clear hsz
  go_enter Tryd.func46, Tryd.ntmps46
  go_wp2_with (go_at_call 59; refine CC.out.mono ?_; rintro e w1 ⟨rfl, hr1, hb1⟩; have HR1 := Lib.hid hr1; have HB1 := Lib.hid hb1; clear hr1 hb1)
  go_loopg [3] n (fun kq v wr => ∃ (a : Int) (q : RS), v = .int .i64 a ∧ Hid (IsR wr x.g x.S x.A x.vars.length x.c q) ∧ Hid (But w wr x.g) ∧ Hid (prodRL (B x.S) x.vars kq a q = res) ∧ Hid (In64 a) ∧ q.i ≤ sz ∧ r.i ≤ q.i ∧ 8 * (sz - q.i) + 1 ≤ kq ∧ kq ≤ n)
  case atStart => exact ⟨a0, r0, rfl, HR1, HB1, HRES, HRng, by omega, by omega, by omega, Nat.le_refl _⟩
  case round =>
    clear HR1 HB1 HRES HRng CC
    obtain ⟨a, q, rfl, HR, HB, HE, HRa, hq1, hq2, hq3, hq4⟩ := hrel
    cases gk with
    | zero => omega
    | succ m =>
      have l0 := eatR_le (B x.S) [42] q (by rw [B_len, ← HSz.out]; omega)
      rw [B_len, ← HSz.out] at l0
      have c0 := fun w1 (h1 : IsR w1 x.g x.S x.A x.vars.length x.c q) => x.eat HX.out [42] (by decide) q w1 h1 (by rw [← HSz.out]; omega)
      generalize hy0 : eatR (B x.S) [42] q = y0 at *
      obtain ⟨b0, q1⟩ := y0
      simp only at l0 c0
      have C0 := Lib.hid c0; clear c0
      have Y0 := Lib.hid hy0; clear hy0
      cases b0
      case true =>
        have lt0 := l0.2.2 rfl
        have hm2 := (mono_all (B x.S) x.vars m).2.2.2.2.2 q1 (by rw [B_len, ← HSz.out]; omega)
        rw [B_len, ← HSz.out] at hm2
        have hr2 := (range_all (B x.S) x.vars m).2.2.2.2.2 q1
        have cp := fun w1 h1 (h2 : But w w1 x.g) => hp.out m (by omega) q1 w1 h1 (by rw [← HSz.out]; omega) (HGB.out w1 h2) (by rw [← HSz.out]; simp at lt0; omega)
        have hex : prodRL (B x.S) x.vars m (mulR a (unaryR (B x.S) x.vars m q1).1 (unaryR (B x.S) x.vars m q1).2).1 (mulR a (unaryR (B x.S) x.vars m q1).1 (unaryR (B x.S) x.vars m q1).2).2 = res := by
          rw [← HE.out]; simp only [prodRL, Y0.out, Bool.false_eq_true, if_false, if_true]
        generalize unaryR (B x.S) x.vars m q1 = u at *
        obtain ⟨b, ru⟩ := u
        simp only at hm2 hr2 cp hex
        have cs := fun w1 (h1 : IsR w1 x.g x.S x.A x.vars.length x.c ru) => mulR_c x.g x.S x.A x.vars.length x.c ru w1 a b h1 HRa.out hr2
        have hi3 : (mulR a b ru).2.i = ru.i := i_mul _ _ _
        have hr3 : In64 (mulR a b ru).1 := mulR_range _ _ _
        generalize mulR a b ru = t at *
        obtain ⟨a2, q9⟩ := t
        simp only at hi3 hr3 hex cs
        have CP := Lib.hid cp; have CS := Lib.hid cs; have HX2 := Lib.hid hex; have HR3 := Lib.hid hr3; have HI3 := Lib.hid hi3
        clear cp cs hex hr3 hr2 hi3
        have tok0 : True := trivial
        go_wp2_with (first
          | (go_at_call 31; have _t := tok0; refine (C0.out _ HR.out).mono ?_; clear tok0; rintro e v0 ⟨rfl, hr1, hb1⟩; have E0 := Lib.hid hr1; have F0 := Lib.hid (HB.out.trans hb1); clear hr1 hb1)
          | (go_at_call 59; refine (CP.out _ E0.out F0.out).mono ?_; rintro e v8 ⟨rfl, hr1, hb1⟩; have E8 := Lib.hid hr1; have F8 := Lib.hid (F0.out.trans hb1); clear hr1 hb1)
          | (go_at_call 60; refine (CS.out _ E8.out).mono ?_; rintro e v9 ⟨rfl, hr1, hb1⟩; have E9 := Lib.hid hr1; have F9 := Lib.hid (F8.out.trans hb1); clear hr1 hb1))
        go_roundg m
        case measure => omega
        case rel =>
          have hi3 := HI3.out
          exact ⟨a2, q9, rfl, E9, F9, HX2, HR3, by omega, by omega, by (try simp at lt0); omega, by omega⟩
      case false =>
        have l1 := eatR_le (B x.S) [47] q1 (by rw [B_len, ← HSz.out]; omega)
        rw [B_len, ← HSz.out] at l1
        have c1 := fun w1 (h1 : IsR w1 x.g x.S x.A x.vars.length x.c q1) => x.eat HX.out [47] (by decide) q1 w1 h1 (by rw [← HSz.out]; omega)
        generalize hy1 : eatR (B x.S) [47] q1 = y1 at *
        obtain ⟨b1, q2⟩ := y1
        simp only at l1 c1
        have C1 := Lib.hid c1; clear c1
        have Y1 := Lib.hid hy1; clear hy1
        cases b1
        case true =>
          have lt1 := l1.2.2 rfl
          have hm2 := (mono_all (B x.S) x.vars m).2.2.2.2.2 q2 (by rw [B_len, ← HSz.out]; omega)
          rw [B_len, ← HSz.out] at hm2
          have hr2 := (range_all (B x.S) x.vars m).2.2.2.2.2 q2
          have cp := fun w1 h1 (h2 : But w w1 x.g) => hp.out m (by omega) q2 w1 h1 (by rw [← HSz.out]; omega) (HGB.out w1 h2) (by rw [← HSz.out]; simp at lt1; omega)
          have hex : prodRL (B x.S) x.vars m (divR a (unaryR (B x.S) x.vars m q2).1 false (unaryR (B x.S) x.vars m q2).2).1 (divR a (unaryR (B x.S) x.vars m q2).1 false (unaryR (B x.S) x.vars m q2).2).2 = res := by
            rw [← HE.out]; simp only [prodRL, Y0.out, Y1.out, Bool.false_eq_true, if_false, if_true]
          generalize unaryR (B x.S) x.vars m q2 = u at *
          obtain ⟨b, ru⟩ := u
          simp only at hm2 hr2 cp hex
          have cs := fun w1 (h1 : IsR w1 x.g x.S x.A x.vars.length x.c ru) => divR_c x.g x.S x.A x.vars.length x.c ru w1 a b false h1 HRa.out hr2
          have hi3 : (divR a b false ru).2.i = ru.i := i_div _ _ _ _
          have hr3 : In64 (divR a b false ru).1 := divR_range _ _ _ _ HRa.out
          generalize divR a b false ru = t at *
          obtain ⟨a2, q9⟩ := t
          simp only at hi3 hr3 hex cs
          have CP := Lib.hid cp; have CS := Lib.hid cs; have HX2 := Lib.hid hex; have HR3 := Lib.hid hr3; have HI3 := Lib.hid hi3
          clear cp cs hex hr3 hr2 hi3
          have tok0 : True := trivial
          have tok1 : True := trivial
          go_wp2_with (first
            | (go_at_call 31; have _t := tok0; refine (C0.out _ HR.out).mono ?_; clear tok0; rintro e v0 ⟨rfl, hr1, hb1⟩; have E0 := Lib.hid hr1; have F0 := Lib.hid (HB.out.trans hb1); clear hr1 hb1)
            | (go_at_call 31; have _t := tok1; refine (C1.out _ E0.out).mono ?_; clear tok1; rintro e v1 ⟨rfl, hr1, hb1⟩; have E1 := Lib.hid hr1; have F1 := Lib.hid (F0.out.trans hb1); clear hr1 hb1)
            | (go_at_call 59; refine (CP.out _ E1.out F1.out).mono ?_; rintro e v8 ⟨rfl, hr1, hb1⟩; have E8 := Lib.hid hr1; have F8 := Lib.hid (F1.out.trans hb1); clear hr1 hb1)
            | (go_at_call 61; refine (CS.out _ E8.out).mono ?_; rintro e v9 ⟨rfl, hr1, hb1⟩; have E9 := Lib.hid hr1; have F9 := Lib.hid (F8.out.trans hb1); clear hr1 hb1))
          go_roundg m
          case measure => omega
          case rel =>
            have hi3 := HI3.out
            exact ⟨a2, q9, rfl, E9, F9, HX2, HR3, by omega, by omega, by (try simp at lt1); omega, by omega⟩
        case false =>
          have l2 := eatR_le (B x.S) [37] q2 (by rw [B_len, ← HSz.out]; omega)
          rw [B_len, ← HSz.out] at l2
          have c2 := fun w1 (h1 : IsR w1 x.g x.S x.A x.vars.length x.c q2) => x.eat HX.out [37] (by decide) q2 w1 h1 (by rw [← HSz.out]; omega)
          generalize hy2 : eatR (B x.S) [37] q2 = y2 at *
          obtain ⟨b2, q3⟩ := y2
          simp only at l2 c2
          have C2 := Lib.hid c2; clear c2
          have Y2 := Lib.hid hy2; clear hy2
          cases b2
          case true =>
            have lt2 := l2.2.2 rfl
            have hm2 := (mono_all (B x.S) x.vars m).2.2.2.2.2 q3 (by rw [B_len, ← HSz.out]; omega)
            rw [B_len, ← HSz.out] at hm2
            have hr2 := (range_all (B x.S) x.vars m).2.2.2.2.2 q3
            have cp := fun w1 h1 (h2 : But w w1 x.g) => hp.out m (by omega) q3 w1 h1 (by rw [← HSz.out]; omega) (HGB.out w1 h2) (by rw [← HSz.out]; simp at lt2; omega)
            have hex : prodRL (B x.S) x.vars m (divR a (unaryR (B x.S) x.vars m q3).1 true (unaryR (B x.S) x.vars m q3).2).1 (divR a (unaryR (B x.S) x.vars m q3).1 true (unaryR (B x.S) x.vars m q3).2).2 = res := by
              rw [← HE.out]; simp only [prodRL, Y0.out, Y1.out, Y2.out, Bool.false_eq_true, if_false, if_true]
            generalize unaryR (B x.S) x.vars m q3 = u at *
            obtain ⟨b, ru⟩ := u
            simp only at hm2 hr2 cp hex
            have cs := fun w1 (h1 : IsR w1 x.g x.S x.A x.vars.length x.c ru) => divR_c x.g x.S x.A x.vars.length x.c ru w1 a b true h1 HRa.out hr2
            have hi3 : (divR a b true ru).2.i = ru.i := i_div _ _ _ _
            have hr3 : In64 (divR a b true ru).1 := divR_range _ _ _ _ HRa.out
            generalize divR a b true ru = t at *
            obtain ⟨a2, q9⟩ := t
            simp only at hi3 hr3 hex cs
            have CP := Lib.hid cp; have CS := Lib.hid cs; have HX2 := Lib.hid hex; have HR3 := Lib.hid hr3; have HI3 := Lib.hid hi3
            clear cp cs hex hr3 hr2 hi3
            have tok0 : True := trivial
            have tok1 : True := trivial
            have tok2 : True := trivial
            go_wp2_with (first
              | (go_at_call 31; have _t := tok0; refine (C0.out _ HR.out).mono ?_; clear tok0; rintro e v0 ⟨rfl, hr1, hb1⟩; have E0 := Lib.hid hr1; have F0 := Lib.hid (HB.out.trans hb1); clear hr1 hb1)
              | (go_at_call 31; have _t := tok1; refine (C1.out _ E0.out).mono ?_; clear tok1; rintro e v1 ⟨rfl, hr1, hb1⟩; have E1 := Lib.hid hr1; have F1 := Lib.hid (F0.out.trans hb1); clear hr1 hb1)
              | (go_at_call 31; have _t := tok2; refine (C2.out _ E1.out).mono ?_; clear tok2; rintro e v2 ⟨rfl, hr1, hb1⟩; have E2 := Lib.hid hr1; have F2 := Lib.hid (F1.out.trans hb1); clear hr1 hb1)
              | (go_at_call 59; refine (CP.out _ E2.out F2.out).mono ?_; rintro e v8 ⟨rfl, hr1, hb1⟩; have E8 := Lib.hid hr1; have F8 := Lib.hid (F2.out.trans hb1); clear hr1 hb1)
              | (go_at_call 61; refine (CS.out _ E8.out).mono ?_; rintro e v9 ⟨rfl, hr1, hb1⟩; have E9 := Lib.hid hr1; have F9 := Lib.hid (F8.out.trans hb1); clear hr1 hb1))
            go_roundg m
            case measure => omega
            case rel =>
              have hi3 := HI3.out
              exact ⟨a2, q9, rfl, E9, F9, HX2, HR3, by omega, by omega, by (try simp at lt2); omega, by omega⟩
          case false =>
            have hex : res = (a, q3) := by
              rw [← HE.out]; simp only [prodRL, Y0.out, Y1.out, Y2.out, Bool.false_eq_true, if_false]
            have HX2 := Lib.hid hex; clear hex
            have tok0 : True := trivial
            have tok1 : True := trivial
            have tok2 : True := trivial
            go_wp2_with (first
              | (go_at_call 31; have _t := tok0; refine (C0.out _ HR.out).mono ?_; clear tok0; rintro e v0 ⟨rfl, hr1, hb1⟩; have E0 := Lib.hid hr1; have F0 := Lib.hid (HB.out.trans hb1); clear hr1 hb1)
              | (go_at_call 31; have _t := tok1; refine (C1.out _ E0.out).mono ?_; clear tok1; rintro e v1 ⟨rfl, hr1, hb1⟩; have E1 := Lib.hid hr1; have F1 := Lib.hid (F0.out.trans hb1); clear hr1 hb1)
              | (go_at_call 31; have _t := tok2; refine (C2.out _ E1.out).mono ?_; clear tok2; rintro e v2 ⟨rfl, hr1, hb1⟩; have E2 := Lib.hid hr1; have F2 := Lib.hid (F1.out.trans hb1); clear hr1 hb1))
            go_ret
            exact ⟨by rw [HX2.out]; rfl, by rw [HX2.out]; exact E2.out, F2.out⟩
end Go.Proofs.YtmkajangkibgeaaDoor.Ar
