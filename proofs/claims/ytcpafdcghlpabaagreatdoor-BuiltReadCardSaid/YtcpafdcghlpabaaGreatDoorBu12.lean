/-
The walks of cmp.Compare over texts and of slices.BinarySearchFunc over bindings and over files. (Written by gen_bu12.py.)
-/
import Derived.Test.YtcpafdcghlpabaaGreatDoorBu9
set_option linter.unusedVariables false
set_option linter.unusedSimpArgs false
namespace Go.Proofs.YtcpafdcghlpabaaGreatDoor.Bu
open Go.RowKit Go.Shelf Go.Proofs.YtcpafdcghlpabaaGreatDoor.Ar

/-- Two texts in Go's order: below 0, 0, above 0. -/
def cmpZ (a b : Str) : Int := if Op.bytesLess a b then -1 else if a == b then 0 else 1

set_option maxHeartbeats 400000 in
theorem isNaN_c (S : ByteArray) (w : World) : Calls Tryz.prog 121 #[.string S] w fun e w' => e = .returned (.bool false) ∧ w' = w := by
  go_enter Tryz.func121, Tryz.ntmps121
  go_wp2
  go_ret
  exact ⟨rfl, rfl⟩

set_option maxHeartbeats 1600000 in
theorem compare_c (a b : Str) (w : World) : Calls Tryz.prog 91 #[.string (st a), .string (st b)] w fun e w' => e = .returned (.int .i64 (cmpZ a b)) ∧ w' = w := by
  have ea : (st a).toList = a := toList_B (st a)
  have eb : (st b).toList = b := toList_B (st b)
  have hz : cmpZ a b = if Op.bytesLess (st a).toList (st b).toList then -1 else if ((st a).toList == (st b).toList) then 0 else 1 := by rw [ea, eb]; rfl
  have hne : Op.bytesLess (st a).toList (st b).toList = true → ((st a).toList == (st b).toList) = false ∨ True := fun _ => .inr trivial
  clear hne ea eb
  rw [hz]
  clear hz
  generalize st a = A
  generalize st b = C
  cases h1 : Op.bytesLess A.toList C.toList <;> cases h2 : A.toList == C.toList
  all_goals
    go_enter Tryz.func91, Tryz.ntmps91
    go_wp2_with (go_at_call 121; refine (isNaN_c _ _).mono ?_; rintro e w5 ⟨rfl, rfl⟩)
    go_ret
    exact ⟨rfl, rfl⟩

/-- Where binary search ends, from i to j. -/
def bsL (key : Nat → Str) (s : Str) : Nat → Nat → Nat → Nat
  | 0, i, _ => i
  | f + 1, i, j => if i < j then (if cmpZ (key ((i + j) / 2)) s < 0 then bsL key s f ((i + j) / 2 + 1) j else bsL key s f i ((i + j) / 2)) else i
theorem bsL_stop (key : Nat → Str) (s : Str) (f i j : Nat) (h : ¬ i < j) : bsL key s f i j = i := by
  cases f with
  | zero => rfl
  | succ f => unfold bsL; rw [if_neg h]
theorem bsL_le (key : Nat → Str) (s : Str) : ∀ (f i j : Nat), i ≤ j → i ≤ bsL key s f i j ∧ bsL key s f i j ≤ j := by
  intro f
  induction f with
  | zero => intro i j h; exact ⟨Nat.le_refl _, h⟩
  | succ f ih =>
    intro i j h
    unfold bsL
    split
    · split
      · have := ih ((i + j) / 2 + 1) j (by omega); omega
      · have := ih i ((i + j) / 2) (by omega); omega
    · exact ⟨Nat.le_refl _, h⟩
structure Bd where
  name : Str
  value : Str
def keyOf (bs : List Bd) (k : Nat) : Str := match bs[k]? with | some x => x.name | none => []
/-- What a search for a name among names answers. -/
def findI (bs : List Bd) (s : Str) : Nat := bsL (keyOf bs) s bs.length 0 bs.length
def findB (bs : List Bd) (s : Str) : Bool := decide (findI bs s < bs.length) && decide (cmpZ (keyOf bs (findI bs s)) s = 0)

/-- A slice that lies in old memory reads as these pairs. -/
structure IsB (w0 : World) (A : Option Addr) (bs : List Bd) : Prop where
  cell : ∀ j (h : j < bs.length), ∃ b o, A = some ⟨b, o, none⟩ ∧ b < w0.heap.size ∧ w0.cell? ⟨b, o + j * 2, none⟩ = some (.string (st bs[j].name)) ∧ w0.cell? ⟨b, o + j * 2 + 1, none⟩ = some (.string (st bs[j].value))
theorem IsB.nil (w0 : World) (A : Option Addr) : IsB w0 A [] := ⟨fun j h => absurd h (by simp)⟩
theorem IsB.keep {w0 w : World} {A : Option Addr} {bs : List Bd} (h : IsB w0 A bs) (hb : Below w0.heap.size w0 w) : IsB w A bs :=
  ⟨fun j hj => by
    obtain ⟨b, o, e, hlt, h1, h2⟩ := h.cell j hj
    exact ⟨b, o, e, Nat.lt_of_lt_of_le hlt hb.size, (hb.cell (p := ⟨b, _, none⟩) hlt).trans h1, (hb.cell (p := ⟨b, _, none⟩) hlt).trans h2⟩⟩
theorem IsB.read {w0 w : World} {b o : Nat} {bs : List Bd} (h : IsB w0 (some ⟨b, o, none⟩) bs) (hb : Below w0.heap.size w0 w) (j : Nat) (hj : j < bs.length) : w.cell? ⟨b, o + j * 2, none⟩ = some (.string (st bs[j].name)) ∧ w.cell? ⟨b, o + j * 2 + 1, none⟩ = some (.string (st bs[j].value)) := by
  obtain ⟨b1, o1, e, hlt, h1, h2⟩ := h.cell j hj
  obtain ⟨rfl, rfl⟩ : b = b1 ∧ o = o1 := by simpa using e
  exact ⟨(hb.cell (p := ⟨b, _, none⟩) hlt).trans h1, (hb.cell (p := ⟨b, _, none⟩) hlt).trans h2⟩

/-- What a comparing closure is to be. -/
def bsfBClo (g : Nat) (cb : Array Value) (s : Str) (w0 : World) : Prop := ∀ (N V : Str) (w : World), Below w0.heap.size w0 w →
  Calls Tryz.prog g (#[.agg #[.string (st N), .string (st V)], .string (st s)] ++ cb) w fun e w' => e = .returned (.int .i64 (cmpZ N s)) ∧ Below w.heap.size w w'

set_option maxHeartbeats 3200000 in
set_option maxRecDepth 100000 in
theorem bsfB (bs : List Bd) (s : Str) (A : Option Addr) (n c g : Nat) (cb : Array Value) (w0 w : World) (eg : ∀ args w, (callFunc g args).run Tryz.prog w = .ok (.enter g args) w) (hB : IsB w0 A bs) (hn : bs.length = n) (hb : Below w0.heap.size w0 w) (hclo : bsfBClo g cb s w0) (hbig : n ≤ 100000) :
    Calls Tryz.prog 89 #[.slice A n c, .string (st s), .func (.func g) #[] cb] w fun e w' => e = .returned (.tuple #[.int .i64 (findI bs s), .bool (findB bs s)]) ∧ Below w.heap.size w w' := by
  have HB := Lib.hid hB; have HN := Lib.hid hn; have H0 := Lib.hid hb
  have hk : ∀ k (h : k < bs.length), keyOf bs k = bs[k].name := fun k h => by unfold keyOf; rw [List.getElem?_eq_getElem h]
  have HK := Lib.hid hk
  have hfi : findI bs s = bsL (keyOf bs) s n 0 n := by unfold findI; rw [hn]
  have hfb : findB bs s = (decide (findI bs s < n) && decide (cmpZ (keyOf bs (findI bs s)) s = 0)) := by unfold findB; rw [hn]
  have HFI := Lib.hid hfi; have HFB := Lib.hid hfb
  clear hfi hfb hk
  generalize findB bs s = rb at *
  generalize findI bs s = ri at *
  have HC := Lib.hid fun N V w h => hclo N V w h
  clear hB hn hb hclo
  obtain ⟨S, hS⟩ : ∃ S, S = st s := ⟨_, rfl⟩
  rw [← hS] at HC ⊢
  clear hS
  go_enter Tryz.func89, Tryz.ntmps89
  go_wp2_with fail
  go_loopg [9, 10, 11] n (fun kx s9 s10 _ wr => ∃ lo hi f : Nat, s9 = .int .i64 lo ∧ s10 = .int .i64 hi ∧ lo ≤ hi ∧ hi ≤ n ∧ hi - lo ≤ kx ∧ kx ≤ f ∧ Hid (bsL (keyOf bs) s n 0 n = bsL (keyOf bs) s f lo hi) ∧ Hid (Below w.heap.size w wr))
  case atStart => exact ⟨0, n, n, rfl, rfl, Nat.zero_le _, Nat.le_refl _, by omega, Nat.le_refl _, rfl, Below.refl _ _⟩
  case round =>
    obtain ⟨lo, hi, f, rfl, rfl, hlh, hhn, hkx, hf, HL, HW⟩ := hrel
    by_cases hlt : lo < hi
    · obtain ⟨f, rfl⟩ : ∃ m, f = m + 1 := ⟨f - 1, by omega⟩
      have hm : (lo + hi) / 2 < bs.length := by have := HN.out; omega
      have hst : bsL (keyOf bs) s (f + 1) lo hi = if cmpZ (keyOf bs ((lo + hi) / 2)) s < 0 then bsL (keyOf bs) s f ((lo + hi) / 2 + 1) hi else bsL (keyOf bs) s f lo ((lo + hi) / 2) := by
        conv => lhs; unfold bsL
        rw [if_pos hlt]
      rw [HK.out _ hm] at hst
      obtain ⟨b, o, rfl, hblt, hc1, hc2⟩ := HB.out.cell _ hm
      clear hc1 hc2
      obtain ⟨c1, c2⟩ := HB.out.read (H0.out.trans (HW.out.mono H0.out.size)) _ hm
      have hcl := HC.out bs[(lo + hi) / 2].name bs[(lo + hi) / 2].value wr (H0.out.trans (HW.out.mono H0.out.size))
      generalize bs[(lo + hi) / 2].name = N at *
      generalize bs[(lo + hi) / 2].value = V at *
      generalize st N = NN at *
      generalize st V = VV at *
      have HCl := Lib.hid hcl; have HST := Lib.hid hst
      clear hcl hst hblt
      generalize cmpZ N s = z at *
      by_cases hz : z < 0
      · go_wp2_with (go_at_fn g; refine HCl.out.mono ?_; rintro e w2 ⟨rfl, hb2⟩; have HW2 := Lib.hid (HW.out.trans (hb2.mono HW.out.size)); clear hb2)
        go_roundg (hi - ((lo + hi) / 2 + 1))
        case measure => omega
        case rel => exact ⟨(lo + hi) / 2 + 1, hi, f, by rw [show ((lo : Int) + (hi : Int)) / 2 + 1 = (((lo + hi) / 2 + 1 : Nat) : Int) by omega], rfl, by omega, hhn, Nat.le_refl _, by omega, by show _ = _; rw [HL.out, HST.out, if_pos hz], HW2⟩
      · go_wp2_with (go_at_fn g; refine HCl.out.mono ?_; rintro e w2 ⟨rfl, hb2⟩; have HW2 := Lib.hid (HW.out.trans (hb2.mono HW.out.size)); clear hb2)
        go_roundg ((lo + hi) / 2 - lo)
        case measure => omega
        case rel => exact ⟨lo, (lo + hi) / 2, f, rfl, by rw [show ((lo : Int) + (hi : Int)) / 2 = (((lo + hi) / 2 : Nat) : Int) by omega], by omega, by omega, Nat.le_refl _, by omega, by show _ = _; rw [HL.out, HST.out, if_neg (by omega)], HW2⟩
    · obtain rfl : hi = lo := by omega
      have hri : ri = hi := by rw [HFI.out, HL.out, bsL_stop _ _ _ _ _ hlt]
      subst hri
      by_cases hnn : ri < n
      · have hm : ri < bs.length := by have := HN.out; omega
        obtain ⟨b, o, rfl, hblt, hc1, hc2⟩ := HB.out.cell _ hm
        clear hc1 hc2
        obtain ⟨c1, c2⟩ := HB.out.read (H0.out.trans (HW.out.mono H0.out.size)) _ hm
        have hcl := HC.out bs[ri].name bs[ri].value wr (H0.out.trans (HW.out.mono H0.out.size))
        have hfb2 := HFB.out
        rw [HK.out _ hm] at hfb2
        generalize bs[ri].name = N at *
        generalize bs[ri].value = V at *
        generalize st N = NN at *
        generalize st V = VV at *
        have HCl := Lib.hid hcl; have HF2 := Lib.hid hfb2
        clear hcl hfb2 hblt
        generalize cmpZ N s = z at *
        by_cases hz : z = 0
        · subst hz
          go_wp2_with (go_at_fn g; refine HCl.out.mono ?_; rintro e w2 ⟨rfl, hb2⟩; have HW2 := Lib.hid (HW.out.trans (hb2.mono HW.out.size)); clear hb2)
          go_ret2
          exact ⟨by rw [HF2.out]; simp [hnn], HW2.out⟩
        · have hzb : (z == 0) = false := by simpa using hz
          have HZ := Lib.hid hz; clear hz
          go_wp2_with (go_at_fn g; refine HCl.out.mono ?_; rintro e w2 ⟨rfl, hb2⟩; have HW2 := Lib.hid (HW.out.trans (hb2.mono HW.out.size)); clear hb2)
          go_ret2
          exact ⟨by rw [HF2.out]; simp [HZ.out], HW2.out⟩
      · go_wp2_with fail
        go_ret2
        exact ⟨by rw [HFB.out]; simp [hnn], HW.out⟩

/-- What a comparing closure is to be. -/
def bsfFClo (g : Nat) (cb : Array Value) (s : Str) (w0 : World) : Prop := ∀ (N V : Str) (w : World), Below w0.heap.size w0 w →
  Calls Tryz.prog g (#[.agg #[.string (st N), .string (st V)], .string (st s)] ++ cb) w fun e w' => e = .returned (.int .i64 (cmpZ N s)) ∧ Below w.heap.size w w'

set_option maxHeartbeats 3200000 in
set_option maxRecDepth 100000 in
theorem bsfF (bs : List Bd) (s : Str) (A : Option Addr) (n c g : Nat) (cb : Array Value) (w0 w : World) (eg : ∀ args w, (callFunc g args).run Tryz.prog w = .ok (.enter g args) w) (hB : IsB w0 A bs) (hn : bs.length = n) (hb : Below w0.heap.size w0 w) (hclo : bsfFClo g cb s w0) (hbig : n ≤ 100000) :
    Calls Tryz.prog 113 #[.slice A n c, .string (st s), .func (.func g) #[] cb] w fun e w' => e = .returned (.tuple #[.int .i64 (findI bs s), .bool (findB bs s)]) ∧ Below w.heap.size w w' := by
  have HB := Lib.hid hB; have HN := Lib.hid hn; have H0 := Lib.hid hb
  have hk : ∀ k (h : k < bs.length), keyOf bs k = bs[k].name := fun k h => by unfold keyOf; rw [List.getElem?_eq_getElem h]
  have HK := Lib.hid hk
  have hfi : findI bs s = bsL (keyOf bs) s n 0 n := by unfold findI; rw [hn]
  have hfb : findB bs s = (decide (findI bs s < n) && decide (cmpZ (keyOf bs (findI bs s)) s = 0)) := by unfold findB; rw [hn]
  have HFI := Lib.hid hfi; have HFB := Lib.hid hfb
  clear hfi hfb hk
  generalize findB bs s = rb at *
  generalize findI bs s = ri at *
  have HC := Lib.hid fun N V w h => hclo N V w h
  clear hB hn hb hclo
  obtain ⟨S, hS⟩ : ∃ S, S = st s := ⟨_, rfl⟩
  rw [← hS] at HC ⊢
  clear hS
  go_enter Tryz.func113, Tryz.ntmps113
  go_wp2_with fail
  go_loopg [9, 10, 11] n (fun kx s9 s10 _ wr => ∃ lo hi f : Nat, s9 = .int .i64 lo ∧ s10 = .int .i64 hi ∧ lo ≤ hi ∧ hi ≤ n ∧ hi - lo ≤ kx ∧ kx ≤ f ∧ Hid (bsL (keyOf bs) s n 0 n = bsL (keyOf bs) s f lo hi) ∧ Hid (Below w.heap.size w wr))
  case atStart => exact ⟨0, n, n, rfl, rfl, Nat.zero_le _, Nat.le_refl _, by omega, Nat.le_refl _, rfl, Below.refl _ _⟩
  case round =>
    obtain ⟨lo, hi, f, rfl, rfl, hlh, hhn, hkx, hf, HL, HW⟩ := hrel
    by_cases hlt : lo < hi
    · obtain ⟨f, rfl⟩ : ∃ m, f = m + 1 := ⟨f - 1, by omega⟩
      have hm : (lo + hi) / 2 < bs.length := by have := HN.out; omega
      have hst : bsL (keyOf bs) s (f + 1) lo hi = if cmpZ (keyOf bs ((lo + hi) / 2)) s < 0 then bsL (keyOf bs) s f ((lo + hi) / 2 + 1) hi else bsL (keyOf bs) s f lo ((lo + hi) / 2) := by
        conv => lhs; unfold bsL
        rw [if_pos hlt]
      rw [HK.out _ hm] at hst
      obtain ⟨b, o, rfl, hblt, hc1, hc2⟩ := HB.out.cell _ hm
      clear hc1 hc2
      obtain ⟨c1, c2⟩ := HB.out.read (H0.out.trans (HW.out.mono H0.out.size)) _ hm
      have hcl := HC.out bs[(lo + hi) / 2].name bs[(lo + hi) / 2].value wr (H0.out.trans (HW.out.mono H0.out.size))
      generalize bs[(lo + hi) / 2].name = N at *
      generalize bs[(lo + hi) / 2].value = V at *
      generalize st N = NN at *
      generalize st V = VV at *
      have HCl := Lib.hid hcl; have HST := Lib.hid hst
      clear hcl hst hblt
      generalize cmpZ N s = z at *
      by_cases hz : z < 0
      · go_wp2_with (go_at_fn g; refine HCl.out.mono ?_; rintro e w2 ⟨rfl, hb2⟩; have HW2 := Lib.hid (HW.out.trans (hb2.mono HW.out.size)); clear hb2)
        go_roundg (hi - ((lo + hi) / 2 + 1))
        case measure => omega
        case rel => exact ⟨(lo + hi) / 2 + 1, hi, f, by rw [show ((lo : Int) + (hi : Int)) / 2 + 1 = (((lo + hi) / 2 + 1 : Nat) : Int) by omega], rfl, by omega, hhn, Nat.le_refl _, by omega, by show _ = _; rw [HL.out, HST.out, if_pos hz], HW2⟩
      · go_wp2_with (go_at_fn g; refine HCl.out.mono ?_; rintro e w2 ⟨rfl, hb2⟩; have HW2 := Lib.hid (HW.out.trans (hb2.mono HW.out.size)); clear hb2)
        go_roundg ((lo + hi) / 2 - lo)
        case measure => omega
        case rel => exact ⟨lo, (lo + hi) / 2, f, rfl, by rw [show ((lo : Int) + (hi : Int)) / 2 = (((lo + hi) / 2 : Nat) : Int) by omega], by omega, by omega, Nat.le_refl _, by omega, by show _ = _; rw [HL.out, HST.out, if_neg (by omega)], HW2⟩
    · obtain rfl : hi = lo := by omega
      have hri : ri = hi := by rw [HFI.out, HL.out, bsL_stop _ _ _ _ _ hlt]
      subst hri
      by_cases hnn : ri < n
      · have hm : ri < bs.length := by have := HN.out; omega
        obtain ⟨b, o, rfl, hblt, hc1, hc2⟩ := HB.out.cell _ hm
        clear hc1 hc2
        obtain ⟨c1, c2⟩ := HB.out.read (H0.out.trans (HW.out.mono H0.out.size)) _ hm
        have hcl := HC.out bs[ri].name bs[ri].value wr (H0.out.trans (HW.out.mono H0.out.size))
        have hfb2 := HFB.out
        rw [HK.out _ hm] at hfb2
        generalize bs[ri].name = N at *
        generalize bs[ri].value = V at *
        generalize st N = NN at *
        generalize st V = VV at *
        have HCl := Lib.hid hcl; have HF2 := Lib.hid hfb2
        clear hcl hfb2 hblt
        generalize cmpZ N s = z at *
        by_cases hz : z = 0
        · subst hz
          go_wp2_with (go_at_fn g; refine HCl.out.mono ?_; rintro e w2 ⟨rfl, hb2⟩; have HW2 := Lib.hid (HW.out.trans (hb2.mono HW.out.size)); clear hb2)
          go_ret2
          exact ⟨by rw [HF2.out]; simp [hnn], HW2.out⟩
        · have hzb : (z == 0) = false := by simpa using hz
          have HZ := Lib.hid hz; clear hz
          go_wp2_with (go_at_fn g; refine HCl.out.mono ?_; rintro e w2 ⟨rfl, hb2⟩; have HW2 := Lib.hid (HW.out.trans (hb2.mono HW.out.size)); clear hb2)
          go_ret2
          exact ⟨by rw [HF2.out]; simp [HZ.out], HW2.out⟩
      · go_wp2_with fail
        go_ret2
        exact ⟨by rw [HFB.out]; simp [hnn], HW.out⟩
end Go.Proofs.YtcpafdcghlpabaaGreatDoor.Bu
