/-
The walk of built.Test, at any arguments.
-/
import Derived.Test.YtcpafdcghlpabaaGreatDoorBu3
import Derived.Deep.RegionHeld3
set_option linter.unusedVariables false
set_option linter.unusedSimpArgs false
namespace Go.Proofs.YtcpafdcghlpabaaGreatDoor.Bu
open Go.RowKit Go.Shelf Go.Proofs.YtcpafdcghlpabaaGreatDoor.Ar

theorem IsL.read {w0 w : World} {b o : Nat} {xs : List Str} (h : IsL w0 (some ⟨b, o, none⟩) xs) (hb : Below w0.heap.size w0 w) (j : Nat) (hj : j < xs.length) : w.cell? ⟨b, o + j, none⟩ = some (.string (st xs[j])) := by
  obtain ⟨b1, o1, e, hlt, hc⟩ := h.cell j hj
  obtain ⟨rfl, rfl⟩ : b = b1 ∧ o = o1 := by simpa using e
  exact (hb.cell (p := ⟨b, _, none⟩) hlt).trans hc
theorem flip_cases (n : Int) (h : 0 ≤ n ∧ n ≤ 2) : n = 0 ∨ n = 1 ∨ n = 2 := by omega

/-- What Test answers of fewer arguments. -/
def TestOk (has : Str → Bool) (F : Value) (w0 : World) (n : Nat) : Prop := ∀ (xs : List Str) (A : Option Addr) (c : Nat) (w : World), xs.length ≤ n → xs.length ≤ c → IsL w0 A xs → Below w0.heap.size w0 w →
  Calls Tryz.prog 7 #[.slice A xs.length c, F] w fun e w' => e = .returned (.int .i64 (testZ has xs)) ∧ Below w.heap.size w w'

set_option maxHeartbeats 400000 in
theorem test_0 (has : Str → Bool) (F : Value) (A : Option Addr) (c : Nat) (w : World) : Calls Tryz.prog 7 #[.slice A 0 c, F] w fun e w' => e = .returned (.int .i64 (testZ has [])) ∧ Below w.heap.size w w' := by
  go_enter Tryz.func7, Tryz.ntmps7
  go_wp2_with fail
  go_ret
  exact ⟨rfl, Below.refl _ _⟩

set_option maxHeartbeats 400000 in
theorem test_1 (has : Str → Bool) (F : Value) (a : Str) (A : Option Addr) (c : Nat) (w0 w : World) (hL : IsL w0 A [a]) (hb : Below w0.heap.size w0 w) :
    Calls Tryz.prog 7 #[.slice A 1 c, F] w fun e w' => e = .returned (.int .i64 (testZ has [a])) ∧ Below w.heap.size w w' := by
  obtain ⟨b, o, rfl, _⟩ := hL.head
  have c0 : w.cell? ⟨b, o, none⟩ = some (.string (st a)) := hL.read hb 0 (by simp)
  have es : (st a).toList.isEmpty = (a == []) := by rw [toList_B]; cases a <;> rfl
  have hz : testZ has [a] = stZ (!(a == [])) := by unfold testZ; rfl
  have HZ := Lib.hid hz
  clear hL hb hz
  generalize st a = S at *
  generalize hq : (a == []) = q at *
  clear hq
  cases q <;>
  (go_enter Tryz.func7, Tryz.ntmps7
   go_wp2_with (go_at_call 16; refine (status_c _ _).mono ?_; rintro e w5 ⟨rfl, rfl⟩)
   go_ret
   exact ⟨by rw [HZ.out]; rfl, Below.refl _ _⟩)

set_option maxHeartbeats 1600000 in
set_option maxRecDepth 100000 in
theorem test_2 (has : Str → Bool) (F : Value) (a a1 : Str) (A : Option Addr) (c : Nat) (w0 w : World) (hF : GetOk has w0 F) (hL : IsL w0 A [a, a1]) (hb : Below w0.heap.size w0 w) (h2 : 2 ≤ c) (ih : TestOk has F w0 1) :
    Calls Tryz.prog 7 #[.slice A 2 c, F] w fun e w' => e = .returned (.int .i64 (testZ has [a, a1])) ∧ Below w.heap.size w w' := by
  obtain ⟨b, o, rfl, _⟩ := hL.head
  have c0 : w.cell? ⟨b, o, none⟩ = some (.string (st a)) := hL.read hb 0 (by simp)
  have c1 : w.cell? ⟨b, o + 1, none⟩ = some (.string (st a1)) := hL.read hb 1 (by simp)
  have e1 := st_beq a bang
  have hs := hL.short 1 (by simp)
  have hle := testZ_le has [a1]
  have ht := ih [a1] (some ⟨b, o + 1, none⟩) (c - 1) w (by simp) (by simp; omega) hL.tail hb
  have hsg := fun w1 h1 => single_c has F a a1 w0 w1 hF h1 hs
  cases h1 : a == bang
  · have hz : testZ has [a, a1] = singleZ has a a1 := by unfold testZ; rw [h1]; rfl
    rw [h1] at e1
    have HZ := Lib.hid hz; have HS := Lib.hid hsg; have HB := Lib.hid hb
    clear hz hsg hb h1 ht ih hF hL hle hs
    generalize st a = S at *
    generalize st a1 = S1 at *
    unfold bang at e1
    go_enter Tryz.func7, Tryz.ntmps7
    go_wp2_with fail
    go_still_tail 7, (by kernel_rfl)
    go_wp2_with (go_at_call 18; refine (HS.out _ HB.out.drew).mono ?_; rintro e w1 ⟨rfl, hb1⟩; have HB1 := Lib.hid hb1; clear hb1)
    go_ret
    exact ⟨by rw [HZ.out]; rfl, (Below.refl _ _).drew.trans HB1.out⟩
  · have hz : testZ has [a, a1] = flip (testZ has [a1]) := by unfold testZ; rw [h1]; rfl
    rw [h1] at e1
    have HZ := Lib.hid hz; have HT := Lib.hid ht; have HB := Lib.hid hb
    clear hz hsg hb h1 ht ih hF hL hs
    generalize st a = S at *
    generalize st a1 = S1 at *
    generalize testZ has [a1] = r at *
    unfold bang at e1
    by_cases hr : r < 2
    all_goals
      go_enter Tryz.func7, Tryz.ntmps7
      go_wp2_with (go_at_call 7; refine HT.out.mono ?_; rintro e w1 ⟨rfl, hb1⟩; have HB1 := Lib.hid hb1; clear hb1)
      go_ret
      exact ⟨by rw [HZ.out]; unfold flip; first | (rw [if_pos (by omega)]; rfl) | (rw [if_neg (by omega)]; rfl), HB1.out⟩

set_option maxHeartbeats 3200000 in
set_option maxRecDepth 100000 in
theorem test_3 (has : Str → Bool) (F : Value) (a a1 a2 : Str) (A : Option Addr) (c : Nat) (w0 w : World) (hG : Gb w0) (hL : IsL w0 A [a, a1, a2]) (hb : Below w0.heap.size w0 w) (h2 : 3 ≤ c) (ih : TestOk has F w0 2) :
    Calls Tryz.prog 7 #[.slice A 3 c, F] w fun e w' => e = .returned (.int .i64 (testZ has [a, a1, a2])) ∧ Below w.heap.size w w' := by
  obtain ⟨b, o, rfl, hblt, _⟩ := hL.head
  have c0 : w.cell? ⟨b, o, none⟩ = some (.string (st a)) := hL.read hb 0 (by simp)
  have c1 : w.cell? ⟨b, o + 1, none⟩ = some (.string (st a1)) := hL.read hb 1 (by simp)
  have c2 : w.cell? ⟨b, o + 2, none⟩ = some (.string (st a2)) := hL.read hb 2 (by simp)
  have d0 : ∀ w1, Below w0.heap.size w0 w1 → w1.cell? ⟨b, o, none⟩ = some (.string (st a)) := fun w1 h1 => hL.read (w := w1) h1 0 (by simp)
  have d1 : ∀ w1, Below w0.heap.size w0 w1 → w1.cell? ⟨b, o + 1, none⟩ = some (.string (st a1)) := fun w1 h1 => hL.read (w := w1) h1 1 (by simp)
  have d2 : ∀ w1, Below w0.heap.size w0 w1 → w1.cell? ⟨b, o + 2, none⟩ = some (.string (st a2)) := fun w1 h1 => hL.read (w := w1) h1 2 (by simp)
  have D1 := Lib.hid d1; have D2 := Lib.hid d2; have HD := Lib.hid d0
  clear d0 d1 d2
  have e1 := st_beq a bang
  have hle := testZ_le has [a1, a2]
  have ht := fun w1 h1 => ih [a1, a2] (some ⟨b, o + 1, none⟩) (c - 1) w1 (by simp) (by simp; omega) hL.tail h1
  have hc := fun w1 h1 => compared_c a a1 a2 w0 w1 hG h1 (hL.short 0 (by simp)) (hL.short 2 (by simp))
  cases hz0 : compZ a a1 a2 with
  | some n =>
    have hz : testZ has [a, a1, a2] = n := by unfold testZ; rw [hz0]
    rw [hz0] at hc
    have HZ := Lib.hid hz; have HC := Lib.hid hc; have HB := Lib.hid hb
    clear hz hc hb hz0 ht ih hG hL hle e1 hblt
    generalize st a = S at *
    generalize st a1 = S1 at *
    generalize st a2 = S2 at *
    go_enter Tryz.func7, Tryz.ntmps7
    go_wp2_with fail
    go_region_held3 (fun w' => w'.cell? ⟨b, o, none⟩ = some (.string S) ∧ w'.cell? ⟨b, o + 1, none⟩ = some (.string S1) ∧ w'.cell? ⟨b, o + 2, none⟩ = some (.string S2))
      (first | exact ⟨k0, k1, k2⟩ | exact ⟨by exact c0, by exact c1, by exact c2⟩)
      (first
        | (go_at_call 17; refine (HC.out _ HB.out.drew).mono ?_; rintro e w1 ⟨rfl, hb1⟩; have HW1 := Lib.hid (HB.out.drew.trans (hb1.mono HB.out.size)); have k0 := HD.out w1 HW1.out; have k1 := D1.out w1 HW1.out; have k2 := D2.out w1 HW1.out; have HB1 := Lib.hid hb1; clear hb1))
    clear c0 c1 c2
    go_wp2_with fail
    go_ret
    exact ⟨by rw [HZ.out]; rfl, (Below.refl _ _).drew.trans HB1.out⟩
  | none =>
    rw [hz0] at hc
    cases h1 : a == bang
    · have hz : testZ has [a, a1, a2] = 2 := by unfold testZ; rw [hz0, h1]; rfl
      rw [h1] at e1
      have HZ := Lib.hid hz; have HC := Lib.hid hc; have HB := Lib.hid hb
      clear hz hc hb hz0 ht ih hG hL hle h1
      generalize st a = S at *
      generalize st a1 = S1 at *
      generalize st a2 = S2 at *
      unfold bang at e1
      go_enter Tryz.func7, Tryz.ntmps7
      go_wp2_with fail
      go_region_held3 (fun w' => w'.cell? ⟨b, o, none⟩ = some (.string S) ∧ w'.cell? ⟨b, o + 1, none⟩ = some (.string S1) ∧ w'.cell? ⟨b, o + 2, none⟩ = some (.string S2))
        (first | exact ⟨k0, k1, k2⟩ | exact ⟨by exact c0, by exact c1, by exact c2⟩)
        (first
          | (go_at_call 17; refine (HC.out _ HB.out.drew).mono ?_; rintro e w1 ⟨rfl, hb1⟩; have HW1 := Lib.hid (HB.out.drew.trans (hb1.mono HB.out.size)); have k0 := HD.out w1 HW1.out; have k1 := D1.out w1 HW1.out; have k2 := D2.out w1 HW1.out; have HB1 := Lib.hid hb1; clear hb1))
      clear c0 c1 c2
      go_wp2_with fail
      go_ret
      exact ⟨by rw [HZ.out]; rfl, (Below.refl _ _).drew.trans HB1.out⟩
    · have hz : testZ has [a, a1, a2] = flip (testZ has [a1, a2]) := by unfold testZ; rw [hz0, h1]; rfl
      rw [h1] at e1
      have HZ := Lib.hid hz; have HC := Lib.hid hc; have HB := Lib.hid hb; have HT := Lib.hid ht
      clear hz hc hb hz0 ht ih hG hL h1
      generalize st a = S at *
      generalize st a1 = S1 at *
      generalize st a2 = S2 at *
      generalize testZ has [a1, a2] = r at *
      unfold bang at e1
      by_cases hr : r < 2
      all_goals
        go_enter Tryz.func7, Tryz.ntmps7
        go_wp2_with fail
        go_region_held3 (fun w' => w'.cell? ⟨b, o, none⟩ = some (.string S) ∧ w'.cell? ⟨b, o + 1, none⟩ = some (.string S1) ∧ w'.cell? ⟨b, o + 2, none⟩ = some (.string S2))
          (first | exact ⟨k0, k1, k2⟩ | exact ⟨by exact c0, by exact c1, by exact c2⟩)
          (first
            | (go_at_call 17; refine (HC.out _ HB.out.drew).mono ?_; rintro e w1 ⟨rfl, hb1⟩; have HW1 := Lib.hid (HB.out.drew.trans (hb1.mono HB.out.size)); have k0 := HD.out w1 HW1.out; have k1 := D1.out w1 HW1.out; have k2 := D2.out w1 HW1.out; have HB1 := Lib.hid hb1; clear hb1))
        clear c0 c1 c2
        go_wp2_with (first
          | (go_at_call 7; refine (HT.out _ HW1.out).mono ?_; rintro e w2 ⟨rfl, hb2⟩; have HB2 := Lib.hid hb2; clear hb2))
        go_ret
        exact ⟨by rw [HZ.out]; unfold flip; first | (rw [if_pos (by omega)]; rfl) | (rw [if_neg (by omega)]; rfl), (Below.refl _ _).drew.trans (HB1.out.trans (HB2.out.mono HB1.out.size))⟩

set_option maxHeartbeats 1600000 in
set_option maxRecDepth 100000 in
theorem test_4 (has : Str → Bool) (F : Value) (a : Str) (r : List Str) (A : Option Addr) (c n : Nat) (w0 w : World) (hn : (a :: r).length = n) (hL : IsL w0 A (a :: r)) (hb : Below w0.heap.size w0 w) (h4 : 4 ≤ n) (h2 : n ≤ c) (ih : TestOk has F w0 (n - 1)) :
    Calls Tryz.prog 7 #[.slice A n c, F] w fun e w' => e = .returned (.int .i64 (testZ has (a :: r))) ∧ Below w.heap.size w w' := by
  obtain ⟨b, o, rfl, hblt, _⟩ := hL.head
  have c0 : w.cell? ⟨b, o, none⟩ = some (.string (st a)) := hL.read hb 0 (by simp)
  have e1 := st_beq a bang
  have hle := testZ_le has r
  have hrl : r.length = n - 1 := by simp at hn; omega
  have ht := ih r (some ⟨b, o + 1, none⟩) (c - 1) w (by omega) (by omega) hL.tail hb
  rw [hrl] at ht
  have n0 : ((n : Int) == 0) = false := by simp; omega
  have n1 : ((n : Int) == 1) = false := by simp; omega
  have n2 : ((n : Int) == 2) = false := by simp; omega
  have n3 : ((n : Int) == 3) = false := by simp; omega
  have hz' : testZ has (a :: r) = if a == bang then flip (testZ has r) else 2 := by
    match r, hn with
    | [], h => simp at h; omega
    | [_], h => simp at h; omega
    | [_, _], h => simp at h; omega
    | x :: y :: z :: l, _ => conv => lhs; unfold testZ
  cases h1 : a == bang
  · have hz : testZ has (a :: r) = 2 := by rw [hz', h1]; rfl
    rw [h1] at e1
    have HZ := Lib.hid hz; have HB := Lib.hid hb
    clear hz hb ht ih hL hle h1 hz' hrl hn
    generalize st a = S at *
    unfold bang at e1
    go_enter Tryz.func7, Tryz.ntmps7
    go_wp2_with fail
    go_ret
    exact ⟨by rw [HZ.out]; rfl, Below.refl _ _⟩
  · have hz : testZ has (a :: r) = flip (testZ has r) := by rw [hz', h1]; rfl
    rw [h1] at e1
    have HZ := Lib.hid hz; have HB := Lib.hid hb; have HT := Lib.hid ht
    clear hz hb ht ih hL h1 hz' hrl hn
    generalize st a = S at *
    generalize testZ has r = q at *
    unfold bang at e1
    by_cases hr : q < 2
    all_goals
      go_enter Tryz.func7, Tryz.ntmps7
      go_wp2_with (go_at_call 7; refine HT.out.mono ?_; rintro e w1 ⟨rfl, hb1⟩; have HB1 := Lib.hid hb1; clear hb1)
      go_ret
      exact ⟨by rw [HZ.out]; unfold flip; first | (rw [if_pos (by omega)]; rfl) | (rw [if_neg (by omega)]; rfl), HB1.out⟩

theorem test_c (has : Str → Bool) (F : Value) (w0 : World) (hG : Gb w0) (hF : GetOk has w0 F) : ∀ n, TestOk has F w0 n := by
  intro n
  induction n with
  | zero =>
    intro xs A c w hx hc hL hb
    obtain rfl : xs = [] := List.eq_nil_of_length_eq_zero (by omega)
    exact test_0 has F A c w
  | succ n ih =>
    intro xs A c w hx hc hL hb
    have ihs : ∀ m, m ≤ n → TestOk has F w0 m := fun m hm xs A c w hx => ih xs A c w (by omega)
    match xs, hx, hc, hL with
    | [], _, _, _ => exact test_0 has F A c w
    | [a], _, _, hL => exact test_1 has F a A c w0 w hL hb
    | [a, a1], hx, hc, hL => exact test_2 has F a a1 A c w0 w hF hL hb (by simpa using hc) (ihs 1 (by simp at hx; omega))
    | [a, a1, a2], hx, hc, hL => exact test_3 has F a a1 a2 A c w0 w hG hL hb (by simpa using hc) (ihs 2 (by simp at hx; omega))
    | a :: a1 :: a2 :: a3 :: r, hx, hc, hL => exact test_4 has F a _ A c _ w0 w rfl hL hb (by simp) hc (ihs _ (by simp at hx ⊢; omega))
end Go.Proofs.YtcpafdcghlpabaaGreatDoor.Bu
