/-
The walks of built.Is and built.compared.
-/
import Derived.Test.YtcpafdcghlpabaaGreatDoorBu1
set_option linter.unusedVariables false
set_option linter.unusedSimpArgs false
namespace Go.Proofs.YtcpafdcghlpabaaGreatDoor.Bu
open Go.RowKit Go.Shelf Go.Proofs.YtcpafdcghlpabaaGreatDoor.Ar

def sSigns : Str := [45, 101, 113, 32, 45, 110, 101, 32, 45, 108, 116, 32, 45, 108, 101, 32, 45, 103, 116, 32, 45, 103, 101]
def sOwn : Str := [58, 32, 116, 114, 117, 101, 32, 102, 97, 108, 115, 101, 32, 101, 99, 104, 111, 32, 116, 101, 115, 116, 32, 91, 32, 115, 101, 116, 32, 115, 104, 105, 102, 116, 32, 117, 110, 115, 101, 116, 32, 114, 101, 97, 100, 32, 101, 120, 105, 116, 32, 114, 101, 116, 117, 114, 110, 32, 98, 114, 101, 97, 107, 32, 99, 111, 110, 116, 105, 110, 117, 101]
def owns : List Str := [[58], [116, 114, 117, 101], [102, 97, 108, 115, 101], [101, 99, 104, 111], [116, 101, 115, 116], [91], [115, 101, 116], [115, 104, 105, 102, 116], [117, 110, 115, 101, 116], [114, 101, 97, 100], [101, 120, 105, 116], [114, 101, 116, 117, 114, 110], [98, 114, 101, 97, 107], [99, 111, 110, 116, 105, 110, 117, 101]]

theorem signs_f (w : World) (hG : Gb w) : Calls Tryz.prog 40 #[.string ⟨#[45, 101, 113, 32, 45, 110, 101, 32, 45, 108, 116, 32, 45, 108, 101, 32, 45, 103, 116, 32, 45, 103, 101]⟩] w fun e w' => e = .returned (.slice (some ⟨w.heap.size, 0, none⟩) 6 6) ∧ w' = w.alloc (.cells (signs.map fun l => Value.string (st l)).toArray 9) :=
  fields_c sSigns signs (by decide +kernel) (by decide) (by decide +kernel) w hG
theorem owns_f (w : World) (hG : Gb w) : Calls Tryz.prog 40 #[.string (st sOwn)] w fun e w' => e = .returned (.slice (some ⟨w.heap.size, 0, none⟩) 14 14) ∧ w' = w.alloc (.cells (owns.map fun l => Value.string (st l)).toArray 9) :=
  fields_c sOwn owns (by decide +kernel) (by decide) (by decide +kernel) w hG

set_option maxHeartbeats 400000 in
theorem is_c (s : Str) (w0 w : World) (hG : Gb w0) (hb : Below w0.heap.size w0 w) :
    Calls Tryz.prog 14 #[.string (st s)] w fun e w' => e = .returned (.bool (owns.contains s)) ∧ Below w.heap.size w w' := by
  have hf := owns_f w (hG.mono hb)
  have hc := fun w1 h => contains_c owns s w w1 h (by decide)
  obtain ⟨W1, hW⟩ : ∃ W1, W1 = w.alloc (.cells (owns.map fun l => Value.string (st l)).toArray 9) := ⟨_, rfl⟩
  rw [← hW] at hf hc
  have hB : Below w.heap.size w W1 := by rw [hW]; exact (Below.refl _ _).alloc (Nat.le_refl _) _
  have hr : Below (w.heap.size + 1) W1 W1 := Below.refl _ _
  have HC := Lib.hid (hc W1 hr); have HF := Lib.hid hf; have HB := Lib.hid hB
  clear hc hf hB hr hW hb hG
  generalize owns.contains s = res at *
  obtain ⟨S, hS⟩ : ∃ S, S = st s := ⟨_, rfl⟩
  rw [← hS] at HC ⊢
  clear hS
  go_enter Tryz.func14, Tryz.ntmps14
  go_wp2_with (first
    | (go_at_call 40; refine HF.out.mono ?_; rintro e w' ⟨rfl, rfl⟩)
    | (go_at_call 39; refine HC.out.mono ?_; rintro e w' ⟨rfl, rfl⟩))
  go_ret
  exact ⟨rfl, HB.out⟩

theorem num_c2 (s : Str) (w0 w : World) (hG : Gl w0) (hb : Below w0.heap.size w0 w) (hl : s.length ≤ 140737488351232) :
    Calls Tryz.prog 41 #[.string (st s)] w fun e w' => e = .returned (.tuple #[.int .i64 ((numZ s).getD 0), .bool (numZ s).isSome]) ∧ Below w.heap.size w w' :=
  (num_c s w0 w hG hb hl).mono (by
    rintro e w' ⟨⟨v, rfl, rfl⟩, h⟩
    exact ⟨rfl, h⟩)

theorem st_beq (a b : Str) : ((st a).toList == b) = (a == b) := by rw [toList_B]
theorem natOf_z (s : Str) (x : Int) (h : numZ s = some x) : -9223372036854775808 ≤ x ∧ x ≤ 9223372036854775807 := by
  cases s with
  | nil => cases h
  | cons c r =>
    unfold numZ at h
    simp only at h
    split at h
    · split at h
      · cases h; omega
      · cases h
    · split at h
      · cases h; omega
      · cases h
theorem signs_mem {o : Str} (h : signs.contains o = true) : ∃ k, k < 6 ∧ idxS signs o = k := by
  have hm : o ∈ signs := by simpa using h
  exact ⟨_, List.findIdx_lt_length_of_exists ⟨o, hm, by simp⟩, rfl⟩

set_option maxHeartbeats 3200000 in
set_option maxRecDepth 100000 in
theorem compared_c (a op b : Str) (w0 w : World) (hG : Gb w0) (hb : Below w0.heap.size w0 w) (ha : a.length ≤ 140737488351232) (hbl : b.length ≤ 140737488351232) :
    Calls Tryz.prog 17 #[.string (st a), .string (st op), .string (st b)] w fun e w' => e = .returned (.tuple #[.int .i64 ((compZ a op b).getD 0), .bool (compZ a op b).isSome]) ∧ Below w.heap.size w w' := by
  have e1 := st_beq op sEq
  have e2 := st_beq op sNe
  have ea : (st a).toList = a := toList_B (st a)
  have eb : (st b).toList = b := toList_B (st b)
  cases h1 : op == sEq
  · cases h2 : op == sNe
    · have hf := signs_f w (hG.mono hb)
      have hc := contains_c signs op w
      have hx := index_c signs op w
      have hw1 : Below w.heap.size w (w.alloc (.cells (signs.map fun l => Value.string (st l)).toArray 9)) := (Below.refl _ _).alloc (Nat.le_refl _) _
      have na := fun w1 h => num_c2 a w0 w1 hG.gl h ha
      have nb := fun w1 h => num_c2 b w0 w1 hG.gl h hbl
      obtain ⟨W1, hW⟩ : ∃ W1, W1 = w.alloc (.cells (signs.map fun l => Value.string (st l)).toArray 9) := ⟨_, rfl⟩
      rw [← hW] at hf hc hx hw1
      have hsz : W1.heap.size = w.heap.size + 1 := by rw [hW]; simp
      have hc1 := hc W1 (Below.refl _ _) (by decide)
      cases h3 : signs.contains op
      · have hz : compZ a op b = none := by unfold compZ; rw [h1, h2, h3]; rfl
        have HZ := Lib.hid hz; have HF := Lib.hid hf; have HC := Lib.hid hc1; have HB := Lib.hid hw1
        rw [h1] at e1; rw [h2] at e2; rw [h3] at HC
        clear hz hf hc hc1 hx hw1 na nb hG hb h1 h2 h3 hW ea eb hsz
        generalize st op = O at *
        generalize st a = A at *
        generalize st b = C at *
        unfold sEq at e1; unfold sNe at e2
        go_enter Tryz.func17, Tryz.ntmps17
        go_wp2_with (first
          | (go_at_call 40; refine HF.out.mono ?_; rintro e w' ⟨rfl, rfl⟩)
          | (go_at_call 39; refine HC.out.mono ?_; rintro e w' ⟨rfl, rfl⟩))
        go_ret2
        exact ⟨by rw [HZ.out]; rfl, HB.out⟩
      · have hz : compZ a op b = (match numZ a, numZ b with | some x, some y => some (stZ ((six x y).getD (idxS signs op) false)) | _, _ => some 2) := by
          unfold compZ; rw [h1, h2, h3]; rfl
        obtain ⟨k, hk, hi⟩ := signs_mem h3
        have hx2 := fun w1 h => hx w1 h (by decide) h3
        rw [hi] at hz hx2
        rw [← hsz] at hx2
        have hbx := natOf_z a
        have hby := natOf_z b
        generalize numZ a = na? at *
        generalize numZ b = nb? at *
        have HF := Lib.hid hf; have HC := Lib.hid hc1; have HB := Lib.hid hw1; have HX := Lib.hid hx2; have NA := Lib.hid na; have NB := Lib.hid nb
        have H0 := Lib.hid hb
        have HS := Lib.hid hsz
        rw [h1] at e1; rw [h2] at e2; rw [h3] at HC
        clear hf hc hc1 hx hx2 hw1 na nb hG hb h1 h2 h3 hW ea eb hi hsz
        generalize st op = O at *
        generalize st a = A at *
        generalize st b = C at *
        unfold sEq at e1; unfold sNe at e2
        have tok1 : True := trivial
        rcases na? with _ | x
        · have HZ := Lib.hid hz
          clear hz
          go_enter Tryz.func17, Tryz.ntmps17
          go_wp2_with (first
            | (go_at_call 40; refine HF.out.mono ?_; rintro e w' ⟨rfl, rfl⟩)
            | (go_at_call 39; refine HC.out.mono ?_; rintro e w' ⟨rfl, rfl⟩)
            | (go_at_call 41; have _t := tok1; clear tok1; refine (NA.out _ (H0.out.trans (HB.out.mono H0.out.size))).mono ?_; rintro e w2 ⟨rfl, hb2⟩; have HB2 := Lib.hid (HB.out.trans (hb2.mono HB.out.size)); clear hb2)
            | (go_at_call 41; refine (NB.out _ (H0.out.trans (HB2.out.mono H0.out.size))).mono ?_; rintro e w3 ⟨rfl, hb3⟩; have HB3 := Lib.hid (HB2.out.trans (hb3.mono HB2.out.size)); clear hb3))
          go_ret2
          exact ⟨by rw [HZ.out]; rfl, HB3.out⟩
        · rcases nb? with _ | y
          · have HZ := Lib.hid hz
            clear hz
            go_enter Tryz.func17, Tryz.ntmps17
            go_wp2_with (first
              | (go_at_call 40; refine HF.out.mono ?_; rintro e w' ⟨rfl, rfl⟩)
              | (go_at_call 39; refine HC.out.mono ?_; rintro e w' ⟨rfl, rfl⟩)
              | (go_at_call 41; have _t := tok1; clear tok1; refine (NA.out _ (H0.out.trans (HB.out.mono H0.out.size))).mono ?_; rintro e w2 ⟨rfl, hb2⟩; have HB2 := Lib.hid (HB.out.trans (hb2.mono HB.out.size)); clear hb2)
              | (go_at_call 41; refine (NB.out _ (H0.out.trans (HB2.out.mono H0.out.size))).mono ?_; rintro e w3 ⟨rfl, hb3⟩; have HB3 := Lib.hid (HB2.out.trans (hb3.mono HB2.out.size)); clear hb3))
            go_ret2
            exact ⟨by rw [HZ.out]; rfl, HB3.out⟩
          · have hx1 := hbx x rfl
            have hy1 := hby y rfl
            have HZ := Lib.hid hz
            clear hz hbx hby
            match k, hk with
            | 0, _ | 1, _ | 2, _ | 3, _ | 4, _ | 5, _ =>
              go_enter Tryz.func17, Tryz.ntmps17
              go_wp2_with (first
                | (go_at_call 40; refine HF.out.mono ?_; rintro e w' ⟨rfl, rfl⟩)
                | (go_at_call 39; refine HC.out.mono ?_; rintro e w' ⟨rfl, rfl⟩)
                | (go_at_call 41; have _t := tok1; clear tok1; refine (NA.out _ (H0.out.trans (HB.out.mono H0.out.size))).mono ?_; rintro e w2 ⟨rfl, hb2⟩; have HB2 := Lib.hid (HB.out.trans (hb2.mono HB.out.size)); have HX2 := Lib.hid hb2; clear hb2)
                | (go_at_call 41; refine (NB.out _ (H0.out.trans (HB2.out.mono H0.out.size))).mono ?_; rintro e w3 ⟨rfl, hb3⟩; have HB3 := Lib.hid (HB2.out.trans (hb3.mono HB2.out.size)); have HX3 := Lib.hid (HX2.out.trans (hb3.mono HX2.out.size)); clear hb3)
                | (go_at_call 42; refine (HX.out _ (HX3.out.alloc HX3.out.size _)).mono ?_; rintro e w4 ⟨rfl, rfl⟩)
                | (go_at_call 16; refine (status_c _ _).mono ?_; rintro e w5 ⟨rfl, rfl⟩))
              go_ret2
              exact ⟨by rw [HZ.out]; first | rfl | simp [six], HB3.out.alloc HB3.out.size _⟩
    · have hz : compZ a op b = some (stZ (!(a == b))) := by unfold compZ; rw [h1, h2]; rfl
      have HZ := Lib.hid hz
      rw [h1] at e1; rw [h2] at e2
      have EA := Lib.hid ea; have EB := Lib.hid eb
      clear hz hG hb h1 h2 ea eb
      generalize st op = O at *
      generalize st a = A at *
      generalize st b = C at *
      unfold sEq at e1; unfold sNe at e2
      go_enter Tryz.func17, Tryz.ntmps17
      go_wp2_with (go_at_call 16; refine (status_c _ _).mono ?_; rintro e w5 ⟨rfl, rfl⟩)
      go_ret2
      exact ⟨by rw [HZ.out, EA.out, EB.out]; rfl, Below.refl _ _⟩
  · have hz : compZ a op b = some (stZ (a == b)) := by unfold compZ; rw [h1]; rfl
    have HZ := Lib.hid hz
    rw [h1] at e1
    have EA := Lib.hid ea; have EB := Lib.hid eb
    clear hz hG hb h1 ea eb e2
    generalize st op = O at *
    generalize st a = A at *
    generalize st b = C at *
    unfold sEq at e1
    go_enter Tryz.func17, Tryz.ntmps17
    go_wp2_with (go_at_call 16; refine (status_c _ _).mono ?_; rintro e w5 ⟨rfl, rfl⟩)
    go_ret2
    exact ⟨by rw [HZ.out, EA.out, EB.out]; rfl, Below.refl _ _⟩
end Go.Proofs.YtcpafdcghlpabaaGreatDoor.Bu
