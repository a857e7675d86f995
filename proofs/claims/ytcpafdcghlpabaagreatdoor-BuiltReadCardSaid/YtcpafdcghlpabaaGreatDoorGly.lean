/-
Letters and names: the plain words, and the walks of glyph.First, More, Count, Name, at every text.
-/
import Derived.Test.YtcpafdcghlpabaaGreatDoorBase
import Derived.LoopTactic
import Derived.Laws.RangeAny
set_option linter.unusedVariables false
namespace Go.Proofs.YtcpafdcghlpabaaGreatDoor.Ar
open Go.RowKit Go.Shelf

def blank (c : UInt8) : Bool := c == 32 || c == 9 || c == 10
def digit (c : UInt8) : Bool := decide (48 ≤ c.toNat) && decide (c.toNat ≤ 57)
def first (c : UInt8) : Bool := (decide (97 ≤ c.toNat) && decide (c.toNat ≤ 122)) || (decide (65 ≤ c.toNat) && decide (c.toNat ≤ 90)) || c.toNat == 95
def more (c : UInt8) : Bool := first c || digit c
def isName (s : Str) : Bool := match s with
  | [] => false
  | c :: r => first c && r.all more && decide (r.length ≤ 11)

/-- First, More of a letter's number. -/
def firstZ (r : Int) : Bool := (decide (97 ≤ r) && decide (r ≤ 122)) || (decide (65 ≤ r) && decide (r ≤ 90)) || decide (r = 95)
def moreZ (r : Int) : Bool := firstZ r || (decide (48 ≤ r) && decide (r ≤ 57))
theorem firstZ_u8 (c : UInt8) : firstZ c.toNat = first c := by unfold firstZ first; rw [Bool.eq_iff_iff]; simp; omega
theorem moreZ_u8 (c : UInt8) : moreZ c.toNat = more c := by unfold moreZ more digit; rw [firstZ_u8]; cases first c <;> (rw [Bool.eq_iff_iff]; simp) <;> omega

set_option maxHeartbeats 400000 in
theorem gFirst_c (r : Int) (w : World) : Calls Tryz.prog 81 #[.int .i32 r] w fun e w' => e = .returned (.bool (firstZ r)) ∧ w' = w := by
  by_cases h1 : 97 ≤ r <;> by_cases h2 : r ≤ 122 <;> by_cases h3 : 65 ≤ r <;> by_cases h4 : r ≤ 90 <;> by_cases h5 : r = 95 <;> first
    | (exfalso; omega)
    | (go_enter Tryz.func81, Tryz.ntmps81
       go_wp2
       go_ret
       exact ⟨ret_bool (by unfold firstZ; rw [Bool.eq_iff_iff]; simp <;> omega), rfl⟩)

set_option maxHeartbeats 400000 in
theorem gMore_c (r : Int) (w : World) : Calls Tryz.prog 82 #[.int .i32 r] w fun e w' => e = .returned (.bool (moreZ r)) ∧ w' = w := by
  have hf := gFirst_c r
  unfold moreZ
  cases h : firstZ r
  · rw [h] at hf
    by_cases h1 : 48 ≤ r <;> by_cases h2 : r ≤ 57 <;> first
      | (exfalso; omega)
      | (go_enter Tryz.func82, Tryz.ntmps82
         go_wp2_with (go_at_call 81; refine (hf _).mono ?_; rintro e w' ⟨rfl, rfl⟩)
         go_ret
         exact ⟨ret_bool (by rw [Bool.eq_iff_iff]; simp <;> omega), rfl⟩)
  · rw [h] at hf
    go_enter Tryz.func82, Tryz.ntmps82
    go_wp2_with (go_at_call 81; refine (hf _).mono ?_; rintro e w' ⟨rfl, rfl⟩)
    go_ret
    exact ⟨ret_bool (by simp), rfl⟩

theorem moreZ_high {r : Int} (h : 128 ≤ r) : moreZ r = false ∧ firstZ r = false := by
  have h1 : ¬ r ≤ 122 := by omega
  have h2 : ¬ r ≤ 90 := by omega
  have h3 : ¬ r = 95 := by omega
  have h4 : ¬ r ≤ 57 := by omega
  simp [moreZ, firstZ, h1, h2, h3, h4]
theorem more_high {c : UInt8} (h : 128 ≤ c.toNat) : more c = false ∧ first c = false := by
  have := moreZ_high (r := c.toNat) (by omega)
  rwa [moreZ_u8, firstZ_u8] at this
theorem first_more {c : UInt8} (h : first c = true) : more c = true := by simp [more, h]

/-- The letter that is next, as a number: what the tests say of it. -/
theorem decode_more (S : ByteArray) (k : Nat) (h : k < S.size) : firstZ (Utf8.decode S k).1 = first S[k] ∧ moreZ (Utf8.decode S k).1 = more S[k] ∧ (more S[k] = true → (Utf8.decode S k).2 = 1) ∧ 1 ≤ (Utf8.decode S k).2 := by
  by_cases ha : (S[k]'h).toNat < 128
  · rw [decode_ascii S k h ha]
    exact ⟨firstZ_u8 _, moreZ_u8 _, fun _ => rfl, Nat.le_refl _⟩
  · obtain ⟨h1, h2⟩ := decode_high S k h (by omega)
    obtain ⟨m1, m2⟩ := moreZ_high (r := ((Utf8.decode S k).1 : Int)) (by omega)
    obtain ⟨n1, n2⟩ := more_high (c := S[k]) (by omega)
    exact ⟨by rw [m2, n2], by rw [m1, n1], by simp [n1], h2⟩

set_option maxHeartbeats 400000 in
theorem count_c (S : ByteArray) (w : World) (hl : S.size ≤ 2147483647) (hm : ∀ k (h : k < S.size), more S[k] = true) :
    Calls Tryz.prog 83 #[.string S] w fun e w' => e = .returned (.int .i64 S.size) ∧ ∃ k, w' = w.iter S k := by
  have HM := Lib.hid hm; clear hm
  go_enter Tryz.func83, Tryz.ntmps83
  go_wp2
  go_loopw [3] (fun n wr => ∃ k : Nat, k ≤ S.size ∧ n = .int .i64 k ∧ wr = w.iter S k) (fun _ wr => S.size - wr.iterPos w.heap.size)
  case atStart => exact ⟨0, Nat.zero_le _, rfl, rfl⟩
  case round =>
    obtain ⟨k, hk, rfl, rfl⟩ := hrel
    by_cases hp : k < S.size
    · have hw := (decode_more S k hp).2.2.1 (HM.out k hp)
      have hnx : ∀ ty, (Instr.next (.pointer (some ⟨w.heap.size, 0, none⟩)) true ty).run Tryz.prog (w.iter S k) = _ := fun ty => run_next_any w S k ty hp
      rw [hw] at hnx
      clear hw
      go_wp2
      go_roundw
      case rel => exact ⟨k + 1, by omega, by go_num, rfl⟩
      case measure => simp; omega
    · have hnx : ∀ ty, (Instr.next (.pointer (some ⟨w.heap.size, 0, none⟩)) true ty).run Tryz.prog (w.iter S k) = _ := fun ty => run_next_end w S k ty hp
      obtain rfl : k = S.size := by omega
      go_wp2
      go_ret
      exact ⟨rfl, _, rfl⟩

theorem isName_yes (S : ByteArray) (h : ∀ k (h : k < S.size), more S[k] = true) (h0 : ∀ h : 0 < S.size, first S[0] = true) : isName (B S) = (decide (S.size ≠ 0) && decide (S.size ≤ 12)) := by
  have hl : (B S).length = S.size := rfl
  have hh : ∀ c ∈ B S, more c = true := by
    intro c hc
    obtain ⟨k, hk, rfl⟩ := List.getElem_of_mem hc
    exact h k hk
  unfold isName
  cases hb : B S with
  | nil => rw [hb] at hl; simp at hl; simp [← hl]
  | cons c r =>
    rw [hb] at hl hh
    have hc : first c = true := by
      have := h0 (by rw [← hl]; simp)
      have e : S[0]'(by rw [← hl]; simp) = (B S)[0]'(by rw [hb]; simp) := rfl
      rw [e] at this
      simpa [hb] using this
    have hr : r.all more = true := by rw [List.all_eq_true]; exact fun x hx => hh x (List.mem_cons_of_mem _ hx)
    simp only [List.length_cons] at hl
    simp only [hc, hr, ← hl]
    rw [Bool.eq_iff_iff]; simp
theorem isName_no (S : ByteArray) (k : Nat) (hk : k < S.size) (h : (k = 0 ∧ first S[k] = false) ∨ more S[k] = false) : isName (B S) = false := by
  unfold isName
  have e : ∀ h, S[k]'h = (B S)[k]'h := fun _ => rfl
  rw [e] at h
  have hl : (B S).length = S.size := rfl
  cases hb : B S with
  | nil => rfl
  | cons c r =>
    simp only [hb] at h
    cases k with
    | zero =>
      simp only [List.getElem_cons_zero] at h
      have : first c = false := by
        rcases h with h | h
        · exact h.2
        · cases hf : first c
          · rfl
          · rw [first_more hf] at h; cases h
      simp [this]
    | succ k =>
      simp only [List.getElem_cons_succ] at h
      rcases h with ⟨h, _⟩ | h
      · cases h
      · have : r.all more = false := by
          rw [List.all_eq_false]
          exact ⟨_, List.getElem_mem _, by rw [h]; simp⟩
        simp [this]
theorem toList_B (S : ByteArray) : S.toList = B S := ByteArray.toList_eq S

theorem below_iter (w : World) (S : ByteArray) (k : Nat) : Below w.heap.size w (w.iter S k) := (Below.refl _ _).alloc (Nat.le_refl _) _

set_option maxHeartbeats 1000000 in
set_option maxRecDepth 100000 in
theorem name_c (S : ByteArray) (w : World) (hl : S.size ≤ 2147483647) :
    Calls Tryz.prog 47 #[.string S] w fun e w' => e = .returned (.bool (isName (B S))) ∧ Below w.heap.size w w' := by
  go_enter Tryz.func47, Tryz.ntmps47
  go_wp2
  go_loopw [] (fun wr => ∃ k : Nat, k ≤ S.size ∧ wr = w.iter S k ∧ Hid (∀ j (h : j < S.size), j < k → more S[j] = true) ∧ Hid (∀ h : 0 < S.size, 0 < k → first S[0] = true)) (fun wr => S.size - wr.iterPos w.heap.size)
  case atStart => exact ⟨0, Nat.zero_le _, rfl, fun _ _ h => absurd h (by omega), fun _ h => absurd h (by omega)⟩
  case round =>
    obtain ⟨k, hk, rfl, HM, HF⟩ := hrel
    by_cases hp : k < S.size
    · obtain ⟨d1, d2, d3, d4⟩ := decode_more S k hp
      have hnx : ∀ ty, (Instr.next (.pointer (some ⟨w.heap.size, 0, none⟩)) true ty).run Tryz.prog (w.iter S k) = _ := fun ty => run_next_any w S k ty hp
      have cF := gFirst_c (Utf8.decode S k).1
      have cM := gMore_c (Utf8.decode S k).1
      rw [d1] at cF
      rw [d2] at cM
      have HD := Lib.hid d3; clear d3
      clear d1 d2
      generalize Utf8.decode S k = d at *
      have HW := Lib.hid (show 1 ≤ d.2 from d4)
      by_cases k0 : k = 0
      · subst k0
        cases hf : first S[0] <;> cases hm : more S[0]
        all_goals
          rw [hf] at cF; rw [hm] at cM
          have HFv := Lib.hid hf; clear hf
          have HMv := Lib.hid hm; clear hm
          have CF := Lib.hid cF; clear cF
          have CM := Lib.hid cM; clear cM
          go_wp2_with (first | (go_at_call 81; refine (CF.out _).mono ?_; rintro e w' ⟨rfl, rfl⟩) | (go_at_call 82; refine (CM.out _).mono ?_; rintro e w' ⟨rfl, rfl⟩))
          first
          | (go_ret
             refine ⟨ret_bool (isName_no S 0 hp ?_).symm, below_iter _ _ _⟩
             first | exact .inl ⟨rfl, HFv.out⟩ | exact .inr HMv.out)
          | (go_roundw
             case rel =>
               refine ⟨1, by omega, by rw [HD.out HMv.out], fun j h hj => ?_, fun _ _ => HFv.out⟩
               obtain rfl : j = 0 := by omega
               exact HMv.out
             case measure => simp; omega)
      · have hk0 : ((k : Int) == 0) = false := beq_eq_false_iff_ne.2 (by omega)
        cases hm : more S[k]
        all_goals
          rw [hm] at cM
          have HMv := Lib.hid hm; clear hm
          have CM := Lib.hid cM; clear cM
          clear cF
          go_wp2_with (go_at_call 82; refine (CM.out _).mono ?_; rintro e w' ⟨rfl, rfl⟩)
          first
          | (go_ret
             exact ⟨ret_bool (isName_no S k hp (.inr HMv.out)).symm, below_iter _ _ _⟩)
          | (go_roundw
             case rel =>
               refine ⟨k + 1, by omega, by rw [HD.out HMv.out], fun j h hj => ?_, fun h _ => HF.out h (by omega)⟩
               rcases Nat.lt_or_ge j k with h1 | h1
               · exact HM.out j h h1
               · obtain rfl : j = k := by omega
                 exact HMv.out
             case measure => simp; omega)
    · have hnx : ∀ ty, (Instr.next (.pointer (some ⟨w.heap.size, 0, none⟩)) true ty).run Tryz.prog (w.iter S k) = _ := fun ty => run_next_end w S k ty hp
      obtain rfl : k = S.size := by omega
      have hy := isName_yes S (fun j h => HM.out j h h) (fun h => HF.out h h)
      have HY := Lib.hid hy; clear hy
      by_cases h0 : S.size = 0
      · have hem : S.toList.isEmpty = true := by
          rw [toList_B, List.isEmpty_iff]; exact List.eq_nil_of_length_eq_zero h0
        have H0 := Lib.hid h0; clear h0
        go_wp2
        go_ret
        exact ⟨ret_bool (by rw [HY.out, H0.out]; rfl), below_iter _ _ _⟩
      · have hne : S.toList.isEmpty = false := by
          cases hb : S.toList with
          | nil =>
            exfalso; apply h0
            have : S.toList = B S := toList_B S
            rw [hb] at this
            rw [← B_len, ← this]; rfl
          | cons c l => rfl
        have cC := fun w => count_c S w hl (fun j h => HM.out j h h)
        have CC := Lib.hid cC; clear cC
        have h0' : (S.size ≠ 0) := h0
        clear h0
        by_cases h12 : (S.size : Int) ≤ 12
        all_goals
          go_wp2_with (go_at_call 83; refine (CC.out _).mono ?_; rintro e w' ⟨rfl, ⟨kk, rfl⟩⟩)
          go_ret
          refine ⟨ret_bool ?_, (below_iter _ _ _).trans ((below_iter _ _ _).mono (by simp [World.iter]))⟩
          have e1 : decide (S.size ≠ 0) = true := decide_eq_true h0'
          rw [HY.out, e1, Bool.true_and, Bool.eq_iff_iff]
          simp only [decide_eq_true_eq, true_iff]
          omega
end Go.Proofs.YtcpafdcghlpabaaGreatDoor.Ar
