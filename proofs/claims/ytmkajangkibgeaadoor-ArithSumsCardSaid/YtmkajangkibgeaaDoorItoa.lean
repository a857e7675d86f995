/-
The walks of a number's digits.
-/
import Derived.Test.YtmkajangkibgeaaDoorBase
import Derived.Test.YtmkajangkibgeaaDoorArithNum
import Derived.Laws.IdiomStrings
set_option linter.unusedVariables false
set_option linter.unusedSimpArgs false
namespace Go.Proofs.YtmkajangkibgeaaDoor.Ar
open Go.RowKit Go.Shelf

def dig (n : Nat) : UInt8 := UInt8.ofNat (48 + n % 10)
def decF : Nat → Nat → Str
  | 0, n => [dig n]
  | k + 1, n => if 10 ≤ n then decF k (n / 10) ++ [dig n] else [dig n]
theorem dig_nat (n : Nat) : (dig n).toNat = 48 + n % 10 := by
  unfold dig
  rw [UInt8.toNat_ofNat_of_lt' (by show _ < 256; omega)]
theorem natFrom_end (l : Str) (c : UInt8) (acc : Nat) : natFrom acc (l ++ [c]) = 10 * natFrom acc l + (c.toNat - 48) := by
  simp [natFrom, List.foldl_append]
theorem dig_digit (n : Nat) : digit (dig n) = true := by
  unfold digit
  rw [dig_nat]
  simp; omega
theorem decF_all (k : Nat) : ∀ n, (decF k n).all digit = true ∧ decF k n ≠ [] ∧ (decF k n).length ≤ k + 1 ∧ (n < 10 ^ (k + 1) → natOf (decF k n) = n) := by
  induction k with
  | zero =>
    intro n
    refine ⟨by simp [decF, dig_digit], by simp [decF], by simp [decF], fun h => ?_⟩
    show natFrom 0 ([] ++ [dig n]) = n
    rw [natFrom_end, dig_nat]
    simp [natFrom]; omega
  | succ k ih =>
    intro n
    obtain ⟨h1, h2, h3, h4⟩ := ih (n / 10)
    unfold decF
    split
    · refine ⟨by simp [h1, dig_digit], by simp, by simp; omega, fun h => ?_⟩
      show natFrom 0 (_ ++ [dig n]) = n
      have := h4 (by rw [Nat.pow_succ] at h; omega)
      rw [natFrom_end, dig_nat, show natFrom 0 (decF k (n / 10)) = n / 10 from this]
      omega
    · refine ⟨by simp [dig_digit], by simp, by simp, fun h => ?_⟩
      show natFrom 0 ([] ++ [dig n]) = n
      rw [natFrom_end, dig_nat]
      simp [natFrom]; omega

theorem dig_conv (n : Nat) (w : World) : (convert 68 9 (.slice (some ⟨w.heap.size, 0, none⟩) 1 1)).run Tryd.prog (w.alloc (.cells #[.int .u8 (48 + (n : Int) % 10)] 5)) = .ok (.string (st [dig n])) (w.alloc (.cells #[.int .u8 (48 + (n : Int) % 10)] 5)) := by
  refine run_convert_bytes_back _ _ _ 5 ⟨w.heap.size, 0, none⟩ 1 [dig n] Tryd.underlying68 Tryd.underlying5 Tryd.underlying9 ?_
  intro i hi
  obtain rfl : i = 0 := by simpa using hi
  have e : ((dig n).toNat : Int) = 48 + (n : Int) % 10 := by rw [dig_nat]; omega
  refine (blk_cell (blk_new w _) 0).trans ?_
  show some (Value.int .u8 (48 + (n : Int) % 10)) = some (Value.int .u8 ((dig n).toNat : Int))
  rw [e]

set_option maxHeartbeats 1600000 in
set_option maxRecDepth 100000 in
theorem dec_c (k : Nat) (hk : k ≤ 30) : ∀ (n : Nat) (w : World), n < 10 ^ (k + 1) → n ≤ 18446744073709551615 → Calls Tryd.prog 23 #[.int .u64 (n : Int)] w fun e w' => e = .returned (.string (st (decF k n))) ∧ Below w.heap.size w w' := by
  have small : ∀ (n : Nat) (w : World), n < 10 → Calls Tryd.prog 23 #[.int .u64 (n : Int)] w fun e w' => e = .returned (.string (st [dig n])) ∧ Below w.heap.size w w' := fun n w hn => by
    have hcv := dig_conv n w
    go_enter Tryd.func23, Tryd.ntmps23
    go_wp2
    go_ret
    exact ⟨rfl, (Below.refl _ _).alloc (Nat.le_refl _) _⟩
  induction k with
  | zero => exact fun n w h1 _ => small n w (by simpa using h1)
  | succ k ih =>
    intro n w hn hm
    have ih := ih (by omega)
    by_cases h10 : 10 ≤ n
    · have ih' := fun w => ih (n / 10) w (by rw [Nat.pow_succ] at hn; omega) (by omega)
      have hdv : (((n / 10 : Nat)) : Int) = (n : Int) / 10 := by simp
      rw [hdv] at ih'
      have IH := Lib.hid ih'; clear ih' hdv
      have hcv := dig_conv n w
      have hde : decF (k + 1) n = decF k (n / 10) ++ [dig n] := by rw [decF, if_pos h10]
      rw [hde]
      have hlen := (decF_all k (n / 10)).2.2.1
      generalize decF k (n / 10) = L at *
      have hlen2 : ¬ (9223372036854775807 < L.length + 1) := by omega
      have HB0 := Lib.hid ((Below.refl w.heap.size w).alloc (Nat.le_refl _) (.cells #[.int .u8 (48 + (n : Int) % 10)] 5))
      clear hn hde ih small
      go_enter Tryd.func23, Tryd.ntmps23
      go_wp2_with (go_at_call 23; refine (IH.out _).mono ?_; rintro e w1 ⟨rfl, hb1⟩; have HB1 := Lib.hid hb1; clear hb1)
      go_ret
      exact ⟨rfl, HB0.out.trans (HB1.out.mono HB0.out.size)⟩
    · have hde : decF (k + 1) n = [dig n] := by rw [decF, if_neg h10]
      rw [hde]
      exact small n w (by omega)
end Go.Proofs.YtmkajangkibgeaaDoor.Ar
