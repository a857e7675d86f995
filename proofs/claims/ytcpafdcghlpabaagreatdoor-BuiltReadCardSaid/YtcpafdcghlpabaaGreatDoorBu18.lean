/-
The walks of the reference's Vars, Texts and Same, where both are one.
-/
import Derived.Test.YtcpafdcghlpabaaGreatDoorBu15
set_option linter.unusedVariables false
set_option linter.unusedSimpArgs false
namespace Go.Proofs.YtcpafdcghlpabaaGreatDoor.Bu
open Go.RowKit Go.Shelf Go.Proofs.YtcpafdcghlpabaaGreatDoor.Ar

set_option maxHeartbeats 1600000 in
set_option maxRecDepth 100000 in
theorem vars_same (bs : List Bd) (A B : Option Addr) (n c d : Nat) (w0 w : World) (hA : IsB w0 A bs) (hB : IsB w0 B bs) (hn : bs.length = n) (hb : Below w0.heap.size w0 w) (hbig : n ≤ 100000) :
    Calls Tryz.prog 26 #[.slice A n c, .slice B n d] w fun e w' => e = .returned (.bool true) ∧ ∃ k, w' = w.drewN k := by
  have HA := Lib.hid hA; have HB := Lib.hid hB; have HN := Lib.hid hn; have H0 := Lib.hid hb
  clear hA hB hn hb
  go_enter Tryz.func26, Tryz.ntmps26
  go_wp2
  go_loopw [5] (fun i wr => ∃ k : Nat, k ≤ n ∧ i = .int .i64 k ∧ ∃ m, wr = w.drewN m) (fun i _ => n - (intOf i).toNat)
  case atStart => exact ⟨0, Nat.zero_le _, rfl, 0, rfl⟩
  case round =>
    obtain ⟨k, hk, rfl, m, rfl⟩ := hrel
    by_cases hlt : k < n
    · have hkb : k < bs.length := by have := HN.out; omega
      obtain ⟨b1, o1, rfl, _, _, _⟩ := HA.out.cell k hkb
      obtain ⟨b2, o2, rfl, _, _, _⟩ := HB.out.cell k hkb
      obtain ⟨c1, c2⟩ := HA.out.read (H0.out) k hkb
      obtain ⟨d1, d2⟩ := HB.out.read (H0.out) k hkb
      generalize st bs[k].name = N at *
      generalize st bs[k].value = V at *
      have hd : decide ((k : Int) < (n : Int)) = true := by simp; exact hlt
      go_wp2_with fail
      go_quiet (fail)
      go_wp2
      exact ⟨⟨k + 1, by omega, by go_num, _, rfl⟩, by simp [intOf]; omega⟩
    · go_wp2_with fail
      go_ret
      exact ⟨rfl, _, rfl⟩
end Go.Proofs.YtcpafdcghlpabaaGreatDoor.Bu
