/-
The listed variables of the built seat: what the walks ask of the library's variables.
-/
import Derived.Test.YtcpafdcghlpabaaGreatDoorRowS
import Derived.Test.YtcpafdcghlpabaaGreatDoorBu1
set_option linter.unusedVariables false
set_option linter.unusedSimpArgs false
namespace Go.Proofs.YtcpafdcghlpabaaGreatDoor.Bu
open Go.ChangeShapes Go.WideShapes Go.ChangeAt Go.RowKit Go.Shelf Go.Lib Go.Proofs.YtcpafdcghlpabaaGreatDoor.Ar Go.Proofs.YtcpafdcghlpabaaGreatDoor.Row

def laidL : List (String × DataW Unit) := Rows.builtNotRow.laid
theorem laid_plain (W : World) : laidMetH Tryz.prog laidL W = laidMet Tryz.prog laidL W := MakeChecks.laidMetH_plain _ _ _ (by kernel_rfl)
theorem space_datum : (Rows.laid_strings_asciiSpace : DataW Unit) = tabData .u8 Lib.asciiSpaceTab := by kernel_rfl

theorem gb_of_laid {W : World} (h : laidMetH Tryz.prog laidL W) : Gb W := by
  rw [laid_plain] at h
  have rd := fun n d (hm : (n, d) ∈ laidL) => Lib.laidMet.reads h hm
  have r1 := rd "strconv.ErrSyntax" Rows.laid_strconv_ErrSyntax (by simp [laidL, Rows.builtNotRow])
  have r2 := rd "strconv.ErrRange" Rows.laid_strconv_ErrRange (by simp [laidL, Rows.builtNotRow])
  have r3 := rd "strings.asciiSpace" Rows.laid_strings_asciiSpace (by simp [laidL, Rows.builtNotRow])
  have v1 := iface_var r1 gname_syn (ti := 123) (by kernel_rfl) Tryz.underlying123
  have v2 := iface_var r2 gname_rng (ti := 123) (by kernel_rfl) Tryz.underlying123
  have v3 : TabIs Tryz.prog W "strings.asciiSpace" .u8 Lib.asciiSpaceTab := tabIs_of_reads gname_sp (t := 118) (e := 5) (n := 256) (by kernel_rfl) Tryz.underlying118 Tryz.underlying5 (by kernel_rfl) (by kernel_rfl) (space_datum ▸ r3)
  refine ⟨⟨v1, v2, ?_⟩, v3, var_lt gname_sp v3⟩
  obtain ⟨_, _, e1⟩ := v1
  obtain ⟨_, _, e2⟩ := v2
  exact ⟨var_lt gname_syn e1, var_lt gname_rng e2⟩
end Go.Proofs.YtcpafdcghlpabaaGreatDoor.Bu
