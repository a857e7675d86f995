/-
The listed variables: what the walks ask of the library's variables.
-/
import Derived.Test.YtmkajangkibgeaaDoorRowA
import Derived.Test.YtmkajangkibgeaaDoorArithNum
set_option linter.unusedVariables false
set_option linter.unusedSimpArgs false
namespace Go.Proofs.YtmkajangkibgeaaDoor.Ar
open Go.ChangeShapes Go.WideShapes Go.ChangeAt Go.RowKit Go.Shelf Go.Lib

theorem first_datum : Rows.laid_unicode_utf8_first = firstData := by kernel_rfl
theorem accept_datum : (Rows.laid_unicode_utf8_acceptRanges : DataW Unit) = acceptData := by kernel_rfl

theorem gl_of_laid {W : World} (h : laidMetH Tryd.prog laidL W) : Gl W := by
  rw [laid_plain] at h
  have rd := fun n d (hm : (n, d) ∈ laidL) => Lib.laidMet.reads h hm
  have r1 := rd "strconv.ErrSyntax" Rows.laid_strconv_ErrSyntax (by simp [laidL, Rows.arithEvalsRow])
  have r2 := rd "strconv.ErrRange" Rows.laid_strconv_ErrRange (by simp [laidL, Rows.arithEvalsRow])
  have r3 := rd "unicode/utf8.first" Rows.laid_unicode_utf8_first (by simp [laidL, Rows.arithEvalsRow])
  have r4 := rd "unicode/utf8.acceptRanges" Rows.laid_unicode_utf8_acceptRanges (by simp [laidL, Rows.arithEvalsRow])
  have v1 := iface_var r1 gname_syn (ti := 50) (by kernel_rfl) Tryd.underlying50
  have v2 := iface_var r2 gname_rng (ti := 50) (by kernel_rfl) Tryd.underlying50
  refine ⟨v1, v2, ?_, ?_⟩
  · exact utf8Tabs_of_reads (ρ := Tryd.lays260_ren) Tryd.lays260 ⟨by kernel_rfl, by kernel_rfl, by kernel_rfl, by kernel_rfl, by kernel_rfl, by kernel_rfl, by kernel_rfl⟩ (first_datum ▸ r3) (accept_datum ▸ r4)
  · obtain ⟨_, _, e1⟩ := v1
    obtain ⟨_, _, e2⟩ := v2
    obtain ⟨_, _, cs3, _, _, g3, _, e3, _⟩ := r3
    obtain ⟨_, _, cs4, _, _, g4, _, e4, _⟩ := r4
    exact ⟨var_lt gname_syn e1, var_lt gname_rng e2, var_lt (by kernel_rfl) e3, var_lt (by kernel_rfl) e4⟩
end Go.Proofs.YtmkajangkibgeaaDoor.Ar
