/- What a row's listed variables tell the walks: the table of ASCII's spaces. -/
import Derived.Test.YthjfigaalknoiaaDoorRows
import Derived.Test.YthjfigaalknoiaaDoorFields
import Derived.Lib.LaidU8
import Derived.Lib.Space
import Derived.Lay
import Derived.SevenTiedAt
namespace Go.Proofs.YthjfigaalknoiaaDoor
open Go

def laid4 : List (String × DataW Unit) := [("unicode/utf8.acceptRanges", Rows.laid_unicode_utf8_acceptRanges), ("unicode.White_Space", Rows.laid_unicode_White_Space), ("strings.asciiSpace", Rows.laid_strings_asciiSpace), ("unicode/utf8.first", Rows.laid_unicode_utf8_first)]
theorem gSpace : Tryd.prog.globalNamed "strings.asciiSpace" = some 0 := by kernel_rfl
theorem tSpace : (Tryd.prog.globals[0]?).map (·.type) = some 83 := by kernel_rfl
theorem dSpace : (Rows.laid_strings_asciiSpace : DataW Unit) = Lib.tabData .u8 Lib.asciiSpaceTab := by kernel_rfl
theorem spaces_of {W : World} (h : laidMetH Tryd.prog laid4 W) : Spaces W := by
  rw [MakeChecks.laidMetH_plain _ _ _ (by kernel_rfl)] at h
  obtain ⟨g, t, cs, fuel, p, hg, hty, hvar, hd⟩ := Lib.laidMet.reads h (n := "strings.asciiSpace") (d := Rows.laid_strings_asciiSpace) (.tail _ (.tail _ (.head _)))
  obtain rfl := Option.some.inj (gSpace.symm.trans hg)
  obtain rfl := Option.some.inj (tSpace.symm.trans hty)
  rw [dSpace] at hd
  have hcs := Lib.cells_of_tab Tryd.underlying83 Tryd.underlying5 (by kernel_rfl) (by kernel_rfl) hd
  intro b
  have hb : b.toNat < 256 := b.toNat_lt
  have hh := World.var?_cell hg hvar b.toNat
  rw [hh, ← Array.getElem?_toList, hcs]
  have h2 := Lib.asciiSpaceTab_at b.toNat hb
  rw [List.getD_eq_getElem?_getD] at h2
  rw [List.getElem?_map]
  cases hx : Lib.asciiSpaceTab[b.toNat]? with
  | none => rw [List.getElem?_eq_none_iff, Lib.asciiSpaceTab_length] at hx; omega
  | some x =>
    rw [hx] at h2
    simp only [Option.getD_some] at h2
    rw [h2]
    have : UInt8.ofNat b.toNat = b := UInt8.ofNat_toNat
    rw [this]
    rfl
end Go.Proofs.YthjfigaalknoiaaDoor
