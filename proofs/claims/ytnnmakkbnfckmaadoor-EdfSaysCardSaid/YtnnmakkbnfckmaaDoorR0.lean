/- Rows: what the listed tables read as gives the words on Go's tables; a slice of jobs out of what it reads as. -/
import Derived.Test.YtnnmakkbnfckmaaDoorA5
import Derived.Test.YtnnmakkbnfckmaaDoorRows
import Derived.Lib.LaidRTabT
import Derived.Lib.LaidU8T
import Derived.Lay
import Derived.LaidOnce
import Derived.SevenTiedAt
import Derived.ProofKit
import Derived.SizedLaws
import Derived.WalkKit
import Derived.Deep.Slices
namespace Go.Proofs.YtnnmakkbnfckmaaDoor
open Go.RowKit Go.Shelf Go.Lib
set_option maxRecDepth 100000

abbrev laidAll4 : List (String × DataW Unit) := [("unicode/utf8.acceptRanges", Rows.laid_unicode_utf8_acceptRanges), ("unicode.properties", Rows.laid_unicode_properties), ("unicode.Letter", Rows.laid_unicode_Letter), ("unicode/utf8.first", Rows.laid_unicode_utf8_first)]
theorem letterEq : Rows.laid_unicode_Letter = rtabData letterT := by kernel_rfl
theorem firstEq : Rows.laid_unicode_utf8_first = firstData := by kernel_rfl
theorem acceptEq : (Rows.laid_unicode_utf8_acceptRanges : DataW Unit) = acceptData := by kernel_rfl
theorem propsEq : (Rows.laid_unicode_properties : DataW Unit) = tabData .u8 propertiesTab := by kernel_rfl
theorem u8Types : U8Types Tryd.prog Tryd.lays196_ren := .of196 Tryd.lays196
theorem u8Extra : U8Extra Tryd.prog Tryd.lays196_ren := ⟨by kernel_rfl, by kernel_rfl, by kernel_rfl, by kernel_rfl, by kernel_rfl, by kernel_rfl, by kernel_rfl⟩
theorem rTypes : RTypes Tryd.prog Tryd.lays200_ren := { Tryd.lays200 with }
theorem rExtra : RExtra Tryd.prog Tryd.lays200_ren := ⟨by kernel_rfl, by kernel_rfl, by kernel_rfl, by kernel_rfl, by kernel_rfl, by kernel_rfl, by kernel_rfl, by kernel_rfl⟩
theorem tabIs_of_reads {P : Program} {W : World} {name : String} {k : IntKind} {zs : List Int} {g : Nat} {t e : TypeId} {n : Nat}
    (hg : P.globalNamed name = some g) (hty : (P.globals[g]?).map (·.type) = some t) (ht : P.underlying t = some (.array n e)) (he : P.underlying e = some (.int k)) (hce : P.cellsOf e = 1) (hct : P.cellsOf t = n)
    (h : VarReads P W name (tabData k zs)) : TabIs P W name k zs := by
  obtain ⟨g', t', cs, fuel, p, hg', ht', hvar, hd⟩ := h
  obtain rfl := Option.some.inj (hg.symm.trans hg')
  obtain rfl := Option.some.inj (hty.symm.trans ht')
  unfold TabIs
  rw [hvar, ← cells_of_tab ht he hce hct hd]
theorem tabs_of {W : World} (hL : laidMet Tryd.prog laidAll4 W) : Tabs W := by
  refine ⟨?_, ?_, ?_⟩
  · exact utf8Tabs_of_readsT u8Types u8Extra (firstEq ▸ Lib.laidMet.reads hL (.tail _ (.tail _ (.tail _ (.head _))))) (acceptEq ▸ Lib.laidMet.reads hL (.head _))
  · exact tabIs_of_reads (g := 0) (by kernel_rfl) (by kernel_rfl) (Tryd.underlying141) Tryd.underlying5 (by kernel_rfl) (by kernel_rfl) (propsEq ▸ Lib.laidMet.reads hL (.tail _ (.head _)))
  · exact rvar_of_readsT rTypes rExtra (by kernel_rfl) (by kernel_rfl) (letterEq ▸ Lib.laidMet.reads hL (.tail _ (.tail _ (.head _))))
end Go.Proofs.YtnnmakkbnfckmaaDoor
