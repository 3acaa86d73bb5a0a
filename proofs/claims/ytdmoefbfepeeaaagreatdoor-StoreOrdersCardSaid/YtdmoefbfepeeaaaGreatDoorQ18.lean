/- Part of a proof over the given program: texts of lemmas (conditions: none beyond each lemma as stated). -/
import Derived.Test.YtdmoefbfepeeaaaGreatDoorQ17
import Derived.Test.YtdmoefbfepeeaaaGreatDoorRows
import Derived.Lib.LaidU8T
import Derived.MakeChecks
set_option linter.unnecessarySimpa false
set_option linter.unusedVariables false
set_option linter.unusedSimpArgs false

set_option autoImplicit false
set_option linter.unusedVariables false
namespace Go.Proofs.YtdmoefbfepeeaaaGreatDoor
open Go.Lib Go.ChangeShapes Go.WideShapes Go.ChangeAt Go.RowKit Go.Fw
theorem u8x : U8Extra Tryz.prog Tryz.lays196_ren := ⟨by kernel_rfl, by kernel_rfl, by kernel_rfl, by kernel_rfl, by kernel_rfl, by kernel_rfl, by kernel_rfl⟩
theorem first_is : (Rows.laid_unicode_utf8_first : DataW Unit) = firstData := by kernel_rfl
theorem accept_is : (Rows.laid_unicode_utf8_acceptRanges : DataW Unit) = acceptData := by kernel_rfl
theorem utf8_of_laid {W : World} (h : laidMetH Tryz.prog Rows.storeOrdersRow.laid W) : Utf8Tabs 1 2 W := by
  rw [MakeChecks.laidMetH_plain _ _ _ (by kernel_rfl)] at h
  refine utf8Tabs_of_readsT (U8Types.of196 Tryz.lays196) u8x ?_ ?_
  · rw [← first_is]
    exact laidMet.reads h (.tail _ (.tail _ (.tail _ (.tail _ (.head _)))))
  · rw [← accept_is]
    exact laidMet.reads h (.tail _ (.tail _ (.tail _ (.head _))))
theorem okWide_low {P : Program} {w : World} {r : Reach} {base : Nat} {t e : TypeId} {a : Option Addr} {l c : Nat} (hu : P.underlying t = some (.slice e)) (h : Value.okWide P w r base t (.slice a l c)) : ∀ p, a = some p → p.block < w.heap.size := by
  rintro p rfl
  unfold Value.okWide at h
  rw [hu] at h
  simp only [Cell.okWide, hu, Cell.ok] at h
  obtain ⟨_, _, _, _, row, cells, hs, _⟩ := h
  rcases Nat.lt_or_ge p.block w.heap.size with hl | hl
  · exact hl
  · unfold World.shape? at hs
    rw [Array.getElem?_eq_none hl] at hs
    cases hs
end Go.Proofs.YtdmoefbfepeeaaaGreatDoor

