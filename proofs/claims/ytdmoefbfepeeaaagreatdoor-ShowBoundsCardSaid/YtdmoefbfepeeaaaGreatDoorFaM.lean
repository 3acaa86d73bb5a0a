/- The closed facts of a row, one by one (conditions: none). -/
import Derived.Test.YtdmoefbfepeeaaaGreatDoorRows
import Derived.Test.YtdmoefbfepeeaaaGreatDoorCards
import Derived.ProofKit
import Derived.JoinedOf
import Derived.SevenTiedAt
set_option linter.unnecessarySimpa false
set_option linter.unusedVariables false
set_option linter.unusedSimpArgs false
set_option maxRecDepth 100000
namespace Go.Proofs.YtdmoefbfepeeaaaGreatDoor
open Go.ChangeShapes Go.WideShapes Go.ChangeAt Go.RowKit

theorem showBounds_k0 : (Rows.showBoundsRow.wf (OpenSpec.ofChange Rows.showBoundsSpec)) = true := by kernel_rfl
theorem showBounds_k1 : (laidOutB Tryz.prog) = true := by kernel_rfl
theorem showBounds_k2 : (mapsRowed Tryz.prog) = true := by kernel_rfl
theorem showBounds_k3 : (Tryz.f7.params.all (Tryz.prog.readableRec ·)) = true := by kernel_rfl
theorem showBounds_k4 : (namedTie Tryz.prog Rows.showBoundsRow.named Rows.showBoundsSpec.vars) = true := by kernel_rfl
theorem showBounds_k5 : ((Rows.showBoundsRow.stops == [])) = true := by kernel_rfl
theorem showBounds_k6 : ((Tryz.prog.stops == [])) = true := by kernel_rfl
theorem showBounds_k7 : ((Rows.showBoundsRow.knobs == [])) = true := by kernel_rfl
theorem showBounds_k8 : ((Tryz.prog.stopKnobs == [])) = true := by kernel_rfl
theorem showBounds_k9 : ((Rows.showBoundsRow.inPlace == Tryz.prog.inPlace 7)) = true := by kernel_rfl
theorem showBounds_k10 : ((Rows.showBoundsRow.unfollowed == Tryz.prog.unfollowed 7)) = true := by kernel_rfl
theorem showBounds_k11 : ((Rows.showBoundsRow.recurses == Tryz.prog.recurses 7)) = true := by kernel_rfl
theorem showBounds_k12 : ((Rows.showBoundsRow.named == Tryz.prog.varsNamed 7)) = true := by kernel_rfl
theorem showBounds_k13 : ((Rows.showBoundsRow.maps == (Tryz.f7.params.toList ++ Rows.showBoundsSpec.plain.varTypes Tryz.prog).any (Tryz.prog.mapsRec ·))) = true := by kernel_rfl
theorem showBounds_k14 : ((Rows.showBoundsRow.ifaces == (Tryz.f7.params.toList ++ Rows.showBoundsSpec.plain.varTypes Tryz.prog).any (Tryz.prog.ifacesRec ·))) = true := by kernel_rfl
theorem showBounds_k15 : ((Rows.showBoundsRow.mapsOut == Tryz.prog.mapsAmong Tryz.f7.resultTypes.toList)) = true := by kernel_rfl
theorem showBounds_k16 : ((Rows.showBoundsRow.loops == (Tryz.f7.params.toList ++ Rows.showBoundsSpec.plain.varTypes Tryz.prog).any (Tryz.prog.loopsFrom ·))) = true := by kernel_rfl
theorem showBounds_k17 : ((Rows.showBoundsRow.wideKeys == (Tryz.f7.params.toList ++ Rows.showBoundsSpec.plain.varTypes Tryz.prog ++ Tryz.f7.resultTypes.toList).any (Tryz.prog.wideKeysFrom ·))) = true := by kernel_rfl
theorem showBounds_k18 : (Rows.showBoundsSpec.vars.all (Tryz.prog.varReadable ·)) = true := by kernel_rfl
theorem showBounds_k19 : (Tryz.f7.resultTypes.all (fun t => Tryz.prog.readableRec t && decide (t < Tryz.prog.types.size))) = true := by kernel_rfl
theorem showBounds_k20 : ((Rows.showBoundsRow.ifacesOut == Tryz.f7.resultTypes.toList.any (Tryz.prog.ifacesRec ·))) = true := by kernel_rfl
theorem showBounds_k21 : ((Rows.showBoundsRow.loopsOut == Tryz.f7.resultTypes.toList.any (Tryz.prog.loopsFrom ·))) = true := by kernel_rfl
theorem showBounds_k22 : ((Rows.showBoundsRow.plainKeys == Tryz.prog.plainKeys)) = true := by kernel_rfl
theorem showBounds_k23 : (Rows.showBoundsRow.shortTexts.isNone) = true := by kernel_rfl
theorem showBounds_k24 : (Tryz.prog.stopsHeard) = true := by kernel_rfl
theorem showBounds_k25 : (Tryz.prog.mayEnter) = true := by kernel_rfl
theorem showBounds_k26 : ((Rows.showBoundsRow.lifted == Tryz.prog.liftsFinal)) = true := by kernel_rfl
theorem showBounds_k27 : ((Tryz.prog.make == some Rows.showBoundsRow.make)) = true := by kernel_rfl
theorem showBounds_k28 : ((Rows.showBoundsRow.kinds == (if Rows.showBoundsRow.domain.isEmpty then [] else Tryz.f7.params.toList.map fun t => match Tryz.prog.underlying t with | some (.int k) => some k | _ => none))) = true := by kernel_rfl
theorem showBounds_k29 : ((Rows.showBoundsRow.pinned == Rows.showBoundsRow.pinnedBy)) = true := by kernel_rfl
theorem showBounds_k30 : ((Rows.showBoundsRow.veiled == (Tryz.f7.params.toList ++ Rows.showBoundsSpec.plain.varTypes Tryz.prog ++ Tryz.f7.resultTypes.toList).any (Tryz.prog.veiledRec ·))) = true := by kernel_rfl
theorem showBounds_k31 : (Rows.showBoundsRow.veiledFits Tryz.prog Tryz.f7.params.toList (Tryz.f7.params.toList ++ Rows.showBoundsSpec.plain.varTypes Tryz.prog ++ Tryz.f7.resultTypes.toList)) = true := by kernel_rfl
theorem and2 {a b : Bool} (h : a = true) (h1 : b = true) : (a && b) = true := by rw [h, h1]; rfl
theorem showBounds_closed : joinedFacts Tryz.prog 7 Tryz.f7 Rows.showBoundsSpec Rows.showBoundsRow = true := by
  unfold joinedFacts
  exact (and2 (and2 (and2 (and2 (and2 (and2 (and2 (and2 (and2 (and2 (and2 (and2 (and2 (and2 (and2 (and2 (and2 (and2 (and2 (and2 (and2 (and2 (and2 (and2 (and2 (and2 (and2 (and2 (and2 (and2 (and2 showBounds_k0 showBounds_k1) showBounds_k2) showBounds_k3) showBounds_k4) showBounds_k5) showBounds_k6) showBounds_k7) showBounds_k8) showBounds_k9) showBounds_k10) showBounds_k11) showBounds_k12) showBounds_k13) showBounds_k14) showBounds_k15) showBounds_k16) showBounds_k17) showBounds_k18) showBounds_k19) showBounds_k20) showBounds_k21) showBounds_k22) showBounds_k23) showBounds_k24) showBounds_k25) showBounds_k26) showBounds_k27) showBounds_k28) showBounds_k29) showBounds_k30) showBounds_k31)
theorem showBounds_named : Tryz.prog.funcNamed "lexicon/lexiconlaw22.ShowBounds" = some 7 := by kernel_rfl
theorem showBounds_inst : Tryz.f7.isInstance Tryz.prog Rows.showBoundsRow.origin Rows.showBoundsRow.targs := of_decide_eq_true (by kernel_rfl)
theorem showBounds_wrap : Tryz.f7.isWrapper Tryz.prog Rows.showBoundsRow.wrapper Rows.showBoundsRow.mainSum := by unfold Func.isWrapper; first | (rw [if_pos (by decide +kernel)]; kernel_rfl) | (rw [if_neg (by decide +kernel)]; exact ⟨rfl, rfl⟩)
theorem showBounds_text : Rows.showBoundsRow.wfByText (OpenSpec.ofChange Rows.showBoundsSpec) = true := by kernel_rfl
theorem showBounds_main : Tryz.prog.mainIs = some (true, "4243b92fe792b895953a9d0a3cd1ce26192605eadd47aad8d6d7a1e491494870".toList) := by kernel_rfl
theorem showBounds_looks : true = Tryz.prog.looks [] := by kernel_rfl
theorem showBounds_goes : false = Rows.showBoundsRow.goesBy Tryz.prog := by kernel_rfl
end Go.Proofs.YtdmoefbfepeeaaaGreatDoor
