/- The closed facts of a row, one by one (conditions: none). -/
import Derived.Test.YtdmoefbfepeeaaaGreatDoorRows
import Derived.Test.YtdmoefbfepeeaaaGreatDoorCards
import Derived.ProofKit
import Derived.JoinedOf
import Derived.SevenTiedAt
set_option linter.unnecessarySimpa false
set_option linter.unusedVariables false
set_option linter.unusedSimpArgs false
set_option maxRecDepth 100000
namespace Go.Proofs.YtdmoefbfepeeaaaGreatDoor
open Go.ChangeShapes Go.WideShapes Go.ChangeAt Go.RowKit

theorem showLoops_k0 : (Rows.showLoopsRow.wf (OpenSpec.ofChange Rows.showLoopsSpec)) = true := by kernel_rfl
theorem showLoops_k1 : (laidOutB Tryz.prog) = true := by kernel_rfl
theorem showLoops_k2 : (mapsRowed Tryz.prog) = true := by kernel_rfl
theorem showLoops_k3 : (Tryz.f8.params.all (Tryz.prog.readableRec ·)) = true := by kernel_rfl
theorem showLoops_k4 : (namedTie Tryz.prog Rows.showLoopsRow.named Rows.showLoopsSpec.vars) = true := by kernel_rfl
theorem showLoops_k5 : ((Rows.showLoopsRow.stops == [])) = true := by kernel_rfl
theorem showLoops_k6 : ((Tryz.prog.stops == [])) = true := by kernel_rfl
theorem showLoops_k7 : ((Rows.showLoopsRow.knobs == [])) = true := by kernel_rfl
theorem showLoops_k8 : ((Tryz.prog.stopKnobs == [])) = true := by kernel_rfl
theorem showLoops_k9 : ((Rows.showLoopsRow.inPlace == Tryz.prog.inPlace 8)) = true := by kernel_rfl
theorem showLoops_k10 : ((Rows.showLoopsRow.unfollowed == Tryz.prog.unfollowed 8)) = true := by kernel_rfl
theorem showLoops_k11 : ((Rows.showLoopsRow.recurses == Tryz.prog.recurses 8)) = true := by kernel_rfl
theorem showLoops_k12 : ((Rows.showLoopsRow.named == Tryz.prog.varsNamed 8)) = true := by kernel_rfl
theorem showLoops_k13 : ((Rows.showLoopsRow.maps == (Tryz.f8.params.toList ++ Rows.showLoopsSpec.plain.varTypes Tryz.prog).any (Tryz.prog.mapsRec ·))) = true := by kernel_rfl
theorem showLoops_k14 : ((Rows.showLoopsRow.ifaces == (Tryz.f8.params.toList ++ Rows.showLoopsSpec.plain.varTypes Tryz.prog).any (Tryz.prog.ifacesRec ·))) = true := by kernel_rfl
theorem showLoops_k15 : ((Rows.showLoopsRow.mapsOut == Tryz.prog.mapsAmong Tryz.f8.resultTypes.toList)) = true := by kernel_rfl
theorem showLoops_k16 : ((Rows.showLoopsRow.loops == (Tryz.f8.params.toList ++ Rows.showLoopsSpec.plain.varTypes Tryz.prog).any (Tryz.prog.loopsFrom ·))) = true := by kernel_rfl
theorem showLoops_k17 : ((Rows.showLoopsRow.wideKeys == (Tryz.f8.params.toList ++ Rows.showLoopsSpec.plain.varTypes Tryz.prog ++ Tryz.f8.resultTypes.toList).any (Tryz.prog.wideKeysFrom ·))) = true := by kernel_rfl
theorem showLoops_k18 : (Rows.showLoopsSpec.vars.all (Tryz.prog.varReadable ·)) = true := by kernel_rfl
theorem showLoops_k19 : (Tryz.f8.resultTypes.all (fun t => Tryz.prog.readableRec t && decide (t < Tryz.prog.types.size))) = true := by kernel_rfl
theorem showLoops_k20 : ((Rows.showLoopsRow.ifacesOut == Tryz.f8.resultTypes.toList.any (Tryz.prog.ifacesRec ·))) = true := by kernel_rfl
theorem showLoops_k21 : ((Rows.showLoopsRow.loopsOut == Tryz.f8.resultTypes.toList.any (Tryz.prog.loopsFrom ·))) = true := by kernel_rfl
theorem showLoops_k22 : ((Rows.showLoopsRow.plainKeys == Tryz.prog.plainKeys)) = true := by kernel_rfl
theorem showLoops_k23 : (Rows.showLoopsRow.shortTexts.isNone) = true := by kernel_rfl
theorem showLoops_k24 : (Tryz.prog.stopsHeard) = true := by kernel_rfl
theorem showLoops_k25 : (Tryz.prog.mayEnter) = true := by kernel_rfl
theorem showLoops_k26 : ((Rows.showLoopsRow.lifted == Tryz.prog.liftsFinal)) = true := by kernel_rfl
theorem showLoops_k27 : ((Tryz.prog.make == some Rows.showLoopsRow.make)) = true := by kernel_rfl
theorem showLoops_k28 : ((Rows.showLoopsRow.kinds == (if Rows.showLoopsRow.domain.isEmpty then [] else Tryz.f8.params.toList.map fun t => match Tryz.prog.underlying t with | some (.int k) => some k | _ => none))) = true := by kernel_rfl
theorem showLoops_k29 : ((Rows.showLoopsRow.pinned == Rows.showLoopsRow.pinnedBy)) = true := by kernel_rfl
theorem showLoops_k30 : ((Rows.showLoopsRow.veiled == (Tryz.f8.params.toList ++ Rows.showLoopsSpec.plain.varTypes Tryz.prog ++ Tryz.f8.resultTypes.toList).any (Tryz.prog.veiledRec ·))) = true := by kernel_rfl
theorem showLoops_k31 : (Rows.showLoopsRow.veiledFits Tryz.prog Tryz.f8.params.toList (Tryz.f8.params.toList ++ Rows.showLoopsSpec.plain.varTypes Tryz.prog ++ Tryz.f8.resultTypes.toList)) = true := by kernel_rfl
theorem and2 {a b : Bool} (h : a = true) (h1 : b = true) : (a && b) = true := by rw [h, h1]; rfl
theorem showLoops_closed : joinedFacts Tryz.prog 8 Tryz.f8 Rows.showLoopsSpec Rows.showLoopsRow = true := by
  unfold joinedFacts
  exact (and2 (and2 (and2 (and2 (and2 (and2 (and2 (and2 (and2 (and2 (and2 (and2 (and2 (and2 (and2 (and2 (and2 (and2 (and2 (and2 (and2 (and2 (and2 (and2 (and2 (and2 (and2 (and2 (and2 (and2 (and2 showLoops_k0 showLoops_k1) showLoops_k2) showLoops_k3) showLoops_k4) showLoops_k5) showLoops_k6) showLoops_k7) showLoops_k8) showLoops_k9) showLoops_k10) showLoops_k11) showLoops_k12) showLoops_k13) showLoops_k14) showLoops_k15) showLoops_k16) showLoops_k17) showLoops_k18) showLoops_k19) showLoops_k20) showLoops_k21) showLoops_k22) showLoops_k23) showLoops_k24) showLoops_k25) showLoops_k26) showLoops_k27) showLoops_k28) showLoops_k29) showLoops_k30) showLoops_k31)
theorem showLoops_named : Tryz.prog.funcNamed "lexicon/lexiconlaw22.ShowLoops" = some 8 := by kernel_rfl
theorem showLoops_inst : Tryz.f8.isInstance Tryz.prog Rows.showLoopsRow.origin Rows.showLoopsRow.targs := of_decide_eq_true (by kernel_rfl)
theorem showLoops_wrap : Tryz.f8.isWrapper Tryz.prog Rows.showLoopsRow.wrapper Rows.showLoopsRow.mainSum := by unfold Func.isWrapper; first | (rw [if_pos (by decide +kernel)]; kernel_rfl) | (rw [if_neg (by decide +kernel)]; exact ⟨rfl, rfl⟩)
theorem showLoops_text : Rows.showLoopsRow.wfByText (OpenSpec.ofChange Rows.showLoopsSpec) = true := by kernel_rfl
theorem showLoops_main : Tryz.prog.mainIs = some (true, "4243b92fe792b895953a9d0a3cd1ce26192605eadd47aad8d6d7a1e491494870".toList) := by kernel_rfl
theorem showLoops_looks : true = Tryz.prog.looks [] := by kernel_rfl
theorem showLoops_goes : false = Rows.showLoopsRow.goesBy Tryz.prog := by kernel_rfl
end Go.Proofs.YtdmoefbfepeeaaaGreatDoor
