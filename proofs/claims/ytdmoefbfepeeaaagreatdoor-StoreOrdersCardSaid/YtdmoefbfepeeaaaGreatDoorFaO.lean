/- Part of a proof over the given program: texts of lemmas (conditions: none beyond each lemma as stated). -/
import Derived.Test.YtdmoefbfepeeaaaGreatDoorRows
import Derived.Test.YtdmoefbfepeeaaaGreatDoorCards
import Derived.ProofKit
import Derived.JoinedOf
import Derived.SevenTiedAt
set_option linter.unnecessarySimpa false
set_option linter.unusedVariables false
set_option linter.unusedSimpArgs false
set_option maxRecDepth 100000
namespace Go.Proofs.YtdmoefbfepeeaaaGreatDoor
open Go.ChangeShapes Go.WideShapes Go.ChangeAt Go.RowKit
theorem storeOrders_k0 : (Rows.storeOrdersRow.wf (OpenSpec.ofChange Rows.storeOrdersSpec)) = true := by kernel_rfl
theorem storeOrders_k1 : (laidOutB Tryz.prog) = true := by kernel_rfl
theorem storeOrders_k2 : (mapsRowed Tryz.prog) = true := by kernel_rfl
theorem storeOrders_k3 : (Tryz.f3.params.all (Tryz.prog.readableRec ·)) = true := by kernel_rfl
theorem storeOrders_k4 : (namedTie Tryz.prog Rows.storeOrdersRow.named Rows.storeOrdersSpec.vars) = true := by kernel_rfl
theorem storeOrders_k5 : ((Rows.storeOrdersRow.stops == [])) = true := by kernel_rfl
theorem storeOrders_k6 : ((Tryz.prog.stops == [])) = true := by kernel_rfl
theorem storeOrders_k7 : ((Rows.storeOrdersRow.knobs == [])) = true := by kernel_rfl
theorem storeOrders_k8 : ((Tryz.prog.stopKnobs == [])) = true := by kernel_rfl
theorem storeOrders_k9 : ((Rows.storeOrdersRow.inPlace == Tryz.prog.inPlace 3)) = true := by kernel_rfl
theorem storeOrders_k10 : ((Rows.storeOrdersRow.unfollowed == Tryz.prog.unfollowed 3)) = true := by kernel_rfl
theorem storeOrders_k11 : ((Rows.storeOrdersRow.recurses == Tryz.prog.recurses 3)) = true := by kernel_rfl
theorem storeOrders_k12 : ((Rows.storeOrdersRow.named == Tryz.prog.varsNamed 3)) = true := by kernel_rfl
theorem storeOrders_k13 : ((Rows.storeOrdersRow.maps == (Tryz.f3.params.toList ++ Rows.storeOrdersSpec.plain.varTypes Tryz.prog).any (Tryz.prog.mapsRec ·))) = true := by kernel_rfl
theorem storeOrders_k14 : ((Rows.storeOrdersRow.ifaces == (Tryz.f3.params.toList ++ Rows.storeOrdersSpec.plain.varTypes Tryz.prog).any (Tryz.prog.ifacesRec ·))) = true := by kernel_rfl
theorem storeOrders_k15 : ((Rows.storeOrdersRow.mapsOut == Tryz.prog.mapsAmong Tryz.f3.resultTypes.toList)) = true := by kernel_rfl
theorem storeOrders_k16 : ((Rows.storeOrdersRow.loops == (Tryz.f3.params.toList ++ Rows.storeOrdersSpec.plain.varTypes Tryz.prog).any (Tryz.prog.loopsFrom ·))) = true := by kernel_rfl
theorem storeOrders_k17 : ((Rows.storeOrdersRow.wideKeys == (Tryz.f3.params.toList ++ Rows.storeOrdersSpec.plain.varTypes Tryz.prog ++ Tryz.f3.resultTypes.toList).any (Tryz.prog.wideKeysFrom ·))) = true := by kernel_rfl
theorem storeOrders_k18 : (Rows.storeOrdersSpec.vars.all (Tryz.prog.varReadable ·)) = true := by kernel_rfl
theorem storeOrders_k19 : (Tryz.f3.resultTypes.all (fun t => Tryz.prog.readableRec t && decide (t < Tryz.prog.types.size))) = true := by kernel_rfl
theorem storeOrders_k20 : ((Rows.storeOrdersRow.ifacesOut == Tryz.f3.resultTypes.toList.any (Tryz.prog.ifacesRec ·))) = true := by kernel_rfl
theorem storeOrders_k21 : ((Rows.storeOrdersRow.loopsOut == Tryz.f3.resultTypes.toList.any (Tryz.prog.loopsFrom ·))) = true := by kernel_rfl
theorem storeOrders_k22 : ((Rows.storeOrdersRow.plainKeys == Tryz.prog.plainKeys)) = true := by kernel_rfl
theorem storeOrders_k23 : (Rows.storeOrdersRow.shortTexts.isNone) = true := by kernel_rfl
theorem storeOrders_k24 : (Tryz.prog.stopsHeard) = true := by kernel_rfl
theorem storeOrders_k25 : (Tryz.prog.mayEnter) = true := by kernel_rfl
theorem storeOrders_k26 : ((Rows.storeOrdersRow.lifted == Tryz.prog.liftsFinal)) = true := by kernel_rfl
theorem storeOrders_k27 : ((Tryz.prog.make == some Rows.storeOrdersRow.make)) = true := by kernel_rfl
theorem storeOrders_k28 : ((Rows.storeOrdersRow.kinds == (if Rows.storeOrdersRow.domain.isEmpty then [] else Tryz.f3.params.toList.map fun t => match Tryz.prog.underlying t with | some (.int k) => some k | _ => none))) = true := by kernel_rfl
theorem storeOrders_k29 : ((Rows.storeOrdersRow.pinned == Rows.storeOrdersRow.pinnedBy)) = true := by kernel_rfl
theorem storeOrders_k30 : ((Rows.storeOrdersRow.veiled == (Tryz.f3.params.toList ++ Rows.storeOrdersSpec.plain.varTypes Tryz.prog ++ Tryz.f3.resultTypes.toList).any (Tryz.prog.veiledRec ·))) = true := by kernel_rfl
theorem storeOrders_k31 : (Rows.storeOrdersRow.veiledFits Tryz.prog Tryz.f3.params.toList (Tryz.f3.params.toList ++ Rows.storeOrdersSpec.plain.varTypes Tryz.prog ++ Tryz.f3.resultTypes.toList)) = true := by kernel_rfl
theorem and2 {a b : Bool} (h : a = true) (h1 : b = true) : (a && b) = true := by rw [h, h1]; rfl
theorem storeOrders_closed : joinedFacts Tryz.prog 3 Tryz.f3 Rows.storeOrdersSpec Rows.storeOrdersRow = true := by
  unfold joinedFacts
  exact (and2 (and2 (and2 (and2 (and2 (and2 (and2 (and2 (and2 (and2 (and2 (and2 (and2 (and2 (and2 (and2 (and2 (and2 (and2 (and2 (and2 (and2 (and2 (and2 (and2 (and2 (and2 (and2 (and2 (and2 (and2 storeOrders_k0 storeOrders_k1) storeOrders_k2) storeOrders_k3) storeOrders_k4) storeOrders_k5) storeOrders_k6) storeOrders_k7) storeOrders_k8) storeOrders_k9) storeOrders_k10) storeOrders_k11) storeOrders_k12) storeOrders_k13) storeOrders_k14) storeOrders_k15) storeOrders_k16) storeOrders_k17) storeOrders_k18) storeOrders_k19) storeOrders_k20) storeOrders_k21) storeOrders_k22) storeOrders_k23) storeOrders_k24) storeOrders_k25) storeOrders_k26) storeOrders_k27) storeOrders_k28) storeOrders_k29) storeOrders_k30) storeOrders_k31)
theorem storeOrders_named : Tryz.prog.funcNamed "lexicon/lexiconlaw19.StoreOrders" = some 3 := by kernel_rfl
theorem storeOrders_inst : Tryz.f3.isInstance Tryz.prog Rows.storeOrdersRow.origin Rows.storeOrdersRow.targs := of_decide_eq_true (by kernel_rfl)
theorem storeOrders_wrap : Tryz.f3.isWrapper Tryz.prog Rows.storeOrdersRow.wrapper Rows.storeOrdersRow.mainSum := by unfold Func.isWrapper; first | (rw [if_pos (by decide +kernel)]; kernel_rfl) | (rw [if_neg (by decide +kernel)]; exact ⟨rfl, rfl⟩)
theorem storeOrders_text : Rows.storeOrdersRow.wfByText (OpenSpec.ofChange Rows.storeOrdersSpec) = true := by kernel_rfl
theorem storeOrders_main : Tryz.prog.mainIs = some (true, "4243b92fe792b895953a9d0a3cd1ce26192605eadd47aad8d6d7a1e491494870".toList) := by kernel_rfl
theorem storeOrders_looks : true = Tryz.prog.looks [] := by kernel_rfl
theorem storeOrders_goes : false = Rows.storeOrdersRow.goesBy Tryz.prog := by kernel_rfl
end Go.Proofs.YtdmoefbfepeeaaaGreatDoor

