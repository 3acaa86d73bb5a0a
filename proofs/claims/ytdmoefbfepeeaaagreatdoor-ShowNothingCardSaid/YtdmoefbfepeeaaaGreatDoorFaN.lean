/- Part of a proof over the given program: texts of lemmas (conditions: none beyond each lemma as stated). -/
import Derived.Test.YtdmoefbfepeeaaaGreatDoorRows
import Derived.Test.YtdmoefbfepeeaaaGreatDoorCards
import Derived.ProofKit
import Derived.JoinedOf
import Derived.SevenTiedAt
set_option linter.unnecessarySimpa false
set_option linter.unusedVariables false
set_option linter.unusedSimpArgs false
set_option maxRecDepth 100000
namespace Go.Proofs.YtdmoefbfepeeaaaGreatDoor
open Go.ChangeShapes Go.WideShapes Go.ChangeAt Go.RowKit
theorem showNothing_k0:(Rows.showNothingRow.wf (OpenSpec.ofChange Rows.showNothingSpec))=true:=by kernel_rfl
theorem showNothing_k1:(laidOutB Tryz.prog)=true:=by kernel_rfl
theorem showNothing_k2:(mapsRowed Tryz.prog)=true:=by kernel_rfl
theorem showNothing_k3:(Tryz.f6.params.all (Tryz.prog.readableRec ·))=true:=by kernel_rfl
theorem showNothing_k4:(namedTie Tryz.prog Rows.showNothingRow.named Rows.showNothingSpec.vars)=true:=by kernel_rfl
theorem showNothing_k5:((Rows.showNothingRow.stops == []))=true:=by kernel_rfl
theorem showNothing_k6:((Tryz.prog.stops == []))=true:=by kernel_rfl
theorem showNothing_k7:((Rows.showNothingRow.knobs == []))=true:=by kernel_rfl
theorem showNothing_k8:((Tryz.prog.stopKnobs == []))=true:=by kernel_rfl
theorem showNothing_k9:((Rows.showNothingRow.inPlace == Tryz.prog.inPlace 6))=true:=by kernel_rfl
theorem showNothing_k10:((Rows.showNothingRow.unfollowed == Tryz.prog.unfollowed 6))=true:=by kernel_rfl
theorem showNothing_k11:((Rows.showNothingRow.recurses == Tryz.prog.recurses 6))=true:=by kernel_rfl
theorem showNothing_k12:((Rows.showNothingRow.named == Tryz.prog.varsNamed 6))=true:=by kernel_rfl
theorem showNothing_k13:((Rows.showNothingRow.maps == (Tryz.f6.params.toList ++ Rows.showNothingSpec.plain.varTypes Tryz.prog).any (Tryz.prog.mapsRec ·)))=true:=by kernel_rfl
theorem showNothing_k14:((Rows.showNothingRow.ifaces == (Tryz.f6.params.toList ++ Rows.showNothingSpec.plain.varTypes Tryz.prog).any (Tryz.prog.ifacesRec ·)))=true:=by kernel_rfl
theorem showNothing_k15:((Rows.showNothingRow.mapsOut == Tryz.prog.mapsAmong Tryz.f6.resultTypes.toList))=true:=by kernel_rfl
theorem showNothing_k16:((Rows.showNothingRow.loops == (Tryz.f6.params.toList ++ Rows.showNothingSpec.plain.varTypes Tryz.prog).any (Tryz.prog.loopsFrom ·)))=true:=by kernel_rfl
theorem showNothing_k17:((Rows.showNothingRow.wideKeys == (Tryz.f6.params.toList ++ Rows.showNothingSpec.plain.varTypes Tryz.prog ++ Tryz.f6.resultTypes.toList).any (Tryz.prog.wideKeysFrom ·)))=true:=by kernel_rfl
theorem showNothing_k18:(Rows.showNothingSpec.vars.all (Tryz.prog.varReadable ·))=true:=by kernel_rfl
theorem showNothing_k19:(Tryz.f6.resultTypes.all (λ t=>Tryz.prog.readableRec t && decide (t<Tryz.prog.types.size)))=true:=by kernel_rfl
theorem showNothing_k20:((Rows.showNothingRow.ifacesOut == Tryz.f6.resultTypes.toList.any (Tryz.prog.ifacesRec ·)))=true:=by kernel_rfl
theorem showNothing_k21:((Rows.showNothingRow.loopsOut == Tryz.f6.resultTypes.toList.any (Tryz.prog.loopsFrom ·)))=true:=by kernel_rfl
theorem showNothing_k22:((Rows.showNothingRow.plainKeys == Tryz.prog.plainKeys))=true:=by kernel_rfl
theorem showNothing_k23:(Rows.showNothingRow.shortTexts.isNone)=true:=by kernel_rfl
theorem showNothing_k24:(Tryz.prog.stopsHeard)=true:=by kernel_rfl
theorem showNothing_k25:(Tryz.prog.mayEnter)=true:=by kernel_rfl
theorem showNothing_k26:((Rows.showNothingRow.lifted == Tryz.prog.liftsFinal))=true:=by kernel_rfl
theorem showNothing_k27:((Tryz.prog.make == some Rows.showNothingRow.make))=true:=by kernel_rfl
theorem showNothing_k28:((Rows.showNothingRow.kinds == (if Rows.showNothingRow.domain.isEmpty then [] else Tryz.f6.params.toList.map λ t=>match Tryz.prog.underlying t with | some (.int k)=>some k | _=>none)))=true:=by kernel_rfl
theorem showNothing_k29:((Rows.showNothingRow.pinned == Rows.showNothingRow.pinnedBy))=true:=by kernel_rfl
theorem showNothing_k30:((Rows.showNothingRow.veiled == (Tryz.f6.params.toList ++ Rows.showNothingSpec.plain.varTypes Tryz.prog ++ Tryz.f6.resultTypes.toList).any (Tryz.prog.veiledRec ·)))=true:=by kernel_rfl
theorem showNothing_k31:(Rows.showNothingRow.veiledFits Tryz.prog Tryz.f6.params.toList (Tryz.f6.params.toList ++ Rows.showNothingSpec.plain.varTypes Tryz.prog ++ Tryz.f6.resultTypes.toList))=true:=by kernel_rfl
theorem and2 {a b:Bool} (h:a=true) (h1:b=true):(a && b)=true:=by rw [h,h1];rfl
theorem showNothing_closed:joinedFacts Tryz.prog 6 Tryz.f6 Rows.showNothingSpec Rows.showNothingRow=true:=by
 unfold joinedFacts
 exact (and2 (and2 (and2 (and2 (and2 (and2 (and2 (and2 (and2 (and2 (and2 (and2 (and2 (and2 (and2 (and2 (and2 (and2 (and2 (and2 (and2 (and2 (and2 (and2 (and2 (and2 (and2 (and2 (and2 (and2 (and2 showNothing_k0 showNothing_k1) showNothing_k2) showNothing_k3) showNothing_k4) showNothing_k5) showNothing_k6) showNothing_k7) showNothing_k8) showNothing_k9) showNothing_k10) showNothing_k11) showNothing_k12) showNothing_k13) showNothing_k14) showNothing_k15) showNothing_k16) showNothing_k17) showNothing_k18) showNothing_k19) showNothing_k20) showNothing_k21) showNothing_k22) showNothing_k23) showNothing_k24) showNothing_k25) showNothing_k26) showNothing_k27) showNothing_k28) showNothing_k29) showNothing_k30) showNothing_k31)
theorem showNothing_named:Tryz.prog.funcNamed "lexicon/lexiconlaw22.ShowNothing"=some 6:=by kernel_rfl
theorem showNothing_inst:Tryz.f6.isInstance Tryz.prog Rows.showNothingRow.origin Rows.showNothingRow.targs:=of_decide_eq_true (by kernel_rfl)
theorem showNothing_wrap:Tryz.f6.isWrapper Tryz.prog Rows.showNothingRow.wrapper Rows.showNothingRow.mainSum:=by unfold Func.isWrapper;first | (rw [if_pos (by decide +kernel)];kernel_rfl) | (rw [if_neg (by decide +kernel)];exact ⟨rfl,rfl⟩)
theorem showNothing_text:Rows.showNothingRow.wfByText (OpenSpec.ofChange Rows.showNothingSpec)=true:=by kernel_rfl
theorem showNothing_main:Tryz.prog.mainIs=some (true,"4243b92fe792b895953a9d0a3cd1ce26192605eadd47aad8d6d7a1e491494870".toList):=by kernel_rfl
theorem showNothing_looks:true=Tryz.prog.looks []:=by kernel_rfl
theorem showNothing_goes:false=Rows.showNothingRow.goesBy Tryz.prog:=by kernel_rfl
end Go.Proofs.YtdmoefbfepeeaaaGreatDoor
