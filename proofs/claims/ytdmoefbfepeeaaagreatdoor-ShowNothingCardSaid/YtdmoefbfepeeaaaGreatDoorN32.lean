/- Part of a proof over the given program: texts of lemmas (conditions: none beyond each lemma as stated). -/
import Derived.Test.YtdmoefbfepeeaaaGreatDoorN31
import Derived.LaidSub
set_option linter.unnecessarySimpa false
set_option linter.unusedVariables false
set_option linter.unusedSimpArgs false

namespace Go.Proofs.YtdmoefbfepeeaaaGreatDoor
open Go.Lib Go.ChangeShapes Go.WideShapes Go.ChangeAt Go.RowKit Go.Fw
noncomputable def powOk:Option Nat->Bool
 | some g=>match (Tryz.prog.globals[g]?).map (·.type) with
  | some t=>match Tryz.prog.underlying t with
   | some (.array n e)=>(match Tryz.prog.underlying e with | some (.int .u64)=>true | _=>false) && (Tryz.prog.cellsOf e == 1 && Tryz.prog.cellsOf t == n)
   | _=>false
  | _=>false
 | _=>false
theorem pow_ok:powOk (Tryz.prog.globalNamed "internal/strconv.uint64pow10")=true:=by kernel_rfl
theorem pow_facts:∃g t e n,Tryz.prog.globalNamed "internal/strconv.uint64pow10"=some g/\(Tryz.prog.globals[g]?).map (·.type)=some t/\Tryz.prog.underlying t=some (.array n e)/\Tryz.prog.underlying e=some (.int .u64)/\Tryz.prog.cellsOf e=1/\Tryz.prog.cellsOf t=n:=by
 have h:=pow_ok
 cases hg:Tryz.prog.globalNamed "internal/strconv.uint64pow10" with
 | none=>rw [hg] at h;cases h
 | some g=>
  rw [hg] at h
  unfold powOk at h
  simp only at h
  cases ht:(Tryz.prog.globals[g]?).map (·.type) with
  | none=>rw [ht] at h;cases h
  | some t=>
   rw [ht] at h
   simp only at h
   split at h
   ·rename_i n e hu
    simp only [Bool.and_eq_true,beq_iff_eq] at h
    refine ⟨g,t,e,n,rfl,ht,hu,?_,h.2.1,h.2.2⟩
    have h1:=h.1
    split at h1
    ·rename_i hx
     exact hx
    ·cases h1
   ·cases h
theorem laid_tab:(Rows.storeOrdersRow.laid.filter λ p=>p.1 == "internal/strconv.uint64pow10")=[("internal/strconv.uint64pow10",tabData .u64 pow10Tab)]:=by kernel_rfl
theorem tab_of_laid {W:World} (h:laidMetH Tryz.prog Rows.storeOrdersRow.laid W):TabIs Tryz.prog W "internal/strconv.uint64pow10" .u64 pow10Tab:=by
 rw [MakeChecks.laidMetH_plain _ _ _ (by kernel_rfl)] at h
 have h2:=laidMet.filter (λ p=>p.1 == "internal/strconv.uint64pow10") h
 obtain ⟨g,t,e,n,a1,a2,a3,a4,a5,a6⟩:=pow_facts
 have e1:=laid_tab
 rw [e1] at h2
 exact tabIs_of_head a1 a2 a3 a4 a5 a6 h2
end Go.Proofs.YtdmoefbfepeeaaaGreatDoor
