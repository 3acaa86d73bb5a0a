/- Part of a proof over the given program: texts of lemmas (conditions: none beyond each lemma as stated). -/
import Derived.Test.YtdmoefbfepeeaaaGreatDoorN4
import Derived.Test.YtdmoefbfepeeaaaGreatDoorProg
set_option linter.unnecessarySimpa false
set_option linter.unusedVariables false
set_option linter.unusedSimpArgs false

namespace Go.Fw
theorem calls_of_vc' {P:Program} (hP:Plain P) (hM:P.follows .mixedOrders=true) {f:FuncId} {fn:Func} {args:List Value} {w:World} {Q:Value->World->Prop} (ann:Nat->Ann)
  (hf:P.funcs[f]?=some fn) (hle:Nat.ble args.length fn.ntmps=true)
  (h:match fn.body with | some c=>wpC P fn.ntmps ann c 0 (resQ P fn.ntmps fn.results.toList Q) (argsF args) w | none=>False):Calls P f args.toArray w λ e w'=>∃v,e=.returned v/\Q v w':=by
 split at h
 ·rename_i c hb;exact calls_of_vc hP hM ann hf hb hle h
 ·exact h.elim
def allPlain (P:Program):Bool:=P.funcs.toList.all λ fn=>!(fn.name == "runtime.NumGoroutine")
theorem plain_of {P:Program} (h:allPlain P=true):Plain P:=by
 intro f fn hf
 have hm:fn ∈ P.funcs.toList:=by rw [Array.mem_toList_iff];exact Array.mem_of_getElem? hf
 have:=List.all_eq_true.1 h fn hm
 simpa using this
open Go.Proofs
theorem pPlain:Plain Tryz.prog:=plain_of (by kernel_rfl)
theorem pMixed:Tryz.prog.follows .mixedOrders=true:=by kernel_rfl
theorem sound_of {f:FuncId} {fn:Func} {args:List Value} {w:World} {Q:Value->World->Prop} (hf:Tryz.prog.funcs[f]?=some fn) (ann:Nat->Ann) (hle:Nat.ble args.length fn.ntmps=true)
  (h:match fn.body with | some c=>wpC Tryz.prog fn.ntmps ann c 0 (resQ Tryz.prog fn.ntmps fn.results.toList Q) (argsF args) w | none=>False) :
  Calls Tryz.prog f args.toArray w λ e w'=>∃v,e=.returned v/\Q v w':=calls_of_vc' pPlain pMixed ann hf hle h
end Go.Fw
