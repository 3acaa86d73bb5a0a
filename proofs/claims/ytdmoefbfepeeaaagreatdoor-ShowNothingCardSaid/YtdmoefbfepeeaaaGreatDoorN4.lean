/- Part of a proof over the given program: texts of lemmas (conditions: none beyond each lemma as stated). -/
import Derived.Test.YtdmoefbfepeeaaaGreatDoorN3
import Derived.KernelRfl
set_option linter.unnecessarySimpa false
set_option linter.unusedVariables false
set_option linter.unusedSimpArgs false

namespace Go.Fw
def argsF (vs:List Value):Fr:=λ t=>match vs[t]? with | some v=>v | none=>undef
def resL (P:Program) (n:Nat) (ρ:Fr) (w:World) (l:List ResultVar) (K:List Value->Prop):Prop:=match l with
 | []=>K []
 | .tmp t :: l=>resL P n ρ w l λ vs=>K (ev n ρ (.tmp t) :: vs)
 | .cell a t :: l=>match ev n ρ (.tmp a) with
  | .pointer (some ad)=>ldK P t w ad λ v=>resL P n ρ w l λ vs=>K (v :: vs)
  | _=>False
def resV (P:Program) (n:Nat) (rs:List ResultVar) (Qr:Value->World->Prop) (ρ:Fr) (w:World):Prop:=
 resL P n ρ w rs λ vs=>match vs with | [v]=>Qr v w | vs=>Qr (.tuple vs.toArray) w
def resQ (P:Program) (n:Nat) (rs:List ResultVar) (Qr:Value->World->Prop):Exit->Fr->World->Prop
 | .normal,ρ,w=>resV P n rs Qr ρ w
 | .ret,ρ,w=>resV P n rs Qr ρ w
 | _,_,_=>False
theorem resL_run {P:Program} {n:Nat} {a:Act} {ρ:Fr} {w:World} (hr:Rep n a ρ):∀(l:List ResultVar) (K:List Value->Prop),resL P n ρ w l K->
  ∃vs,(l.mapM (λ (x:ResultVar)=>(match x with | .tmp t=>pure (a.tmps.getD t undef) | .cell ad t=>do loadVar t (<-asAddr (a.tmps.getD ad undef)):Sem Value))).run P w=.ok vs w/\vs.length=l.length/\K vs
 | [],K,h=>⟨[],by simp,rfl,h⟩
 | .tmp t :: l,K,h=>by
  obtain ⟨vs,hm,hl,hK⟩:=resL_run hr l _ h
  have he:a.tmps.getD t undef=ev n ρ (.tmp t):=hr.eval (.tmp t)
  refine ⟨_,?_,?_,hK⟩
  ·rw [List.mapM_cons]
   simp only [Sem.run_bind,Sem.run_pure,Result.andThen,hm,he]
  ·simp [hl]
 | .cell ad t :: l,K,h=>by
  unfold resL at h
  split at h
  ·rename_i addr had
   obtain ⟨v,hv,h⟩:=ldK_run h
   obtain ⟨vs,hm,hl,hK⟩:=resL_run hr l _ h
   have he:a.tmps.getD ad undef=.pointer (some addr):=by rw [<-had];exact hr.eval (.tmp ad)
   refine ⟨_,?_,?_,hK⟩
   ·rw [List.mapM_cons,Sem.run_bind]
    have hc:((do loadVar t (<-asAddr (a.tmps.getD ad undef))):Sem Value).run P w=.ok v w:=by
     rw [he];simp [asAddr,hv]
    erw [hc]
    simp only [Result.andThen]
    rw [Sem.run_bind]
    erw [hm]
    rfl
   ·simp [hl]
  ·exact h.elim
theorem calls_of_vc {P:Program} (hP:Plain P) (hM:P.follows .mixedOrders=true) {f:FuncId} {fn:Func} {c:Code} {args:List Value} {w:World} {Q:Value->World->Prop} (ann:Nat->Ann)
  (hf:P.funcs[f]?=some fn) (hb:fn.body=some c) (hle:Nat.ble args.length fn.ntmps=true)
  (h:wpC P fn.ntmps ann c 0 (resQ P fn.ntmps fn.results.toList Q) (argsF args) w):Calls P f args.toArray w λ e w'=>∃v,e=.returned v/\Q v w':=by
 have hle:=Nat.le_of_ble_eq_true hle
 refine (callsIn_wide (n:=0)).1 (callsIn_of_wp (F:=Fence.wide) hf hb trivial ?_)
 have hrep:Rep fn.ntmps { tmps:=args.toArray ++ Array.replicate (fn.ntmps-args.toArray.size) undef,defers:=[] } (argsF args):=by
  refine ⟨by simp;omega,λ t ht=>?_⟩
  simp only [argsF,List.size_toArray]
  by_cases hlt:t<args.length
  ·rw [Array.getElem?_append_left (by simpa using hlt)]
   simp [hlt]
  ·rw [Array.getElem?_append_right (by simpa using hlt)]
   have:args[t]?=none:=by simp;omega
   rw [this,Array.getElem?_replicate,if_pos (by simp only [List.size_toArray];omega)]
 have hs:=wpC_sound (rd:=none) (m:=0) hP hM c 0 (λ _=>none) _ _ w (λ _ _=>rfl) ⟨_,hrep,rfl,(λ t v hv=>by cases hv),h⟩
 refine wpIn_mono hs λ e a w' hq=>?_
 have fin:∀{a:Act} {w':World},Real fn.ntmps [] (λ _=>none) (resV P fn.ntmps fn.results.toList Q) a w'->
   a.defers=[]/\∃v,(results fn a.tmps).run P w'=.ok v w'/\∃u,Ending.returned v=.returned u/\Q u w':=by
  rintro a w' ⟨ρ,hr,hd,_,hq⟩
  obtain ⟨vs,hm,hl,hK⟩:=resL_run hr _ _ hq
  have hm':(fn.results.mapM (λ (x:ResultVar)=>(match x with | .tmp t=>pure (a.tmps.getD t undef) | .cell ad t=>do loadVar t (<-asAddr (a.tmps.getD ad undef)):Sem Value))).run P w'=.ok vs.toArray w':=by
   rw [Array.mapM_eq_mapM_toList]
   simp only [map_eq_pure_bind,Sem.run_bind,hm,Result.andThen,Sem.run_pure]
  refine ⟨hd,?_⟩
  split at hK
  ·rename_i v
   exact ⟨v,by unfold results;rw [Sem.run_bind];erw [hm'];rfl,v,rfl,hK⟩
  ·rename_i hne
   refine ⟨.tuple vs.toArray,?_,_,rfl,hK⟩
   unfold results
   rw [Sem.run_bind]
   erw [hm']
   have hs:¬vs.toArray.size=1:=by
    intro hc
    match vs,hc with
    | [v],_=>exact hne v rfl
   simp only [Result.andThen,dif_neg hs]
   rfl
 cases e with
 | normal=>exact fin hq
 | ret=>exact fin hq
 | exit id=>obtain ⟨ρ,_,_,_,hq⟩:=hq;exact hq
 | goto l=>exact False.elim hq
 | panic c=>exact False.elim hq
 | outgrown=>exact False.elim hq
end Go.Fw
