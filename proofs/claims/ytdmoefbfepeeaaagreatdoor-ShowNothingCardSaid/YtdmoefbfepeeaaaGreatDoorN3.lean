/- Part of a proof over the given program: texts of lemmas (conditions: none beyond each lemma as stated). -/
import Derived.Test.YtdmoefbfepeeaaaGreatDoorN2
set_option linter.unnecessarySimpa false
set_option linter.unusedVariables false
set_option linter.unusedSimpArgs false

namespace Go.Fw
def ldAgain (P:Program) (t:TypeId) (w:World) (a:Addr) (v:Value):Prop:=match shapeOf P t with
 | .one _=>w.cell? a=some v
 | .agg _=>match v with | .agg cs=>CellsAt w a cs.toList | _=>False
noncomputable def vcQuiet (P:Program) (n:Nat) (ρ:Fr) (o:Oper) (w:World) (K:Value->Option (World->Prop)->Prop):Prop:=match o.op with
 | .load t x=>match ev n ρ x with | .pointer (some a)=>ldK P t w a λ v=>K v (some λ w'=>ldAgain P t w' a v) | _=>False
 | _=>match isPure P o.op with | true=>vcPure P n ρ o λ v=>K v none | false=>False
def isQuiet (P:Program) (o:Op):Bool:=match o with | .load _ _=>true | _=>isPure P o
def readyM (ops:Array Oper) (mask:Nat) (i:Nat):Bool:=match ops[i]? with
 | some o=>!mask.testBit i && o.after.toList.all λ e=>!Region.binds .any e || mask.testBit e.on
 | none=>false
def readyL (ops:Array Oper) (mask:Nat):List Nat:=(List.range ops.size).filter (readyM ops mask)
def findQ (P:Program) (ops:Array Oper) (mask:Nat):Option Nat:=(readyL ops mask).find? λ i=>match ops[i]? with | some o=>isQuiet P o.op | none=>false
def pairOK (ops:Array Oper) (bf:List Nat):Bool:=(List.range ops.size).all λ i=>match ops[i]? with
 | none=>true
 | some oi=>(List.range ops.size).all λ j=>Nat.beq j i || (bf.getD j 0).testBit i || (bf.getD i 0).testBit j || (match ops[j]? with | some oj=>oi.apart ops oj | none=>true)
def noSD (ops:Array Oper):Bool:=ops.toList.all λ o=>match o.op with | .select _ _=>false | .defer _=>false | _=>true
def addC (i:Nat) (φ:Option (World->Prop)) (R:Checks):Checks:=match φ with | some φ=>(i,φ) :: R | none=>R
def dropC (bm:Nat) (R:Checks):Checks:=R.filter λ r=>!bm.testBit r.1
def recK (bm:Nat) (R:Checks) (w:World) (X:Prop):Prop:=match R with
 | []=>X
 | r :: R=>match bm.testBit r.1 with
  | true=>recK bm R w X
  | false=>r.2 w/\recK bm R w X
def allK (f:Nat->Prop):List Nat->Prop
 | []=>True
 | [x]=>f x
 | x :: y :: l=>f x/\allK f (y :: l)
noncomputable def vcD (P:Program) (n:Nat) (ops:Array Oper) (bf:List Nat) (fuel:Nat):Nat->Checks->(Fr->World->Prop)->Fr->World->Prop:=
 Nat.rec (motive:=λ _=>Nat->Checks->(Fr->World->Prop)->Fr->World->Prop)
  (λ mask _ K ρ w=>match readyL ops mask with | []=>K ρ w | _=>False)
  (λ _ ih mask R K ρ w=>match findQ P ops mask with
   | some i=>match ops[i]? with
    | none=>False
    | some o=>guardV n ops o ρ (λ ρ=>vcQuiet P n ρ o w λ v φ=>ih (mask ||| 2 ^ i) (addC i φ R) K (updO ρ o.dst v) w) (λ ρ=>ih (mask ||| 2 ^ i) R K (updO ρ o.dst undef) w)
   | none=>match readyL ops mask with
    | []=>K ρ w
    | i :: l=>allK (λ i=>match ops[i]? with
     | none=>False
     | some o=>guardV n ops o ρ (λ ρ=>vcOp P n ρ o w λ v w'=>recK (bf.getD i 0) R w' (ih (mask ||| 2 ^ i) (dropC (bf.getD i 0) R) K (updO ρ o.dst v) w'))
       (λ ρ=>ih (mask ||| 2 ^ i) (dropC (bf.getD i 0) R) K (updO ρ o.dst undef) w)) (i :: l)) fuel
def strict {α:Sort _} (n:Nat) (f:Nat->α):α:=Nat.casesOn (motive:=λ _=>α) n (f 0) λ k=>f (k+1)
theorem strict_eq {α:Sort _} (n:Nat) (f:Nat->α):strict n f=f n:=by cases n <;> rfl
def strictB {α:Sort _} (b:Bool) (f:Bool->α):α:=Bool.casesOn (motive:=λ _=>α) b (f false) (f true)
theorem strictB_eq {α:Sort _} (b:Bool) (f:Bool->α):strictB b f=f b:=by cases b <;> rfl
def tb (m i:Nat):Bool:=Nat.beq (Nat.land (Nat.shiftRight m i) 1) 1
theorem tb_eq (m i:Nat):tb m i=m.testBit i:=by
 unfold tb Nat.testBit
 have h:Nat.land (Nat.shiftRight m i) 1=(m >>> i) % 2:=Nat.and_one_is_mod _
 have h2:1 &&& (m >>> i)=(m >>> i) % 2:=by rw [Nat.and_comm];exact Nat.and_one_is_mod _
 rw [h,h2]
 rcases Nat.mod_two_eq_zero_or_one (m >>> i) with h | h <;> rw [h] <;> rfl
structure Row where
 i:Nat
 d:Nat
 b:Nat
 q:Bool
 o:Oper
def dmOf (o:Oper):Nat:=o.after.toList.foldl (λ s e=>match Region.binds .any e with | true=>s ||| 2 ^ e.on | false=>s) 0
def accAt (len:Nat) (acc:List Nat) (j:Nat):Nat:=match Nat.blt j len with | true=>acc.getD (len-1-j) 0 | false=>0
def bfMaskR (o:Oper) (len:Nat) (acc:List Nat):Nat:=o.after.toList.foldl (λ s e=>match Region.binds .any e with | true=>s ||| 2 ^ e.on ||| accAt len acc e.on | false=>s) 0
def rowsOf (P:Program):List Oper->Nat->List Nat->List Row
 | [],_,_=>[]
 | o :: l,i,acc=>⟨i,dmOf o,bfMaskR o i acc,isQuiet P o.op,o⟩ :: rowsOf P l (i+1) (bfMaskR o i acc :: acc)
noncomputable def rowsK (P:Program) (l:List Oper):Nat->List Nat->(List Row->Prop)->Prop:=
 List.rec (motive:=λ _=>Nat->List Nat->(List Row->Prop)->Prop) (λ _ _ f=>f [])
  (λ o _ ih i acc f=>strict (dmOf o) λ d=>strict (bfMaskR o i acc) λ b=>strictB (isQuiet P o.op) λ q=>strict (i+1) λ i'=>ih i' (b :: acc) λ L=>f (⟨i,d,b,q,o⟩ :: L)) l
theorem rowsK_eq (P:Program):∀(l:List Oper) (i:Nat) (acc:List Nat) (f:List Row->Prop),rowsK P l i acc f=f (rowsOf P l i acc)
 | [],_,_,_=>rfl
 | o :: l,i,acc,f=>by
  change strict (dmOf o) (λ d=>strict (bfMaskR o i acc) λ b=>strictB (isQuiet P o.op) λ q=>strict (i+1) λ i'=>rowsK P l i' (b :: acc) λ L=>f (⟨i,d,b,q,o⟩ :: L))=_
  rw [strict_eq,strict_eq,strictB_eq,strict_eq,rowsK_eq P l]
  rfl
def rdy (mask:Nat) (r:Row):Bool:=match tb mask r.i with | true=>false | false=>Nat.beq (Nat.land r.d mask) r.d
def rdyQ (mask:Nat) (r:Row):Bool:=match r.q with | true=>rdy mask r | false=>false
def pairR (ops:Array Oper) (L:List Row):Bool:=L.all λ x=>L.all λ y=>Nat.beq y.i x.i || tb y.b x.i || tb x.b y.i || x.o.apart ops y.o
def allR (f:Row->Prop):List Row->Prop
 | []=>True
 | [x]=>f x
 | x :: y :: l=>f x/\allR f (y :: l)
noncomputable def vcR (P:Program) (n:Nat) (ops:Array Oper) (L:List Row) (fuel:Nat):Nat->Checks->(Fr->World->Prop)->Fr->World->Prop:=
 Nat.rec (motive:=λ _=>Nat->Checks->(Fr->World->Prop)->Fr->World->Prop)
  (λ mask _ K ρ w=>match L.filter (rdy mask) with | []=>K ρ w | _=>False)
  (λ _ ih mask R K ρ w=>match L.find? (rdyQ mask) with
   | some r=>guardV n ops r.o ρ (λ ρ=>vcQuiet P n ρ r.o w λ v φ=>strict (mask ||| 2 ^ r.i) λ m=>ih m (addC r.i φ R) K (updO ρ r.o.dst v) w) (λ ρ=>strict (mask ||| 2 ^ r.i) λ m=>ih m R K (updO ρ r.o.dst undef) w)
   | none=>match L.filter (rdy mask) with
    | []=>K ρ w
    | r :: l=>allR (λ r=>guardV n ops r.o ρ (λ ρ=>vcOp P n ρ r.o w λ v w'=>recK r.b R w' (strict (mask ||| 2 ^ r.i) λ m=>ih m (dropC r.b R) K (updO ρ r.o.dst v) w'))
       (λ ρ=>strict (mask ||| 2 ^ r.i) λ m=>ih m (dropC r.b R) K (updO ρ r.o.dst undef) w)) (r :: l)) fuel
noncomputable def vcRegion (P:Program) (n:Nat) (ops:Array Oper) (draw:Bool) (K:Fr->World->Prop) (ρ:Fr) (w:World):Prop:=match draw with
 | false=>vcList P n ops ops.toList K ρ w
 | true=>rowsK P ops.toList 0 [] λ L=>match noSD ops && pairR ops L with
  | true=>vcR P n ops L ops.size 0 [] K ρ w.drew
  | false=>False
section
variable {P:Program} {n:Nat} {ρ:Fr} {o:Oper} {ops:Array Oper}
theorem ldK_again {t:TypeId} {w:World} {a:Addr} {K:Value->Prop} (h:ldK P t w a K) :
  ∃v,(∀w',ldAgain P t w' a v->(loadVar t a).run P w'=.ok v w')/\ldAgain P t w a v/\K v:=by
 unfold ldK at h
 split at h
 ·rename_i d hu
  unfold ldS at h
  have one:∀{v:Value} {g:Tag},shapeOf P t=.one g->w.cell? a=some v->(∀w',ldAgain P t w' a v->(loadVar t a).run P w'=.ok v w')/\ldAgain P t w a v:=by
   intro v g hs hc
   refine ⟨λ w' h=>?_,by unfold ldAgain;rw [hs];exact hc⟩
   unfold ldAgain at h
   rw [hs] at h
   simp only at h
   simp [loadVar,shape_one hu hs,load,Sem.run,h]
  split at h
  ·obtain ⟨x,hc,h⟩:=h;exact ⟨_,(one (by assumption) hc).1,(one (by assumption) hc).2,h⟩
  ·obtain ⟨x,hc,h⟩:=h;exact ⟨_,(one (by assumption) hc).1,(one (by assumption) hc).2,h⟩
  ·obtain ⟨x,hc,h⟩:=h;exact ⟨_,(one (by assumption) hc).1,(one (by assumption) hc).2,h⟩
  ·obtain ⟨x,hc,h⟩:=h;exact ⟨_,(one (by assumption) hc).1,(one (by assumption) hc).2,h⟩
  ·obtain ⟨x,y,z,hc,h⟩:=h;exact ⟨_,(one (by assumption) hc).1,(one (by assumption) hc).2,h⟩
  ·obtain ⟨x,hc,h⟩:=h;exact ⟨_,(one (by assumption) hc).1,(one (by assumption) hc).2,h⟩
  ·obtain ⟨x,hc,h⟩:=h;exact ⟨_,(one (by assumption) hc).1,(one (by assumption) hc).2,h⟩
  ·rename_i ts hs
   obtain ⟨i,hi,h⟩:=szK_of h
   split at h
   ·rename_i hl
    have hl:=Nat.eq_of_beq_eq_true hl
    obtain ⟨vs,hvl,hc,hK⟩:=exTags_ex h
    refine ⟨_,λ w' hw'=>?_,by unfold ldAgain;rw [hs];exact hc,hK⟩
    unfold ldAgain at hw'
    rw [hs] at hw'
    have:=loadCells_run (P:=P) vs 0 #[] hw'
    simp only [loadVar,Sem.run_bind,shape_agg hs,Result.andThen,if_true,sizeOf,run_typeInfo w' hi,Sem.run_pure,loadCells]
    rw [<-hl,<-hvl,this]
    simp
   ·exact h.elim
 ·exact h.elim
theorem vcQuiet_of {w:World} {K:Value->Option (World->Prop)->Prop} (h:vcQuiet P n ρ o w K) :
  (∀c,o.op≠.defer c)/\∃v φ,(∀w',(∀f,φ=some f->f w')->(execOp (ev n ρ) o).run P w'=.ok (.value v) w')/\(∀f,φ=some f->f w)/\K v φ:=by
 unfold vcQuiet at h
 split at h
 ·rename_i t x ho
  refine ⟨(λ c hc=>by rw [ho] at hc;cases hc),?_⟩
  split at h
  ·rename_i a hx
   obtain ⟨v,hr,hφ,hK⟩:=ldK_again h
   refine ⟨v,_,λ w' hw'=>?_,(λ f hf=>by cases hf;exact hφ),hK⟩
   have:=hr w' (hw' _ rfl)
   have he:execOp (ev n ρ) o=(do pure (Next.value (<-Instr.loadAt t (ev n ρ x)))):=by simp only [execOp,ho]
   rw [he]
   exact run_v (by simp [Instr.loadAt,hx,Instr.sureAddr,this])
  ·exact h.elim
 ·split at h
  ·rename_i hp
   obtain ⟨v,hg,hK⟩:=vcPure_gives hp h
   exact ⟨isPure_noDefer hp,v,none,λ w' _=>hg w',(λ f hf=>by cases hf),hK⟩
  ·exact h.elim
theorem bfs_spec (ops:Array Oper):∀(l:List Oper) (acc:List Nat),(∀j,l[j]?=ops[acc.length+j]?)->
  (∀j,j<acc.length->∃o,ops[j]?=some o/\∀k,(acc.getD j 0).testBit k=true->∃e ∈ o.after,Region.binds .any e=true/\(e.on=k\/(e.on<acc.length/\(acc.getD e.on 0).testBit k=true)))->
  let r:=bfs l acc
  (∀j,j<r.length->∃o,ops[j]?=some o/\∀k,(r.getD j 0).testBit k=true->∃e ∈ o.after,Region.binds .any e=true/\(e.on=k\/(e.on<r.length/\(r.getD e.on 0).testBit k=true)))
 | [],acc,_,h=>h
 | o :: l,acc,hl,h=>by
  have h0:ops[acc.length]?=some o:=by simpa using (hl 0).symm
  refine bfs_spec ops l (acc ++ [bfMask o acc]) (λ j=>?_) (λ j hj=>?_)
  ·have:=hl (j+1)
   simp only [List.length_append,List.length_cons,List.length_nil]
   rw [show acc.length+(0+1)+j=acc.length+(j+1) by omega,<-this]
   simp
  ·simp only [List.length_append,List.length_cons,List.length_nil] at hj
   by_cases hlt:j<acc.length
   ·obtain ⟨oj,hoj,hk⟩:=h j hlt
    refine ⟨oj,hoj,λ k hb=>?_⟩
    rw [show (acc ++ [bfMask o acc]).getD j 0=acc.getD j 0 by simp [List.getD,List.getElem?_append_left hlt]] at hb
    obtain ⟨e,he,hbd,hor⟩:=hk k hb
    refine ⟨e,he,hbd,hor.imp id λ ⟨h1,h2⟩=>⟨by simp;omega,?_⟩⟩
    rw [show (acc ++ [bfMask o acc]).getD e.on 0=acc.getD e.on 0 by simp [List.getD,List.getElem?_append_left h1]]
    exact h2
   ·have hj':j=acc.length:=by omega
    subst hj'
    refine ⟨o,h0,λ k hb=>?_⟩
    rw [show (acc ++ [bfMask o acc]).getD acc.length 0=bfMask o acc by simp [List.getD]] at hb
    have key:∀(es:List Edge) (s:Nat),(es.foldl (λ s e=>match Region.binds .any e with | true=>s ||| 2 ^ e.on ||| acc.getD e.on 0 | false=>s) s).testBit k=true->
      s.testBit k=true\/∃e ∈ es,Region.binds .any e=true/\(e.on=k\/(acc.getD e.on 0).testBit k=true):=by
     intro es
     induction es with
     | nil=>intro s hs;exact .inl hs
     | cons e es ih=>
      intro s hs
      simp only [List.foldl_cons] at hs
      rcases ih _ hs with h1 | ⟨e',he',hh⟩
      ·split at h1
       ·rename_i hbd
        rw [Nat.testBit_or,Nat.testBit_or,Bool.or_eq_true,Bool.or_eq_true] at h1
        rcases h1 with (h1 | h1) | h1
        ·exact .inl h1
        ·refine .inr ⟨e,List.mem_cons_self,hbd,.inl ?_⟩
         rw [Nat.testBit_two_pow] at h1
         exact of_decide_eq_true h1
        ·exact .inr ⟨e,List.mem_cons_self,hbd,.inr h1⟩
       ·exact .inl h1
      ·exact .inr ⟨e',List.mem_cons_of_mem _ he',hh⟩
    rcases key o.after.toList 0 hb with h1 | ⟨e,he,hbd,hor⟩
    ·simp at h1
    ·refine ⟨e,Array.mem_toList_iff.1 he,hbd,hor.imp id λ h2=>?_⟩
     have h1:e.on<acc.length:=by
      rcases Nat.lt_or_ge e.on acc.length with h' | h'
      ·exact h'
      ·simp [List.getD,List.getElem?_eq_none h'] at h2
     refine ⟨by simp;omega,?_⟩
     rw [show (acc ++ [bfMask o acc]).getD e.on 0=acc.getD e.on 0 by simp [List.getD,List.getElem?_append_left h1]]
     exact h2
theorem bfs_length:∀(l:List Oper) (acc:List Nat),(bfs l acc).length=acc.length+l.length
 | [],acc=>rfl
 | o :: l,acc=>by
  change (bfs l (acc ++ [bfMask o acc])).length=_
  rw [bfs_length l]
  simp;omega
theorem bfOf_before (ops:Array Oper):Before ops λ j=>(bfOf ops).getD j 0:=by
 intro j o ho k hk
 have hj:j<(bfOf ops).length:=by
  rw [bfOf,bfs_length]
  simpa using (Array.getElem?_eq_some_iff.1 ho).1
 obtain ⟨o',ho',h⟩:=bfs_spec ops ops.toList [] (λ j=>by simp) (λ j hj=>absurd hj (Nat.not_lt_zero _)) j hj
 rw [ho] at ho'
 cases ho'
 obtain ⟨e,he,hb,hor⟩:=h k hk
 exact ⟨e,he,hb,hor.imp id λ h=>h.2⟩
def LM (listed:Array Bool) (mask size:Nat):Prop:=listed.size=size/\∀i,listed.getD i false=mask.testBit i
theorem LM.ready {listed:Array Bool} {mask:Nat} (h:LM listed mask ops.size):Region.ready .any ops listed=readyL ops mask:=by
 unfold Region.ready readyL
 apply List.filter_congr
 intro i hi
 have hi:i<ops.size:=by simpa using hi
 have ht:listed.getD i true=mask.testBit i:=by
  rw [<-h.2 i]
  simp [h.1,hi]
 unfold readyM
 cases ho:ops[i]? with
 | none=>simp
 | some o=>
  simp only [Option.map_some,Option.getD_some,ht]
  rw [<-Array.all_toList]
  have hf:(λ e:Edge=>!Region.binds .any e || listed.getD e.on false)=λ e=>!Region.binds .any e || mask.testBit e.on:=by
   funext e;rw [h.2]
  rw [hf]
theorem LM.set {listed:Array Bool} {mask:Nat} (h:LM listed mask ops.size) {i:Nat} (hi:i<ops.size):LM (listed.setIfInBounds i true) (mask ||| 2 ^ i) ops.size:=by
 refine ⟨by simp [h.1],λ j=>?_⟩
 rw [Nat.testBit_or,Nat.testBit_two_pow,<-h.2 j]
 by_cases hij:i=j
 ·subst hij
  simp [h.1,hi]
 ·rw [getD_set_ne false hij];simp [hij]
theorem LM.zero:LM (Array.replicate ops.size false) 0 ops.size:=by
 refine ⟨by simp,λ i=>?_⟩
 simp only [Nat.zero_testBit,Array.getD_eq_getD_getElem?,Array.getElem?_replicate]
 split <;> rfl
theorem readyL_lt {mask i:Nat} (h:i ∈ readyL ops mask):i<ops.size:=by
 unfold readyL at h
 simpa using (List.mem_filter.1 h).1
theorem noSD_spec (h:noSD ops=true):∀(j:Nat) (o:Oper),ops[j]?=some o->(∀cs b,o.op≠.select cs b)/\∀c,o.op≠.defer c:=by
 intro j o ho
 have hm:o ∈ ops.toList:=by
  rw [Array.mem_toList_iff];exact Array.mem_of_getElem? ho
 have:=List.all_eq_true.1 h o hm
 constructor
 ·intro cs b hc;simp [hc] at this
 ·intro c hc;simp [hc] at this
theorem pair_spec {i:Nat} {oi:Oper} {listed:Array Bool} (hB:Before ops λ j=>(bfOf ops).getD j 0) (hC:Closed (λ j=>(bfOf ops).getD j 0) listed) (h:pairOK ops (bfOf ops)=true)
  (hoi:ops[i]?=some oi) (hr:i ∈ Region.ready .any ops listed) :
  ∀j oj,ops[j]?=some oj->j≠i->listed.getD j true=false->((bfOf ops).getD j 0).testBit i=true\/oi.apart ops oj=true:=by
 intro j oj hoj hne hun
 have hj:j<ops.size:=(Array.getElem?_eq_some_iff.1 hoj).1
 have hi:i<ops.size:=(Array.getElem?_eq_some_iff.1 hoi).1
 have h1:=List.all_eq_true.1 h i (by simpa using hi)
 simp only [hoi] at h1
 have h2:=List.all_eq_true.1 h1 j (by simpa using hj)
 have hb:Nat.beq j i=false:=by
  cases hb:Nat.beq j i with
  | false=>rfl
  | true=>exact absurd (Nat.eq_of_beq_eq_true hb) hne
 have hnb:((bfOf ops).getD i 0).testBit j=false:=by
  cases hc:((bfOf ops).getD i 0).testBit j with
  | false=>rfl
  | true=>
   have:=ready_before hB hC hr j hc
   rw [listed_false hun] at this
   cases this
 rw [hoj,hb,hnb] at h2
 simpa using h2
theorem allK_mem {f:Nat->Prop}:∀{l:List Nat},allK f l->∀i ∈ l,f i
 | [],_,i,hi=>by cases hi
 | [x],h,i,hi=>by
  simp only [List.mem_singleton] at hi
  subst hi;exact h
 | x :: y :: l,h,i,hi=>by
  rcases List.mem_cons.1 hi with rfl | hi
  ·exact h.1
  ·exact allK_mem h.2 i hi
theorem recK_of {bm:Nat} {w:World} {X:Prop}:∀{R:Checks},recK bm R w X->(∀r ∈ R,bm.testBit r.1=false->r.2 w)/\X
 | [],h=>⟨(λ r hr=>by cases hr),h⟩
 | r :: R,h=>by
  unfold recK at h
  split at h
  ·rename_i hb
   obtain ⟨h1,h2⟩:=recK_of h
   refine ⟨λ r' hr' hf=>?_,h2⟩
   rcases List.mem_cons.1 hr' with rfl | hr'
   ·rw [hb] at hf;cases hf
   ·exact h1 r' hr' hf
  ·obtain ⟨h1,h2⟩:=recK_of h.2
   refine ⟨λ r' hr' hf=>?_,h2⟩
   rcases List.mem_cons.1 hr' with rfl | hr'
   ·exact h.1
   ·exact h1 r' hr' hf
variable {rd:Option Nat} {m:Nat} {Q:Exit->Act->World->Prop} {K:Fr->World->Prop} {D:List Deferred} {Fx:Nat->Option Value}
theorem vcD_sound (hP:Plain P) (hsd:noSD ops=true) (hpair:pairOK ops (bfOf ops)=true) (hQp:∀c a w,¬Q (.panic c) a w) (hQ:∀a w,Real n D Fx K a w->Q .normal a w) (hx:∀(j:Nat) (o:Oper),ops[j]?=some o->∀t,o.dst=some t->Fx t=none) :
  ∀(fuel mask:Nat) (R:Checks) (listed:Array Bool) (a:Act) (w:World),LM listed mask ops.size->Closed (λ j=>(bfOf ops).getD j 0) listed->(∀r ∈ R,r.2 w)->
   Real n D Fx (vcD P n ops (bfOf ops) fuel mask R K) a w->wpAnyR P rd m ops (λ j=>(bfOf ops).getD j 0) Q fuel R listed a w
 | 0,mask,R,listed,a,w,hL,hC,hR,h=>by
  obtain ⟨ρ,hr,hd,hF,h⟩:=h
  change (match readyL ops mask with | []=>K ρ w | _=>False) at h
  unfold wpAnyR
  rw [hL.ready]
  split at h
  ·rename_i he
   exact ⟨he,hQ a w ⟨ρ,hr,hd,hF,h⟩⟩
  ·exact h.elim
 | fuel+1,mask,R,listed,a,w,hL,hC,hR,h=>by
  obtain ⟨ρ,hr,hd,hF,h⟩:=h
  have ih:=vcD_sound hP hsd hpair hQp hQ hx fuel
  change (match findQ P ops mask with
   | some i=>match ops[i]? with
    | none=>False
    | some o=>guardV n ops o ρ (λ ρ=>vcQuiet P n ρ o w λ v φ=>vcD P n ops (bfOf ops) fuel (mask ||| 2 ^ i) (addC i φ R) K (updO ρ o.dst v) w) (λ ρ=>vcD P n ops (bfOf ops) fuel (mask ||| 2 ^ i) R K (updO ρ o.dst undef) w)
   | none=>match readyL ops mask with
    | []=>K ρ w
    | i :: l=>allK (λ i=>match ops[i]? with
     | none=>False
     | some o=>guardV n ops o ρ (λ ρ=>vcOp P n ρ o w λ v w'=>recK ((bfOf ops).getD i 0) R w' (vcD P n ops (bfOf ops) fuel (mask ||| 2 ^ i) (dropC ((bfOf ops).getD i 0) R) K (updO ρ o.dst v) w'))
       (λ ρ=>vcD P n ops (bfOf ops) fuel (mask ||| 2 ^ i) (dropC ((bfOf ops).getD i 0) R) K (updO ρ o.dst undef) w)) (i :: l)) at h
  split at h
  ·rename_i i hfind
   have hir:i ∈ readyL ops mask:=List.mem_of_find?_eq_some hfind
   have hlt:=readyL_lt hir
   split at h
   ·exact h.elim
   ·rename_i o ho
    have hready:i ∈ Region.ready .any ops listed:=by rw [hL.ready];exact hir
    have hB:=bfOf_before ops
    have hC':=hC.set hB hready
    rcases guardV_of hr h with ⟨hw,ρ',hr',h⟩ | ⟨hw,ρ',hr',h⟩
    ·obtain ⟨hnd,v,φ,hrun,hφ,h⟩:=vcQuiet_of h
     refine wpAnyR_take (φ:=λ w'=>∀f,φ=some f->f w') ho hB (noSD_spec hsd) (λ c a w hq=>absurd hq (hQp _ _ _)) fuel listed R a w hC (pair_spec (bfOf_before ops) hC hpair ho hready) hready
      (.inl ⟨hw,hnd,λ w' hw'=>by rw [hr'.evalF];exact hrun w' hw'⟩) hφ hR ?_
     refine wpAnyR_sub fuel (addC i φ R) _ _ _ _ (λ r hr=>?_) (ih _ _ _ _ _ (hL.set hlt) hC' (λ r hr=>?_) ⟨_,hr'.put _ _,by rw [put_defers'];exact hd,fx_put hF (hx _ _ ho) _,h⟩)
     ·rcases List.mem_cons.1 hr with rfl | hr2
      ·cases φ with
       | none=>exact .inl λ w f hf=>by cases hf
       | some f=>
        refine .inr ?_
        have:(i,λ w':World=>∀g:World->Prop,some f=some g->g w')=(i,f):=by
         congr 1;funext w';apply propext
         exact ⟨λ h=>h f rfl,λ h g hg=>by cases hg;exact h⟩
        rw [this]
        exact List.mem_cons_self
      ·right
       cases φ with
       | none=>exact hr2
       | some f=>exact List.mem_cons_of_mem _ hr2
     ·cases φ with
      | none=>exact hR r hr
      | some f=>
       rcases List.mem_cons.1 hr with rfl | hr
       ·exact hφ f rfl
       ·exact hR r hr
    ·refine wpAnyR_take (φ:=λ _=>True) (v:=undef) ho hB (noSD_spec hsd) (λ c a w hq=>absurd hq (hQp _ _ _)) fuel listed R a w hC (pair_spec (bfOf_before ops) hC hpair ho hready) hready
      (.inr ⟨hw,rfl⟩) trivial hR ?_
     refine wpAnyR_sub fuel R _ _ _ _ (λ r hr=>?_) (ih _ _ _ _ _ (hL.set hlt) hC' hR ⟨_,hr'.put _ _,by rw [put_defers'];exact hd,fx_put hF (hx _ _ ho) _,h⟩)
     rcases List.mem_cons.1 hr with rfl | hr
     ·exact .inl λ w=>trivial
     ·exact .inr hr
  ·unfold wpAnyR
   rw [hL.ready]
   split at h
   ·rename_i he
    rw [he]
    exact ⟨λ _=>hQ a w ⟨ρ,hr,hd,hF,h⟩,(λ i hi=>by cases hi)⟩
   ·rename_i i0 l he
    rw [he]
    refine ⟨(λ h=>by cases h),λ i hi=>?_⟩
    have hir:i ∈ readyL ops mask:=by rw [he];exact hi
    have hlt:=readyL_lt hir
    have hready:i ∈ Region.ready .any ops listed:=by rw [hL.ready];exact hir
    have hC':=hC.set (bfOf_before ops) hready
    have h:=allK_mem h i hi
    unfold wpOpIn
    split at h
    ·exact h.elim
    ·rename_i o ho
     simp only [ho]
     rcases guardV_of hr h with ⟨hw,ρ',hr',h⟩ | ⟨hw,ρ',hr',h⟩
     ·rw [if_pos hw]
      obtain ⟨hu,hnd⟩:=vcOp_upon hP h
      rw [<-hr'.evalF] at hu
      refine Upon.wpIn hnd (hu.mono λ v w' hK=>?_)
      obtain ⟨hck,hK⟩:=recK_of hK
      exact ⟨hck,ih _ _ _ _ _ (hL.set hlt) hC' (λ r hr=>by
       have:=List.mem_filter.1 hr
       exact hck r this.1 (by simpa using this.2)) ⟨_,hr'.put _ _,by rw [put_defers'];exact hd,fx_put hF (hx _ _ ho) _,hK⟩⟩
     ·rw [if_neg (by simp [hw])]
      exact ⟨λ _ _=>trivial,(λ r hr _=>hR r hr),ih _ _ _ _ _ (hL.set hlt) hC' (λ r hr=>hR r (List.mem_filter.1 hr).1) ⟨_,hr'.put _ _,by rw [put_defers'];exact hd,fx_put hF (hx _ _ ho) _,h⟩⟩
theorem accAt_eq (acc:List Nat) (j:Nat):accAt acc.length acc j=acc.reverse.getD j 0:=by
 unfold accAt
 split
 ·rename_i h
  have h:j<acc.length:=by simpa [Nat.blt_eq] using h
  simp only [List.getD_eq_getElem?_getD]
  rw [List.getElem?_reverse h]
 ·rename_i h
  have h:¬j<acc.length:=by
   intro hc
   have:Nat.blt j acc.length=true:=by simpa [Nat.blt_eq] using hc
   rw [this] at h;cases h
  simp only [List.getD_eq_getElem?_getD]
  rw [List.getElem?_eq_none (by simpa using Nat.le_of_not_lt h)]
  rfl
theorem bfMaskR_eq (o:Oper) (acc:List Nat):bfMaskR o acc.length acc=bfMask o acc.reverse:=by
 unfold bfMaskR bfMask
 congr 1
 funext s e
 rw [accAt_eq]
 all_goals (cases Region.binds .any e <;> rfl)
theorem bfs_prefix:∀(l:List Oper) (acc:List Nat),∃t,bfs l acc=acc ++ t
 | [],acc=>⟨[],by simp [bfs]⟩
 | o :: l,acc=>by
  obtain ⟨t,h⟩:=bfs_prefix l (acc ++ [bfMask o acc])
  refine ⟨bfMask o acc :: t,?_⟩
  change bfs l (acc ++ [bfMask o acc])=_
  rw [h];simp
theorem rowsOf_spec (P:Program):∀(l:List Oper) (acc:List Nat) (k:Nat) (o:Oper),l[k]?=some o->
  ∃r,(rowsOf P l acc.length acc)[k]?=some r/\r.i=acc.length+k/\r.d=dmOf o/\r.b=(bfs l acc.reverse).getD (acc.length+k) 0/\r.q=isQuiet P o.op/\r.o=o
 | [],_,_,_,h=>by simp at h
 | o' :: l,acc,0,o,h=>by
  simp only [List.getElem?_cons_zero,Option.some.injEq] at h
  subst h
  refine ⟨_,rfl,rfl,rfl,?_,rfl,rfl⟩
  change bfMaskR o' acc.length acc=(bfs l (acc.reverse ++ [bfMask o' acc.reverse])).getD (acc.length+0) 0
  obtain ⟨t,ht⟩:=bfs_prefix l (acc.reverse ++ [bfMask o' acc.reverse])
  rw [ht,bfMaskR_eq]
  simp only [List.getD_eq_getElem?_getD,Nat.add_zero,List.append_assoc]
  rw [List.getElem?_append_right (by simp)]
  simp
 | o' :: l,acc,k+1,o,h=>by
  simp only [List.getElem?_cons_succ] at h
  obtain ⟨r,hr,hi,hd,hb,hq,ho⟩:=rowsOf_spec P l (bfMaskR o' acc.length acc :: acc) k o h
  refine ⟨r,?_,?_,hd,?_,hq,ho⟩
  ·simpa [rowsOf] using hr
  ·rw [hi];simp;omega
  ·rw [hb]
   rw [List.reverse_cons,bfMaskR_eq]
   change _=(bfs l (acc.reverse ++ [bfMask o' acc.reverse])).getD _ 0
   congr 1
   simp;omega
theorem rowsOf_length (P:Program):∀(l:List Oper) (i:Nat) (acc:List Nat),(rowsOf P l i acc).length=l.length
 | [],_,_=>rfl
 | o :: l,i,acc=>by simp [rowsOf,rowsOf_length P l]
theorem dmOf_spec (o:Oper) (mask:Nat):Nat.beq (Nat.land (dmOf o) mask) (dmOf o)=o.after.toList.all λ e=>!Region.binds .any e || mask.testBit e.on:=by
 have key:∀(es:List Edge) (s k:Nat),(es.foldl (λ s e=>match Region.binds .any e with | true=>s ||| 2 ^ e.on | false=>s) s).testBit k=(s.testBit k || es.any λ e=>Region.binds .any e && decide (e.on=k)):=by
  intro es
  induction es with
  | nil=>intro s k;simp
  | cons e es ih=>
   intro s k
   rw [List.foldl_cons,ih,List.any_cons]
   cases Region.binds .any e with
   | true=>simp [Nat.testBit_or,Nat.testBit_two_pow,Bool.or_assoc]
   | false=>simp
 have hd:∀k,(dmOf o).testBit k=o.after.toList.any λ e=>Region.binds .any e && decide (e.on=k):=by
  intro k
  unfold dmOf
  rw [key]
  simp
 rw [Bool.eq_iff_iff]
 have hsub:Nat.beq (Nat.land (dmOf o) mask) (dmOf o)=true↔∀k,(dmOf o).testBit k=true->mask.testBit k=true:=by
  constructor
  ·intro h k hk
   have h:dmOf o &&& mask=dmOf o:=Nat.eq_of_beq_eq_true h
   rw [<-h,Nat.testBit_and] at hk
   simp at hk
   exact hk.2
  ·intro h
   have:dmOf o &&& mask=dmOf o:=Nat.eq_of_testBit_eq λ k=>by
    rw [Nat.testBit_and]
    cases hk:(dmOf o).testBit k with
    | false=>rfl
    | true=>rw [h k hk];rfl
   change Nat.beq (dmOf o &&& mask) (dmOf o)=true
   rw [this]
   exact Nat.beq_refl _
 rw [hsub,List.all_eq_true]
 constructor
 ·intro h e he
  cases hb:Region.binds .any e with
  | false=>rfl
  | true=>
   refine h e.on ?_
   rw [hd,List.any_eq_true]
   exact ⟨e,he,by simp [hb]⟩
 ·intro h k hk
  rw [hd,List.any_eq_true] at hk
  obtain ⟨e,he,hk⟩:=hk
  simp only [Bool.and_eq_true,decide_eq_true_eq] at hk
  have:=h e he
  rw [hk.1] at this
  rw [<-hk.2]
  simpa using this
structure RowsOK (P:Program) (ops:Array Oper) (L:List Row):Prop where
 idx:L.map (·.i)=List.range ops.size
 at':∀r ∈ L,ops[r.i]?=some r.o/\r.d=dmOf r.o/\r.b=(bfOf ops).getD r.i 0/\r.q=isQuiet P r.o.op
theorem rows_ok:RowsOK P ops (rowsOf P ops.toList 0 []):=by
 have hlen:(rowsOf P ops.toList 0 []).length=ops.size:=by rw [rowsOf_length];simp
 have hk:∀k (h:k<ops.size),∃r,(rowsOf P ops.toList 0 [])[k]?=some r/\r.i=k/\r.d=dmOf ops[k]/\r.b=(bfOf ops).getD k 0/\r.q=isQuiet P ops[k].op/\r.o=ops[k]:=by
  intro k h
  obtain ⟨r,h1,h2,h3,h4,h5,h6⟩:=rowsOf_spec P ops.toList [] k ops[k] (by simp [h])
  exact ⟨r,h1,by simpa using h2,h3,by simpa [bfOf] using h4,h5,h6⟩
 refine ⟨List.ext_getElem? λ k=>?_,λ r hr=>?_⟩
 ·by_cases h:k<ops.size
  ·obtain ⟨r,h1,h2,_⟩:=hk k h
   rw [List.getElem?_map,h1,List.getElem?_range h]
   simp [h2]
  ·rw [List.getElem?_eq_none (by simp;omega),List.getElem?_eq_none (by simp;omega)]
 ·obtain ⟨k,hk'⟩:=List.mem_iff_getElem?.1 hr
  have hlt:k<ops.size:=by
   have:=(List.getElem?_eq_some_iff.1 hk').1
   omega
  obtain ⟨r',h1,h2,h3,h4,h5,h6⟩:=hk k hlt
  rw [h1] at hk'
  cases hk'
  rw [h2,h6]
  exact ⟨by simp [hlt],h3,h4,h5⟩
theorem RowsOK.rdy {L:List Row} (h:RowsOK P ops L) {mask:Nat} {r:Row} (hr:r ∈ L):Go.Fw.rdy mask r=readyM ops mask r.i:=by
 obtain ⟨ho,hd,hb,hq⟩:=h.at' r hr
 unfold Go.Fw.rdy readyM
 rw [ho,hd,tb_eq,dmOf_spec]
 cases mask.testBit r.i <;> rfl
theorem RowsOK.filter {L:List Row} (h:RowsOK P ops L) (mask:Nat):(L.filter (Go.Fw.rdy mask)).map (·.i)=readyL ops mask:=by
 unfold readyL
 rw [<-h.idx,List.filter_map]
 congr 1
 apply List.filter_congr
 intro r hr
 exact h.rdy hr
theorem RowsOK.find {L:List Row} (h:RowsOK P ops L) (mask:Nat):(L.find? (rdyQ mask)).map (·.i)=findQ P ops mask:=by
 unfold findQ
 rw [<-h.filter,List.find?_map,List.find?_filter]
 congr 1
 have:∀(L':List Row),(∀r ∈ L',r ∈ L)->List.find? (rdyQ mask) L'=L'.find? (λ a=>decide (Go.Fw.rdy mask a=true/\((λ i=>match ops[i]? with | some o=>isQuiet P o.op | none=>false) ∘ λ x:Row=>x.i) a=true)):=by
  intro L'
  induction L' with
  | nil=>intro _;rfl
  | cons r l ih=>
   intro hm
   have hr:=h.at' r (hm r List.mem_cons_self)
   rw [List.find?_cons,List.find?_cons,ih λ x hx=>hm x (List.mem_cons_of_mem _ hx)]
   have:rdyQ mask r=decide (Go.Fw.rdy mask r=true/\((λ i=>match ops[i]? with | some o=>isQuiet P o.op | none=>false) ∘ λ x:Row=>x.i) r=true):=by
    unfold rdyQ
    simp only [Function.comp,hr.1,hr.2.2.2]
    cases isQuiet P r.o.op <;> cases Go.Fw.rdy mask r <;> rfl
   rw [this]
 exact this L λ _ h=>h
theorem allR_eq (f:Row->Prop) (g:Nat->Prop):∀(l:List Row),(∀r ∈ l,f r=g r.i)->allR f l=allK g (l.map (·.i))
 | [],_=>rfl
 | [x],h=>h x (by simp)
 | x :: y :: l,h=>by
  change (f x/\allR f (y :: l))=(g x.i/\allK g ((y :: l).map (·.i)))
  rw [h x (by simp),allR_eq f g (y :: l) λ r hr=>h r (List.mem_cons_of_mem _ hr)]
theorem vcR_eq {L:List Row} (h:RowsOK P ops L):∀(fuel mask:Nat) (R:Checks) (K:Fr->World->Prop) (ρ:Fr) (w:World),vcR P n ops L fuel mask R K ρ w=vcD P n ops (bfOf ops) fuel mask R K ρ w
 | 0,mask,R,K,ρ,w=>by
  change (match L.filter (rdy mask) with | []=>K ρ w | _=>False)=(match readyL ops mask with | []=>K ρ w | _=>False)
  rw [<-h.filter]
  cases L.filter (rdy mask) <;> rfl
 | fuel+1,mask,R,K,ρ,w=>by
  have ih:=vcR_eq h fuel
  change (match L.find? (rdyQ mask) with
   | some r=>guardV n ops r.o ρ (λ ρ=>vcQuiet P n ρ r.o w λ v φ=>strict (mask ||| 2 ^ r.i) λ m=>vcR P n ops L fuel m (addC r.i φ R) K (updO ρ r.o.dst v) w) (λ ρ=>strict (mask ||| 2 ^ r.i) λ m=>vcR P n ops L fuel m R K (updO ρ r.o.dst undef) w)
   | none=>match L.filter (rdy mask) with
    | []=>K ρ w
    | r :: l=>allR (λ r=>guardV n ops r.o ρ (λ ρ=>vcOp P n ρ r.o w λ v w'=>recK r.b R w' (strict (mask ||| 2 ^ r.i) λ m=>vcR P n ops L fuel m (dropC r.b R) K (updO ρ r.o.dst v) w'))
       (λ ρ=>strict (mask ||| 2 ^ r.i) λ m=>vcR P n ops L fuel m (dropC r.b R) K (updO ρ r.o.dst undef) w)) (r :: l))=(match findQ P ops mask with
   | some i=>match ops[i]? with
    | none=>False
    | some o=>guardV n ops o ρ (λ ρ=>vcQuiet P n ρ o w λ v φ=>vcD P n ops (bfOf ops) fuel (mask ||| 2 ^ i) (addC i φ R) K (updO ρ o.dst v) w) (λ ρ=>vcD P n ops (bfOf ops) fuel (mask ||| 2 ^ i) R K (updO ρ o.dst undef) w)
   | none=>match readyL ops mask with
    | []=>K ρ w
    | i :: l=>allK (λ i=>match ops[i]? with
     | none=>False
     | some o=>guardV n ops o ρ (λ ρ=>vcOp P n ρ o w λ v w'=>recK ((bfOf ops).getD i 0) R w' (vcD P n ops (bfOf ops) fuel (mask ||| 2 ^ i) (dropC ((bfOf ops).getD i 0) R) K (updO ρ o.dst v) w'))
       (λ ρ=>vcD P n ops (bfOf ops) fuel (mask ||| 2 ^ i) (dropC ((bfOf ops).getD i 0) R) K (updO ρ o.dst undef) w)) (i :: l))
  rw [<-h.find,<-h.filter]
  cases hf:L.find? (rdyQ mask) with
  | some r=>
   have hr:=h.at' r (List.mem_of_find?_eq_some hf)
   simp only [Option.map_some,hr.1,strict_eq,ih]
  | none=>
   simp only [Option.map_none]
   cases hl:L.filter (rdy mask) with
   | nil=>rfl
   | cons r l=>
    simp only [List.map_cons]
    rw [<-List.map_cons (f:=λ r:Row=>r.i)]
    refine allR_eq _ _ (r :: l) λ r' hr'=>?_
    have hm:r' ∈ L:=(List.mem_filter.1 (by rw [hl];exact hr')).1
    have hr:=h.at' r' hm
    simp only [hr.1,hr.2.2.1,strict_eq,ih]
theorem pairR_ok {L:List Row} (h:RowsOK P ops L) (hp:pairR ops L=true):pairOK ops (bfOf ops)=true:=by
 have row:∀i,i<ops.size->∃r ∈ L,r.i=i:=by
  intro i hi
  have:i ∈ L.map (·.i):=by rw [h.idx];simpa using hi
  obtain ⟨r,hr,he⟩:=List.mem_map.1 this
  exact ⟨r,hr,he⟩
 unfold pairOK
 refine List.all_eq_true.2 λ i hi=>?_
 obtain ⟨x,hx,rfl⟩:=row i (by simpa using hi)
 have hxo:=h.at' x hx
 rw [hxo.1]
 refine List.all_eq_true.2 λ j hj=>?_
 obtain ⟨y,hy,rfl⟩:=row j (by simpa using hj)
 have hyo:=h.at' y hy
 rw [hyo.1,<-hxo.2.2.1,<-hyo.2.2.1]
 have:=List.all_eq_true.1 (List.all_eq_true.1 hp x hx) y hy
 simpa only [tb_eq] using this
theorem vcRegion_sound (hP:Plain P) (hM:P.follows .mixedOrders=true) {id:Nat} {draw:Bool} (hQp:∀c a w,¬Q (.panic c) a w) (hQ:∀a w,Real n D Fx K a w->Q .normal a w) (hx:∀(j:Nat) (o:Oper),ops[j]?=some o->∀t,o.dst=some t->Fx t=none)
  {a:Act} {w:World} (h:Real n D Fx (vcRegion P n ops draw K) a w):(Code.region id ops draw).wpIn (fence rd) m P Q a w:=by
 obtain ⟨ρ,hr,hd,hF,h⟩:=h
 unfold vcRegion at h
 split at h
 ·refine wpIn_region ?_
  have:=vcList_sound (rd:=rd) (m:=m) hP hQ ops.toList 0 (λ j=>by simp) (λ o ho=>by
   obtain ⟨j,hj⟩:=List.mem_iff_getElem?.1 ho
   exact hx j o (by simpa using hj)) a w ⟨ρ,hr,hd,hF,h⟩
  rw [List.range_eq_range',<-Array.length_toList]
  exact this
 ·rw [rowsK_eq] at h
  split at h
  ·rename_i hsd
   obtain ⟨hsd,hpair⟩:=(Bool.and_eq_true _ _).mp hsd
   have hpair:=pairR_ok rows_ok hpair
   rw [vcR_eq rows_ok] at h
   refine wpIn_region_any hM (wpAnyR_any _ [] _ _ _ (vcD_sound hP hsd hpair hQp hQ hx ops.size 0 [] _ a _ LM.zero (λ j hj=>?_) (λ r hr=>by cases hr) ⟨ρ,hr,hd,hF,h⟩))
   exfalso
   simp only [Array.getD_eq_getD_getElem?,Array.getElem?_replicate] at hj
   split at hj <;> simp at hj
  ·exact h.elim
end
end Go.Fw

namespace Go.Fw
def CurT (X:Type):List (Nat × Tag)->Type
 | []=>X
 | (_,.int _) :: l=>Int->CurT X l
 | (_,.bool) :: l=>Bool->CurT X l
 | (_,.str) :: l=>ByteArray->CurT X l
 | (_,.ptr) :: l=>Option Addr->CurT X l
 | (_,.slice) :: l=>Option Addr->Nat->Nat->CurT X l
 | (_,.map) :: l=>Option Nat->CurT X l
 | (_,.raw) :: l=>Value->CurT X l
def unT {X Y:Type} (ρ:Fr):(l:List (Nat × Tag))->CurT X l->CurT Y l->(X->Y->Prop)->Prop
 | [],f,g,K=>K f g
 | (t,.int k) :: l,f,g,K=>match ρ t with | .int k' n=>(match decide (k'=k) with | true=>unT ρ l (f n) (g n) K | false=>False) | _=>False
 | (t,.bool) :: l,f,g,K=>match ρ t with | .bool b=>unT ρ l (f b) (g b) K | _=>False
 | (t,.str) :: l,f,g,K=>match ρ t with | .string b=>unT ρ l (f b) (g b) K | _=>False
 | (t,.ptr) :: l,f,g,K=>match ρ t with | .pointer b=>unT ρ l (f b) (g b) K | _=>False
 | (t,.slice) :: l,f,g,K=>match ρ t with | .slice a n c=>unT ρ l (f a n c) (g a n c) K | _=>False
 | (t,.map) :: l,f,g,K=>match ρ t with | .map b=>unT ρ l (f b) (g b) K | _=>False
 | (t,.raw) :: l,f,g,K=>unT ρ l (f (ρ t)) (g (ρ t)) K
def allT {X Y:Type}:(l:List (Nat × Tag))->Fr->CurT X l->CurT Y l->(Fr->X->Y->Prop)->Prop
 | [],ρ,f,g,K=>K ρ f g
 | (t,.int k) :: l,ρ,f,g,K=>∀n:Int,allT l (upd ρ t (.int k n)) (f n) (g n) K
 | (t,.bool) :: l,ρ,f,g,K=>∀b:Bool,allT l (upd ρ t (.bool b)) (f b) (g b) K
 | (t,.str) :: l,ρ,f,g,K=>∀b:ByteArray,allT l (upd ρ t (.string b)) (f b) (g b) K
 | (t,.ptr) :: l,ρ,f,g,K=>∀b:Option Addr,allT l (upd ρ t (.pointer b)) (f b) (g b) K
 | (t,.slice) :: l,ρ,f,g,K=>∀(a:Option Addr) (n c:Nat),allT l (upd ρ t (.slice a n c)) (f a n c) (g a n c) K
 | (t,.map) :: l,ρ,f,g,K=>∀b:Option Nat,allT l (upd ρ t (.map b)) (f b) (g b) K
 | (t,.raw) :: l,ρ,f,g,K=>∀b:Value,allT l (upd ρ t b) (f b) (g b) K
noncomputable def fixF (fx:List Nat) (ρ j:Fr):Fr:=List.rec (motive:=λ _=>Fr) j (λ t _ ih=>upd ih t (ρ t)) fx
def asg (c:Code):List Nat:=match c with
 | .region _ ops _=>ops.toList.filterMap (·.dst)
 | .seq a b=>asg a ++ asg b
 | .cond _ a b=>asg a ++ asg b
 | .block _ a=>asg a
 | .loop a=>asg a
 | .scope a=>asg a
 | .rangeFunc _ ps a b=>ps.toList ++ asg a ++ asg b
 | _=>[]
def dis (fx:List Nat) (asx:List Nat):Bool:=fx.all λ t=>asx.all λ u=>!Nat.beq t u
structure Ann where
 fx:List Nat
 st:List (Nat × Tag)
noncomputable def loopV (an:Ann) (asx:List Nat) (B:(Exit->Fr->World->Prop)->Fr->World->Prop) (Q:Exit->Fr->World->Prop) (ρ:Fr) (w:World):Prop:=
 match dis an.fx asx with
 | false=>False
 | true=>∃(I:CurT (World->Prop) an.st) (μ:CurT (World->Nat) an.st),unT ρ an.st I μ (λ i _=>i w)/\
   ∀j:Fr,allT an.st (fixF an.fx ρ j) I μ λ ρ1 i m=>∀w,i w->B (λ e ρ' w'=>match e with
    | .normal=>unT ρ' an.st I μ λ i' m'=>i' w'/\m' w'<m w
    | e=>Q e ρ' w') ρ1 w
noncomputable def wpC (P:Program) (n:Nat) (ann:Nat->Ann) (c:Code):Nat->(Exit->Fr->World->Prop)->Fr->World->Prop:=
 Code.rec (motive:=λ _=>Nat->(Exit->Fr->World->Prop)->Fr->World->Prop)
  (λ _ Q ρ w=>Q .normal ρ w)
  (λ _ ops draw _ Q ρ w=>vcRegion P n ops draw (Q .normal) ρ w)
  (λ a _ iha ihb k Q ρ w=>iha k (λ e ρ w=>match e with | .normal=>ihb (k+(nl a)) Q ρ w | e=>Q e ρ w) ρ w)
  (λ c a _ iha ihb k Q ρ w=>match ev n ρ c with
   | .bool b=>match c with
    | .tmp t=>bsel b (iha k Q (upd ρ t (.bool true)) w) (ihb (k+nl a) Q (upd ρ t (.bool false)) w)
    | _=>bsel b (iha k Q ρ w) (ihb (k+nl a) Q ρ w)
   | _=>False)
  (λ id _ ih k Q ρ w=>ih k (λ e ρ w=>match e with | .exit id'=>(match Nat.beq id' id with | true=>Q .normal ρ w | false=>Q (.exit id') ρ w) | e=>Q e ρ w) ρ w)
  (λ b ih k Q ρ w=>loopV (ann k) (asg b) (ih (k+1)) Q ρ w)
  (λ _ _ _ _ _ _ _ _ _ _=>False)
  (λ id _ Q ρ w=>Q (.exit id) ρ w)
  (λ _ ih k Q ρ w=>ih k Q ρ w)
  (λ _ _ Q ρ w=>Q .normal ρ w)
  (λ _ _ _ _ _=>False)
  (λ _ Q ρ w=>Q .ret ρ w)
  (λ _ _ _ _ _=>False) c
where
 nl (c:Code):Nat:=match c with
  | .seq a b=>nl a+nl b
  | .cond _ a b=>nl a+nl b
  | .block _ a=>nl a
  | .loop a=>nl a+1
  | .scope a=>nl a
  | _=>0
theorem unT_allT {X Y:Type} {n:Nat} {a:Act} {ρ:Fr} (hr:Rep n a ρ) {K:X->Y->Prop} {K':Fr->X->Y->Prop} :
  ∀(l:List (Nat × Tag)) (f:CurT X l) (g:CurT Y l) (ρ0:Fr),(∀t,t<n->(∀p ∈ l,p.1≠t)->ρ0 t=ρ t)->unT ρ l f g K->allT l ρ0 f g K'->
   ∃(ρ1:Fr) (x:X) (y:Y),Rep n a ρ1/\K x y/\K' ρ1 x y
 | [],f,g,ρ0,h0,hK,hK'=>⟨ρ0,f,g,⟨hr.size,λ t ht=>by rw [hr.get t ht,h0 t ht (λ p hp=>by cases hp)]⟩,hK,hK'⟩
 | (t,tg) :: l,f,g,ρ0,h0,hK,hK'=>by
  have step:∀v,ρ t=v->∀u,u<n->(∀p ∈ l,p.1≠u)->upd ρ0 t v u=ρ u:=by
   intro v hv u hu hp
   by_cases hut:u=t
   ·subst hut;rw [upd_same,hv]
   ·rw [upd_ne _ _ hut]
    exact h0 u hu λ p hp'=>by
     rcases List.mem_cons.1 hp' with rfl | hp'
     ·exact λ h=>hut h.symm
     ·exact hp p hp'
  cases tg with
  | int k=>
   simp only [unT] at hK
   split at hK
   ·rename_i k' m hv
    split at hK
    ·rename_i hk
     have hk:=of_decide_eq_true hk
     subst hk
     exact unT_allT hr l (f m) (g m) (upd ρ0 t (.int k' m)) (step _ hv) hK (hK' m)
    ·exact hK.elim
   ·exact hK.elim
  | bool=>
   simp only [unT] at hK
   split at hK
   ·rename_i b hv;exact unT_allT hr l (f b) (g b) _ (step _ hv) hK (hK' b)
   ·exact hK.elim
  | str=>
   simp only [unT] at hK
   split at hK
   ·rename_i b hv;exact unT_allT hr l (f b) (g b) _ (step _ hv) hK (hK' b)
   ·exact hK.elim
  | ptr=>
   simp only [unT] at hK
   split at hK
   ·rename_i b hv;exact unT_allT hr l (f b) (g b) _ (step _ hv) hK (hK' b)
   ·exact hK.elim
  | slice=>
   simp only [unT] at hK
   split at hK
   ·rename_i x y z hv;exact unT_allT hr l (f x y z) (g x y z) _ (step _ hv) hK (hK' x y z)
   ·exact hK.elim
  | map=>
   simp only [unT] at hK
   split at hK
   ·rename_i b hv;exact unT_allT hr l (f b) (g b) _ (step _ hv) hK (hK' b)
   ·exact hK.elim
  | raw=>
   simp only [unT] at hK
   exact unT_allT hr l (f (ρ t)) (g (ρ t)) _ (step _ rfl) hK (hK' (ρ t))
theorem wpIn_loopN {F:Fence} {n:Nat} {P:Program} {Q:Exit->Act->World->Prop} {c:Code} (I:Nat->Act->World->Prop) {a:Act} {w:World} {k0:Nat} (h₀:I k0 a w)
  (round:∀k a w,I k a w->c.wpIn F n P (Exit.then (λ a' w'=>∃k',k'<k/\I k' a' w') Q) a w):(Code.loop c).wpIn F n P Q a w:=by
 intro b k cs hro hb hr
 have key:∀j a w,I j a w->
   ∃e a' w',Q e a' w'/\ArrivesIn (Machine.fenced P F) P (lone (b.atR a (.code c :: .inLoop c :: k)) cs w) b k cs e a' w':=by
  intro j
  induction j using Nat.strongRecOn with
  | _ j ih=>
   intro a w hI
   obtain ⟨e,a₁,w₁,hq,harr⟩:=round j a w hI b (.inLoop c :: k) cs hro hb hr
   cases e with
   | normal=>
    obtain ⟨k',hlt,hI₁⟩:=hq
    obtain ⟨e₂,a₂,w₂,hq₂,harr₂⟩:=ih k' hlt a₁ w₁ hI₁
    exact ⟨e₂,a₂,w₂,hq₂,.of_steps (StepsIn.trans harr (.one (fenced_calm hb hr rfl) stepR_inLoop)) harr₂⟩
   | exit id=>exact ⟨_,a₁,w₁,hq,.pass (x:=.inLoop c) rfl (λ _ _=>.inl (by simp)) harr⟩
   | goto l=>exact ⟨_,a₁,w₁,hq,.pass (x:=.inLoop c) rfl (λ _ _=>.inl (by simp)) harr⟩
   | ret=>exact ⟨_,a₁,w₁,hq,.pass (x:=.inLoop c) rfl (λ _ _=>.inl (by simp)) harr⟩
   | panic ch=>exact ⟨_,a₁,w₁,hq,.pass (x:=.inLoop c) rfl (λ _ _=>.inl (by simp)) harr⟩
   | outgrown=>exact ⟨_,a₁,w₁,hq,.pass (x:=.inLoop c) rfl (λ _ _=>.inl (by simp)) harr⟩
 obtain ⟨e,a',w',hq,harr⟩:=key _ a w h₀
 exact ⟨e,a',w',hq,.of_steps (.one (fenced_calm hb hr rfl) stepR_loop) harr⟩
theorem stepR_scope' {P:Program} {b:Frame} {a:Act} {k:List Item} {cs:List Frame} {w:World} {c:Code} :
  step P (lone (b.atR a (.code (.scope c) :: k)) cs w)=.next (lone (b.atR a (.code c :: .inScope c :: k)) cs w):=
 step_lone_go (by simp [stepG,stepG.exec,Frame.atR])
theorem stepR_inScope' {P:Program} {b:Frame} {a:Act} {k:List Item} {cs:List Frame} {w:World} {c:Code} :
  step P (lone (b.atR a (.inScope c :: k)) cs w)=.next (lone (b.atR a k) cs w):=
 step_lone_go (by simp [stepG,stepG.exec,Frame.atR])
theorem wpIn_scope {F:Fence} {n:Nat} {P:Program} {Q:Exit->Act->World->Prop} {c:Code} {a:Act} {w:World} (hg:∀l a w,¬Q (.goto l) a w) (h:c.wpIn F n P Q a w) :
  (Code.scope c).wpIn F n P Q a w:=by
 intro b k cs hro hb hr
 have h0:(lone (b.atR a (.code (.scope c) :: k)) cs w).fenced P F:=fenced_calm hb hr rfl
 obtain ⟨e,a₁,w₁,hq,harr⟩:=h b (.inScope c :: k) cs hro hb hr
 cases e with
 | normal=>exact ⟨.normal,a₁,w₁,hq,.head h0 stepR_scope' (StepsIn.trans harr (.one (fenced_calm hb hr rfl) stepR_inScope'))⟩
 | exit id=>
  have hx:exitTo id (.inScope c :: k)=exitTo id k:=by simp [exitTo]
  exact ⟨_,a₁,w₁,hq,λ k' hk=>.head h0 stepR_scope' (harr.1 k' (by rw [hx];exact hk)),
   λ hr' hk=>let ⟨k₁,h1,h2⟩:=harr.2 hr' (by rw [hx];exact hk);⟨k₁,h1,.head h0 stepR_scope' h2⟩⟩
 | goto l=>exact absurd hq (hg _ _ _)
 | ret=>exact ⟨_,a₁,w₁,hq,.of_steps (.one h0 stepR_scope') harr⟩
 | panic ch=>exact ⟨_,a₁,w₁,hq,.of_steps (.one h0 stepR_scope') harr⟩
 | outgrown=>exact ⟨_,a₁,w₁,hq,.of_steps (.one h0 stepR_scope') harr⟩
def lift (n:Nat) (D:List Deferred) (Fx:Nat->Option Value) (Q:Exit->Fr->World->Prop):Exit->Act->World->Prop
 | .panic _,_,_=>False
 | .outgrown,_,_=>False
 | .goto _,_,_=>False
 | e,a,w=>Real n D Fx (Q e) a w
theorem fixF_get {ρ j:Fr}:∀{fx:List Nat} {t:Nat},fixF fx ρ j t=if t ∈ fx then ρ t else j t
 | [],t=>by simp [fixF]
 | u :: fx,t=>by
  change upd (fixF fx ρ j) u (ρ u) t=_
  by_cases h:t=u
  ·subst h;rw [upd_same];simp
  ·rw [upd_ne _ _ h,fixF_get];simp [h]
theorem dis_spec {fx asx:List Nat} (h:dis fx asx=true) {t:Nat} (ht:t ∈ fx):t ∉ asx:=by
 intro hm
 have:=List.all_eq_true.1 (List.all_eq_true.1 h t ht) t hm
 simp at this
theorem wpC_sound {P:Program} (hP:Plain P) (hM:P.follows .mixedOrders=true) {n:Nat} {ann:Nat->Ann} {rd:Option Nat} {m:Nat} {D:List Deferred} :
  ∀(c:Code) (k:Nat) (Fx:Nat->Option Value) (Q:Exit->Fr->World->Prop) (a:Act) (w:World),(∀t ∈ asg c,Fx t=none)->
   Real n D Fx (wpC P n ann c k Q) a w->c.wpIn (fence rd) m P (lift n D Fx Q) a w:=by
 intro c
 induction c with
 | skip=>intro k Fx Q a w hx h;exact wpIn_skip h
 | region id ops draw=>
  intro k Fx Q a w hx h
  refine vcRegion_sound (D:=D) (Fx:=Fx) (K:=Q .normal) hP hM (λ c a w h=>h) (λ a w h=>h) (λ j o ho t ht=>hx t ?_) h
  simp only [asg,List.mem_filterMap]
  exact ⟨o,by rw [Array.mem_toList_iff];exact Array.mem_of_getElem? ho,ht⟩
 | seq x y ihx ihy=>
  intro k Fx Q a w hx h
  have hxx:∀t ∈ asg x,Fx t=none:=λ t ht=>hx t (by simp [asg,ht])
  have hxy:∀t ∈ asg y,Fx t=none:=λ t ht=>hx t (by simp [asg,ht])
  refine wpIn_seq (wpIn_mono (ihx k Fx _ a w hxx h) λ e a' w' hq=>?_)
  cases e with
  | normal=>exact ihy _ Fx Q a' w' hxy hq
  | exit id=>exact hq
  | ret=>exact hq
  | goto l=>exact hq
  | panic c=>exact hq
  | outgrown=>exact hq
 | cond c x y ihx ihy=>
  intro k Fx Q a w hx h
  have hxx:∀t ∈ asg x,Fx t=none:=λ t ht=>hx t (by simp [asg,ht])
  have hxy:∀t ∈ asg y,Fx t=none:=λ t ht=>hx t (by simp [asg,ht])
  obtain ⟨ρ,hr,hd,hF,h⟩:=h
  change (match ev n ρ c with
   | .bool b=>match (generalizing:=false) c with
    | .tmp t=>bsel b (wpC P n ann x k Q (upd ρ t (.bool true)) w) (wpC P n ann y (k+wpC.nl x) Q (upd ρ t (.bool false)) w)
    | _=>bsel b (wpC P n ann x k Q ρ w) (wpC P n ann y (k+wpC.nl x) Q ρ w)
   | _=>False) at h
  split at h
  ·rename_i b hb
   have hev:a.eval c=.bool b:=by rw [hr.eval,hb]
   split at h
   ·rename_i t
    have hpos:∀v,ev n ρ (.tmp t)=.bool v->Rep n a (upd ρ t (.bool v)):=by
     intro v hv
     simp only [ev] at hv
     split at hv
     ·exact hr.set t _ hv
     ·simp [undef] at hv
    cases b
    ·exact wpIn_cond_false hev (ihy _ Fx Q a w hxy ⟨_,hpos _ hb,hd,hF,h⟩)
    ·exact wpIn_cond_true hev (ihx _ Fx Q a w hxx ⟨_,hpos _ hb,hd,hF,h⟩)
   ·cases b
    ·exact wpIn_cond_false hev (ihy _ Fx Q a w hxy ⟨_,hr,hd,hF,h⟩)
    ·exact wpIn_cond_true hev (ihx _ Fx Q a w hxx ⟨_,hr,hd,hF,h⟩)
  ·exact h.elim
 | block id c ih=>
  intro k Fx Q a w hx h
  refine wpIn_block (wpIn_mono (ih k Fx _ a w hx h) λ e a' w' hq=>?_)
  cases e with
  | normal=>exact hq
  | exit id'=>
   obtain ⟨ρ,hr,hd,hF,hq⟩:=hq
   simp only at hq
   simp only [Exit.inBlock]
   split at hq
   ·rename_i hb
    rw [if_pos (Nat.eq_of_beq_eq_true hb)]
    exact ⟨ρ,hr,hd,hF,hq⟩
   ·rename_i hb
    rw [if_neg (Nat.ne_of_beq_eq_false hb)]
    exact ⟨ρ,hr,hd,hF,hq⟩
  | ret=>exact hq
  | goto l=>exact hq
  | panic c=>exact hq
  | outgrown=>exact hq
 | loop b ih=>
  intro k Fx Q a w hx h
  obtain ⟨ρ,hr,hd,hF,h⟩:=h
  change loopV (ann k) (asg b) (wpC P n ann b (k+1)) Q ρ w at h
  unfold loopV at h
  split at h
  ·exact h.elim
  ·rename_i hdis
   obtain ⟨I,μ,h0,hall⟩:=h
   generalize han:ann k=an at *
   let Fx2:Nat->Option Value:=λ t=>if t ∈ an.fx/\t<n then some (ρ t) else Fx t
   have hFx2:∀t ∈ asg b,Fx2 t=none:=by
    intro t ht
    have:t ∉ an.fx:=λ hm=>dis_spec hdis hm ht
    simp only [Fx2,this,false_and,if_false]
    exact hx t ht
   have hF2:∀t v,Fx2 t=some v->a.tmps[t]?=some v:=by
    intro t v hv
    simp only [Fx2] at hv
    split at hv
    ·rename_i hc
     cases hv
     exact hr.get t hc.2
    ·exact hF t v hv
   obtain ⟨ρ1,i,m1,hr1,hi,hB⟩:=unT_allT hr an.st I μ (fixF an.fx ρ ρ) (λ t ht _=>by rw [fixF_get];split <;> rfl) h0 (hall ρ)
   refine wpIn_loopN (λ k0 a w=>∃(ρ1:Fr) (i:World->Prop) (μ1:World->Nat),Rep n a ρ1/\a.defers=D/\(∀t v,Fx2 t=some v->a.tmps[t]?=some v)/\i w/\μ1 w=k0/\
     ∀w,i w->wpC P n ann b (k+1) (λ e ρ' w'=>match e with
      | .normal=>unT ρ' an.st I μ λ i' m'=>i' w'/\m' w'<μ1 w
      | e=>Q e ρ' w') ρ1 w) (k0:=m1 w) ⟨ρ1,i,m1,hr1,hd,hF2,hi,rfl,hB⟩ ?round
   case round=>
    rintro k0 a1 w1 ⟨ρ1,i,m1,hr1,hd1,hF1,hi,rfl,hB⟩
    refine wpIn_mono (ih (k+1) Fx2 _ a1 w1 hFx2 ⟨ρ1,hr1,hd1,hF1,hB w1 hi⟩) λ e a' w' hq=>?_
    have weak:∀{K:Fr->World->Prop},Real n D Fx2 K a' w'->Real n D Fx K a' w':=by
     rintro K ⟨ρ',hr',hd',hF',hK⟩
     refine ⟨ρ',hr',hd',λ t v hv=>?_,hK⟩
     by_cases hc:t ∈ an.fx/\t<n
     ·have e1:=hF' t (ρ t) (by simp only [Fx2,if_pos hc])
      have e2:=hF t v hv
      rw [hr.get t hc.2] at e2
      rw [e1];exact e2
     ·exact hF' t v (by simp only [Fx2,if_neg hc];exact hv)
    cases e with
    | normal=>
     obtain ⟨ρ',hr',hd',hF',hq⟩:=hq
     obtain ⟨ρ2,i2,m2,hr2,⟨hi2,hlt⟩,hB2⟩:=unT_allT hr' an.st I μ (fixF an.fx ρ ρ') (λ t ht _=>by
      rw [fixF_get]
      split
      ·rename_i hm
       have e1:=hF' t (ρ t) (by simp only [Fx2,if_pos (And.intro hm ht)])
       rw [hr'.get t ht] at e1
       injection e1 with e1
       exact e1.symm
      ·rfl) hq (hall ρ')
     exact ⟨m2 w',hlt,ρ2,i2,m2,hr2,hd',hF',hi2,rfl,hB2⟩
    | exit id=>exact weak hq
    | ret=>exact weak hq
    | goto l=>exact hq
    | panic c=>exact hq
    | outgrown=>exact hq
 | rangeFunc f ps asx body iha ihb=>
  intro k Fx Q a w hx h
  obtain ⟨ρ,hr,hd,hF,h⟩:=h
  exact h.elim
 | exit id=>intro k Fx Q a w hx h;exact wpIn_exit h
 | scope c ih=>
  intro k Fx Q a w hx h
  exact wpIn_scope (λ l a w h=>h) (ih k Fx Q a w hx h)
 | label l=>intro k Fx Q a w hx h;exact wpIn_label h
 | goto l=>
  intro k Fx Q a w hx h
  obtain ⟨ρ,hr,hd,hF,h⟩:=h
  exact h.elim
 | ret=>intro k Fx Q a w hx h;exact wpIn_ret h
 | refuse why=>
  intro k Fx Q a w hx h
  obtain ⟨ρ,hr,hd,hF,h⟩:=h
  exact h.elim
end Go.Fw
