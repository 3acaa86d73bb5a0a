/- Part of a proof over the given program: texts of lemmas (conditions: none beyond each lemma as stated). -/
import Derived.Test.YtdmoefbfepeeaaaGreatDoorN5
import Derived.RangeFuncRecord
set_option linter.unnecessarySimpa false
set_option linter.unusedVariables false
set_option linter.unusedSimpArgs false

namespace Go.Fw
noncomputable def putL (ρ:Fr) (l:List (Nat × Value)):Fr:=List.rec (motive:=λ _=>Fr->Fr) (λ ρ=>ρ) (λ x _ ih ρ=>ih (upd ρ x.1 x.2)) l ρ
def rndQ (l:Nat) (Rec:LoopState->Option Code->Obj) (K:Bool->World->Prop) (e:Exit) (_:Fr) (w:World):Prop:=match e with
 | .normal=>(∃s p,w.heap[l]?=some (Rec s p))/\K true (w.putObj l (Rec .ready none))
 | .ret=>(∃s p,w.heap[l]?=some (Rec s p))/\K false (w.putObj l (Rec .done (some .ret)))
 | .exit id=>(∃s p,w.heap[l]?=some (Rec s p))/\K false (w.putObj l (Rec .done (some (.exit id))))
 | _=>False
noncomputable def nlM (c:Code):Nat:=
 Code.rec (motive:=λ _=>Nat) 0 (λ _ _ _=>0) (λ _ _ a b=>a+b) (λ _ _ _ a b=>a+b) (λ _ _ a=>a) (λ _ a=>a+1) (λ _ _ _ _ a b=>a+b+1) (λ _=>0) (λ _ a=>a) (λ _=>0) (λ _=>0) 0 (λ _=>0) c
noncomputable def rndV (P:Program) (n:Nat) (ann:Nat->Ann) (assign body:Code) (k:Nat) (l:Nat) (Rec:LoopState->Option Code->Obj) (K:Bool->World->Prop) (ρ:Fr) (w:World):Prop:=
 wpC P n ann assign k (λ e ρ1 w1=>match e with
  | .normal=>w1.heap[l]?=some (Rec .ready none)/\wpC P n ann body (k+nlM assign) (rndQ l Rec K) ρ1 (w1.putObj l (Rec .busy none))
  | _=>False) ρ w
noncomputable def exOf (c:Code):List (Option Nat):=
 Code.rec (motive:=λ _=>List (Option Nat)) [] (λ _ _ _=>[]) (λ _ _ a b=>a ++ b) (λ _ _ _ a b=>a ++ b) (λ _ _ a=>a) (λ _ a=>a) (λ _ _ _ _ a b=>a ++ b) (λ id=>[some id]) (λ _ a=>a) (λ _=>[]) (λ _=>[]) [none] (λ _=>[]) c
noncomputable def rngX (l d:Nat) (Rec:LoopState->Option Code->Obj) (ms:List Nat) (Q:List Nat->Exit->Fr->World->Prop) (ρ:Fr) (xs:List (Option Nat)) (w:World):Prop:=
 List.rec (motive:=λ _=>Prop) False (λ x _ ih=>match x with
  | none=>(w.heap[l]?=some (Rec .done (some .ret))/\Q (d :: ms) .ret ρ (w.putObj l (Rec .exhausted (some .ret))))\/ih
  | some id=>(w.heap[l]?=some (Rec .done (some (.exit id)))/\Q (d :: ms) (.exit id) ρ (w.putObj l (Rec .exhausted (some (.exit id)))))\/ih) xs
noncomputable def rngE (l d:Nat) (Rec:LoopState->Option Code->Obj) (ms:List Nat) (Q:List Nat->Exit->Fr->World->Prop) (ρ:Fr) (xs:List (Option Nat)) (e:Ending) (w:World):Prop:=
 (∃v,e=.returned v)/\((w.heap[l]?=some (Rec .ready none)/\Q (d :: ms) .normal ρ (w.putObj l (Rec .exhausted none)))\/rngX l d Rec ms Q ρ xs w)
def allTag (g:Tag) (K:Value->Prop):Prop:=match g with
 | .int k=>∀n:Int,K (.int k n)
 | .bool=>∀b:Bool,K (.bool b)
 | .str=>∀b:ByteArray,K (.string b)
 | .ptr=>∀b:Option Addr,K (.pointer b)
 | .slice=>∀(a:Option Addr) (n c:Nat),K (.slice a n c)
 | .map=>∀b:Option Nat,K (.map b)
 | .raw=>∀b:Value,K b
theorem allTag_of {g:Tag} {K:Value->Prop} (h:∀v,K v):allTag g K:=by cases g <;> simp only [allTag] <;> intros <;> exact h _
def allTags (ts:List Tag) (K:List Value->Prop):Prop:=match ts with
 | []=>K []
 | g :: ts=>allTag g λ v=>allTags ts λ vs=>K (v :: vs)
theorem allTags_of:∀{ts:List Tag} {K:List Value->Prop},(∀vs,K vs)->allTags ts K
 | [],_,h=>h []
 | _ :: _,_,h=>allTag_of λ _=>allTags_of λ _=>h _
def forT (ρ:Fr) (l:List (Nat × Shape)) (F:List Value->Fr->Prop):Prop:=match l with
 | []=>F [] ρ
 | (t,.one g) :: l=>allTag g λ v=>forT (upd ρ t v) l (λ vs=>F (v :: vs))
 | (t,.agg ts) :: l=>allTags ts λ cs=>forT (upd ρ t (.agg cs.toArray)) l (λ vs=>F (.agg cs.toArray :: vs))
theorem forT_of:∀(l:List (Nat × Shape)) (ρ:Fr) (F:List Value->Fr->Prop),(∀vs,vs.length=l.length->F vs (putL ρ ((l.map (·.1)).zip vs)))->forT ρ l F
 | [],ρ,F,h=>h [] rfl
 | (t,g) :: l,ρ,F,h=>by
  have step:∀v,∀vs,vs.length=l.length->F (v :: vs) (putL (upd ρ t v) ((l.map (·.1)).zip vs)):=λ v vs hl=>h (v :: vs) (by simp [hl])
  cases g with
  | one g=>exact allTag_of λ v=>forT_of l _ _ (λ vs hl=>step _ vs hl)
  | agg ts=>exact allTags_of λ cs=>forT_of l _ _ (λ vs hl=>step _ vs hl)
def sameL (a b:List Nat):Bool:=match a,b with
 | [],[]=>true
 | x :: a,y :: b=>match Nat.beq x y with | true=>sameL a b | false=>false
 | _,_=>false
theorem sameL_eq:∀{a b:List Nat},sameL a b=true->a=b
 | [],[],_=>rfl
 | x :: a,y :: b,h=>by
  simp only [sameL] at h
  split at h
  ·rename_i hb
   rw [Nat.eq_of_beq_eq_true hb,sameL_eq h]
  ·cases h
 | [],_ :: _,h=>by cases h
 | _ :: _,[],h=>by cases h
def CallG (P:Program) (fv:Value) (args:Array Value) (w:World) (R:Ending->World->Prop):Prop:=match fv with
 | .func (.func f) first cap=>(callFunc f (first ++ args ++ cap)).run P w=.ok (.enter f (first ++ args ++ cap)) w/\Calls P f (first ++ args ++ cap) w R
 | _=>False
noncomputable def rngV (P:Program) (n:Nat) (ann:Nat->Ann) (sh:Nat->List (Nat × Shape)) (g:Operand) (ps:Array Tmp) (assign body:Code) (k:Nat) (ms:List Nat) (Q:List Nat->Exit->Fr->World->Prop) (ρ:Fr) (w:World):Prop:=
 match sameL ((sh k).map (·.1)) ps.toList with
 | false=>False
 | true=>∀Rec:LoopState->Option Code->Obj,(∀s p c e f,Rec s p≠.cells c e f)->
  (∀(w':World) (K:Bool->World->Prop),w'.heap[w.heap.size+1]?=some (Rec .ready none)->
   forT ρ (sh k) λ vs ρ1=>rndV P n ann assign body (k+1) (w.heap.size+1) Rec K ρ1 w'->RoundK P (w.heap.size+1) vs.toArray w' K)->
  CallG P (ev n ρ g) #[.func (.yield (w.heap.size+1)) #[] #[]] ((w.alloc (.deferred (some []))).alloc (Rec .ready none)) (rngE (w.heap.size+1) w.heap.size Rec ms Q ρ (exOf body))
noncomputable def wpM (P:Program) (n:Nat) (ann:Nat->Ann) (sh:Nat->List (Nat × Shape)) (c:Code):Nat->List Nat->(List Nat->Exit->Fr->World->Prop)->Fr->World->Prop:=
 Code.rec (motive:=λ _=>Nat->List Nat->(List Nat->Exit->Fr->World->Prop)->Fr->World->Prop)
  (λ _ ms Q ρ w=>Q ms .normal ρ w)
  (λ _ ops draw _ ms Q ρ w=>vcRegion P n ops draw (Q ms .normal) ρ w)
  (λ a _ iha ihb k ms Q ρ w=>iha k ms (λ ms e ρ w=>match e with | .normal=>ihb (k+nlM a) ms Q ρ w | e=>Q ms e ρ w) ρ w)
  (λ c a _ iha ihb k ms Q ρ w=>match ev n ρ c with
   | .bool b=>match c with
    | .tmp t=>bsel b (iha k ms Q (upd ρ t (.bool true)) w) (ihb (k+nlM a) ms Q (upd ρ t (.bool false)) w)
    | _=>bsel b (iha k ms Q ρ w) (ihb (k+nlM a) ms Q ρ w)
   | _=>False)
  (λ id _ ih k ms Q ρ w=>ih k ms (λ ms e ρ w=>match e with | .exit id'=>(match Nat.beq id' id with | true=>Q ms .normal ρ w | false=>Q ms (.exit id') ρ w) | e=>Q ms e ρ w) ρ w)
  (λ b _ k ms Q ρ w=>loopV (ann k) (asg b) (wpC P n ann b (k+1)) (Q ms) ρ w)
  (λ g ps assign body _ _ k ms Q ρ w=>rngV P n ann sh g ps assign body k ms Q ρ w)
  (λ id _ ms Q ρ w=>Q ms (.exit id) ρ w)
  (λ _ ih k ms Q ρ w=>ih k ms Q ρ w)
  (λ _ _ ms Q ρ w=>Q ms .normal ρ w)
  (λ _ _ _ _ _ _=>False)
  (λ _ ms Q ρ w=>Q ms .ret ρ w)
  (λ _ _ _ _ _ _=>False) c
def marksOf (ms:List Nat):List Deferred:=ms.map λ r=>{ target:=.collected r,args:=#[] }
def liftM (n:Nat) (Q:List Nat->Exit->Fr->World->Prop) (e:Exit) (a:Act) (w:World):Prop:=
 ∃ms,lift n (marksOf ms) (λ _=>none) (Q ms) e a w
theorem fence_in (l:Nat):(fence none).inRound l=fence (some l):=rfl
theorem rep_putL {n:Nat} {a:Act}:∀(l:List (Nat × Value)) (tmps:Array Value) (ρ:Fr),Rep n { tmps:=tmps,defers:=a.defers } ρ->
  Rep n { tmps:=l.foldl (λ tmps x=>tmps.setIfInBounds x.1 x.2) tmps,defers:=a.defers } (putL ρ l)
 | [],_,_,h=>h
 | x :: l,tmps,ρ,h=>by
  have:=h.put (some x.1) x.2
  exact rep_putL (a:=a) l _ _ this
theorem roundK_of {P:Program} (hP:Plain P) (hM:P.follows .mixedOrders=true) {n:Nat} {ann:Nat->Ann} {l:Nat} {r:Loop} {k:Nat} {ρ:Fr} {w:World} {vs:List Value} {K:Bool->World->Prop}
  (hs:r.state=.ready) (hw:w.heap[l]?=some (.loop r)) (hl:vs.length=r.params.toList.length) (hr:Rep n { tmps:=r.tmps,defers:=[] } ρ)
  (h:rndV P n ann r.assign r.body k l (λ s p=>.loop { r with state:=s,pending:=p }) K (putL ρ (r.params.toList.zip vs)) w) (hp:r.pending=none):RoundK P l vs.toArray w K:=by
 have hrun:=run_yield (P:=P) (args:=vs.toArray) hw (by simpa using hl)
 have e0:((r.params.zip vs.toArray).foldl (λ tmps (x:Tmp × Value)=>tmps.setIfInBounds x.1 x.2) r.tmps)=(r.params.toList.zip vs).foldl (λ tmps x=>tmps.setIfInBounds x.1 x.2) r.tmps:=by
  rw [<-Array.foldl_toList,Array.toList_zip]
 refine ⟨_,_,_,_,_,hrun,?_⟩
 have hrep:=rep_putL (a:={ tmps:=#[],defers:=[] }) (r.params.toList.zip vs) r.tmps ρ hr
 have e1:(r.params.zip vs.toArray).foldl (λ tmps x=>match x with | (t,a)=>tmps.setIfInBounds t a) r.tmps=(r.params.toList.zip vs).foldl (λ tmps x=>tmps.setIfInBounds x.1 x.2) r.tmps:=e0
 rw [e1]
 have hr0:r={ r with state:=.ready,pending:=none }:=by cases r;simp_all
 have h1:RoundIn (fence none) 0 P l r.fn ((r.params.toList.zip vs).foldl (λ tmps x=>tmps.setIfInBounds x.1 x.2) r.tmps) r.assign r.body w λ e w''=>∃b,e=.returned (.bool b)/\K b w'':=by
  refine roundIn_of_wpIn trivial ?_
  rw [fence_in]
  have hs1:=wpC_sound (rd:=some l) (m:=0) (D:=[]) hP hM r.assign k (λ _=>none) _ _ w (λ _ _=>rfl) ⟨_,hrep,rfl,(λ t v hv=>by cases hv),h⟩
  refine wpIn_mono hs1 λ e a w1 hq=>?_
  cases e with
  | normal=>
   obtain ⟨ρ1,hr1,hd1,_,hq1,hq2⟩:=hq
   simp only at hq1
   rw [<-hr0] at hq1
   refine ⟨_,run_beginRound hq1 hs,?_⟩
   have e2:({ r with state:=.busy }:Loop)={ r with state:=.busy,pending:=none }:=by cases r;simp_all
   rw [e2]
   have hs2:=wpC_sound (rd:=some l) (m:=0) (D:=[]) hP hM r.body (k+nlM r.assign) (λ _=>none) _ _ _ (λ _ _=>rfl) ⟨ρ1,hr1,hd1,(λ t v hv=>by cases hv),hq2⟩
   refine wpIn_mono hs2 λ e a w2 hq=>?_
   cases e with
   | normal=>
    obtain ⟨_,_,_,_,⟨s,p,hh⟩,hK⟩:=hq
    exact ⟨_,_,run_endRound none hh,_,rfl,hK⟩
   | ret=>
    obtain ⟨_,_,_,_,⟨s,p,hh⟩,hK⟩:=hq
    exact ⟨_,_,run_endRound (some .ret) hh,_,rfl,hK⟩
   | exit id=>
    obtain ⟨_,_,_,_,⟨s,p,hh⟩,hK⟩:=hq
    exact ⟨_,_,run_endRound (some (.exit id)) hh,_,rfl,hK⟩
   | goto l=>exact False.elim hq
   | panic c=>exact False.elim hq
   | outgrown=>exact False.elim hq
  | exit id=>obtain ⟨_,_,_,_,hq⟩:=hq;exact hq
  | ret=>obtain ⟨_,_,_,_,hq⟩:=hq;exact hq
  | goto l=>exact False.elim hq
  | panic c=>exact False.elim hq
  | outgrown=>exact False.elim hq
 exact ⟨trivial,λ c cs _=>h1.2 c cs (room_wide _)⟩
def takeAll:List Nat->(World->Prop)->World->Prop
 | [],K,w=>K w
 | r :: rs,K,w=>w.heap[r]?=some (.deferred (some []))/\takeAll rs K (w.putObj r (.deferred none))
theorem wpM_sound {P:Program} (hP:Plain P) (hM:P.follows .mixedOrders=true) {n:Nat} {ann:Nat->Ann} {sh:Nat->List (Nat × Shape)} {m:Nat} :
  ∀(c:Code) (k:Nat) (ms:List Nat) (Q:List Nat->Exit->Fr->World->Prop) (a:Act) (w:World),
   Real n (marksOf ms) (λ _=>none) (wpM P n ann sh c k ms Q) a w->c.wpIn (fence none) m P (liftM n Q) a w:=by
 have base:∀(c:Code) (k:Nat) (ms:List Nat) (Q:List Nat->Exit->Fr->World->Prop) (a:Act) (w:World),
   Real n (marksOf ms) (λ _=>none) (wpC P n ann c k (Q ms)) a w->c.wpIn (fence none) m P (liftM n Q) a w:=λ c k ms Q a w h=>
  wpIn_mono (wpC_sound (rd:=none) (m:=m) hP hM c k (λ _=>none) _ a w (λ _ _=>rfl) h) λ e a w hq=>⟨ms,hq⟩
 intro c
 induction c with
 | skip=>intro k ms Q a w h;exact base .skip k ms Q a w h
 | region id ops draw=>intro k ms Q a w h;exact base (.region id ops draw) k ms Q a w h
 | loop b ih=>intro k ms Q a w h;exact base (.loop b) k ms Q a w h
 | exit id=>intro k ms Q a w h;exact base (.exit id) k ms Q a w h
 | scope b ih=>intro k ms Q a w h;exact wpIn_scope (λ l a w hq=>by obtain ⟨_,hq⟩:=hq;exact hq) (ih k ms Q a w h)
 | label l=>intro k ms Q a w h;exact base (.label l) k ms Q a w h
 | goto l=>intro k ms Q a w h;obtain ⟨_,_,_,_,h⟩:=h;exact h.elim
 | ret=>intro k ms Q a w h;exact base .ret k ms Q a w h
 | refuse s=>intro k ms Q a w h;obtain ⟨_,_,_,_,h⟩:=h;exact h.elim
 | seq x y ihx ihy=>
  intro k ms Q a w h
  refine wpIn_seq (wpIn_mono (ihx k ms _ a w h) λ e a' w' hq=>?_)
  obtain ⟨ms',hq⟩:=hq
  cases e with
  | normal=>exact ihy _ ms' Q a' w' hq
  | exit id=>exact ⟨ms',hq⟩
  | ret=>exact ⟨ms',hq⟩
  | goto l=>exact False.elim hq
  | panic c=>exact False.elim hq
  | outgrown=>exact False.elim hq
 | cond c x y ihx ihy=>
  intro k ms Q a w h
  obtain ⟨ρ,hr,hd,hF,h⟩:=h
  change (match ev n ρ c with
   | .bool b=>match (generalizing:=false) c with
    | .tmp t=>bsel b (wpM P n ann sh x k ms Q (upd ρ t (.bool true)) w) (wpM P n ann sh y (k+nlM x) ms Q (upd ρ t (.bool false)) w)
    | _=>bsel b (wpM P n ann sh x k ms Q ρ w) (wpM P n ann sh y (k+nlM x) ms Q ρ w)
   | _=>False) at h
  split at h
  ·rename_i b hb
   have hev:a.eval c=.bool b:=by rw [hr.eval,hb]
   split at h
   ·rename_i t
    have hpos:∀v,ev n ρ (.tmp t)=.bool v->Rep n a (upd ρ t (.bool v)):=by
     intro v hv
     simp only [ev] at hv
     split at hv
     ·exact hr.set t _ hv
     ·simp [undef] at hv
    cases b
    ·exact wpIn_cond_false hev (ihy _ ms Q a w ⟨_,hpos _ hb,hd,hF,h⟩)
    ·exact wpIn_cond_true hev (ihx _ ms Q a w ⟨_,hpos _ hb,hd,hF,h⟩)
   ·cases b
    ·exact wpIn_cond_false hev (ihy _ ms Q a w ⟨_,hr,hd,hF,h⟩)
    ·exact wpIn_cond_true hev (ihx _ ms Q a w ⟨_,hr,hd,hF,h⟩)
  ·exact h.elim
 | block id c ih=>
  intro k ms Q a w h
  refine wpIn_block (wpIn_mono (ih k ms _ a w h) λ e a' w' hq=>?_)
  obtain ⟨ms',hq⟩:=hq
  cases e with
  | normal=>exact ⟨ms',hq⟩
  | exit id'=>
   obtain ⟨ρ,hr,hd,hF,hq⟩:=hq
   simp only at hq
   simp only [Exit.inBlock]
   split at hq
   ·rename_i hb
    rw [if_pos (Nat.eq_of_beq_eq_true hb)]
    exact ⟨ms',ρ,hr,hd,hF,hq⟩
   ·rename_i hb
    rw [if_neg (Nat.ne_of_beq_eq_false hb)]
    exact ⟨ms',ρ,hr,hd,hF,hq⟩
  | ret=>exact ⟨ms',hq⟩
  | goto l=>exact False.elim hq
  | panic c=>exact False.elim hq
  | outgrown=>exact False.elim hq
 | rangeFunc g ps assign body iha ihb=>
  intro k ms Q a w h
  obtain ⟨ρ,hr,hd,hF,h⟩:=h
  change rngV P n ann sh g ps assign body k ms Q ρ w at h
  unfold rngV at h
  split at h
  ·exact h.elim
  rename_i hsame
  have hsame:=sameL_eq hsame
  refine wpIn_rangeFunc λ fn _=>?_
  let r:Loop:={ state:=.ready,pending:=none,fn:=fn,tmps:=a.tmps,params:=ps,assign:=assign,body:=body,defers:=w.heap.size }
  have h2:=h (λ s p=>.loop { r with state:=s,pending:=p }) (λ s p c e f hh=>by cases hh) (λ w' K hw=>forT_of _ _ _ λ vs hl hv=>roundK_of hP hM (r:=r) rfl hw
   (by
    have e:(sh k).length=ps.toList.length:=by rw [<-hsame,List.length_map]
    rw [<-e];exact hl) ⟨hr.size,hr.get⟩ (by rw [hsame] at hv;exact hv) rfl)
  have hentry:=run_enterLoop_outer (P:=P) (w:=w) fn a.tmps ps assign body
  have hev:a.eval g=ev n ρ g:=hr.eval g
  generalize hfv:ev n ρ g=fv at h2 hev
  unfold CallG at h2
  split at h2
  ·rename_i f first cap
   obtain ⟨hcf,hcall⟩:=h2
   refine ⟨w.heap.size+1,[{ target:=.collected w.heap.size,args:=#[] }],(w.alloc (.deferred (some []))).alloc (.loop { r with state:=.ready,pending:=none }),{ target:=.fn (.func f) cap,args:=first ++ #[.func (.yield (w.heap.size+1)) #[] #[]] },
    (w.alloc (.deferred (some []))).alloc (.loop { r with state:=.ready,pending:=none }),f,first ++ #[.func (.yield (w.heap.size+1)) #[] #[]] ++ cap,(w.alloc (.deferred (some []))).alloc (.loop { r with state:=.ready,pending:=none }),hentry,?_,?_,?_,?_,?_⟩
   ·have hc:∀v,a.eval (.const v)=v:=λ _=>rfl
    simp [resolve,hev,Deferred.ofValue,hc]
   ·intro f' _;trivial
   ·simp only [invoke];exact hcf
   ·intro hh;simp [fence,Fence.wide] at hh
   ·generalize hR:rngE (w.heap.size+1) w.heap.size (λ s p=>Obj.loop { r with state:=s,pending:=p }) ms Q ρ (exOf body)=R at hcall
    have h1:CallsIn Fence.wide (m-1) P f (first ++ #[.func (.yield (w.heap.size+1)) #[] #[]] ++ cap) ((w.alloc (.deferred (some []))).alloc (.loop { r with state:=.ready,pending:=none })) R:=callsIn_wide.2 hcall
    have h2:CallsIn (fence none) (m-1) P f (first ++ #[.func (.yield (w.heap.size+1)) #[] #[]] ++ cap) ((w.alloc (.deferred (some []))).alloc (.loop { r with state:=.ready,pending:=none })) R:=h1
    refine CallsIn.mono h2 λ e w3 hq=>?_
    rw [<-hR] at hq
    obtain ⟨⟨v,rfl⟩,hq⟩:=hq
    have hD:(marksOf [w.heap.size] ++ a.defers)=marksOf (w.heap.size :: ms):=by rw [hd];rfl
    rcases hq with ⟨hh,hq⟩ | hq
    ·refine ⟨none,_,run_endLoop hh (by simp),?_⟩
     exact ⟨w.heap.size :: ms,ρ,⟨hr.size,hr.get⟩,hD,hF,hq⟩
    ·generalize exOf body=xs at hq
     induction xs with
     | nil=>exact False.elim hq
     | cons x xs ihx=>
      cases x with
      | none=>
       rcases hq with ⟨hh,hq⟩ | hq
       ·exact ⟨some .ret,_,run_endLoop hh (by simp),wpIn_ret ⟨w.heap.size :: ms,ρ,⟨hr.size,hr.get⟩,hD,hF,hq⟩⟩
       ·exact ihx hq
      | some id=>
       rcases hq with ⟨hh,hq⟩ | hq
       ·exact ⟨some (.exit id),_,run_endLoop hh (by simp),wpIn_exit ⟨w.heap.size :: ms,ρ,⟨hr.size,hr.get⟩,hD,hF,hq⟩⟩
       ·exact ihx hq
  ·exact h2.elim
def resM (P:Program) (n:Nat) (rs:List ResultVar) (Qr:Value->World->Prop) (ms:List Nat) (e:Exit) (ρ:Fr) (w:World):Prop:=match e with
 | .normal=>takeAll ms (resV P n rs Qr ρ) w
 | .ret=>takeAll ms (resV P n rs Qr ρ) w
 | _=>False
theorem leaves_of {P:Program} {F:Fence} {n m:Nat} {fn:Func} {tmps:Array Value} {R:Ending->World->Prop} {K:World->Prop} (hK:∀w,K w->LeavesInM F m P fn tmps R [] .returning w) :
  ∀(ms:List Nat) (w:World),takeAll ms K w->LeavesInM F m P fn tmps R (marksOf ms) .returning w
 | [],w,h=>hK w h
 | r :: rs,w,h=>by
  obtain ⟨h1,h2⟩:=h
  exact ⟨by simp,.inl ⟨r,_,rfl,run_takeDeferred h1,leaves_of (n:=n) hK rs _ h2⟩⟩
theorem calls_of_vcM {P:Program} (hP:Plain P) (hM:P.follows .mixedOrders=true) {f:FuncId} {fn:Func} {c:Code} {args:List Value} {w:World} {Q:Value->World->Prop} (ann:Nat->Ann) (sh:Nat->List (Nat × Shape))
  (hf:P.funcs[f]?=some fn) (hb:fn.body=some c) (hle:Nat.ble args.length fn.ntmps=true)
  (h:wpM P fn.ntmps ann sh c 0 [] (resM P fn.ntmps fn.results.toList Q) (argsF args) w):Calls P f args.toArray w λ e w'=>∃v,e=.returned v/\Q v w':=by
 have hle:=Nat.le_of_ble_eq_true hle
 refine (callsIn_wide (n:=0)).1 ?_
 have key:CallsIn (fence none) 0 P f args.toArray w λ e w'=>∃v,e=.returned v/\Q v w':=by
  refine callsIn_of_wp_marks hf hb trivial ?_
  have hrep:Rep fn.ntmps { tmps:=args.toArray ++ Array.replicate (fn.ntmps-args.toArray.size) undef,defers:=[] } (argsF args):=by
   refine ⟨by simp;omega,λ t ht=>?_⟩
   simp only [argsF,List.size_toArray]
   by_cases hlt:t<args.length
   ·rw [Array.getElem?_append_left (by simpa using hlt)]
    simp [hlt]
   ·rw [Array.getElem?_append_right (by simpa using hlt)]
    have:args[t]?=none:=by simp;omega
    rw [this,Array.getElem?_replicate,if_pos (by simp only [List.size_toArray];omega)]
  have hs:=wpM_sound (m:=0) hP hM c 0 [] _ _ w ⟨_,hrep,rfl,(λ t v hv=>by cases hv),h⟩
  refine wpIn_mono hs λ e a w' hq=>?_
  obtain ⟨ms,hq⟩:=hq
  have fin:∀{a:Act} {w':World},Real fn.ntmps (marksOf ms) (λ _=>none) (λ ρ w=>takeAll ms (resV P fn.ntmps fn.results.toList Q ρ) w) a w'->
    LeavesInM (fence none) 0 P fn a.tmps (λ e w'=>∃v,e=.returned v/\Q v w') a.defers .returning w':=by
   rintro a w' ⟨ρ,hr,hd,_,hq⟩
   rw [hd]
   refine leaves_of (n:=0) (λ w3 hK=>?_) ms w' hq
   obtain ⟨vs,hm,hl,hK⟩:=resL_run hr _ _ hK
   have hm':(fn.results.mapM (λ (x:ResultVar)=>(match x with | .tmp t=>pure (a.tmps.getD t undef) | .cell ad t=>do loadVar t (<-asAddr (a.tmps.getD ad undef)):Sem Value))).run P w3=.ok vs.toArray w3:=by
    rw [Array.mapM_eq_mapM_toList]
    simp only [map_eq_pure_bind,Sem.run_bind,Result.andThen,Sem.run_pure]
    erw [hm]
   show LeavesIn (fence none) 0 P fn a.tmps _ [] .returning w3
   split at hK
   ·rename_i v
    exact ⟨v,by unfold results;rw [Sem.run_bind];erw [hm'];rfl,v,rfl,hK⟩
   ·rename_i hne
    refine ⟨.tuple vs.toArray,?_,_,rfl,hK⟩
    unfold results
    rw [Sem.run_bind]
    erw [hm']
    have hs:¬vs.toArray.size=1:=by
     intro hc
     match vs,hc with
     | [v],_=>exact hne v rfl
    simp only [Result.andThen,dif_neg hs]
    rfl
  cases e with
  | normal=>exact fin hq
  | ret=>exact fin hq
  | exit id=>obtain ⟨ρ,_,_,_,hq⟩:=hq;exact hq.elim
  | goto l=>exact False.elim hq
  | panic c=>exact False.elim hq
  | outgrown=>exact False.elim hq
 exact key
end Go.Fw

namespace Go.Fw
open Go.Proofs
theorem sound_ofM {f:FuncId} {fn:Func} {args:List Value} {w:World} {Q:Value->World->Prop} (hf:Tryz.prog.funcs[f]?=some fn) (ann:Nat->Ann) (sh:Nat->List (Nat × Shape)) (hle:Nat.ble args.length fn.ntmps=true)
  (h:match fn.body with | some c=>wpM Tryz.prog fn.ntmps ann sh c 0 [] (resM Tryz.prog fn.ntmps fn.results.toList Q) (argsF args) w | none=>False) :
  Calls Tryz.prog f args.toArray w λ e w'=>∃v,e=.returned v/\Q v w':=by
 split at h
 ·rename_i c hb;exact calls_of_vcM pPlain pMixed ann sh hf hb hle h
 ·exact h.elim
end Go.Fw

set_option maxRecDepth 100000
namespace Go.Fw
open Go.Proofs
def V128 (x1 x2:Option Addr) (x3 x4:Nat) (w:World) (Q:Value->World->Prop):Prop:=
Calls Tryz.prog 120 #[.pointer x1] w λ e5 w6=>∃t7,e5=.returned (t7)/\
nilK x1 λ a8=>
∃t9 t10 t11,w6.cell? (a8.add 1)=some (.slice t9 t10 t11)/\
∃w12:World,∃t13 t14 t15,(vcEff.bltV .append #[148,148] 148 #[.slice t9 t10 t11,.slice x2 x3 x4]).run Tryz.prog w6=.ok (.slice t13 t14 t15) w12/\
nilK x1 λ a16=>
stK w12 (a16.add 1) (.slice t13 t14 t15) λ w17=>
Q (.tuple #[.int .i64 (x3:Int),.nilIface]) w17
def V128_ann:Nat->Ann:=λ _=>⟨[],[]⟩
theorem V128_sound (x1 x2 x3 x4 w Q) (h:V128 x1 x2 x3 x4 w Q):Calls Tryz.prog 128 #[.pointer x1,.slice x2 x3 x4] w λ e w'=>∃v,e=.returned v/\Q v w':=
 sound_of Tryz.func128 V128_ann rfl (Eq.mpr (by kernel_rfl) h)
end Go.Fw

set_option maxRecDepth 100000
namespace Go.Fw
open Go.Proofs
def V216  (w:World) (Q:Value->World->Prop):Prop:=
∃w1:World,∃t2,(Instr.makeMap 344 none).run Tryz.prog w=.ok (.map t2) w1/\
∃w3:World,(Instr.mapUpdate 344 (.map t2) (.int .i64 1) (.agg #[.func (.func 277) #[] #[],.func (.func 284) #[] #[]])).run Tryz.prog w1=.ok () w3/\
∃w4:World,(Instr.mapUpdate 344 (.map t2) (.int .i64 2) (.agg #[.func (.func 279) #[] #[],.func (.func 285) #[] #[]])).run Tryz.prog w3=.ok () w4/\
∃w5:World,(Instr.mapUpdate 344 (.map t2) (.int .i64 3) (.agg #[.func (.func 282) #[] #[],.func (.func 284) #[] #[]])).run Tryz.prog w4=.ok () w5/\
∃w6:World,(Instr.mapUpdate 344 (.map t2) (.int .i64 4) (.agg #[.func (.func 277) #[] #[],.func (.func 285) #[] #[]])).run Tryz.prog w5=.ok () w6/\
Q (.map t2) w6
def V216_ann:Nat->Ann:=λ _=>⟨[],[]⟩
theorem V216_sound (w Q) (h:V216  w Q):Calls Tryz.prog 216 #[] w λ e w'=>∃v,e=.returned v/\Q v w':=
 sound_of Tryz.func216 V216_ann rfl (Eq.mpr (by kernel_rfl) h)
def V217 (x1:Option Addr) (w:World) (Q:Value->World->Prop):Prop:=
nilK x1 λ a2=>
∃t3,w.cell? (a2.add 0)=some (.pointer t3)/\
bsel (Option.isNone t3) (
Calls Tryz.prog 214 #[.pointer none] w λ e4 w5=>∃t6,e4=.returned (.pointer t6)/\
nilK x1 λ a7=>
stK w5 (a7.add 0) (.pointer t6) λ w8=>
nilK x1 λ a13=>
∃t14,w8.cell? (a13.add 0)=some (.pointer t14)/\
Q (.pointer t14) w8) (
nilK x1 λ a15=>
∃t16,w.cell? (a15.add 0)=some (.pointer t16)/\
Q (.pointer t16) w)
def V217_ann:Nat->Ann:=λ _=>⟨[],[]⟩
theorem V217_sound (x1 w Q) (h:V217 x1 w Q):Calls Tryz.prog 217 #[.pointer x1] w λ e w'=>∃v,e=.returned v/\Q v w':=
 sound_of Tryz.func217 V217_ann rfl (Eq.mpr (by kernel_rfl) h)
def V278 (x1:Int) (x2:Bool) (x3 x4:Int) (x5 x6:Int) (w:World) (Q:Value->World->Prop):Prop:=
newK w #[.bool x2,.int .i64 x3,.int .i64 x4,.int .i64 x5,.int .i64 x6] 295 λ a7 w8=>
newK w8 #[.int .i64 0,.int .i64 0,.bool false,.int .i64 0,.int .i64 0] 272 λ a9 w10=>
∃t11,w10.cell? (a7.add 3)=some (.int .i64 t11)/\
stK w10 (a9.add 0) (.int .i64 2) λ w12=>
stK w12 (a9.add 1) (.int .i64 0) λ w13=>
stK w13 (a9.add 2) (.bool true) λ w14=>
stK w14 (a9.add 3) (.int .i64 t11) λ w15=>
stK w15 (a9.add 4) (.int .i64 x1) λ w16=>
∃t17 t18 t19 t20 t21,CellsAt w16 a9 [.int .i64 t17,.int .i64 t18,.bool t19,.int .i64 t20,.int .i64 t21]/\
Q (.agg #[.int .i64 t17,.int .i64 t18,.bool t19,.int .i64 t20,.int .i64 t21]) w16
def V278_ann:Nat->Ann:=λ _=>⟨[],[]⟩
theorem V278_sound (x1 x2 x3 x4 x5 x6 w Q) (h:V278 x1 x2 x3 x4 x5 x6 w Q):Calls Tryz.prog 278 #[.int .i64 x1,.agg #[.bool x2,.int .i64 x3,.int .i64 x4,.int .i64 x5,.int .i64 x6]] w λ e w'=>∃v,e=.returned v/\Q v w':=
 sound_of Tryz.func278 V278_ann rfl (Eq.mpr (by kernel_rfl) h)
def V279 (x1:Option Addr) (x2:Int) (x3:Bool) (x4 x5:Int) (x6 x7:Int) (w:World) (Q:Value->World->Prop):Prop:=
newK w #[.bool x3,.int .i64 x4,.int .i64 x5,.int .i64 x6,.int .i64 x7] 295 λ a8 w9=>
newK w9 #[.int .i64 0,.int .i64 0,.bool false,.int .i64 0,.int .i64 0] 272 λ a10 w11=>
nilK x1 λ a12=>
∃t13,w11.drew.cell? (a12.add 1)=some (.pointer t13)/\
nilK t13 λ a14=>
∃t15,w11.drew.cell? (a14.add 0)=some (.pointer t15)/\
nilK x1 λ a16=>
∃t17,w11.drew.cell? (a16.add 6)=some (.int .i64 t17)/\
Calls Tryz.prog 280 #[.pointer t15,.int .i64 x2,.int .i64 t17] w11.drew λ e18 w19=>∃t20,e18=.returned (.int .i64 t20)/\
nilK x1 λ a21=>
∃t22,w19.cell? (a21.add 1)=some (.pointer t22)/\
Calls Tryz.prog 281 #[.pointer t22] w19 λ e23 w24=>∃t25,e23=.returned (t25)/\
∃t26 t27 t28 t29 t30,CellsAt w24 a8 [.bool t26,.int .i64 t27,.int .i64 t28,.int .i64 t29,.int .i64 t30]/\
Calls Tryz.prog 278 #[.int .i64 x2,.agg #[.bool t26,.int .i64 t27,.int .i64 t28,.int .i64 t29,.int .i64 t30]] w24 λ e31 w32=>∃t33 t34 t35 t36 t37,e31=.returned (.agg #[.int .i64 t33,.int .i64 t34,.bool t35,.int .i64 t36,.int .i64 t37])/\
stK w32 (a10.add 0) (.int .i64 t33) λ w38=>
stK w38 (a10.add 1) (.int .i64 t34) λ w39=>
stK w39 (a10.add 2) (.bool t35) λ w40=>
stK w40 (a10.add 3) (.int .i64 t36) λ w41=>
stK w41 (a10.add 4) (.int .i64 t37) λ w42=>
∃t43 t44 t45 t46 t47,CellsAt w42 a10 [.int .i64 t43,.int .i64 t44,.bool t45,.int .i64 t46,.int .i64 t47]/\
Q (.agg #[.int .i64 t43,.int .i64 t44,.bool t45,.int .i64 t46,.int .i64 t47]) w42
def V279_ann:Nat->Ann:=λ _=>⟨[],[]⟩
theorem V279_sound (x1 x2 x3 x4 x5 x6 x7 w Q) (h:V279 x1 x2 x3 x4 x5 x6 x7 w Q):Calls Tryz.prog 279 #[.pointer x1,.int .i64 x2,.agg #[.bool x3,.int .i64 x4,.int .i64 x5,.int .i64 x6,.int .i64 x7]] w λ e w'=>∃v,e=.returned v/\Q v w':=
 sound_of Tryz.func279 V279_ann rfl (Eq.mpr (by kernel_rfl) h)
def V281 (x1:Option Addr) (w:World) (Q:Value->World->Prop):Prop:=
nilK x1 λ a2=>
∃t3,w.cell? (a2.add 2)=some (.int .u64 t3)/\
nilK x1 λ a4=>
stK w (a4.add 2) (.int .u64 (IntKind.wrap .u64 (t3+1))) λ w5=>
Q (.tuple #[]) w5
def V281_ann:Nat->Ann:=λ _=>⟨[],[]⟩
theorem V281_sound (x1 w Q) (h:V281 x1 w Q):Calls Tryz.prog 281 #[.pointer x1] w λ e w'=>∃v,e=.returned v/\Q v w':=
 sound_of Tryz.func281 V281_ann rfl (Eq.mpr (by kernel_rfl) h)
def V285 (x1:Option Addr) (w:World) (Q:Value->World->Prop):Prop:=
newK w #[.int .i64 0,.int .i64 0,.bool false,.int .i64 0,.int .i64 0] 272 λ a2 w3=>
nilK x1 λ a4=>
∃t5,w3.drew.cell? (a4.add 1)=some (.pointer t5)/\
nilK x1 λ a6=>
∃t7,w3.drew.cell? (a6.add 1)=some (.pointer t7)/\
nilK t7 λ a8=>
∃t9,w3.drew.cell? (a8.add 1)=some (.int .i64 t9)/\
Calls Tryz.prog 72 #[.pointer t5] w3.drew λ e10 w11=>∃t12,e10=.returned (.int .i64 t12)/\
(w11.cell? (a8.add 1)=some (.int .i64 t9))/\
(w11.cell? (a6.add 1)=some (.pointer t7))/\
bsel (decide (t12>=t9)) (
stK w11 (a2.add 0) (.int .i64 3) λ w13=>
stK w13 (a2.add 1) (.int .i64 0) λ w14=>
stK w14 (a2.add 2) (.bool false) λ w15=>
stK w15 (a2.add 3) (.int .i64 0) λ w16=>
stK w16 (a2.add 4) (.int .i64 0) λ w17=>
∃t18 t19 t20 t21 t22,CellsAt w17 a2 [.int .i64 t18,.int .i64 t19,.bool t20,.int .i64 t21,.int .i64 t22]/\
Q (.agg #[.int .i64 t18,.int .i64 t19,.bool t20,.int .i64 t21,.int .i64 t22]) w17) (
nilK x1 λ a23=>
∃t24,w11.drew.cell? (a23.add 1)=some (.pointer t24)/\
nilK t24 λ a25=>
∃t26,w11.drew.cell? (a25.add 0)=some (.pointer t26)/\
nilK x1 λ a27=>
∃t28,w11.drew.cell? (a27.add 4)=some (.int .i64 t28)/\
nilK x1 λ a29=>
∃t30,w11.drew.cell? (a29.add 5)=some (.int .i64 t30)/\
nilK x1 λ a31=>
∃t32,w11.drew.cell? (a31.add 6)=some (.int .i64 t32)/\
Calls Tryz.prog 286 #[.pointer t26,.int .i64 t28,.int .i64 t30,.int .i64 t32] w11.drew λ e33 w34=>∃t35 t36,e33=.returned (.tuple #[.int .i64 t35,.int .i64 t36])/\
nilK x1 λ a37=>
∃t38,w34.cell? (a37.add 1)=some (.pointer t38)/\
Calls Tryz.prog 281 #[.pointer t38] w34 λ e39 w40=>∃t41,e39=.returned (t41)/\
nilK x1 λ a42=>
∃t43,w40.cell? (a42.add 6)=some (.int .i64 t43)/\
stK w40 (a2.add 0) (.int .i64 2) λ w44=>
stK w44 (a2.add 1) (.int .i64 0) λ w45=>
stK w45 (a2.add 2) (.bool false) λ w46=>
stK w46 (a2.add 3) (.int .i64 t43) λ w47=>
stK w47 (a2.add 4) (.int .i64 t35) λ w48=>
∃t49 t50 t51 t52 t53,CellsAt w48 a2 [.int .i64 t49,.int .i64 t50,.bool t51,.int .i64 t52,.int .i64 t53]/\
Q (.agg #[.int .i64 t49,.int .i64 t50,.bool t51,.int .i64 t52,.int .i64 t53]) w48)
def V285_ann:Nat->Ann:=λ _=>⟨[],[]⟩
theorem V285_sound (x1 w Q) (h:V285 x1 w Q):Calls Tryz.prog 285 #[.pointer x1] w λ e w'=>∃v,e=.returned v/\Q v w':=
 sound_of Tryz.func285 V285_ann rfl (Eq.mpr (by kernel_rfl) h)
def V219J1 (Q:Value->World->Prop) (x50:Addr) (w51:World):Prop:=
∃t52 t53 t54 t55 t56,CellsAt w51 x50 [.int .i64 t52,.int .i64 t53,.bool t54,.int .i64 t55,.int .i64 t56]/\
Q (.agg #[.int .i64 t52,.int .i64 t53,.bool t54,.int .i64 t55,.int .i64 t56]) w51
def V219 (x1:Option Addr) (x2:Int) (w:World) (Q:Value->World->Prop):Prop:=
newK w #[.int .i64 0,.int .i64 0,.bool false,.int .i64 0,.int .i64 0] 272 λ a3 w4=>
nilK x1 λ a5=>
∃t6,w4.cell? (a5.add 1)=some (.pointer t6)/\
nilK t6 λ a7=>
∃t8,w4.cell? (a7.add 0)=some (.pointer t8)/\
Calls Tryz.prog 222 #[.pointer t8,.int .i64 x2] w4 λ e9 w10=>∃t11 t12 t13 t14 t15 t16,e9=.returned (.tuple #[.agg #[.bool t11,.int .i64 t12,.int .i64 t13,.int .i64 t14,.int .i64 t15],.int .i64 t16])/\
newK w10 #[.bool false,.int .i64 0,.int .i64 0,.int .i64 0,.int .i64 0] 295 λ a17 w18=>
stK w18 (a17.add 0) (.bool t11) λ w19=>
stK w19 (a17.add 1) (.int .i64 t12) λ w20=>
stK w20 (a17.add 2) (.int .i64 t13) λ w21=>
stK w21 (a17.add 3) (.int .i64 t14) λ w22=>
stK w22 (a17.add 4) (.int .i64 t15) λ w23=>
nilK x1 λ a24=>
∃t25,w23.drew.cell? ((a24.add 2).add 0)=some (t25)/\
∃t26 t27 t28 t29 t30,CellsAt w23.drew a17 [.bool t26,.int .i64 t27,.int .i64 t28,.int .i64 t29,.int .i64 t30]/\
CallV Tryz.prog t25 #[.pointer x1,.int .i64 x2,.agg #[.bool t26,.int .i64 t27,.int .i64 t28,.int .i64 t29,.int .i64 t30]] w23.drew λ e31 w32=>∃t33 t34 t35 t36 t37,e31=.returned (.agg #[.int .i64 t33,.int .i64 t34,.bool t35,.int .i64 t36,.int .i64 t37])/\
Calls Tryz.prog 221 #[.pointer x1,.agg #[.int .i64 t33,.int .i64 t34,.bool t35,.int .i64 t36,.int .i64 t37]] w32 λ e38 w39=>∃t40 t41 t42 t43 t44,e38=.returned (.agg #[.int .i64 t40,.int .i64 t41,.bool t42,.int .i64 t43,.int .i64 t44])/\
stK w39 (a3.add 0) (.int .i64 t40) λ w45=>
stK w45 (a3.add 1) (.int .i64 t41) λ w46=>
stK w46 (a3.add 2) (.bool t42) λ w47=>
stK w47 (a3.add 3) (.int .i64 t43) λ w48=>
stK w48 (a3.add 4) (.int .i64 t44) λ w49=>
V219J1 Q a3 w49
def V219_ann:Nat->Ann:=λ _=>⟨[],[]⟩
theorem V219_sound (x1 x2 w Q) (h:V219 x1 x2 w Q):Calls Tryz.prog 219 #[.pointer x1,.int .i64 x2] w λ e w'=>∃v,e=.returned v/\Q v w':=
 sound_of Tryz.func219 V219_ann rfl (Eq.mpr (by kernel_rfl) h)
def V221J1 (Q:Value->World->Prop) (x24 x25:Addr) (w26:World):Prop:=
∃t27 t28 t29 t30 t31,CellsAt w26 x24 [.int .i64 t27,.int .i64 t28,.bool t29,.int .i64 t30,.int .i64 t31]/\
stK w26 (x25.add 0) (.int .i64 t27) λ w32=>
stK w32 (x25.add 1) (.int .i64 t28) λ w33=>
stK w33 (x25.add 2) (.bool t29) λ w34=>
stK w34 (x25.add 3) (.int .i64 t30) λ w35=>
stK w35 (x25.add 4) (.int .i64 t31) λ w36=>
∃t37 t38 t39 t40 t41,CellsAt w36 x25 [.int .i64 t37,.int .i64 t38,.bool t39,.int .i64 t40,.int .i64 t41]/\
Q (.agg #[.int .i64 t37,.int .i64 t38,.bool t39,.int .i64 t40,.int .i64 t41]) w36
def V221 (x1:Option Addr) (x2 x3:Int) (x4:Bool) (x5 x6:Int) (w:World) (Q:Value->World->Prop):Prop:=
newK w #[.int .i64 x2,.int .i64 x3,.bool x4,.int .i64 x5,.int .i64 x6] 272 λ a7 w8=>
newK w8 #[.int .i64 0,.int .i64 0,.bool false,.int .i64 0,.int .i64 0] 272 λ a9 w10=>
∃t11 t12 t13 t14 t15,CellsAt w10.drew a7 [.int .i64 t11,.int .i64 t12,.bool t13,.int .i64 t14,.int .i64 t15]/\
nilK x1 λ a16=>
stK w10.drew (a16.add 7) (.int .i64 4) λ w17=>
(CellsAt w17 a7 [.int .i64 t11,.int .i64 t12,.bool t13,.int .i64 t14,.int .i64 t15])/\
nilK x1 λ a18=>
stK w17 ((a18.add 11).add 0) (.int .i64 t11) λ w19=>
stK w19 ((a18.add 11).add 1) (.int .i64 t12) λ w20=>
stK w20 ((a18.add 11).add 2) (.bool t13) λ w21=>
stK w21 ((a18.add 11).add 3) (.int .i64 t14) λ w22=>
stK w22 ((a18.add 11).add 4) (.int .i64 t15) λ w23=>
V221J1 Q a7 a9 w23
def V221_ann:Nat->Ann:=λ _=>⟨[],[]⟩
theorem V221_sound (x1 x2 x3 x4 x5 x6 w Q) (h:V221 x1 x2 x3 x4 x5 x6 w Q):Calls Tryz.prog 221 #[.pointer x1,.agg #[.int .i64 x2,.int .i64 x3,.bool x4,.int .i64 x5,.int .i64 x6]] w λ e w'=>∃v,e=.returned v/\Q v w':=
 sound_of Tryz.func221 V221_ann rfl (Eq.mpr (by kernel_rfl) h)
def V103J1 (Q:Value->World->Prop) (x15:Int) (w16:World):Prop:=
Calls Tryz.prog 157 #[.int .i64 (-2)] w16 λ e17 w18=>∃t19,e17=.returned (t19)/\
Calls Tryz.prog 156 #[.int .u64 (IntKind.wrap .u64 x15),t19] w18 λ e20 w21=>∃t22,e20=.returned (.int .i64 t22)/\
Q (.int .i64 t22) w21
def V103 (x1:Bool) (x2:Option Addr) (x3 x4:Nat) (w:World) (Q:Value->World->Prop):Prop:=
newK w #[.bool x1,.slice x2 x3 x4] 40 λ a5 w6=>
∃t7 t8 t9,w6.cell? (a5.add 1)=some (.slice t7 t8 t9)/\
Calls Tryz.prog 155 #[.agg #[.bool false,.slice t7 t8 t9],.int .i64 2305843009213693951] w6 λ e10 w11=>∃t12 t13,e10=.returned (.tuple #[.int .i64 t12,.int .i64 t13])/\
∃t14,w11.cell? (a5.add 0)=some (.bool t14)/\
bsel t14 (
V103J1 Q (IntKind.wrap .i64 (0-t12)) w11) (
V103J1 Q t12 w11)
def V103_ann:Nat->Ann:=λ _=>⟨[],[]⟩
theorem V103_sound (x1 x2 x3 x4 w Q) (h:V103 x1 x2 x3 x4 w Q):Calls Tryz.prog 103 #[.agg #[.bool x1,.slice x2 x3 x4]] w λ e w'=>∃v,e=.returned v/\Q v w':=
 sound_of Tryz.func103 V103_ann rfl (Eq.mpr (by kernel_rfl) h)
def V104 (x1:ByteArray) (w:World) (Q:Value->World->Prop):Prop:=
∃(I2:Int->Int->World->Prop) (μ3:Int->Int->World->Nat),I2 14695981039346656037 0 w/\∀(j7:Fr) (i4:Int) (i5:Int) (w6:World),I2 i4 i5 w6->
bsel (decide (i5<(x1.size:Int))) (
sidxK x1 i5 λ c8=>
(I2 (IntKind.wrap .u64 (bXor .u64 i4 (IntKind.wrap .u64 c8)*1099511628211)) (IntKind.wrap .i64 (i5+1)) w6/\μ3 (IntKind.wrap .u64 (bXor .u64 i4 (IntKind.wrap .u64 c8)*1099511628211)) (IntKind.wrap .i64 (i5+1)) w6<μ3 i4 i5 w6)) (
Calls Tryz.prog 157 #[.int .i64 (-2)] w6 λ e9 w10=>∃t11,e9=.returned (t11)/\
Calls Tryz.prog 156 #[.int .u64 i4,t11] w10 λ e12 w13=>∃t14,e12=.returned (.int .i64 t14)/\
Q (.int .i64 t14) w13)
def V104_ann:Nat->Ann:=λ k=>match k with | 0=>⟨[0,6],[(3,.int .u64),(7,.int .i64)]⟩ | _=>⟨[],[]⟩
theorem V104_sound (x1 w Q) (h:V104 x1 w Q):Calls Tryz.prog 104 #[.string x1] w λ e w'=>∃v,e=.returned v/\Q v w':=
 sound_of Tryz.func104 V104_ann rfl (Eq.mpr (by kernel_rfl) h)
def V155J1 (Q:Value->World->Prop) (w27:World) (x53:Addr) (w54:World):Prop:=
∃t55,w54.cell? x53=some (.int .u64 t55)/\
((w54.heap[w27.heap.size]?=some (.deferred (some [])))/\Q (.tuple #[.int .i64 (IntKind.wrap .i64 t55),.int .i64 0]) (w54.putObj w27.heap.size (.deferred none)))
def V155J2 (Q:Value->World->Prop) (w27:World) (x46 x47:Addr) (x48:Bool) (w49:World):Prop:=
bsel x48 (
∃t50,w49.cell? x46=some (.int .i64 t50)/\
∃t51,w49.cell? x47=some (.int .u64 t51)/\
stK w49 x47 (.int .u64 (IntKind.wrap .u64 (IntKind.wrap .u64 t50-t51))) λ w52=>
V155J1 Q w27 x47 w52) (
V155J1 Q w27 x47 w49)
def V155J3 (Q:Value->World->Prop) (x11 x12:Addr) (x13:Bool) (w14:World):Prop:=
bsel x13 (
Q (.tuple #[.int .i64 0,.int .i64 1]) w14) (
newK w14 #[.int .u64 0] 44 λ a15 w16=>
stK w16 a15 (.int .u64 0) λ w17=>
∃t18 t19 t20,w17.cell? (x11.add 1)=some (.slice t18 t19 t20)/\
Calls Tryz.prog 124 #[.slice t18 t19 t20] w17 λ e21 w22=>∃t23 t24 t25,e21=.returned (.slice t23 t24 t25)/\
Calls Tryz.prog 126 #[.slice t23 t24 t25] w22 λ e26 w27=>∃t28,e26=.returned (t28)/\
∀Rec29:LoopState->Option Code->Obj,(∀s p c e f,Rec29 s p≠.cells c e f)->
(∀(w30:World) (K31:Bool->World->Prop),w30.heap[(w27.heap.size+1)]?=some (Rec29 .ready none)->∀(y32:Value) (y33:Int),(
w30.heap[(w27.heap.size+1)]?=some (Rec29 .ready none)/\
∃t34,(w30.putObj (w27.heap.size+1) (Rec29 .busy none)).cell? a15=some (.int .u64 t34)/\
((0:Int)<=32)/\
∃t35,(w30.putObj (w27.heap.size+1) (Rec29 .busy none)).cell? a15=some (.int .u64 t35)/\
((0:Int)<=32)/\
∃t36,(w30.putObj (w27.heap.size+1) (Rec29 .busy none)).cell? x12=some (.int .i64 t36)/\
Calls Tryz.prog 223 #[.int .u64 (shr .u64 t34 32),.int .u64 (bOr .u64 (shl .u64 t35 32) (IntKind.wrap .u64 y33)),.int .u64 (IntKind.wrap .u64 t36)] (w30.putObj (w27.heap.size+1) (Rec29 .busy none)) λ e37 w38=>∃t39,e37=.returned (.int .u64 t39)/\
stK w38 a15 (.int .u64 t39) λ w40=>
((∃s p,w40.heap[(w27.heap.size+1)]?=some (Rec29 s p))/\K31 true (w40.putObj (w27.heap.size+1) (Rec29 .ready none))))->RoundK Tryz.prog (w27.heap.size+1) #[y32,.int .u32 y33] w30 K31)->
CallG Tryz.prog t28 #[.func (.yield (w27.heap.size+1)) #[] #[]] ((w27.alloc (.deferred (some []))).alloc (Rec29 .ready none)) λ e41 w42=>(∃v43,e41=.returned v43)/\((w42.heap[(w27.heap.size+1)]?=some (Rec29 .ready none)/\
∃t44,(w42.putObj (w27.heap.size+1) (Rec29 .exhausted none)).cell? (x11.add 0)=some (.bool t44)/\
bsel t44 (
∃t45,(w42.putObj (w27.heap.size+1) (Rec29 .exhausted none)).cell? a15=some (.int .u64 t45)/\
V155J2 Q w27 x12 a15 (decide (t45>0)) (w42.putObj (w27.heap.size+1) (Rec29 .exhausted none))) (
V155J2 Q w27 x12 a15 false (w42.putObj (w27.heap.size+1) (Rec29 .exhausted none))))\/False))
def V155 (x1:Bool) (x2:Option Addr) (x3 x4:Nat) (x5:Int) (w:World) (Q:Value->World->Prop):Prop:=
newK w #[.bool x1,.slice x2 x3 x4] 40 λ a6 w7=>
newK w7 #[.int .i64 x5] 3 λ a8 w9=>
∃t10,w9.cell? a8=some (.int .i64 t10)/\
bsel (decide (t10<1)) (
V155J3 Q a6 a8 true w9) (
∃t56,w9.cell? a8=some (.int .i64 t56)/\
V155J3 Q a6 a8 (decide (t56>4611686018427387904)) w9)
def V155_sh:Nat->List (Nat × Shape):=λ k=>match k with | 0=>[(19,.one (.raw)),(20,.one (.int .u32))] | _=>[]
def V155_ann:Nat->Ann:=λ _=>⟨[],[]⟩
theorem V155_sound (x1 x2 x3 x4 x5 w Q) (h:V155 x1 x2 x3 x4 x5 w Q):Calls Tryz.prog 155 #[.agg #[.bool x1,.slice x2 x3 x4],.int .i64 x5] w λ e w'=>∃v,e=.returned v/\Q v w':=
 sound_ofM Tryz.func155 V155_ann V155_sh rfl (Eq.mpr (by kernel_rfl) h)
def V156 (x1:Int) (x2:Value) (w:World) (Q:Value->World->Prop):Prop:=
bsel (IntKind.wrap .i64 x1 == (-1)) (
CallV Tryz.prog x2 #[] w λ e3 w4=>∃t5,e3=.returned (.int .i64 t5)/\
Q (.int .i64 t5) w4) (
Q (.int .i64 (IntKind.wrap .i64 x1)) w)
def V156_ann:Nat->Ann:=λ _=>⟨[],[]⟩
theorem V156_sound (x1 x2 w Q) (h:V156 x1 x2 w Q):Calls Tryz.prog 156 #[.int .u64 x1,x2] w λ e w'=>∃v,e=.returned v/\Q v w':=
 sound_of Tryz.func156 V156_ann rfl (Eq.mpr (by kernel_rfl) h)
def V157 (x1:Int) (w:World) (Q:Value->World->Prop):Prop:=
newK w #[.int .i64 x1] 3 λ a2 w3=>
Q (.func (.func 224) #[] #[.pointer (some a2)]) w3
def V157_ann:Nat->Ann:=λ _=>⟨[],[]⟩
theorem V157_sound (x1 w Q) (h:V157 x1 w Q):Calls Tryz.prog 157 #[.int .i64 x1] w λ e w'=>∃v,e=.returned v/\Q v w':=
 sound_of Tryz.func157 V157_ann rfl (Eq.mpr (by kernel_rfl) h)
def V164 (x1:Int) (w:World) (Q:Value->World->Prop):Prop:=
Calls Tryz.prog 230 #[.int .u64 (IntKind.wrap .u64 x1),.int .i64 (-4)] w λ e2 w3=>∃t4,e2=.returned (.int .u64 t4)/\
Calls Tryz.prog 157 #[.int .i64 (-2)] w3 λ e5 w6=>∃t7,e5=.returned (t7)/\
Calls Tryz.prog 156 #[.int .u64 t4,t7] w6 λ e8 w9=>∃t10,e8=.returned (.int .i64 t10)/\
Q (.int .i64 t10) w9
def V164_ann:Nat->Ann:=λ _=>⟨[],[]⟩
theorem V164_sound (x1 w Q) (h:V164 x1 w Q):Calls Tryz.prog 164 #[.int .i64 x1] w λ e w'=>∃v,e=.returned v/\Q v w':=
 sound_of Tryz.func164 V164_ann rfl (Eq.mpr (by kernel_rfl) h)
def V224 (x1:Addr) (w:World) (Q:Value->World->Prop):Prop:=
∃t2,w.cell? x1=some (.int .i64 t2)/\
Q (.int .i64 t2) w
def V224_ann:Nat->Ann:=λ _=>⟨[],[]⟩
theorem V224_sound (x1 w Q) (h:V224 x1 w Q):Calls Tryz.prog 224 #[.pointer (some x1)] w λ e w'=>∃v,e=.returned v/\Q v w':=
 sound_of Tryz.func224 V224_ann rfl (Eq.mpr (by kernel_rfl) h)
def V230 (x1 x2:Int) (w:World) (Q:Value->World->Prop):Prop:=
((0:Int)<=bAnd .u64 (IntKind.wrap .u64 x2) 63)/\
((0:Int)<=IntKind.wrap .u64 (64-bAnd .u64 (IntKind.wrap .u64 x2) 63))/\
Q (.int .u64 (bOr .u64 (shl .u64 x1 (bAnd .u64 (IntKind.wrap .u64 x2) 63)) (shr .u64 x1 (IntKind.wrap .u64 (64-bAnd .u64 (IntKind.wrap .u64 x2) 63))))) w
def V230_ann:Nat->Ann:=λ _=>⟨[],[]⟩
theorem V230_sound (x1 x2 w Q) (h:V230 x1 x2 w Q):Calls Tryz.prog 230 #[.int .u64 x1,.int .i64 x2] w λ e w'=>∃v,e=.returned v/\Q v w':=
 sound_of Tryz.func230 V230_ann rfl (Eq.mpr (by kernel_rfl) h)
def V223 (x1 x2 x3:Int) (w:World) (Q:Value->World->Prop):Prop:=
((x3:Int)≠0)/\
Calls Tryz.prog 294 #[.int .u64 (Int.tmod x1 x3),.int .u64 x2,.int .u64 x3] w λ e4 w5=>∃t6 t7,e4=.returned (.tuple #[.int .u64 t6,.int .u64 t7])/\
Q (.int .u64 t7) w5
def V223_ann:Nat->Ann:=λ _=>⟨[],[]⟩
theorem V223_sound (x1 x2 x3 w Q) (h:V223 x1 x2 x3 w Q):Calls Tryz.prog 223 #[.int .u64 x1,.int .u64 x2,.int .u64 x3] w λ e w'=>∃v,e=.returned v/\Q v w':=
 sound_of Tryz.func223 V223_ann rfl (Eq.mpr (by kernel_rfl) h)
def V294J1 (Q:Value->World->Prop) (x60 x61:Int) (x62 x63:Int) (x64 x65:Int) (w66:World):Prop:=
((0:Int)<=x61)/\
Q (.tuple #[.int .u64 (IntKind.wrap .u64 (IntKind.wrap .u64 (x63*4294967296)+x65)),.int .u64 (shr .u64 (IntKind.wrap .u64 (IntKind.wrap .u64 (IntKind.wrap .u64 (x64*4294967296)+x62)-IntKind.wrap .u64 (x65*x60))) x61)]) w66
def V294J2 (Q:Value->World->Prop) (I43:Int->Int->World->Prop) (μ44:Int->Int->World->Nat) (i45 i46:Int) (w47:World) (x49 x50:Int) (x51 x52:Int) (x53 x54:Int) (x55 x56 x57:Int) (x58:Bool) (w59:World):Prop:=
bsel x58 (
bsel (decide (IntKind.wrap .u64 (x55+x51)>=4294967296)) (
V294J1 Q x49 x50 x53 x54 x56 (IntKind.wrap .u64 (x57-1)) w59) (
(I43 (IntKind.wrap .u64 (x55+x51)) (IntKind.wrap .u64 (x57-1)) w59/\μ44 (IntKind.wrap .u64 (x55+x51)) (IntKind.wrap .u64 (x57-1)) w59<μ44 i45 i46 w47))) (
V294J1 Q x49 x50 x53 x54 x56 x57 w59)
def V294J3 (Q:Value->World->Prop) (x34 x35:Int) (x36 x37:Int) (x38 x39:Int) (x40 x41:Int) (w42:World):Prop:=
((x36:Int)≠0)/\
∃(I43:Int->Int->World->Prop) (μ44:Int->Int->World->Nat),I43 (IntKind.wrap .u64 (IntKind.wrap .u64 (IntKind.wrap .u64 (IntKind.wrap .u64 (x38*4294967296)+x39)-IntKind.wrap .u64 (x41*x34))-IntKind.wrap .u64 (IntKind.wrap .u64 (Int.tdiv (IntKind.wrap .u64 (IntKind.wrap .u64 (IntKind.wrap .u64 (x38*4294967296)+x39)-IntKind.wrap .u64 (x41*x34))) x36)*x36))) (IntKind.wrap .u64 (Int.tdiv (IntKind.wrap .u64 (IntKind.wrap .u64 (IntKind.wrap .u64 (x38*4294967296)+x39)-IntKind.wrap .u64 (x41*x34))) x36)) w42/\∀(j48:Fr) (i45:Int) (i46:Int) (w47:World),I43 i45 i46 w47->
bsel (decide (i46>=4294967296)) (
V294J2 Q I43 μ44 i45 i46 w47 x34 x35 x36 x37 x40 x41 i45 (IntKind.wrap .u64 (IntKind.wrap .u64 (IntKind.wrap .u64 (x38*4294967296)+x39)-IntKind.wrap .u64 (x41*x34))) i46 true w47) (
V294J2 Q I43 μ44 i45 i46 w47 x34 x35 x36 x37 x40 x41 i45 (IntKind.wrap .u64 (IntKind.wrap .u64 (IntKind.wrap .u64 (x38*4294967296)+x39)-IntKind.wrap .u64 (x41*x34))) i46 (decide (IntKind.wrap .u64 (i46*x37)>IntKind.wrap .u64 (IntKind.wrap .u64 (4294967296*i45)+x40))) w47)
def V294J4 (Q:Value->World->Prop) (I17:Int->Int->World->Prop) (μ18:Int->Int->World->Nat) (i19 i20:Int) (w21:World) (x23 x24:Int) (x25 x26:Int) (x27 x28:Int) (x29 x30 x31:Int) (x32:Bool) (w33:World):Prop:=
bsel x32 (
bsel (decide (IntKind.wrap .u64 (x31+x25)>=4294967296)) (
V294J3 Q x23 x24 x25 x26 x27 x28 x29 (IntKind.wrap .u64 (x30-1)) w33) (
(I17 (IntKind.wrap .u64 (x30-1)) (IntKind.wrap .u64 (x31+x25)) w33/\μ18 (IntKind.wrap .u64 (x30-1)) (IntKind.wrap .u64 (x31+x25)) w33<μ18 i19 i20 w21))) (
V294J3 Q x23 x24 x25 x26 x27 x28 x29 x30 w33)
def V294J5 (Q:Value->World->Prop) (x10 x11 x12:Int) (w13:World):Prop:=
bsel (x10 == 0) (
((x12:Int)≠0)/\
((x12:Int)≠0)/\
Q (.tuple #[.int .u64 (IntKind.wrap .u64 (Int.tdiv x11 x12)),.int .u64 (Int.tmod x11 x12)]) w13.drew) (
Calls Tryz.prog 337 #[.int .u64 x12] w13 λ e14 w15=>∃t16,e14=.returned (.int .i64 t16)/\
((0:Int)<=IntKind.wrap .u64 t16)/\
((0:Int)<=32)/\
((0:Int)<=IntKind.wrap .u64 t16)/\
((0:Int)<=IntKind.wrap .u64 (64-IntKind.wrap .u64 t16))/\
((0:Int)<=IntKind.wrap .u64 t16)/\
((0:Int)<=32)/\
((shr .u64 (shl .u64 x12 (IntKind.wrap .u64 t16)) 32:Int)≠0)/\
∃(I17:Int->Int->World->Prop) (μ18:Int->Int->World->Nat),I17 (IntKind.wrap .u64 (Int.tdiv (bOr .u64 (shl .u64 x10 (IntKind.wrap .u64 t16)) (shr .u64 x11 (IntKind.wrap .u64 (64-IntKind.wrap .u64 t16)))) (shr .u64 (shl .u64 x12 (IntKind.wrap .u64 t16)) 32))) (IntKind.wrap .u64 (bOr .u64 (shl .u64 x10 (IntKind.wrap .u64 t16)) (shr .u64 x11 (IntKind.wrap .u64 (64-IntKind.wrap .u64 t16)))-IntKind.wrap .u64 (IntKind.wrap .u64 (Int.tdiv (bOr .u64 (shl .u64 x10 (IntKind.wrap .u64 t16)) (shr .u64 x11 (IntKind.wrap .u64 (64-IntKind.wrap .u64 t16)))) (shr .u64 (shl .u64 x12 (IntKind.wrap .u64 t16)) 32))*shr .u64 (shl .u64 x12 (IntKind.wrap .u64 t16)) 32))) w15/\∀(j22:Fr) (i19:Int) (i20:Int) (w21:World),I17 i19 i20 w21->
bsel (decide (i19>=4294967296)) (
V294J4 Q I17 μ18 i19 i20 w21 (shl .u64 x12 (IntKind.wrap .u64 t16)) (IntKind.wrap .u64 t16) (shr .u64 (shl .u64 x12 (IntKind.wrap .u64 t16)) 32) (bAnd .u64 (shl .u64 x12 (IntKind.wrap .u64 t16)) 4294967295) (bOr .u64 (shl .u64 x10 (IntKind.wrap .u64 t16)) (shr .u64 x11 (IntKind.wrap .u64 (64-IntKind.wrap .u64 t16)))) (shr .u64 (shl .u64 x11 (IntKind.wrap .u64 t16)) 32) (bAnd .u64 (shl .u64 x11 (IntKind.wrap .u64 t16)) 4294967295) i19 i20 true w21) (
V294J4 Q I17 μ18 i19 i20 w21 (shl .u64 x12 (IntKind.wrap .u64 t16)) (IntKind.wrap .u64 t16) (shr .u64 (shl .u64 x12 (IntKind.wrap .u64 t16)) 32) (bAnd .u64 (shl .u64 x12 (IntKind.wrap .u64 t16)) 4294967295) (bOr .u64 (shl .u64 x10 (IntKind.wrap .u64 t16)) (shr .u64 x11 (IntKind.wrap .u64 (64-IntKind.wrap .u64 t16)))) (shr .u64 (shl .u64 x11 (IntKind.wrap .u64 t16)) 32) (bAnd .u64 (shl .u64 x11 (IntKind.wrap .u64 t16)) 4294967295) i19 i20 (decide (IntKind.wrap .u64 (i19*bAnd .u64 (shl .u64 x12 (IntKind.wrap .u64 t16)) 4294967295)>IntKind.wrap .u64 (IntKind.wrap .u64 (4294967296*i20)+shr .u64 (shl .u64 x11 (IntKind.wrap .u64 t16)) 32))) w21))
def V294J6 (Q:Value->World->Prop) (x5 x6 x7:Int) (w8:World):Prop:=
bsel (decide (x7<=x5)) (
∃t9,w8.cell? ⟨0,0,none⟩=some (t9)/\
False) (
V294J5 Q x5 x6 x7 w8)
def V294 (x1 x2 x3:Int) (w:World) (Q:Value->World->Prop):Prop:=
bsel (x3 == 0) (
∃t4,w.cell? ⟨4,0,none⟩=some (t4)/\
False) (
V294J6 Q x1 x2 x3 w)
def V294_ann:Nat->Ann:=λ k=>match k with | 0=>⟨[2,8,9,10,11,13,14],[(15,.int .u64),(16,.int .u64)]⟩ | 1=>⟨[2,8,9,10,14,15,17],[(16,.int .u64),(18,.int .u64)]⟩ | _=>⟨[],[]⟩
theorem V294_sound (x1 x2 x3 w Q) (h:V294 x1 x2 x3 w Q):Calls Tryz.prog 294 #[.int .u64 x1,.int .u64 x2,.int .u64 x3] w λ e w'=>∃v,e=.returned v/\Q v w':=
 sound_of Tryz.func294 V294_ann rfl (Eq.mpr (by kernel_rfl) h)
end Go.Fw
