/- Part of a proof over the given program: texts of lemmas (conditions: none beyond each lemma as stated). -/
import Derived.Test.YtdmoefbfepeeaaaGreatDoorN1
import Derived.RangeFuncIn
import Derived.RangeFuncLeaves
import Derived.RangeFuncCalls
import Derived.OrdersIn
import Derived.WalkKit
set_option linter.unnecessarySimpa false
set_option linter.unusedVariables false
set_option linter.unusedSimpArgs false

namespace Go.Fw
abbrev Fr:=Nat->Value
def upd (ρ:Fr) (d:Nat) (v:Value):Fr:=λ t=>match Nat.beq t d with | true=>v | false=>ρ t
def updO (ρ:Fr) (d:Option Nat) (v:Value):Fr:=match d with | some d=>upd ρ d v | none=>ρ
def ev (n:Nat) (ρ:Fr) (x:Operand):Value:=match x with
 | .tmp t=>match Nat.blt t n with | true=>ρ t | false=>undef
 | .const v=>v
 | .global g=>.pointer (some ⟨g,0,none⟩)
 | .func f=>.func (.func f) #[] #[]
structure Rep (n:Nat) (a:Act) (ρ:Fr):Prop where
 size:a.tmps.size=n
 get:∀t,t<n->a.tmps[t]?=some (ρ t)
theorem Rep.eval {n:Nat} {a:Act} {ρ:Fr} (h:Rep n a ρ) (x:Operand):a.eval x=ev n ρ x:=by
 cases x with
 | tmp t=>
  simp only [Act.eval,ev]
  cases hb:Nat.blt t n with
  | true=>
   have:=h.get t (by simpa [Nat.blt_eq] using hb)
   simp [this]
  | false=>
   have hge:n<=t:=by
    rcases Nat.lt_or_ge t n with h' | h'
    ·rw [show Nat.blt t n=true from by simpa [Nat.blt_eq] using h'] at hb;cases hb
    ·exact h'
   have:a.tmps[t]?=none:=by simp [h.size,hge]
   simp [this]
 | const v=>rfl
 | global g=>rfl
 | func f=>rfl
theorem Rep.evalF {n:Nat} {a:Act} {ρ:Fr} (h:Rep n a ρ):a.eval=ev n ρ:=funext h.eval
theorem upd_same (ρ:Fr) (d:Nat) (v:Value):upd ρ d v d=v:=by
 simp [upd]
theorem upd_ne (ρ:Fr) {d t:Nat} (v:Value) (h:t≠d):upd ρ d v t=ρ t:=by
 unfold upd
 cases hb:Nat.beq t d with
 | true=>exact absurd (Nat.eq_of_beq_eq_true hb) h
 | false=>rfl
theorem Rep.put {n:Nat} {a:Act} {ρ:Fr} (h:Rep n a ρ) (d:Option Nat) (v:Value):Rep n (a.put d v) (updO ρ d v):=by
 cases d with
 | none=>exact h
 | some d=>
  refine ⟨by simp [Act.put,h.size],λ t ht=>?_⟩
  simp only [Act.put,updO]
  by_cases hd:t=d
  ·subst hd
   rw [upd_same,Array.getElem?_setIfInBounds]
   simp [h.size,ht]
  ·rw [upd_ne _ _ hd,Array.getElem?_setIfInBounds_ne (Ne.symm hd)]
   exact h.get t ht
theorem Rep.set {n:Nat} {a:Act} {ρ:Fr} (h:Rep n a ρ) (d:Nat) (v:Value) (hv:ρ d=v):Rep n a (upd ρ d v):=
 ⟨h.size,λ t ht=>by
  by_cases hd:t=d
  ·subst hd;rw [upd_same,<-hv];exact h.get t ht
  ·rw [upd_ne _ _ hd];exact h.get t ht⟩
inductive Tag where
 | int (k:IntKind) | bool | str | ptr | slice | map | raw
def exTag (t:Tag) (K:Value->Prop):Prop:=match t with
 | .int k=>∃n:Int,K (.int k n)
 | .bool=>∃b:Bool,K (.bool b)
 | .str=>∃s:ByteArray,K (.string s)
 | .ptr=>∃p:Option Addr,K (.pointer p)
 | .slice=>∃(a:Option Addr) (l c:Nat),K (.slice a l c)
 | .map=>∃r:Option Nat,K (.map r)
 | .raw=>∃v:Value,K v
theorem exTag_ex {t:Tag} {K:Value->Prop} (h:exTag t K):∃v,K v:=by
 cases t <;> simp only [exTag] at h
 all_goals first
  | (obtain ⟨x,h⟩:=h;exact ⟨_,h⟩)
  | (obtain ⟨x,y,z,h⟩:=h;exact ⟨_,h⟩)
def exTags (ts:List Tag) (K:List Value->Prop):Prop:=
 List.rec (motive:=λ _=>(List Value->Prop)->Prop) (λ K=>K []) (λ t _ ih K=>exTag t λ v=>ih λ vs=>K (v :: vs)) ts K
theorem exTags_ex:∀{ts:List Tag} {K:List Value->Prop},exTags ts K->∃vs,vs.length=ts.length/\K vs
 | [],_,h=>⟨[],rfl,h⟩
 | t :: ts,K,h=>by
  obtain ⟨v,hv⟩:=exTag_ex (t:=t) (K:=λ v=>exTags ts λ vs=>K (v :: vs)) h
  obtain ⟨vs,hl,hvs⟩:=exTags_ex hv
  exact ⟨v :: vs,by simp [hl],hvs⟩
inductive Shape where
 | one (t:Tag) | agg (ts:List Tag)
inductive RShape where
 | single (s:Shape) | tup (ss:List Shape)
def exShape (s:Shape) (K:Value->Prop):Prop:=match s with
 | .one t=>exTag t K
 | .agg ts=>exTags ts λ vs=>K (.agg vs.toArray)
theorem exShape_ex {s:Shape} {K:Value->Prop} (h:exShape s K):∃v,K v:=by
 cases s with
 | one t=>exact exTag_ex h
 | agg ts=>obtain ⟨vs,_,h⟩:=exTags_ex h;exact ⟨_,h⟩
def exShapes (ss:List Shape) (K:List Value->Prop):Prop:=
 List.rec (motive:=λ _=>(List Value->Prop)->Prop) (λ K=>K []) (λ s _ ih K=>exShape s λ v=>ih λ vs=>K (v :: vs)) ss K
theorem exShapes_ex:∀{ss:List Shape} {K:List Value->Prop},exShapes ss K->∃vs,K vs
 | [],_,h=>⟨[],h⟩
 | s :: ss,K,h=>by
  obtain ⟨v,hv⟩:=exShape_ex (s:=s) (K:=λ v=>exShapes ss λ vs=>K (v :: vs)) h
  obtain ⟨vs,hvs⟩:=exShapes_ex hv
  exact ⟨v :: vs,hvs⟩
def exR (r:RShape) (K:Value->Prop):Prop:=match r with
 | .single s=>exShape s K
 | .tup ss=>exShapes ss λ vs=>K (.tuple vs.toArray)
theorem exR_ex {r:RShape} {K:Value->Prop} (h:exR r K):∃v,K v:=by
 cases r with
 | single s=>exact exShape_ex h
 | tup ss=>obtain ⟨vs,h⟩:=exShapes_ex h;exact ⟨_,h⟩
def tagOf (d:TypeDesc):Tag:=match d with
 | .bool=>.bool
 | .int k=>.int k
 | .string=>.str
 | .pointer _=>.ptr
 | .slice _=>.slice
 | .map _ _=>.map
 | _=>.raw
def flat (P:Program):Nat->TypeId->List Tag
 | 0,_=>[.raw]
 | f+1,t=>match P.underlying t with
  | some (.struct fs)=>fs.toList.flatMap λ x=>flat P f x.type
  | some (.array n e)=>(List.replicate n (flat P f e)).flatten
  | some d=>[tagOf d]
  | none=>[.raw]
def shapeOf (P:Program) (t:TypeId):Shape:=match P.underlying t with
 | some (.struct _) | some (.array _ _)=>.agg (flat P 8 t)
 | some d=>.one (tagOf d)
 | none=>.one .raw
def bAnd (k:IntKind) (x y:Int):Int:=k.wrap (BitVec.ofInt k.bits x &&& BitVec.ofInt k.bits y).toNat
def bOr (k:IntKind) (x y:Int):Int:=k.wrap (BitVec.ofInt k.bits x ||| BitVec.ofInt k.bits y).toNat
def bXor (k:IntKind) (x y:Int):Int:=k.wrap (BitVec.ofInt k.bits x ^^^ BitVec.ofInt k.bits y).toNat
def shl (k:IntKind) (x y:Int):Int:=k.wrap (x*2 ^ min y.toNat k.bits)
def shr (k:IntKind) (x y:Int):Int:=x.fdiv (2 ^ min y.toNat k.bits)
def bsel (b:Bool) (X Y:Prop):Prop:=match b with | true=>X | false=>Y
@[simp] theorem bsel_true (X Y:Prop):bsel true X Y=X:=rfl
@[simp] theorem bsel_false (X Y:Prop):bsel false X Y=Y:=rfl
theorem bsel_iff (b:Bool) (X Y:Prop):bsel b X Y↔if b=true then X else Y:=by cases b <;> simp
def cellsFrom (w:World) (a:Addr) (vs:List Value):Nat->Prop:=
 List.rec (motive:=λ _=>Nat->Prop) (λ _=>True) (λ v vs ih i=>match vs with | []=>w.cell? (a.add i)=some v | _=>w.cell? (a.add i)=some v/\ih (i+1)) vs
def CellsAt (w:World) (a:Addr) (vs:List Value):Prop:=cellsFrom w a vs 0
theorem cellsFrom_cons {w:World} {a:Addr} {v:Value} {vs:List Value} {i:Nat}:cellsFrom w a (v :: vs) i↔w.cell? (a.add i)=some v/\cellsFrom w a vs (i+1):=by
 cases vs with
 | nil=>simp [cellsFrom]
 | cons u us=>exact Iff.rfl
def szK (P:Program) (t:TypeId) (K:Nat->Prop):Prop:=match P.info? t with | some i=>K i.size | none=>False
def ldS (P:Program) (t:TypeId) (w:World) (a:Addr) (K:Value->Prop):Prop:=match shapeOf P t with
 | .one (.int k)=>∃n:Int,w.cell? a=some (.int k n)/\K (.int k n)
 | .one .bool=>∃b:Bool,w.cell? a=some (.bool b)/\K (.bool b)
 | .one .str=>∃s:ByteArray,w.cell? a=some (.string s)/\K (.string s)
 | .one .ptr=>∃p:Option Addr,w.cell? a=some (.pointer p)/\K (.pointer p)
 | .one .slice=>∃(s:Option Addr) (l c:Nat),w.cell? a=some (.slice s l c)/\K (.slice s l c)
 | .one .map=>∃r:Option Nat,w.cell? a=some (.map r)/\K (.map r)
 | .one .raw=>∃v:Value,w.cell? a=some v/\K v
 | .agg ts=>szK P t λ sz=>match Nat.beq ts.length sz with
  | true=>exTags ts λ vs=>CellsAt w a vs/\K (.agg vs.toArray)
  | false=>False
def ldK (P:Program) (t:TypeId) (w:World) (a:Addr) (K:Value->Prop):Prop:=match P.underlying t with | some _=>ldS P t w a K | none=>False
def plainV (v:Value):Bool:=match v with | .agg _=>false | .tuple _=>false | _=>true
def plK (v:Value) (K:Prop):Prop:=match v with | .agg _=>False | .tuple _=>False | _=>K
theorem plK_iff {v:Value} {K:Prop} (h:plK v K):K/\plainV v=true:=by cases v <;> simp_all [plK,plainV]
def stK (w:World) (a:Addr) (v:Value) (K:World->Prop):Prop:=
 ((w.cell? a).isSome=true/\w.frozen? a=false)/\K (w.setCell a v)
def stsFrom (a:Addr) (vs:List Value) (K:World->Prop):Nat->World->Prop:=
 List.rec (motive:=λ _=>Nat->World->Prop) (λ _ w=>K w) (λ v _ ih i w=>plK v (stK w (a.add i) v λ w'=>ih (i+1) w')) vs
def stsK (w:World) (a:Addr) (vs:List Value) (K:World->Prop):Prop:=stsFrom a vs K 0 w
def nilK (p:Option Addr) (K:Addr->Prop):Prop:=match p with | some a=>K a | none=>False
theorem nilK_of {p:Option Addr} {K:Addr->Prop} (h:nilK p K):∃a,p=some a/\K a:=by cases p <;> first | exact h.elim | exact ⟨_,rfl,h⟩
@[simp] theorem nilK_some (a:Addr) (K:Addr->Prop):nilK (some a) K=K a:=rfl
@[simp] theorem nilK_none (K:Addr->Prop):nilK none K=False:=rfl
def idxK (base:Option Addr) (len:Nat) (i:Int) (size:Nat) (K:Addr->Prop):Prop:=
 ∃a,base=some a/\(0<=i/\i<len)/\K (a.add (i.toNat*size))
def aidxK (a:Addr) (len:Nat) (i:Int) (size:Nat) (K:Addr->Prop):Prop:=(0<=i/\i<len)/\K (a.add (i.toNat*size))
def sidxK (s:ByteArray) (i:Int) (K:Int->Prop):Prop:=∃b:UInt8,(0<=i/\s[i.toNat]?=some b)/\K b.toNat
def slcK (a:Option Addr) (cap:Nat) (lo hi:Int) (size:Nat) (K:Option Addr->Nat->Nat->Prop):Prop:=
 (0<=lo/\lo<=hi/\hi<=cap)/\K (if (cap:Int)=lo then a else a.map (·.add (lo.toNat*size))) (hi.toNat-lo.toNat) (cap-lo.toNat)
def sslK (s:ByteArray) (lo hi:Int) (K:ByteArray->Prop):Prop:=
 (0<=lo/\lo<=hi/\hi<=s.size)/\K (s.extract lo.toNat hi.toNat)
def newK (w:World) (cells:Array Value) (elem:TypeId) (K:Addr->World->Prop):Prop:=
 K ⟨w.heap.size,0,none⟩ (w.alloc (.cells cells elem))
def runS (P:Program) (r:RShape) (s:Sem Value) (w:World) (K:Value->World->Prop):Prop:=
 ∃w',exR r λ v=>s.run P w=.ok v w'/\K v w'
def runU (P:Program) (s:Sem Unit) (w:World) (K:World->Prop):Prop:=∃w',s.run P w=.ok () w'/\K w'
def RetK (r:RShape) (K:Value->World->Prop):Ending->World->Prop:=λ e w=>exR r λ v=>e=.returned v/\K v w
theorem RetK_ret {r:RShape} {K:Value->World->Prop} {e:Ending} {w:World} (h:RetK r K e w):∃v,e=.returned v/\K v w:=exR_ex h
def CallS (P:Program) (f:FuncId) (args:Array Value) (r:RShape) (w:World) (K:Value->World->Prop):Prop:=
 Calls P f args w (RetK r K)
def RoundK (P:Program) (l:Nat) (args:Array Value) (w:World) (K:Bool->World->Prop):Prop:=
 ∃f tmps assign body w',(Instr.yield l args).run P w=.ok (.round l f tmps assign body) w'/\
  RoundIn Fence.wide 0 P l f tmps assign body w' λ e w''=>∃b,e=.returned (.bool b)/\K b w''
def CallV (P:Program) (fv:Value) (args:Array Value) (w:World) (R:Ending->World->Prop):Prop:=match fv with
 | .func (.func f) first cap=>(callFunc f (first ++ args ++ cap)).run P w=.ok (.enter f (first ++ args ++ cap)) w/\Calls P f (first ++ args ++ cap) w R
 | .func (.yield l) first _=>RoundK P l (first ++ args) w λ b w=>R (.returned (.bool b)) w
 | _=>False
def InvK (P:Program) (rv:Value) (name:String) (args:Array Value) (w:World) (R:Ending->World->Prop):Prop:=
 ∃f x,(callMethod rv name args).run P w=.ok (.enter f (#[x] ++ args)) w/\Calls P f (#[x] ++ args) w R
end Go.Fw

namespace Go.Fw
noncomputable def pv (P:Program) {α:Type} (s:Sem α):Option α:=
 Sem.rec (motive:=λ _=>Option α) (λ a=>some a) (λ _ _ _ _=>none) (λ _ _ _ _ _=>none) (λ _ _ _=>none) (λ _ _ _=>none)
  (λ _ _ _ _=>none) (λ _ _ _=>none) (λ _ _ _=>none) (λ _ _ _ _=>none) (λ _ _ _=>none) (λ _ _ _=>none)
  (λ _ ih=>ih P) (λ _ _ ih=>ih) (λ _=>none) s
theorem pv_run {P:Program} {α:Type} {s:Sem α} {a:α} (h:pv P s=some a) (w:World):s.run P w=.ok a w:=by
 induction s with
 | pure x=>simp only [pv] at h;cases h;rfl
 | program k ih=>exact ih P h
 | mark m k ih=>exact ih h
 | load | store | new | shape | freeze | frozen | getObj | setObj | choose | sys | halt=>simp [pv] at h
noncomputable def pvK (P:Program) (s:Sem Next) (K:Value->Prop):Prop:=match pv P s with
 | some (.value v)=>K v
 | _=>False
noncomputable def pvV (P:Program) (s:Sem Value) (K:Value->Prop):Prop:=match pv P s with
 | some v=>K v
 | none=>False
def opP (P:Program) (r:RShape) (s:Sem Value) (K:Value->Prop):Prop:=exR r λ v=>(∀w,s.run P w=.ok v w)/\K v
def nilV (v:Value) (Kp:Addr->Prop) (Kv:Prop):Prop:=match v with
 | .pointer p=>nilK p Kp
 | .iface _ _=>Kv
 | .func (.func _) _ _=>Kv
 | _=>False
def eqNilI (v:Value) (K:Bool->Prop):Prop:=match v with | .nilIface=>K true | .iface _ _=>K false | _=>False
def eqNilF (v:Value) (K:Bool->Prop):Prop:=match v with | .nilFunc=>K true | .func _ _ _=>K false | _=>False
def eqSem (op:BinOp) (t:TypeId) (xo yo:Operand) (vx vy:Value):Sem Value:=do eqGuard op t xo yo vx vy;binOp op t vx vy
def sgn (op:BinOp) (b:Bool):Bool:=match op with | .neq=>!b | _=>b
noncomputable def eqK (P:Program) (op:BinOp) (t:TypeId) (xo yo:Operand) (vx vy:Value) (K:Value->Prop):Prop:=
 match P.underlying t with
 | some (.interface _)=>match yo with
  | .const .nilIface=>eqNilI vx λ b=>K (.bool (sgn op b))
  | _=>opP P (.single (.one .bool)) (eqSem op t xo yo vx vy) K
 | some (.func _ _ _)=>match yo with
  | .const .nilFunc=>eqNilF vx λ b=>K (.bool (sgn op b))
  | _=>False
 | some (.pointer _)=>match vx with
  | .pointer p=>match yo with
   | .const (.pointer none)=>K (.bool (sgn op p.isNone))
   | _=>False
  | _=>False
 | some (.slice _)=>match vx with
  | .slice a _ _=>match yo with
   | .const (.slice none _ _)=>K (.bool (sgn op a.isNone))
   | _=>False
  | _=>False
 | some (.map _ _)=>match vx with
  | .map r=>match yo with
   | .const (.map none)=>K (.bool (sgn op r.isNone))
   | _=>False
  | _=>False
 | some (.struct _) | some (.array _ _)=>opP P (.single (.one .bool)) (eqSem op t xo yo vx vy) K
 | _=>pvV P (eqSem op t xo yo vx vy) K
theorem plain_cells {v:Value} (h:plainV v=true):v.cells=#[v]:=by cases v <;> simp_all [Value.cells,plainV]
def fillS (P:Program) (place:Nat->Option (Nat × Nat × Shape)) (cells:List Value):List (Nat × Value)->(List Value->Prop)->Prop
 | [],K=>K cells
 | (i,v) :: rest,K=>match place i with
  | none=>False
  | some (off,size,.one _)=>match Nat.beq size 1 with
   | true=>match Nat.ble (off+1) cells.length with
    | true=>plK v (fillS P place (cells.set off v) rest K)
    | false=>False
   | false=>False
  | some (off,size,.agg _)=>match v with
   | .agg cs=>match Nat.beq cs.toList.length size with
    | true=>match Nat.ble (off+size) cells.length with
     | true=>fillS P place (cells.take off ++ cs.toList ++ cells.drop (off+size)) rest K
     | false=>False
    | false=>False
   | _=>False
def buildK (P:Program) (t:TypeId) (parts:List (Nat × Value)) (K:Value->Prop):Prop:=
 match P.info? t with
 | some i=>match i.zero with
  | some z=>match P.underlying t with
   | some (.struct fs)=>match fs.toList.all (λ f=>(P.info? f.type).isSome) with
    | false=>False
    | true=>fillS P (λ j=>match fs[j]? with | some f=>some (f.offset,P.cellsOf f.type,shapeOf P f.type) | none=>none) z.cells.toList parts λ cs=>K (.agg cs.toArray)
   | some (.array _ e)=>szK P e λ sz=>fillS P (λ j=>some (j*sz,sz,shapeOf P e)) z.cells.toList parts λ cs=>K (.agg cs.toArray)
   | _=>False
  | none=>False
 | none=>False
theorem foldl_set (off:Nat):∀(l:List Value) (k:Nat) (c:List Value),off+k+l.length<=c.length->
  (l.zipIdx k).foldl (λ cs (p:Value × Nat)=>cs.setIfInBounds (off+p.2) p.1) c.toArray=(c.take (off+k) ++ l ++ c.drop (off+k+l.length)).toArray
 | [],k,c,_=>by simp
 | v :: l,k,c,h=>by
  simp only [List.zipIdx_cons,List.foldl_cons,List.setIfInBounds_toArray]
  rw [foldl_set off l (k+1) (c.set (off+k) v) (by simp at h ⊢;omega)]
  simp only [List.length_cons] at h ⊢
  have e1:off+(k+1)=off+k+1:=by omega
  have hlt:off+k<c.length:=by omega
  have e2:(c.set (off+k) v).take (off+k+1)=c.take (off+k) ++ [v]:=by
   rw [List.take_succ_eq_append_getElem (by simpa using hlt),List.take_set_of_le (Nat.le_refl _)]
   simp
  have e3:(c.set (off+k) v).drop (off+k+1+l.length)=c.drop (off+k+(l.length+1)):=by
   rw [List.drop_set_of_lt (by omega)]
   congr 1;omega
  rw [e1,e2,e3]
  simp
theorem fill_of (P:Program) (pl:Nat->Option (Nat × Nat)) (place:Nat->Option (Nat × Nat × Shape)) (hpl:∀j,pl j=(place j).map λ x=>(x.1,x.2.1)) :
  ∀(parts:List (Nat × Value)) (cells:List Value) (K:List Value->Prop),fillS P place cells parts K->∃cs,Instr.fill pl cells.toArray parts=some cs.toArray/\K cs
 | [],cells,K,h=>⟨cells,rfl,h⟩
 | (i,v) :: rest,cells,K,h=>by
  unfold fillS at h
  unfold Instr.fill
  rw [hpl i]
  split at h
  ·exact h.elim
  ·rename_i off size t hp
   simp only [hp,Option.map_some]
   split at h
   ·rename_i hs
    have hs:=Nat.eq_of_beq_eq_true hs
    subst hs
    split at h
    ·rename_i hl
     have hl:=Nat.le_of_ble_eq_true hl
     obtain ⟨h,hv⟩:=plK_iff h
     obtain ⟨cs,hf,hK⟩:=fill_of P pl place hpl rest _ K h
     refine ⟨cs,?_,hK⟩
     rw [plain_cells hv]
     have:¬(cells.length<off+1):=by omega
     simp [this]
     simpa using hf
    ·exact h.elim
   ·exact h.elim
  ·rename_i off size ts hp
   simp only [hp,Option.map_some]
   split at h
   ·rename_i cs0
    split at h
    ·rename_i hs
     have hs:=Nat.eq_of_beq_eq_true hs
     split at h
     ·rename_i hl
      have hl:=Nat.le_of_ble_eq_true hl
      obtain ⟨cs,hf,hK⟩:=fill_of P pl place hpl rest _ K h
      refine ⟨cs,?_,hK⟩
      have hsz:cs0.size=size:=by simpa using hs
      simp only [Value.cells,hsz,List.size_toArray]
      have hn:¬(cells.length<off+size):=by omega
      simp only [ne_eq,not_true_eq_false,decide_false,Bool.false_or,gt_iff_lt,hn]
      rw [<-hf]
      congr 1
      have:=foldl_set off cs0.toList 0 cells (by simp [hsz];omega)
      simp only [Nat.add_zero] at this
      rw [<-Array.foldl_toList,Array.toList_zipIdx]
      rw [this]
      simp [hsz]
     ·exact h.elim
    ·exact h.elim
   ·exact h.elim
def lenK (P:Program) (t:TypeId) (v:Value) (K:Int->Prop):Prop:=match P.underlying t with
 | some .string=>match v with | .string s=>K s.size | _=>False
 | some (.slice _)=>match v with | .slice _ l _=>K l | _=>False
 | _=>False
def capK (P:Program) (t:TypeId) (v:Value) (K:Int->Prop):Prop:=match P.underlying t with
 | some (.slice _)=>match v with | .slice _ _ c=>K c | _=>False
 | _=>False
def optEv (n:Nat) (ρ:Fr) (x:Option Operand) (d:Int) (K:Int->Prop):Prop:=match x with
 | none=>K d
 | some o=>match ev n ρ o with | .int _ i=>K i | _=>False
def divK (vx vy:Value) (K:IntKind->Int->Int->Prop):Prop:=match vx with
 | .int k a=>match vy with
  | .int k' b=>match decide (k=k') with
   | true=>b≠0/\K k a b
   | false=>False
  | _=>False
 | _=>False
def shK (vx vy:Value) (K:IntKind->Int->Int->Prop):Prop:=match vx with
 | .int k a=>match vy with
  | .int _ b=>0<=b/\K k a b
  | _=>False
 | _=>False
def catK (vx vy:Value) (K:ByteArray->Prop):Prop:=match vx with
 | .string a=>match vy with
  | .string b=>((a.size+b.size:Nat):Int)<=9223372036854775807/\K (a ++ b)
  | _=>False
 | _=>False
def okShape (s:Shape) (ok:Bool):RShape:=match ok with | true=>.tup [s,.one .bool] | false=>.single s
def isPure (P:Program) (o:Op):Bool:=match o with
 | .move _ | .assign _ | .pick _ _ _ | .nilCheck _ | .binOp _ _ _ _ _ | .unOp _ _ _ | .makeInterface _ _ | .makeFunc _ _ _ | .fieldAddr _ _ _ | .field _ _ _
 | .indexAddr _ _ _ | .index _ _ _ | .slice _ _ _ _ _ | .typeAssert _ _ _ _ | .extract _ _ | .build _ _=>true
 | .convert _ dst _=>match P.underlying dst with | some (.int _)=>true | _=>false
 | .call c=>match c.callee with
  | .builtin .len | .builtin .cap=>match c.argTypes[0]? with
   | some t=>match P.underlying t with | some (.map _ _)=>false | _=>true
   | none=>false
  | _=>false
 | _=>false
noncomputable def vcPure (P:Program) (n:Nat) (ρ:Fr) (o:Oper) (K:Value->Prop):Prop:=match o.op with
 | .move x=>K (ev n ρ x)
 | .assign x=>K (ev n ρ x)
 | .pick c a b=>match ev n ρ c with | .bool x=>bsel x (K (ev n ρ a)) (K (ev n ρ b)) | _=>False
 | .nilCheck x=>nilV (ev n ρ x) (λ a=>K (.pointer (some a))) (K (ev n ρ x))
 | .binOp op t x y _=>match op with
  | .eql=>eqK P .eql t x y (ev n ρ x) (ev n ρ y) K
  | .neq=>eqK P .neq t x y (ev n ρ x) (ev n ρ y) K
  | .quo=>divK (ev n ρ x) (ev n ρ y) λ k a b=>K (.int k (k.wrap (a.tdiv b)))
  | .rem=>divK (ev n ρ x) (ev n ρ y) λ k a b=>K (.int k (a.tmod b))
  | .shl=>shK (ev n ρ x) (ev n ρ y) λ k a b=>K (.int k (k.wrap (a*2 ^ min b.toNat k.bits)))
  | .shr=>shK (ev n ρ x) (ev n ρ y) λ k a b=>K (.int k (a.fdiv (2 ^ min b.toNat k.bits)))
  | .add=>match P.underlying t with
   | some .string=>catK (ev n ρ x) (ev n ρ y) λ s=>K (.string s)
   | _=>pvK P (execOp (ev n ρ) o) K
  | _=>pvK P (execOp (ev n ρ) o) K
 | .indexAddr t x i=>match P.underlying t with
  | some (.slice e)=>match ev n ρ x with
   | .slice base len _=>match ev n ρ i with | .int _ i=>szK P e λ sz=>idxK base len i sz λ a=>K (.pointer (some a)) | _=>False
   | _=>False
  | some (.array len e)=>match ev n ρ x with
   | .pointer (some a)=>match ev n ρ i with | .int _ i=>szK P e λ sz=>aidxK a len i sz λ a=>K (.pointer (some a)) | _=>False
   | _=>False
  | _=>False
 | .index t x i=>match P.underlying t with
  | some .string=>match ev n ρ x with
   | .string s=>match ev n ρ i with | .int _ i=>sidxK s i λ b=>K (.int .u8 b) | _=>False
   | _=>False
  | _=>pvK P (execOp (ev n ρ) o) K
 | .slice t x lo hi mx=>match P.underlying t with
  | some (.slice e)=>match ev n ρ x with
   | .slice a len cap=>match mx with
    | none=>optEv n ρ lo 0 λ lo=>optEv n ρ hi len λ hi=>szK P e λ sz=>slcK a cap lo hi sz λ p l c=>K (.slice p l c)
    | some _=>opP P (.single (.one .slice)) (Instr.sliceAt t (ev n ρ x) (lo.map (ev n ρ)) (hi.map (ev n ρ)) (mx.map (ev n ρ))) K
   | _=>False
  | some .string=>match ev n ρ x with
   | .string s=>match mx with
    | none=>optEv n ρ lo 0 λ lo=>optEv n ρ hi s.size λ hi=>sslK s lo hi λ s=>K (.string s)
    | some _=>False
   | _=>False
  | _=>opP P (.single (.one .slice)) (Instr.sliceAt t (ev n ρ x) (lo.map (ev n ρ)) (hi.map (ev n ρ)) (mx.map (ev n ρ))) K
 | .typeAssert x xT asx ok=>opP P (okShape (shapeOf P asx) ok) (Instr.typeAssert (ev n ρ x) xT asx ok) K
 | .build t parts=>buildK P t (parts.toList.map λ p=>(p.1,ev n ρ p.2)) K
 | .call c=>match c.callee with
  | .builtin .len=>match c.argTypes.toList with
   | t :: _=>match c.args.toList with | x :: _=>lenK P t (ev n ρ x) λ l=>K (.int .i64 l) | _=>False
   | _=>False
  | .builtin .cap=>match c.argTypes.toList with
   | t :: _=>match c.args.toList with | x :: _=>capK P t (ev n ρ x) λ l=>K (.int .i64 l) | _=>False
   | _=>False
  | _=>False
 | _=>pvK P (execOp (ev n ρ) o) K
def Gives (P:Program) (n:Nat) (ρ:Fr) (o:Oper) (v:Value):Prop:=∀w,(execOp (ev n ρ) o).run P w=.ok (.value v) w
theorem pvK_gives {P:Program} {n:Nat} {ρ:Fr} {o:Oper} {K:Value->Prop} (h:pvK P (execOp (ev n ρ) o) K):∃v,Gives P n ρ o v/\K v:=by
 unfold pvK at h
 split at h
 ·rename_i v hv;exact ⟨v,pv_run hv,h⟩
 ·exact h.elim
theorem opP_gives {P:Program} {r:RShape} {s:Sem Value} {K:Value->Prop} (h:opP P r s K):∃v,(∀w,s.run P w=.ok v w)/\K v:=exR_ex h
theorem run_v {P:Program} {s:Sem Value} {v:Value} {w w':World} (h:s.run P w=.ok v w') :
  (do pure (Next.value (<-s)):Sem Next).run P w=.ok (.value v) w':=by
 simp [h,Result.andThen]
theorem pvV_gives {P:Program} {s:Sem Value} {K:Value->Prop} (h:pvV P s K):∃v,(∀w,s.run P w=.ok v w)/\K v:=by
 unfold pvV at h
 split at h
 ·rename_i v hv;exact ⟨v,pv_run hv,h⟩
 ·exact h.elim
theorem eqSem_const {P:Program} {op:BinOp} (hop:op=.eql\/op=.neq) {t:TypeId} {xo:Operand} {c:Value} {vx:Value} {w:World} {b:Bool}
  (hx:∀cs,vx≠.agg cs) (hb:(Op.equal t vx c).run P w=.ok b w) (hc:c=.nilIface\/c=.nilFunc\/c=.pointer none\/(∃l k,c=.slice none l k)\/c=.map none) :
  (eqSem op t xo (.const c) vx c).run P w=.ok (.bool (sgn op b)) w:=by
 have hg:(eqGuard op t xo (.const c) vx c).run P w=.ok () w:=by
  unfold eqGuard
  rcases hop with rfl | rfl <;> rcases hc with rfl | rfl | rfl | ⟨l,k,rfl⟩ | rfl <;> cases vx <;> simp_all
 have he:(binOp op t vx c).run P w=.ok (.bool (sgn op b)) w:=by
  rcases hop with rfl | rfl <;> rcases hc with rfl | rfl | rfl | ⟨l,k,rfl⟩ | rfl <;> cases vx <;> simp_all [binOp,Result.andThen,sgn]
 simp [eqSem,hg,he,Result.andThen]
section
variable {P:Program} {t:TypeId} (w:World) (d:Nat)
theorem eqIn_iface {ms:Array (String × TypeId)} (hu:P.underlying t=some (.interface ms)) (u:TypeId) (x:Value) :
  (Op.equalIn (d+1) t (.iface u x) .nilIface).run P w=.ok false w:=by simp [Op.equalIn,run_underlying hu]
theorem eqIn_nilIface {ms:Array (String × TypeId)} (hu:P.underlying t=some (.interface ms)) :
  (Op.equalIn (d+1) t .nilIface .nilIface).run P w=.ok true w:=by simp [Op.equalIn,run_underlying hu]
theorem eqIn_func {a b:Array TypeId} {v:Bool} (hu:P.underlying t=some (.func a b v)) (f:Fn) (x y:Array Value) :
  (Op.equalIn (d+1) t (.func f x y) .nilFunc).run P w=.ok false w:=by simp [Op.equalIn,run_underlying hu]
theorem eqIn_nilFunc {a b:Array TypeId} {v:Bool} (hu:P.underlying t=some (.func a b v)) :
  (Op.equalIn (d+1) t .nilFunc .nilFunc).run P w=.ok true w:=by simp [Op.equalIn,run_underlying hu]
theorem eqIn_ptr {e:TypeId} (hu:P.underlying t=some (.pointer e)) (p:Option Addr) :
  (Op.equalIn (d+1) t (.pointer p) (.pointer none)).run P w=.ok p.isNone w:=by cases p <;> simp [Op.equalIn,run_underlying hu]
theorem eqIn_slice {e:TypeId} (hu:P.underlying t=some (.slice e)) (p:Option Addr) (l c l' c':Nat) :
  (Op.equalIn (d+1) t (.slice p l c) (.slice none l' c')).run P w=.ok p.isNone w:=by cases p <;> simp [Op.equalIn,run_underlying hu]
theorem eqIn_map {k e:TypeId} (hu:P.underlying t=some (.map k e)) (p:Option Nat) :
  (Op.equalIn (d+1) t (.map p) (.map none)).run P w=.ok p.isNone w:=by cases p <;> simp [Op.equalIn,run_underlying hu]
end
theorem eqK_gives {P:Program} {op:BinOp} (hop:op=.eql\/op=.neq) {t:TypeId} {xo yo:Operand} {n:Nat} {ρ:Fr} {K:Value->Prop}
  (h:eqK P op t xo yo (ev n ρ xo) (ev n ρ yo) K):∃v,(∀w,(eqSem op t xo yo (ev n ρ xo) (ev n ρ yo)).run P w=.ok v w)/\K v:=by
 unfold eqK at h
 generalize hvx:ev n ρ xo=vx at *
 split at h
 ·rename_i ms hu
  split at h
  ·cases vx <;> simp only [eqNilI] at h
   ·exact ⟨_,λ w=>eqSem_const hop (by simp) (eqIn_iface w 9999 hu _ _) (.inl rfl),h⟩
   ·exact ⟨_,λ w=>eqSem_const hop (by simp) (eqIn_nilIface w 9999 hu) (.inl rfl),h⟩
  ·exact opP_gives h
 ·rename_i hu
  split at h
  ·cases vx <;> simp only [eqNilF] at h
   ·exact ⟨_,λ w=>eqSem_const hop (by simp) (eqIn_func w 9999 hu _ _ _) (.inr (.inl rfl)),h⟩
   ·exact ⟨_,λ w=>eqSem_const hop (by simp) (eqIn_nilFunc w 9999 hu) (.inr (.inl rfl)),h⟩
  ·exact h.elim
 ·rename_i hu
  split at h
  ·split at h
   ·exact ⟨_,λ w=>eqSem_const hop (by simp) (eqIn_ptr w 9999 hu _) (.inr (.inr (.inl rfl))),h⟩
   ·exact h.elim
  ·exact h.elim
 ·rename_i hu
  split at h
  ·split at h
   ·exact ⟨_,λ w=>eqSem_const hop (by simp) (eqIn_slice w 9999 hu _ _ _ _ _) (.inr (.inr (.inr (.inl ⟨_,_,rfl⟩)))),h⟩
   ·exact h.elim
  ·exact h.elim
 ·rename_i hu
  split at h
  ·split at h
   ·exact ⟨_,λ w=>eqSem_const hop (by simp) (eqIn_map w 9999 hu _) (.inr (.inr (.inr (.inr rfl)))),h⟩
   ·exact h.elim
  ·exact h.elim
 ·exact opP_gives h
 ·exact opP_gives h
 ·exact pvV_gives h
end Go.Fw

namespace Go.Fw
section
variable {P:Program} {n:Nat} {ρ:Fr} {o:Oper} {K:Value->Prop}
theorem gives_of {s:Sem Value} {v:Value} (he:execOp (ev n ρ) o=(do pure (Next.value (<-s)))) (h:∀w,s.run P w=.ok v w):Gives P n ρ o v:=
 λ w=>by rw [he];exact run_v (h w)
theorem sliceBounds_run {isS:Bool} {len cap:Nat} {lo hi:Option Value} {l h:Int} {w:World}
  (hlo:(lo=none/\l=0)\/∃k,lo=some (.int k l)) (hhi:(hi=none/\h=len)\/∃k,hi=some (.int k h)) (hb:0<=l/\l<=h/\h<=cap) :
  (Instr.sliceBounds isS len cap lo hi none).run P w=.ok (l.toNat,h.toNat,cap) w:=by
 obtain ⟨h0,h1,h2⟩:=hb
 rcases hlo with ⟨rfl,rfl⟩ | ⟨k,rfl⟩ <;> rcases hhi with ⟨rfl,rfl⟩ | ⟨k',rfl⟩
 ·simp [Instr.sliceBounds]
 ·simp [Instr.sliceBounds,Instr.sliceBound,asIntOf,h1,h2,Result.andThen]
 ·simp [Instr.sliceBounds,Instr.sliceBound,asIntOf,h0,h1,Result.andThen]
 ·simp [Instr.sliceBounds,Instr.sliceBound,asIntOf,h0,h1,h2,Result.andThen,show (0:Int)<=h by omega,show l<=max h 0 by omega]
theorem optEv_of {x:Option Operand} {d:Int} {K:Int->Prop} (h:optEv n ρ x d K):∃i,((x.map (ev n ρ)=none/\i=d)\/∃k,x.map (ev n ρ)=some (.int k i))/\K i:=by
 cases x with
 | none=>exact ⟨d,.inl ⟨rfl,rfl⟩,h⟩
 | some o=>
  simp only [optEv] at h
  split at h
  ·rename_i k i hi;exact ⟨i,.inr ⟨k,by simp [hi]⟩,h⟩
  ·exact h.elim
theorem szK_of {t:TypeId} {K:Nat->Prop} (h:szK P t K):∃i,P.info? t=some i/\K i.size:=by
 unfold szK at h
 split at h
 ·exact ⟨_,by assumption,h⟩
 ·exact h.elim
theorem mapM_run {w:World}:∀(l:List Field),l.all (λ f=>(P.info? f.type).isSome)=true->
  (l.mapM (λ f=>do pure (f.offset,<-sizeOf f.type):Field->Sem (Nat × Nat))).run P w=.ok (l.map λ f=>(f.offset,P.cellsOf f.type)) w
 | [],_=>rfl
 | f :: l,h=>by
  simp only [List.all_cons,Bool.and_eq_true] at h
  obtain ⟨i,hi⟩:=Option.isSome_iff_exists.1 h.1
  rw [List.mapM_cons,Sem.run_bind,Sem.run_bind,run_sizeOf w hi]
  simp only [Result.andThen,Sem.run_pure]
  rw [Sem.run_bind,mapM_run l h.2]
  simp
theorem mapMA_run {w:World} (fs:Array Field) (h:fs.toList.all (λ f=>(P.info? f.type).isSome)=true) :
  (fs.mapM (λ f=>do pure (f.offset,<-sizeOf f.type):Field->Sem (Nat × Nat))).run P w=.ok (fs.map λ f=>(f.offset,P.cellsOf f.type)) w:=by
 rw [Array.mapM_eq_mapM_toList]
 simp only [map_eq_pure_bind,Sem.run_bind]
 rw [mapM_run fs.toList h]
 simp only [Result.andThen,Sem.run_pure]
 congr 1
 apply Array.ext'
 simp
theorem divK_of {vx vy:Value} {K:IntKind->Int->Int->Prop} (h:divK vx vy K):∃k a b,vx=.int k a/\vy=.int k b/\b≠0/\K k a b:=by
 unfold divK at h
 split at h
 ·split at h
  ·split at h
   ·rename_i hk
    have hk:=of_decide_eq_true hk
    subst hk
    exact ⟨_,_,_,rfl,rfl,h⟩
   ·exact h.elim
  ·exact h.elim
 ·exact h.elim
theorem shK_of {vx vy:Value} {K:IntKind->Int->Int->Prop} (h:shK vx vy K):∃k a k' b,vx=.int k a/\vy=.int k' b/\0<=b/\K k a b:=by
 unfold shK at h
 split at h
 ·split at h
  ·exact ⟨_,_,_,_,rfl,rfl,h⟩
  ·exact h.elim
 ·exact h.elim
theorem catK_of {vx vy:Value} {K:ByteArray->Prop} (h:catK vx vy K):∃a b,vx=.string a/\vy=.string b/\((a.size+b.size:Nat):Int)<=9223372036854775807/\K (a ++ b):=by
 unfold catK at h
 split at h
 ·split at h
  ·exact ⟨_,_,rfl,rfl,h⟩
  ·exact h.elim
 ·exact h.elim
theorem vcPure_gives (hp:isPure P o.op=true) (h:vcPure P n ρ o K):∃v,Gives P n ρ o v/\K v:=by
 cases ho:o.op <;> simp only [ho,isPure,Bool.false_eq_true] at hp <;> simp only [vcPure,ho] at h
 case move x=>exact ⟨_,λ w=>by simp [execOp,ho],h⟩
 case assign x=>exact ⟨_,λ w=>by simp [execOp,ho],h⟩
 case pick c a b=>
  split at h
  ·rename_i x hx
   cases x
   ·exact ⟨_,gives_of (s:=pure (ev n ρ b)) (by simp [execOp,ho,hx,asBool]) (λ w=>rfl),h⟩
   ·exact ⟨_,gives_of (s:=pure (ev n ρ a)) (by simp [execOp,ho,hx,asBool]) (λ w=>rfl),h⟩
  ·exact h.elim
 case nilCheck x=>
  unfold nilV at h
  split at h
  ·rename_i p hx
   obtain ⟨a,rfl,h⟩:=nilK_of h
   exact ⟨_,λ w=>by simp [execOp,ho,hx],h⟩
  ·rename_i hx;exact ⟨_,λ w=>by simp [execOp,ho,hx],h⟩
  ·rename_i hx;exact ⟨_,λ w=>by simp [execOp,ho,hx],h⟩
  ·exact h.elim
 case binOp op t x y yt=>
  split at h
  ·obtain ⟨v,hv,hK⟩:=eqK_gives (.inl rfl) h
   exact ⟨v,gives_of (by simp only [execOp,ho];rfl) hv,hK⟩
  ·obtain ⟨v,hv,hK⟩:=eqK_gives (.inr rfl) h
   exact ⟨v,gives_of (by simp only [execOp,ho];rfl) hv,hK⟩
  ·obtain ⟨k,a,b,hx,hy,hb,hK⟩:=divK_of h
   exact ⟨_,gives_of (by simp only [execOp,ho];rfl) (λ w=>by simp [eqGuard,hx,hy,binOp,Op.intDiv,hb]),hK⟩
  ·obtain ⟨k,a,b,hx,hy,hb,hK⟩:=divK_of h
   exact ⟨_,gives_of (by simp only [execOp,ho];rfl) (λ w=>by simp [eqGuard,hx,hy,binOp,Op.intDiv,hb]),hK⟩
  ·obtain ⟨k,a,k',b,hx,hy,hb,hK⟩:=shK_of h
   exact ⟨_,gives_of (by simp only [execOp,ho];rfl) (λ w=>by simp [eqGuard,hx,hy,binOp,Op.shift,show ¬b<0 by omega]),hK⟩
  ·obtain ⟨k,a,k',b,hx,hy,hb,hK⟩:=shK_of h
   exact ⟨_,gives_of (by simp only [execOp,ho];rfl) (λ w=>by simp [eqGuard,hx,hy,binOp,Op.shift,show ¬b<0 by omega]),hK⟩
  ·split at h
   ·obtain ⟨a,b,hx,hy,hb,hK⟩:=catK_of h
    have hb':¬((a.size+b.size:Nat):Int)>IntKind.i64.max:=by
     have:IntKind.i64.max=9223372036854775807:=by decide
     omega
    exact ⟨_,gives_of (by simp only [execOp,ho];rfl) (λ w=>by simp only [eqGuard,hx,hy,binOp,Op.stringOp,if_neg hb'];simp),hK⟩
   ·exact pvK_gives h
  ·exact pvK_gives h
 case unOp=>exact pvK_gives h
 case convert=>exact pvK_gives h
 case makeInterface=>exact pvK_gives h
 case makeFunc=>exact pvK_gives h
 case fieldAddr=>exact pvK_gives h
 case field=>exact pvK_gives h
 case extract=>exact pvK_gives h
 case typeAssert=>
  obtain ⟨v,hv,hK⟩:=opP_gives h
  exact ⟨v,gives_of (by simp only [execOp,ho]) hv,hK⟩
 case indexAddr t x i=>
  split at h
  ·rename_i e hu
   split at h
   ·rename_i base len cap hx
    split at h
    ·rename_i k i' hi
     obtain ⟨ie,hie,a,rfl,hb,hK⟩:=szK_of h
     refine ⟨_,gives_of (by simp only [execOp,ho];rfl) (λ w=>?_),hK⟩
     simp [Instr.indexAt,hx,hi,asIntOf,run_underlying hu,hb,sizeOf,run_typeInfo w hie]
    ·exact h.elim
   ·exact h.elim
  ·rename_i len e hu
   split at h
   ·rename_i a hx
    split at h
    ·rename_i k i' hi
     obtain ⟨ie,hie,hb,hK⟩:=szK_of h
     refine ⟨_,gives_of (by simp only [execOp,ho];rfl) (λ w=>?_),hK⟩
     simp [Instr.indexAt,hx,hi,asIntOf,run_underlying hu,hb,sizeOf,run_typeInfo w hie,Instr.sureAddr]
    ·exact h.elim
   ·exact h.elim
  ·exact h.elim
 case index t x i=>
  split at h
  ·rename_i hu
   split at h
   ·rename_i s hx
    split at h
    ·rename_i k i' hi
     obtain ⟨b,⟨h0,hb⟩,hK⟩:=h
     refine ⟨_,gives_of (by simp only [execOp,ho];rfl) (λ w=>?_),hK⟩
     simp [Instr.index,hx,hi,asIntOf,run_underlying hu,h0,hb]
    ·exact h.elim
   ·exact h.elim
  ·exact pvK_gives h
 case slice t x lo hi mx=>
  split at h
  ·rename_i e hu
   split at h
   ·rename_i a len cap hx
    split at h
    ·obtain ⟨l,hl,h⟩:=optEv_of h
     obtain ⟨r,hr,h⟩:=optEv_of h
     obtain ⟨ie,hie,hb,hK⟩:=szK_of h
     refine ⟨_,gives_of (by simp only [execOp,ho];rfl) (λ w=>?_),hK⟩
     have hsb:=sliceBounds_run (P:=P) (isS:=true) (len:=len) (cap:=cap) (w:=w) hl hr hb
     obtain ⟨h0,h1,h2⟩:=hb
     have e1:(cap=l.toNat)=((cap:Int)=l):=propext ⟨λ h=>by omega,λ h=>by omega⟩
     simp [Instr.sliceAt,Instr.slice,hx,run_underlying hu,hsb,sizeOf,run_typeInfo w hie,e1]
    ·obtain ⟨v,hv,hK⟩:=opP_gives h
     exact ⟨v,gives_of (by simp only [execOp,ho]) hv,hK⟩
   ·exact h.elim
  ·rename_i hu
   split at h
   ·rename_i s hx
    split at h
    ·obtain ⟨l,hl,h⟩:=optEv_of h
     obtain ⟨r,hr,h⟩:=optEv_of h
     obtain ⟨hb,hK⟩:=h
     refine ⟨_,gives_of (by simp only [execOp,ho];rfl) (λ w=>?_),hK⟩
     have hsb:=sliceBounds_run (P:=P) (isS:=false) (len:=s.size) (cap:=s.size) (w:=w) hl hr hb
     simp [Instr.sliceAt,Instr.slice,hx,run_underlying hu,hsb]
    ·exact h.elim
   ·exact h.elim
  ·obtain ⟨v,hv,hK⟩:=opP_gives h
   exact ⟨v,gives_of (by simp only [execOp,ho]) hv,hK⟩
 case build t parts=>
  unfold buildK at h
  split at h
  ·rename_i i hi
   split at h
   ·rename_i z hz
    split at h
    ·rename_i fs hu
     split at h
     ·exact h.elim
     ·rename_i hall
      obtain ⟨cs,hf,hK⟩:=fill_of P (λ j=>(fs.map λ f=>(f.offset,P.cellsOf f.type))[j]?) _ (λ j=>by
       rw [Array.getElem?_map]
       cases fs[j]? <;> rfl) _ _ _ h
      refine ⟨_,gives_of (by simp only [execOp,ho];rfl) (λ w=>?_),hK⟩
      have hp:(parts.map λ p=>(p.1,ev n ρ p.2)).toList=parts.toList.map λ p=>(p.1,ev n ρ p.2):=by simp
      simp only [Instr.build,zeroValue,Sem.run_bind,run_typeInfo w hi,Result.andThen,hz,Sem.run_pure,run_underlying hu,mapMA_run fs hall,hp]
      simp only [Array.toArray_toList] at hf
      rw [hf]
      rfl
    ·rename_i len e hu
     obtain ⟨ie,hie,h⟩:=szK_of h
     obtain ⟨cs,hf,hK⟩:=fill_of P (λ j=>some (j*ie.size,ie.size)) _ (λ j=>rfl) _ _ _ h
     refine ⟨_,gives_of (by simp only [execOp,ho];rfl) (λ w=>?_),hK⟩
     have hp:(parts.map λ p=>(p.1,ev n ρ p.2)).toList=parts.toList.map λ p=>(p.1,ev n ρ p.2):=by simp
     simp only [Instr.build,zeroValue,Sem.run_bind,run_typeInfo w hi,Result.andThen,hz,Sem.run_pure,run_underlying hu,sizeOf,run_typeInfo w hie,hp]
     simp only [Array.toArray_toList] at hf
     rw [hf]
     rfl
    ·exact h.elim
   ·exact h.elim
  ·exact h.elim
 case call c=>
  split at h
  ·rename_i hc
   split at h
   ·rename_i t ts hat
    split at h
    ·rename_i x xs hxs
     have hat':c.argTypes[0]?=some t:=by rw [<-Array.getElem?_toList,hat];rfl
     have hx':(c.args.map (ev n ρ))[0]?=some (ev n ρ x):=by rw [Array.getElem?_map,<-Array.getElem?_toList,hxs];rfl
     unfold lenK at h
     split at h
     ·rename_i hu
      split at h
      ·rename_i s hs
       exact ⟨_,λ w=>by simp [execOp,ho,resolve,hc,invoke,builtin,Builtin.len_,hat',hx',hs,run_underlying hu,goInt],h⟩
      ·exact h.elim
     ·rename_i e hu
      split at h
      ·rename_i s hs
       exact ⟨_,λ w=>by simp [execOp,ho,resolve,hc,invoke,builtin,Builtin.len_,hat',hx',hs,run_underlying hu,goInt],h⟩
      ·exact h.elim
     ·exact h.elim
    ·exact h.elim
   ·exact h.elim
  ·rename_i hc
   split at h
   ·rename_i t ts hat
    split at h
    ·rename_i x xs hxs
     have hat':c.argTypes[0]?=some t:=by rw [<-Array.getElem?_toList,hat];rfl
     have hx':(c.args.map (ev n ρ))[0]?=some (ev n ρ x):=by rw [Array.getElem?_map,<-Array.getElem?_toList,hxs];rfl
     unfold capK at h
     split at h
     ·rename_i e hu
      split at h
      ·rename_i s hs
       exact ⟨_,λ w=>by simp [execOp,ho,resolve,hc,invoke,builtin,Builtin.cap_,hat',hx',hs,run_underlying hu,goInt],h⟩
      ·exact h.elim
     ·exact h.elim
    ·exact h.elim
   ·exact h.elim
  ·exact h.elim
end
end Go.Fw

namespace Go.Fw
def bodied (P:Program) (f:FuncId):Bool:=match P.funcs[f]? with
 | some fn=>match fn.body with | some _=>true | none=>false
 | none=>false
def Plain (P:Program):Prop:=∀(f:FuncId) (fn:Func),P.funcs[f]?=some fn->(fn.name == "runtime.NumGoroutine")=false
def boxK (P:Program) (t:TypeId) (v:Value) (w:World) (K:Addr->World->Prop):Prop:=match shapeOf P t with
 | .one _=>plK v (newK w #[v] t K)
 | .agg _=>match v with | .agg cs=>newK w cs t K | _=>False
def storK (P:Program) (t:TypeId) (a:Addr) (v:Value) (w:World) (K:World->Prop):Prop:=szK P t λ sz=>match shapeOf P t with
 | .one _=>match Nat.beq sz 1 with | true=>plK v (stK w a v K) | false=>False
 | .agg _=>match v with
  | .agg cs=>match Nat.beq cs.toList.length sz with | true=>stsK w a cs.toList K | false=>False
  | _=>False
def bsK (P:Program) (t:TypeId) (len:Nat) (parts:List (Nat × Value)) (w:World) (K:Value->World->Prop):Prop:=match P.underlying t with
 | some (.slice e)=>match P.info? e with
  | some i=>match i.zero with
   | some z=>match Nat.ble (len*i.size) 1000 with
    | true=>match Nat.beq (len*i.size) 0 with
     | true=>fillS P (λ j=>some (j*i.size,i.size,shapeOf P e)) [] parts λ cs=>newK w cs.toArray e λ a w'=>K (.slice (some a) len len) w'
     | false=>match Nat.beq z.cells.toList.length i.size with
      | true=>fillS P (λ j=>some (j*i.size,i.size,shapeOf P e)) ((List.replicate len z.cells.toList).flatten) parts λ cs=>newK w cs.toArray e λ a w'=>K (.slice (some a) len len) w'
      | false=>False
    | false=>False
   | none=>False
  | none=>False
 | _=>False
def rsh (P:Program) (t:TypeId):RShape:=match P.underlying t with
 | some (.tuple ts)=>match ts.toList with
  | []=>.single (.one .raw)
  | l=>.tup (l.map (shapeOf P))
 | _=>.single (shapeOf P t)
def elSh (P:Program) (t:TypeId):Shape:=match P.underlying t with | some (.map _ e)=>shapeOf P e | _=>.one .raw
def nextSK (it:Value) (w:World) (Kd:World->Prop) (K:Int->Int->World->Prop):Prop:=
 ∃(r:Nat) (s:ByteArray) (pos:Nat),(it=.pointer (some ⟨r,0,none⟩)/\w.heap[r]?=some (.stringIter s pos))/\
  (pos<s.size->K pos (Utf8.decode s pos).1 { w with heap:=w.heap.setIfInBounds r (.stringIter s (pos+(Utf8.decode s pos).2)) })/\(¬pos<s.size->Kd w)
noncomputable def vcEff (P:Program) (n:Nat) (ρ:Fr) (o:Oper) (w:World) (K:Value->World->Prop):Prop:=match o.op with
 | .load t x=>match ev n ρ x with | .pointer (some a)=>ldK P t w a λ v=>K v w | _=>False
 | .store t x y=>match ev n ρ x with | .pointer (some a)=>storK P t a (ev n ρ y) w λ w'=>K undef w' | _=>False
 | .alloc t=>match P.info? t with
  | some i=>match i.zero with | some z=>newK w z.cells t λ a w'=>K (.pointer (some a)) w' | none=>False
  | none=>False
 | .box t x=>boxK P t (ev n ρ x) w λ a w'=>K (.pointer (some a)) w'
 | .buildSlice t len parts=>bsK P t len (parts.toList.map λ p=>(p.1,ev n ρ p.2)) w K
 | .convert s d x=>runS P (rsh P o.type) (convert s d (ev n ρ x)) w K
 | .makeMap t r=>runS P (rsh P t) (Instr.makeMap t (r.map (ev n ρ))) w K
 | .makeSlice t l c=>runS P (rsh P t) (Instr.makeSlice t (ev n ρ l) (ev n ρ c)) w K
 | .lookup t x i ok=>runS P (okShape (elSh P t) ok) (Instr.lookup t (ev n ρ x) (ev n ρ i) ok) w K
 | .mapUpdate t m k x=>runU P (Instr.mapUpdate t (ev n ρ m) (ev n ρ k) (ev n ρ x)) w λ w'=>K undef w'
 | .insert t m k x=>runU P (Instr.mapUpdate t (ev n ρ m) (ev n ρ k) (ev n ρ x)) w λ w'=>K undef w'
 | .mapEntry t m k=>runS P (.single (.one .raw)) (Instr.mapEntry t (ev n ρ m) (ev n ρ k)) w K
 | .entryStore t m k x=>runU P (Instr.entryStore t (ev n ρ m) (ev n ρ k) (ev n ρ x)) w λ w'=>K undef w'
 | .range t x=>runS P (.single (.one .ptr)) (Instr.range t (ev n ρ x)) w K
 | .next it s=>match s with
  | true=>nextSK (ev n ρ it) w (λ w'=>K (.tuple #[.bool false]) w') (λ p c w'=>K (.tuple #[.bool true,.int .i64 p,.int .i32 c]) w')
  | false=>runS P (.single (.one .raw)) (Instr.next (ev n ρ it) false o.type) w K
 | .call c=>match c.callee with
  | .value x=>match x with
   | .func f=>match bodied P f with
    | true=>CallS P f (c.args.toList.map (ev n ρ)).toArray (rsh P o.type) w K
    | false=>runS P (rsh P o.type) (extV P f (c.args.toList.map (ev n ρ)).toArray) w K
   | _=>CallV P (ev n ρ x) (c.args.toList.map (ev n ρ)).toArray w (RetK (rsh P o.type) K)
  | .invoke r name=>InvK P (ev n ρ r) name (c.args.toList.map (ev n ρ)).toArray w (RetK (rsh P o.type) K)
  | .builtin b=>runS P (rsh P o.type) (bltV b c.argTypes o.type (c.args.toList.map (ev n ρ)).toArray) w K
 | _=>False
where
 extV (P:Program) (f:FuncId) (args:Array Value):Sem Value:=do
  match <-callFunc f args with
  | .value v=>pure v
  | _=>stuck ""
 bltV (b:Builtin) (tys:Array TypeId) (t:TypeId) (args:Array Value):Sem Value:=match b with
  | .append=>Builtin.append_ tys t args
  | .clear=>Builtin.clear_ tys t args
  | .copy=>Builtin.copy_ tys t args
  | .delete=>Builtin.delete_ tys t args
  | .len=>Builtin.len_ tys t args
  | .max=>Builtin.max_ tys t args
  | .min=>Builtin.min_ tys t args
  | _=>stuck ""
def fence (rd:Option Nat):Fence:={ Fence.wide with round:=rd }
section
variable {P:Program} {n:Nat} {ρ:Fr} {o:Oper}
def Upon (P:Program) (o:Oper) (ρe:Operand->Value) (w:World) (K:Value->World->Prop):Prop:=
 (∃v w',(execOp ρe o).run P w=.ok (.value v) w'/\K v w')\/
 (∃w',(execOp ρe o).run P w=.ok .skip w'/\K undef w')\/
 (∃f args w',(execOp ρe o).run P w=.ok (.enter f args) w'/\Calls P f args w' (λ e w''=>∃v,e=.returned v/\K v w''))\/
 (∃l f tmps assign body w',(execOp ρe o).run P w=.ok (.round l f tmps assign body) w'/\RoundIn Fence.wide 0 P l f tmps assign body w' λ e w''=>∃b,e=.returned (.bool b)/\K (.bool b) w'')
theorem Upon.mono {ρe:Operand->Value} {w:World} {K K':Value->World->Prop} (h:Upon P o ρe w K) (hK:∀v w,K v w->K' v w):Upon P o ρe w K':=by
 rcases h with ⟨v,w',he,h⟩ | ⟨w',he,h⟩ | ⟨f,args,w',he,h⟩ | ⟨l,f,tmps,asx,body,w',he,h⟩
 ·exact .inl ⟨v,w',he,hK _ _ h⟩
 ·exact .inr (.inl ⟨w',he,hK _ _ h⟩)
 ·exact .inr (.inr (.inl ⟨f,args,w',he,h.mono λ e w'' ⟨v,hv,hk⟩=>⟨v,hv,hK _ _ hk⟩⟩))
 ·exact .inr (.inr (.inr ⟨l,f,tmps,asx,body,w',he,h.mono λ e w'' ⟨b,hb,hk⟩=>⟨b,hb,hK _ _ hk⟩⟩))
theorem Upon.wpIn {rd:Option Nat} {m:Nat} {a:Act} {w:World} {next:Act->World->Prop} {Q:Exit->Act->World->Prop} (hnd:∀c,o.op≠.defer c)
  (h:Upon P o a.eval w λ v w'=>next (a.put o.dst v) w'):o.wpIn (fence rd) m P a w next Q:=by
 refine ⟨λ _ _=>trivial,?_⟩
 have hF:(fence rd).round=rd:=rfl
 rw [hF,Oper.semAt_eq rd a.eval o hnd]
 rcases h with ⟨v,w',he,hK⟩ | ⟨w',he,hK⟩ | ⟨f,args,w',he,hc⟩ | ⟨l,f,tmps,asx,body,w',he,hc⟩
 ·rw [he];exact hK
 ·rw [he];exact hK
 ·rw [he]
  refine ⟨λ h=>(by simp [fence,Fence.wide] at h),?_⟩
  have h1:CallsIn Fence.wide (m-1) P f args w' (λ e w''=>∃v,e=.returned v/\next (a.put o.dst v) w''):=callsIn_wide.2 hc
  have h2:CallsIn (fence rd) (m-1) P f args w' (λ e w''=>∃v,e=.returned v/\next (a.put o.dst v) w''):=h1
  refine h2.mono λ e w'' he=>?_
  obtain ⟨v,rfl,hK⟩:=he
  exact hK
 ·rw [he]
  refine ⟨λ h=>(by simp [fence,Fence.wide] at h),?_⟩
  have h2:RoundIn (fence rd) (m-1) P l f tmps asx body w' λ e w''=>∃b,e=.returned (.bool b)/\next (a.put o.dst (.bool b)) w'':=
   ⟨trivial,λ c cs _=>hc.2 c cs (room_wide _)⟩
  refine h2.mono λ e w'' he=>?_
  obtain ⟨b,rfl,hK⟩:=he
  exact hK
theorem shape_one {t:TypeId} {d:TypeDesc} {g:Tag} (hu:P.underlying t=some d) (hs:shapeOf P t=.one g) (w:World):(isAgg t).run P w=.ok false w:=by
 unfold shapeOf at hs
 simp only [hu] at hs
 cases d <;> simp_all [isAgg,run_underlying hu]
theorem shape_agg {t:TypeId} {ts:List Tag} (hs:shapeOf P t=.agg ts) (w:World):(isAgg t).run P w=.ok true w:=by
 unfold shapeOf at hs
 cases hu:P.underlying t with
 | none=>simp [hu] at hs
 | some d=>
  simp only [hu] at hs
  cases d <;> simp_all [isAgg,run_underlying hu]
theorem loadCells_run {w:World} {a:Addr}:∀(vs:List Value) (i:Nat) (acc:Array Value),cellsFrom w a vs i->
  (loadCellsFrom a i vs.length acc).run P w=.ok (acc ++ vs.toArray) w
 | [],i,acc,_=>by simp [loadCellsFrom]
 | v :: vs,i,acc,h=>by
  obtain ⟨hv,h⟩:=cellsFrom_cons.1 h
  have hl:(load (a.add i)).run P w=.ok v w:=by simp [load,Sem.run,hv]
  simp only [List.length_cons,loadCellsFrom,Sem.run_bind,hl,Result.andThen]
  rw [loadCells_run vs (i+1) (acc.push v) h]
  simp
theorem ldK_run {t:TypeId} {w:World} {a:Addr} {K:Value->Prop} (h:ldK P t w a K):∃v,(loadVar t a).run P w=.ok v w/\K v:=by
 unfold ldK at h
 split at h
 ·rename_i d hu
  unfold ldS at h
  have one:∀{v:Value} {g:Tag},shapeOf P t=.one g->w.cell? a=some v->(loadVar t a).run P w=.ok v w:=by
   intro v g hs hc
   simp [loadVar,shape_one hu hs,load,Sem.run,hc]
  split at h
  ·obtain ⟨x,hc,h⟩:=h;exact ⟨_,one (by assumption) hc,h⟩
  ·obtain ⟨x,hc,h⟩:=h;exact ⟨_,one (by assumption) hc,h⟩
  ·obtain ⟨x,hc,h⟩:=h;exact ⟨_,one (by assumption) hc,h⟩
  ·obtain ⟨x,hc,h⟩:=h;exact ⟨_,one (by assumption) hc,h⟩
  ·obtain ⟨x,y,z,hc,h⟩:=h;exact ⟨_,one (by assumption) hc,h⟩
  ·obtain ⟨x,hc,h⟩:=h;exact ⟨_,one (by assumption) hc,h⟩
  ·obtain ⟨x,hc,h⟩:=h;exact ⟨_,one (by assumption) hc,h⟩
  ·rename_i ts hs
   obtain ⟨i,hi,h⟩:=szK_of h
   split at h
   ·rename_i hl
    have hl:=Nat.eq_of_beq_eq_true hl
    obtain ⟨vs,hvl,hc,hK⟩:=exTags_ex h
    refine ⟨_,?_,hK⟩
    have:=loadCells_run (P:=P) vs 0 #[] hc
    simp only [loadVar,Sem.run_bind,shape_agg hs,Result.andThen,if_true,sizeOf,run_typeInfo w hi,Sem.run_pure,loadCells]
    rw [<-hl,<-hvl,this]
    simp
   ·exact h.elim
 ·exact h.elim
theorem store_run {w:World} {a:Addr} {v:Value} (hp:plainV v=true) (hc:(w.cell? a).isSome=true) (hf:w.frozen? a=false) :
  (store a v).run P w=.ok () (w.setCell a v):=by
 obtain ⟨u,hu⟩:=Option.isSome_iff_exists.1 hc
 cases v <;> simp_all [store,Sem.run,plainV]
theorem storeCells_run {a:Addr} {K:World->Prop}:∀(vs:List Value) (i:Nat) (w:World),stsFrom a vs K i w->∃w',(storeCells a vs i).run P w=.ok () w'/\K w'
 | [],i,w,h=>⟨w,by simp [storeCells],h⟩
 | v :: vs,i,w,h=>by
  obtain ⟨⟨⟨hc,hf⟩,h⟩,hp⟩:=plK_iff h
  obtain ⟨w',hr,hK⟩:=storeCells_run vs (i+1) _ h
  exact ⟨w',by simp [storeCells,store_run hp hc hf,hr],hK⟩
theorem storK_run {t:TypeId} {w:World} {a:Addr} {v:Value} {K:World->Prop} (h:storK P t a v w K):∃w',(storeVar t a v).run P w=.ok () w'/\K w':=by
 unfold storK at h
 obtain ⟨i,hi,h⟩:=szK_of h
 split at h
 ·split at h
  ·rename_i hs
   have hs:=Nat.eq_of_beq_eq_true hs
   obtain ⟨⟨⟨hc,hf⟩,h⟩,hp⟩:=plK_iff h
   refine ⟨_,?_,h⟩
   have hadd:a.add 0=a:=by simp [Addr.add]
   simp [storeVar,plain_cells hp,sizeOf,run_typeInfo w hi,hs,storeCells,hadd,store_run hp hc hf]
  ·exact h.elim
 ·rcases v with _ | _ | _ | _ | _ | _ | _ | _ | _ | _ | _ | _ | _ | cs | _ <;> first | exact h.elim | skip
  simp only at h
  split at h
  ·rename_i hs
   have hs:=Nat.eq_of_beq_eq_true hs
   obtain ⟨w',hr,hK⟩:=storeCells_run (P:=P) cs.toList 0 w h
   refine ⟨w',?_,hK⟩
   have hsz:cs.size=i.size:=by simpa using hs
   simp [storeVar,Value.cells,sizeOf,run_typeInfo w hi,hsz,hr]
  ·exact h.elim
theorem runS_run {r:RShape} {s:Sem Value} {w:World} {K:Value->World->Prop} (h:runS P r s w K):∃v w',s.run P w=.ok v w'/\K v w':=by
 obtain ⟨w',h⟩:=h
 obtain ⟨v,hr,hK⟩:=exR_ex h
 exact ⟨v,w',hr,hK⟩
theorem newRow_run (e:TypeId) (cs:Array Value) (w:World):(newRow e cs).run P w=.ok ⟨w.heap.size,0,none⟩ (w.alloc (.cells cs e)):=by
 rfl
theorem upon_v {s:Sem Value} {w w':World} {v:Value} {K:Value->World->Prop} (he:execOp (ev n ρ) o=(do pure (Next.value (<-s)))) (hr:s.run P w=.ok v w') (hK:K v w') :
  Upon P o (ev n ρ) w K:=.inl ⟨v,w',by rw [he];exact run_v hr,hK⟩
theorem upon_u {s:Sem Unit} {w w':World} {K:Value->World->Prop} (he:execOp (ev n ρ) o=(do s;pure Next.skip)) (hr:s.run P w=.ok () w') (hK:K undef w') :
  Upon P o (ev n ρ) w K:=.inr (.inl ⟨w',by rw [he];simp [hr,Result.andThen],hK⟩)
theorem zeroRow (len sz:Nat) (z:List Value) (hz:z.length=sz) (hpos:len*sz≠0) :
  ((Array.range (len*sz)).map λ i=>z.toArray[i % sz]!).toList=(List.replicate len z).flatten:=by
 subst hz
 have hp:0<z.length:=by
  rcases Nat.eq_zero_or_pos z.length with h | h
  ·rw [h] at hpos;simp at hpos
  ·exact h
 apply List.ext_getElem
 ·simp [Nat.mul_comm]
 ·intro i h1 h2
  simp at h1
  have hm:i % z.length<z.length:=Nat.mod_lt _ hp
  have:∀(len:Nat) (i:Nat) (h:i<(List.replicate len z).flatten.length),(List.replicate len z).flatten[i]=z[i % z.length]'(Nat.mod_lt _ hp):=by
   intro len
   induction len with
   | zero=>intro i h;simp at h
   | succ k ih=>
    intro i h
    simp only [List.replicate_succ,List.flatten_cons]
    by_cases hi:i<z.length
    ·rw [List.getElem_append_left hi]
     congr 1;exact (Nat.mod_eq_of_lt hi).symm
    ·rw [List.getElem_append_right (by omega)]
     rw [ih]
     congr 1
     conv=>rhs;rw [Nat.mod_eq_sub_mod (by omega)]
  rw [this]
  simp [hm]
theorem vcEff_upon (hP:Plain P) {w:World} {K:Value->World->Prop} (h:vcEff P n ρ o w K):Upon P o (ev n ρ) w K:=by
 cases ho:o.op <;> simp only [vcEff,ho] at h
 case load t x=>
  split at h
  ·rename_i a hx
   obtain ⟨v,hr,hK⟩:=ldK_run h
   exact upon_v (s:=Instr.loadAt t (ev n ρ x)) (by simp only [execOp,ho]) (by simp [Instr.loadAt,hx,Instr.sureAddr,hr]) hK
  ·exact h.elim
 case store t x y=>
  split at h
  ·rename_i a hx
   obtain ⟨w',hr,hK⟩:=storK_run h
   exact upon_u (s:=Instr.storeAt t (ev n ρ x) (ev n ρ y)) (by simp only [execOp,ho]) (by simp [Instr.storeAt,hx,Instr.sureAddr,hr]) hK
  ·exact h.elim
 case alloc t=>
  split at h
  ·rename_i i hi
   split at h
   ·rename_i z hz
    exact upon_v (s:=Instr.alloc t true (.tuple #[])) (by simp only [execOp,ho]) (by simp [Instr.alloc,zeroValue,run_typeInfo w hi,hz,newVar,newRow_run]) h
   ·exact h.elim
  ·exact h.elim
 case box t x=>
  unfold boxK at h
  split at h
  ·obtain ⟨h,hp⟩:=plK_iff h
   exact upon_v (s:=Instr.box t (ev n ρ x)) (by simp only [execOp,ho]) (by simp [Instr.box,newVar,newRow_run,plain_cells hp]) h
  ·split at h
   ·rename_i cs hx
    exact upon_v (s:=Instr.box t (ev n ρ x)) (by simp only [execOp,ho]) (by simp [Instr.box,newVar,newRow_run,hx,Value.cells]) h
   ·exact h.elim
 case buildSlice t len parts=>
  unfold bsK at h
  split at h
  ·rename_i e hu
   split at h
   ·rename_i i hi
    split at h
    ·rename_i z hz
     split at h
     ·rename_i hle
      have hle:=Nat.le_of_ble_eq_true hle
      have hlim:¬(len*i.size>2 ^ 24):=by omega
      have hp:(parts.map λ p=>(p.1,ev n ρ p.2)).toList=parts.toList.map λ p=>(p.1,ev n ρ p.2):=by simp
      split at h
      ·rename_i h0
       have h0:=Nat.eq_of_beq_eq_true h0
       obtain ⟨cs,hf,hK⟩:=fill_of P (λ j=>some (j*i.size,i.size)) _ (λ j=>rfl) _ _ _ h
       refine upon_v (s:=Instr.buildSlice t len (parts.map λ p=>(p.1,ev n ρ p.2))) (by simp only [execOp,ho]) ?_ hK
       have hz0:((Array.range (len*i.size)).map λ j=>(#[]:Array Value)[j % (#[]:Array Value).size]!)=#[]:=by rw [h0];simp
       simp only [Instr.buildSlice,Sem.run_bind,run_underlying hu,Result.andThen,sizeOf,run_typeInfo w hi,Sem.run_pure,hp,if_neg hlim,if_pos h0,hz0]
       rw [hf]
       simp only [Sem.run_bind,newRow_run,Result.andThen,Sem.run_pure]
      ·rename_i h0
       have h0:len*i.size≠0:=by
        intro hc
        rw [hc] at h0
        exact absurd h0 (by decide)
       split at h
       ·rename_i hzs
        have hzs:=Nat.eq_of_beq_eq_true hzs
        obtain ⟨cs,hf,hK⟩:=fill_of P (λ j=>some (j*i.size,i.size)) _ (λ j=>rfl) _ _ _ h
        refine upon_v (s:=Instr.buildSlice t len (parts.map λ p=>(p.1,ev n ρ p.2))) (by simp only [execOp,ho]) ?_ hK
        have hz1:((Array.range (len*i.size)).map λ j=>z.cells[j % z.cells.size]!)=((List.replicate len z.cells.toList).flatten).toArray:=by
         apply Array.ext'
         have:=zeroRow len i.size z.cells.toList hzs h0
         simp only [Array.toArray_toList] at this
         have hsz:z.cells.size=i.size:=by simpa using hzs
         rw [hsz]
         simpa using this
        simp only [Instr.buildSlice,Sem.run_bind,run_underlying hu,Result.andThen,sizeOf,run_typeInfo w hi,Sem.run_pure,hp,if_neg hlim,if_neg h0,zeroValue,hz,hz1]
        rw [hf]
        simp only [Sem.run_bind,newRow_run,Result.andThen,Sem.run_pure]
       ·exact h.elim
     ·exact h.elim
    ·exact h.elim
   ·exact h.elim
  ·exact h.elim
 case convert s d x=>
  obtain ⟨v,w',hr,hK⟩:=runS_run h
  exact upon_v (by simp only [execOp,ho]) hr hK
 case makeMap t r=>
  obtain ⟨v,w',hr,hK⟩:=runS_run h
  exact upon_v (by simp only [execOp,ho]) hr hK
 case makeSlice t l c=>
  obtain ⟨v,w',hr,hK⟩:=runS_run h
  exact upon_v (by simp only [execOp,ho]) hr hK
 case lookup t x i ok=>
  obtain ⟨v,w',hr,hK⟩:=runS_run h
  exact upon_v (by simp only [execOp,ho]) hr hK
 case mapUpdate t m k x=>
  obtain ⟨w',hr,hK⟩:=h
  exact upon_u (by simp only [execOp,ho]) hr hK
 case insert t m k x=>
  obtain ⟨w',hr,hK⟩:=h
  exact upon_u (by simp only [execOp,ho]) hr hK
 case mapEntry t m k=>
  obtain ⟨v,w',hr,hK⟩:=runS_run h
  exact upon_v (by simp only [execOp,ho]) hr hK
 case entryStore t m k x=>
  obtain ⟨w',hr,hK⟩:=h
  exact upon_u (by simp only [execOp,ho]) hr hK
 case range t x=>
  obtain ⟨v,w',hr,hK⟩:=runS_run h
  exact upon_v (by simp only [execOp,ho]) hr hK
 case next it s=>
  split at h
  ·obtain ⟨r,s,pos,⟨hi,hh⟩,hlt,hge⟩:=h
   by_cases hp:pos<s.size
   ·refine upon_v (s:=Instr.next (ev n ρ it) true o.type) (by simp only [execOp,ho]) ?_ (hlt hp)
    simp [Instr.next,hi,getObj,setObj,Sem.run,hh,hp,Result.andThen,goInt]
   ·refine upon_v (s:=Instr.next (ev n ρ it) true o.type) (by simp only [execOp,ho]) ?_ (hge hp)
    simp [Instr.next,hi,getObj,Sem.run,hh,hp,Result.andThen]
  ·obtain ⟨v,w',hr,hK⟩:=runS_run h
   exact upon_v (by simp only [execOp,ho]) hr hK
 case call c=>
  have hargs:(c.args.toList.map (ev n ρ)).toArray=c.args.map (ev n ρ):=by apply Array.ext';simp
  simp only [hargs] at h
  split at h
  ·rename_i x hc
   split at h
   ·rename_i f
    split at h
    ·rename_i hb
     refine .inr (.inr (.inl ⟨f,c.args.map (ev n ρ),w,?_,h.mono λ _ _=>RetK_ret⟩))
     unfold bodied at hb
     split at hb
     ·rename_i fn hf
      split at hb
      ·rename_i b hbd
       have hne:¬fn.name = "runtime.NumGoroutine":=by simpa using hP f fn hf
       simp [execOp,ho,resolve,hc,ev,Deferred.ofValue,invoke,callFunc,hf,hne,hbd]
      ·cases hb
     ·cases hb
    ·obtain ⟨v,w',hr,hK⟩:=runS_run h
     refine .inl ⟨v,w',?_,hK⟩
     unfold vcEff.extV at hr
     have he:(execOp (ev n ρ) o).run P w=(callFunc f (c.args.map (ev n ρ))).run P w:=by
      simp [execOp,ho,resolve,hc,ev,Deferred.ofValue,invoke]
     rw [he]
     rw [Sem.run_bind] at hr
     cases hcf:(callFunc f (c.args.map (ev n ρ))).run P w with
     | halt x w₁=>rw [hcf] at hr;simp [Result.andThen] at hr
     | ok nx w₁=>
      rw [hcf] at hr
      simp only [Result.andThen] at hr
      split at hr
      ·simp at hr;obtain ⟨rfl,rfl⟩:=hr;rfl
      ·simp [stuck,Sem.run] at hr
   ·rename_i hnf
    generalize hfv:ev n ρ x=fv at h
    unfold CallV at h
    split at h
    ·rename_i f first cap
     obtain ⟨hr,hcall⟩:=h
     refine .inr (.inr (.inl ⟨f,_,w,?_,hcall.mono λ _ _=>RetK_ret⟩))
     rw [<-hr]
     simp [execOp,ho,resolve,hc,hfv,Deferred.ofValue,invoke]
    ·rename_i l first cap
     obtain ⟨f,tmps,asx,body,w',hr,hround⟩:=h
     refine .inr (.inr (.inr ⟨l,f,tmps,asx,body,w',?_,hround.mono λ e w'' ⟨b,hb,hk⟩=>⟨b,hb,by obtain ⟨v,hv,hK⟩:=RetK_ret hk;cases hv;exact hK⟩⟩))
     rw [<-hr]
     simp [execOp,ho,resolve,hc,hfv,Deferred.ofValue,invoke]
    ·exact h.elim
  ·rename_i r name hc
   obtain ⟨f,x,hr,hcall⟩:=h
   refine .inr (.inr (.inl ⟨f,_,w,?_,hcall.mono λ _ _=>RetK_ret⟩))
   rw [<-hr]
   have hx:(#[ev n ρ r] ++ c.args.map (ev n ρ))[0]?=some (ev n ρ r):=by rw [Array.getElem?_append_left (by simp)];rfl
   have hex:(#[ev n ρ r] ++ c.args.map (ev n ρ)).extract 1 (#[ev n ρ r] ++ c.args.map (ev n ρ)).size=c.args.map (ev n ρ):=by
    apply Array.ext';simp [List.take_of_length_le]
   simp only [execOp,ho,resolve,hc,invoke,pure_bind,hx,hex]
  ·rename_i b hc
   obtain ⟨v,w',hr,hK⟩:=runS_run h
   refine .inl ⟨v,w',?_,hK⟩
   simp only [execOp,ho,resolve,hc,invoke,pure_bind]
   cases b <;> first | exact run_v hr | (simp [vcEff.bltV,stuck] at hr)
end
end Go.Fw

namespace Go.Fw
noncomputable def vcOp (P:Program) (n:Nat) (ρ:Fr) (o:Oper) (w:World) (K:Value->World->Prop):Prop:=match isPure P o.op with
 | true=>vcPure P n ρ o λ v=>K v w
 | false=>vcEff P n ρ o w K
def guardV (n:Nat) (ops:Array Oper) (o:Oper) (ρ:Fr) (yes no:Fr->Prop):Prop:=match o.guard with
 | none=>yes ρ
 | some (j,want)=>match ops[j]? with
  | none=>no ρ
  | some oj=>match oj.dst with
   | none=>no ρ
   | some d=>match Nat.blt d n with
    | false=>no ρ
    | true=>match ρ d with
     | .bool b=>match want with
      | true=>bsel b (yes (upd ρ d (.bool true))) (no (upd ρ d (.bool false)))
      | false=>bsel b (no (upd ρ d (.bool true))) (yes (upd ρ d (.bool false)))
     | _=>no ρ
section
variable {P:Program} {n:Nat} {ρ:Fr} {o:Oper}
theorem isPure_noDefer {x:Op} (h:isPure P x=true) (c:Call):x≠.defer c:=by rintro rfl;simp [isPure] at h
theorem vcEff_noDefer {w:World} {K:Value->World->Prop} (h:vcEff P n ρ o w K) (c:Call):o.op≠.defer c:=by
 intro hc;simp only [vcEff,hc] at h
theorem vcOp_upon (hP:Plain P) {w:World} {K:Value->World->Prop} (h:vcOp P n ρ o w K):Upon P o (ev n ρ) w K/\∀c,o.op≠.defer c:=by
 unfold vcOp at h
 split at h
 ·rename_i hp
  obtain ⟨v,hg,hK⟩:=vcPure_gives hp h
  exact ⟨.inl ⟨v,w,hg w,hK⟩,isPure_noDefer hp⟩
 ·exact ⟨vcEff_upon hP h,vcEff_noDefer h⟩
theorem yielded_bool {ops:Array Oper} {a:Act} {j:Nat} {oj:Oper} {d:Nat} {v:Value} (hj:ops[j]?=some oj) (hd:oj.dst=some d) (hv:a.tmps[d]?=some v) :
  yielded ops a.tmps j=match v with | .bool b=>some b | _=>none:=by
 unfold yielded
 simp only [hj,Option.bind_some,hd,hv]
 cases v <;> rfl
theorem guardV_of {ops:Array Oper} {a:Act} {yes no:Fr->Prop} (hr:Rep n a ρ) (h:guardV n ops o ρ yes no) :
  (Region.wanted o (yielded ops a.tmps)=true/\∃ρ',Rep n a ρ'/\yes ρ')\/(Region.wanted o (yielded ops a.tmps)=false/\∃ρ',Rep n a ρ'/\no ρ'):=by
 unfold guardV at h
 unfold Region.wanted
 split at h
 ·rename_i hg;exact .inl ⟨by simp [hg],ρ,hr,h⟩
 ·rename_i j want hg
  simp only [hg]
  split at h
  ·rename_i hj
   exact .inr ⟨by simp [yielded,hj],ρ,hr,h⟩
  ·rename_i oj hj
   split at h
   ·rename_i hd
    exact .inr ⟨by simp [yielded,hj,hd],ρ,hr,h⟩
   ·rename_i d hd
    split at h
    ·rename_i hlt
     have hge:n<=d:=by
      rcases Nat.lt_or_ge d n with h' | h'
      ·rw [show Nat.blt d n=true from by simpa [Nat.blt_eq] using h'] at hlt;cases hlt
      ·exact h'
     have hno:a.tmps[d]?=none:=by simp [hr.size,hge]
     exact .inr ⟨by simp [yielded,hj,hd,hno],ρ,hr,h⟩
    ·rename_i hlt
     have hlt:d<n:=by simpa [Nat.blt_eq] using hlt
     have hget:=hr.get d hlt
     split at h
     ·rename_i b hb
      rw [hb] at hget
      rw [yielded_bool hj hd hget]
      split at h <;> cases b
      ·exact .inr ⟨rfl,_,hr.set d _ hb,h⟩
      ·exact .inl ⟨rfl,_,hr.set d _ hb,h⟩
      ·exact .inl ⟨rfl,_,hr.set d _ hb,h⟩
      ·exact .inr ⟨rfl,_,hr.set d _ hb,h⟩
     ·rename_i hnb
      rw [yielded_bool hj hd hget]
      refine .inr ⟨?_,ρ,hr,h⟩
      generalize ρ d=v at *
      cases v <;> first | rfl | exact absurd rfl (hnb _)
end
noncomputable def vcList (P:Program) (n:Nat) (ops:Array Oper) (l:List Oper) (K:Fr->World->Prop):Fr->World->Prop:=
 List.rec (motive:=λ _=>Fr->World->Prop) K
  (λ o _ ih ρ w=>guardV n ops o ρ (λ ρ=>vcOp P n ρ o w λ v w'=>ih (updO ρ o.dst v) w') (λ ρ=>ih (updO ρ o.dst undef) w)) l
def Real (n:Nat) (D:List Deferred) (Fx:Nat->Option Value) (K:Fr->World->Prop) (a:Act) (w:World):Prop:=
 ∃ρ,Rep n a ρ/\a.defers=D/\(∀t v,Fx t=some v->a.tmps[t]?=some v)/\K ρ w
theorem fx_put {Fx:Nat->Option Value} {a:Act} (h:∀t v,Fx t=some v->a.tmps[t]?=some v) {d:Option Tmp} (hd:∀t,d=some t->Fx t=none) (u:Value) :
  ∀t v,Fx t=some v->(a.put d u).tmps[t]?=some v:=by
 intro t v hv
 cases d with
 | none=>exact h t v hv
 | some d=>
  have hne:d≠t:=λ hc=>by
   have:=hd d rfl
   rw [hc,hv] at this;cases this
  simp only [Act.put]
  rw [Array.getElem?_setIfInBounds_ne hne]
  exact h t v hv
theorem put_defers' (a:Act) (d:Option Tmp) (v:Value):(a.put d v).defers=a.defers:=by cases d <;> rfl
section
variable {P:Program} {n:Nat} {ops:Array Oper} {rd:Option Nat} {m:Nat} {Q:Exit->Act->World->Prop} {K:Fr->World->Prop} {D:List Deferred} {Fx:Nat->Option Value}
theorem vcList_sound (hP:Plain P) (hQ:∀a w,Real n D Fx K a w->Q .normal a w):∀(l:List Oper) (k:Nat),(∀j,l[j]?=ops[k+j]?)->(∀o ∈ l,∀t,o.dst=some t->Fx t=none)->∀(a:Act) (w:World),
  Real n D Fx (vcList P n ops l K) a w->wpOpsIn (fence rd) m P ops Q (List.range' k l.length) a w
 | [],k,_,_,a,w,h=>by
  obtain ⟨ρ,hr,hd,hF,h⟩:=h
  exact hQ a w ⟨ρ,hr,hd,hF,h⟩
 | o :: l,k,hl,hx,a,w,h=>by
  obtain ⟨ρ,hr,hd,hF,h⟩:=h
  have hxo:=hx o List.mem_cons_self
  change guardV n ops o ρ (λ ρ=>vcOp P n ρ o w λ v w'=>vcList P n ops l K (updO ρ o.dst v) w') (λ ρ=>vcList P n ops l K (updO ρ o.dst undef) w) at h
  have h0:ops[k]?=some o:=by simpa using (hl 0).symm
  have hl':∀j,l[j]?=ops[k+1+j]?:=λ j=>by have:=hl (j+1);simpa [Nat.add_assoc,Nat.add_comm 1 j] using this
  have ih:=vcList_sound hP hQ l (k+1) hl' (λ o ho=>hx o (List.mem_cons_of_mem _ ho))
  simp only [List.length_cons,List.range'_succ,wpOpsIn,h0]
  rcases guardV_of hr h with ⟨hw,ρ',hr',h⟩ | ⟨hw,ρ',hr',h⟩
  ·rw [if_pos hw]
   obtain ⟨hu,hnd⟩:=vcOp_upon hP h
   rw [<-hr'.evalF] at hu
   exact Upon.wpIn hnd (hu.mono λ v w' hK=>ih _ _ ⟨_,hr'.put _ _,by rw [put_defers'];exact hd,fx_put hF hxo _,hK⟩)
  ·rw [if_neg (by simp [hw])]
   exact ⟨λ _ _=>trivial,ih _ _ ⟨_,hr'.put _ _,by rw [put_defers'];exact hd,fx_put hF hxo _,h⟩⟩
end
end Go.Fw

namespace Go.Fw
def bfMask (o:Oper) (acc:List Nat):Nat:=o.after.toList.foldl (λ s e=>match Region.binds .any e with | true=>s ||| 2 ^ e.on ||| acc.getD e.on 0 | false=>s) 0
noncomputable def bfs (l:List Oper):List Nat->List Nat:=
 List.rec (motive:=λ _=>List Nat->List Nat) (λ acc=>acc) (λ o _ ih acc=>ih (acc ++ [bfMask o acc])) l
noncomputable def bfOf (ops:Array Oper):List Nat:=bfs ops.toList []
def Yields1 (P:Program) (ops:Array Oper) (φ:World->Prop) (o:Oper) (v:Value) (a:Act):Prop:=
 (Region.wanted o (yielded ops a.tmps)=true/\(∀c,o.op≠.defer c)/\∀w,φ w->(execOp a.eval o).run P w=.ok (.value v) w)\/
 (Region.wanted o (yielded ops a.tmps)=false/\v=undef)
abbrev Checks:=List (Nat × (World->Prop))
section
variable (P:Program) (rd:Option Nat) (m:Nat) (ops:Array Oper) (bf:Nat->Nat) (Q:Exit->Act->World->Prop)
def wpAnyR:Nat->Checks->Array Bool->Act->World->Prop
 | 0,_,listed,a,w=>Region.ready .any ops listed=[]/\Q .normal a w
 | fuel+1,R,listed,a,w=>
  (Region.ready .any ops listed=[]->Q .normal a w)/\
  ∀i ∈ Region.ready .any ops listed,wpOpIn (fence rd) m P ops Q i (λ a' w'=>
   (∀r ∈ R,(bf i).testBit r.1=false->r.2 w')/\wpAnyR fuel (R.filter λ r=>!(bf i).testBit r.1) (listed.setIfInBounds i true) a' w') a w
end
section
variable {P:Program} {rd:Option Nat} {m:Nat} {ops:Array Oper} {bf:Nat->Nat} {Q:Exit->Act->World->Prop}
theorem wpAnyR_any:∀(fuel:Nat) (R:Checks) (listed:Array Bool) (a:Act) (w:World),wpAnyR P rd m ops bf Q fuel R listed a w->wpAnyIn (fence rd) m P .any ops Q fuel listed a w
 | 0,_,_,_,_,h=>h
 | fuel+1,_,_,_,_,h=>⟨h.1,λ i hi=>wpOpIn_mono (λ a' w' h'=>wpAnyR_any fuel _ _ a' w' h'.2) (h.2 i hi)⟩
theorem wpAnyR_sub:∀(fuel:Nat) (R R':Checks) (listed:Array Bool) (a:Act) (w:World),(∀r ∈ R',(∀w,r.2 w)\/r ∈ R)->wpAnyR P rd m ops bf Q fuel R listed a w->wpAnyR P rd m ops bf Q fuel R' listed a w
 | 0,_,_,_,_,_,_,h=>h
 | fuel+1,R,R',listed,a,w,hs,h=>⟨h.1,λ i hi=>wpOpIn_mono (λ a' w' h'=>⟨λ r hr hb=>(hs r hr).elim (λ ht=>ht w') λ hm=>h'.1 r hm hb,
   wpAnyR_sub fuel _ _ _ _ _ (λ r hr=>by
    rw [List.mem_filter] at hr
    exact (hs r hr.1).imp id λ hm=>List.mem_filter.2 ⟨hm,hr.2⟩) h'.2⟩) (h.2 i hi)⟩
theorem Yields1.of_same {φ:World->Prop} {o:Oper} {v:Value} {a a':Act} (hy:Yields1 P ops φ o v a) (he:execOp a'.eval o=execOp a.eval o)
  (hw:Region.wanted o (yielded ops a'.tmps)=Region.wanted o (yielded ops a.tmps)):Yields1 P ops φ o v a':=by
 unfold Yields1 at *
 rw [he,hw]
 exact hy
theorem Yields1.wpOp {φ:World->Prop} {i:Nat} {o:Oper} {v:Value} {a:Act} (hi:ops[i]?=some o) (hy:Yields1 P ops φ o v a)
  {K:Act->World->Prop} {w:World} (hφ:φ w) (h:K (a.put o.dst v) w):wpOpIn (fence rd) m P ops Q i K a w:=by
 unfold Go.wpOpIn
 simp only [hi]
 rcases hy with ⟨hw,hnd,hv⟩ | ⟨hw,rfl⟩
 ·rw [if_pos hw]
  refine ⟨λ _ _=>trivial,?_⟩
  have hF:(fence rd).round=rd:=rfl
  rw [hF,Oper.semAt_eq rd a.eval o hnd,hv w hφ]
  exact h
 ·rw [if_neg (by simp [hw])]
  exact ⟨λ _ _=>trivial,h⟩
theorem wpOp_putR {φ:World->Prop} {j:Nat} {oi oj:Oper} {v:Value} (hj:ops[j]?=some oj) (hap:oi.apart ops oj=true)
  (hsi:∀cs b,oi.op≠.select cs b) (hsj:∀cs b,oj.op≠.select cs b) (hdj:∀c,oj.op≠.defer c)
  (hQ:∀c a w,Q (.panic c) (a.put oi.dst v) w->Q (.panic c) a w) {K:Act->World->Prop} {a:Act} {w:World}
  (hy:Yields1 P ops φ oi v a) (h:wpOpIn (fence rd) m P ops Q j K (a.put oi.dst v) w) :
  wpOpIn (fence rd) m P ops Q j (λ a' w'=>Yields1 P ops φ oi v a'/\K (a'.put oi.dst v) w') a w:=by
 obtain ⟨h1,h2,h3⟩:=Oper.apart_spec hap
 have keep:∀(a:Act),Yields1 P ops φ oi v a->∀u,Yields1 P ops φ oi v (a.put oj.dst u):=λ a hy u=>
  hy.of_same (execOp_put oi hsi a oj.dst u h3) (wanted_put oi a oj.dst u h3)
 have keepD:∀d,Yields1 P ops φ oi v { a with defers:=d :: a.defers }:=λ d=>hy.of_same rfl rfl
 unfold wpOpIn at *
 simp only [hj] at *
 rw [wanted_put oj a oi.dst v h1] at h
 split
 ·rename_i hw
  rw [if_pos hw] at h
  refine ⟨λ _ _=>trivial,?_⟩
  have h:=h.2
  have hF:(fence rd).round=rd:=rfl
  rw [hF,Oper.semAt_eq rd _ oj hdj] at h ⊢
  rw [execOp_put oj hsj a oi.dst v h1] at h
  generalize (execOp a.eval oj).run P w=r at *
  cases r with
  | ok x w'=>
   cases x <;> simp only [Oper.uponIn] at h ⊢
   case value u=>exact ⟨keep a hy u,by rw [<-Act.put_comm a v u h2];exact h⟩
   case skip=>exact ⟨keep a hy _,by rw [<-Act.put_comm a v undef h2];exact h⟩
   case defer d=>
    refine ⟨keep _ (keepD d) _,?_⟩
    rw [<-Act.put_comm _ v undef h2,<-Act.put_defers]
    exact h
   case enter f args=>
    refine ⟨h.1,CallsIn.mono h.2 λ e w'' he=>?_⟩
    cases e with
    | returned u=>exact ⟨keep a hy u,by rw [<-Act.put_comm a v u h2];exact he⟩
    | panicked c=>exact hQ _ _ _ he
    | outgrown=>exact he
   case row row args=>exact ⟨h.1,RowsIn.mono h.2 λ u w'' he=>⟨keep a hy u,by rw [<-Act.put_comm a v u h2];exact he⟩⟩
   case round l f tmps asx body=>
    refine ⟨h.1,RoundIn.mono h.2 λ e w'' he=>?_⟩
    cases e with
    | returned u=>exact ⟨keep a hy u,by rw [<-Act.put_comm a v u h2];exact he⟩
    | panicked c=>exact hQ _ _ _ he
    | outgrown=>exact he
  | halt x w'=>
   cases x <;> simp only [Oper.uponIn] at h ⊢
   case panic u=>exact hQ _ _ _ h
 ·rename_i hw
  rw [if_neg hw] at h
  exact ⟨λ _ _=>trivial,keep a hy _,by rw [<-Act.put_comm a v undef h2];exact h.2⟩
def Closed (bf:Nat->Nat) (listed:Array Bool):Prop:=∀j,listed.getD j false=true->∀k,(bf j).testBit k=true->listed.getD k false=true
def Before (ops:Array Oper) (bf:Nat->Nat):Prop:=∀j o,ops[j]?=some o->∀k,(bf j).testBit k=true->∃e ∈ o.after,Region.binds .any e=true/\(e.on=k\/(bf e.on).testBit k=true)
theorem ready_before {listed:Array Bool} (hB:Before ops bf) (hC:Closed bf listed) {j:Nat} (hj:j ∈ Region.ready .any ops listed) (k:Nat) (hk:(bf j).testBit k=true) :
  listed.getD k false=true:=by
 obtain ⟨_,o,ho,hall⟩:=mem_ready.1 hj
 obtain ⟨e,he,hb,hor⟩:=hB j o ho k hk
 have h1:=hall e he hb
 rcases hor with rfl | h2
 ·exact h1
 ·exact hC _ h1 _ h2
theorem Closed.set {listed:Array Bool} (hB:Before ops bf) (hC:Closed bf listed) {i:Nat} (hi:i ∈ Region.ready .any ops listed):Closed bf (listed.setIfInBounds i true):=by
 intro j hj k hk
 by_cases hji:j=i
 ·subst hji
  exact getD_set_true (ready_before hB hC hi k hk)
 ·rw [getD_set_ne false (Ne.symm hji)] at hj
  exact getD_set_true (hC j hj k hk)
theorem listed_false {listed:Array Bool} {i:Nat} (h:listed.getD i true=false):listed.getD i false=false:=by
 rcases Nat.lt_or_ge i listed.size with h' | h'
 ·simp [h'] at h ⊢;exact h
 ·simp [Array.getElem?_eq_none h'] at h
theorem wpAnyR_take {i:Nat} {oi:Oper} {v:Value} {φ:World->Prop} (hi:ops[i]?=some oi) (hB:Before ops bf)
  (hsel:∀(j:Nat) (o:Oper),ops[j]?=some o->(∀cs b,o.op≠.select cs b)/\∀c,o.op≠.defer c)
  (hQ:∀c a w,Q (.panic c) (a.put oi.dst v) w->Q (.panic c) a w) :
  ∀(fuel:Nat) (listed:Array Bool) (R:Checks) (a:Act) (w:World),Closed bf listed->
   (∀j oj,ops[j]?=some oj->j≠i->listed.getD j true=false->(bf j).testBit i=true\/oi.apart ops oj=true)->
   i ∈ Region.ready .any ops listed->Yields1 P ops φ oi v a->φ w->(∀r ∈ R,r.2 w)->
   wpAnyR P rd m ops bf Q fuel ((i,φ) :: R) (listed.setIfInBounds i true) (a.put oi.dst v) w->wpAnyR P rd m ops bf Q (fuel+1) R listed a w:=by
 intro fuel
 induction fuel with
 | zero=>
  intro listed R a w hC _ hr hy hφ hR H
  refine ⟨λ h=>(by rw [h] at hr;cases hr),λ j hj=>?_⟩
  by_cases hji:j=i
  ·subst hji;exact hy.wpOp hi hφ ⟨λ r hr _=>hR r hr,H⟩
  ·have:=ready_mono hj hji
   rw [H.1] at this
   cases this
 | succ fuel ih=>
  intro listed R a w hC hfree hr hy hφ hR H
  refine ⟨λ h=>(by rw [h] at hr;cases hr),λ j hj=>?_⟩
  by_cases hji:j=i
  ·subst hji
   refine hy.wpOp hi hφ ⟨λ r hr _=>hR r hr,wpAnyR_sub _ _ _ _ _ _ (λ r hr=>.inr ?_) H⟩
   exact List.mem_cons_of_mem _ (List.mem_filter.1 hr).1
  ·have h1:=H.2 j (ready_mono hj hji)
   obtain ⟨hjun,oj,hoj,hall⟩:=mem_ready.1 hj
   have hnot:(bf j).testBit i=false:=by
    cases hb:(bf j).testBit i with
    | false=>rfl
    | true=>
     have h2:=ready_before hB hC hj i hb
     rw [listed_false (mem_ready.1 hr).1] at h2
     cases h2
   have hap:=(hfree j oj hoj hji hjun).resolve_left (by simp [hnot])
   have h2:=wpOp_putR hoj hap (hsel i oi hi).1 (hsel j oj hoj).1 (hsel j oj hoj).2 hQ hy h1
   have hfree':∀k ok,ops[k]?=some ok->k≠i->(listed.setIfInBounds j true).getD k true=false->(bf k).testBit i=true\/oi.apart ops ok=true:=λ k ok hk hki hun=>by
    refine hfree k ok hk hki ?_
    by_cases hjk:j=k
    ·subst hjk;exact hjun
    ·rw [getD_set_ne true hjk] at hun;exact hun
   refine wpOpIn_mono (λ a' w' h3=>?_) h2
   obtain ⟨hy',hck,hrest⟩:=h3
   have hφ':φ w':=hck (i,φ) List.mem_cons_self hnot
   have hR':∀r ∈ R,(bf j).testBit r.1=false->r.2 w':=λ r hr hb=>hck r (List.mem_cons_of_mem _ hr) hb
   refine ⟨hR',ih (listed.setIfInBounds j true) _ a' w' (hC.set hB hj) hfree' (ready_mono hr (Ne.symm hji)) hy' hφ' (λ r hr=>?_) ?_⟩
   ·rw [List.mem_filter] at hr
    exact hR' r hr.1 (by simpa using hr.2)
   ·rw [Array.setIfInBounds_comm _ _ hji]
    rw [List.filter_cons_of_pos (by simp [hnot])] at hrest
    exact hrest
end
end Go.Fw
