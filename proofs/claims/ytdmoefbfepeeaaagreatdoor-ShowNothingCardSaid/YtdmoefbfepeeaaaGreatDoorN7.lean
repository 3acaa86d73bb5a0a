/- Part of a proof over the given program: texts of lemmas (conditions: none beyond each lemma as stated). -/
import Derived.Test.YtdmoefbfepeeaaaGreatDoorN6
import Derived.Below
import Derived.Deep.AppendLies
import Derived.Laws.RangeString
set_option linter.unnecessarySimpa false
set_option linter.unusedVariables false
set_option linter.unusedSimpArgs false

namespace Go.Fw
open Go.RowKit
@[simp] theorem add_mk (b o n:Nat):(⟨b,o,none⟩:Addr).add n=⟨b,o+n,none⟩:=by
 unfold Addr.add
 split
 ·subst_vars;rfl
 ·rfl
def Blk (w:World) (b:Nat) (e:TypeId) (cs:List Value):Prop:=w.heap[b]?=some (.cells cs.toArray e (0,0))
def etype (w:World) (k:Nat):Option TypeId:=match w.heap[k]? with | some (.cells _ e _)=>some e | _=>none
theorem heap_alloc (w:World) (x:Obj) (k:Nat):(w.alloc x).heap[k]?=if k=w.heap.size then some x else w.heap[k]?:=by
 show (w.heap.push x)[k]?=_
 rw [Array.getElem?_push]
theorem heap_set (w:World) (a:Addr) (v:Value) (k:Nat) (h:a.block≠k):(w.setCell a v).heap[k]?=w.heap[k]?:=by
 simp only [World.setCell,Array.getElem?_modify]
 rw [if_neg h]
section
variable {w:World} {b o:Nat} {e:TypeId} {cs:List Value} {v:Value}
theorem Blk.lt (h:Blk w b e cs):b<w.heap.size:=(Array.getElem?_eq_some_iff.1 h).1
theorem Blk.etype (h:Blk w b e cs):etype w b=some e:=by
 unfold Blk at h
 simp [Fw.etype,h]
theorem Blk.cell (h:Blk w b e cs) (hv:cs[o]?=some v):w.cell? ⟨b,o,none⟩=some v:=by
 unfold Blk at h
 simp [World.cell?,h,hv]
theorem Blk.add (h:Blk w b e cs) (n:Nat) (hv:cs[n]?=some v):w.cell? ((⟨b,0,none⟩:Addr).add n)=some v:=by
 rw [add_mk];exact h.cell (by simpa using hv)
theorem Blk.frozen (h:Blk w b e cs):w.frozen? ⟨b,o,none⟩=false:=by
 unfold Blk at h
 simp [World.frozen?,h]
theorem Blk.set (h:Blk w b e cs):Blk (w.setCell ⟨b,o,none⟩ v) b e (cs.set o v):=by
 unfold Blk at h ⊢
 simp [World.setCell,Array.getElem?_modify,h]
theorem Blk.old {x:Obj} (h:Blk w b e cs):Blk (w.alloc x) b e cs:=by
 have hl:=h.lt
 unfold Blk at h ⊢
 rw [heap_alloc,if_neg (by omega),h]
theorem Blk.new (w:World) (cs:Array Value) (e:TypeId):Blk (w.alloc (.cells cs e)) w.heap.size e cs.toList:=by
 unfold Blk
 rw [heap_alloc,if_pos rfl]
theorem Blk.drew (h:Blk w b e cs):Blk w.drew b e cs:=h
theorem Blk.uniq {e':TypeId} {cs':List Value} (h:Blk w b e cs) (h':Blk w b e' cs'):e=e'/\cs=cs':=by
 unfold Blk at h h'
 rw [h] at h'
 simp at h'
 exact ⟨h'.2,h'.1⟩
theorem Blk.ne {b':Nat} {e':TypeId} {cs':List Value} (h:Blk w b e cs) (h':Blk w b' e' cs') (he:e≠e'):b≠b':=by
 rintro rfl
 exact he (h.uniq h').1
end
theorem ne_of_etype {w:World} {a b:Nat} {x y:Option TypeId} (hx:etype w a=x) (hy:etype w b=y) (h:x≠y):a≠b:=by
 rintro rfl
 exact h (hx.symm.trans hy)
theorem Blk.cellsFrom {w:World} {b:Nat} {e:TypeId} {cs:List Value} (h:Blk w b e cs):∀(vs:List Value) (o i:Nat),(∀j v,vs[j]?=some v->cs[o+i+j]?=some v)->Fw.cellsFrom w ⟨b,o,none⟩ vs i
 | [],_,_,_=>trivial
 | v :: vs,o,i,hv=>by
  refine cellsFrom_cons.2 ⟨?_,h.cellsFrom vs o (i+1) λ j u hj=>?_⟩
  ·rw [add_mk];exact h.cell (hv 0 v rfl)
  ·have:=hv (j+1) u (by simpa using hj)
   rw [<-this];congr 1;omega
theorem getElem?_of_drop {cs vs:List Value} {o:Nat} (h:vs=(cs.drop o).take vs.length):∀j v,vs[j]?=some v->cs[o+j]?=some v:=by
 intro j v hj
 rw [h] at hj
 rw [List.getElem?_take] at hj
 split at hj
 ·rw [List.getElem?_drop] at hj;exact hj
 ·cases hj
theorem Blk.cellsAt {w:World} {b:Nat} {e:TypeId} {cs vs:List Value} (h:Blk w b e cs) (o:Nat) (hv:vs=(cs.drop o).take vs.length):CellsAt w ⟨b,o,none⟩ vs:=
 h.cellsFrom vs o 0 (by simpa using getElem?_of_drop hv)
theorem Blk.cells0 {w:World} {b:Nat} {e:TypeId} {cs:List Value} (h:Blk w b e cs):CellsAt w ⟨b,0,none⟩ cs:=
 h.cellsAt 0 (by simp)
theorem Blk.cellsAdd {w:World} {b:Nat} {e:TypeId} {cs vs:List Value} (h:Blk w b e cs) (o:Nat) (hv:vs=(cs.drop o).take vs.length):CellsAt w ((⟨b,0,none⟩:Addr).add o) vs:=by
 rw [add_mk];simpa using h.cellsAt o hv
structure Keep (fp:Nat->Prop) (w w':World):Prop where
 os:w'.os=w.os
 tape:w'.tape=w.tape
 output:w'.output=w.output
 size:w.heap.size<=w'.heap.size
 block:∀k,k<w.heap.size->¬fp k->w'.heap[k]?=w.heap[k]?
abbrev No:Nat->Prop:=λ _=>False
def Ty (B:Nat) (ts:List TypeId) (w:World):Nat->Prop:=λ k=>B<=k/\∃e,etype w k=some e/\e ∈ ts
section
variable {fp fp':Nat->Prop} {w w' w'':World}
theorem Keep.refl (fp:Nat->Prop) (w:World):Keep fp w w:=⟨rfl,rfl,rfl,Nat.le_refl _,λ _ _ _=>rfl⟩
theorem Keep.trans (h:Keep fp w w') (h':Keep fp' w' w'') (hs:∀k,k<w.heap.size->fp' k->fp k):Keep fp w w'':=
 ⟨h'.os.trans h.os,h'.tape.trans h.tape,h'.output.trans h.output,Nat.le_trans h.size h'.size,λ k hk hn=>
  (h'.block k (Nat.lt_of_lt_of_le hk h.size) λ hf=>hn (hs k hk hf)).trans (h.block k hk hn)⟩
theorem Keep.mono (h:Keep fp w w') (hs:∀k,k<w.heap.size->fp k->fp' k):Keep fp' w w':=
 ⟨h.os,h.tape,h.output,h.size,λ k hk hn=>h.block k hk λ hf=>hn (hs k hk hf)⟩
theorem Keep.no (h:Keep fp w w') (h':Keep No w' w''):Keep fp w w'':=h.trans h' λ _ _=>False.elim
theorem Keep.news (h:Keep fp w w') (h':Keep fp' w' w'') (hs:∀k,fp' k->w.heap.size<=k):Keep fp w w'':=h.trans h' λ k hk hf=>absurd (hs k hf) (by omega)
theorem Keep.of_no (h:Keep No w w'):Keep fp w w':=h.mono λ _ _=>False.elim
theorem Keep.ty {B:Nat} {ts:List TypeId} (h:Keep (Ty B ts w) w w') (h':Keep (Ty B ts w') w' w''):Keep (Ty B ts w) w w'':=
 h.trans h' λ k hk ⟨hB,e,he,ht⟩=>by
  by_cases hf:Ty B ts w k
  ·exact hf
  ·refine ⟨hB,e,?_,ht⟩
   rw [<-he]
   unfold etype
   rw [h.block k hk hf]
theorem Keep.ty_mono {B B':Nat} {ts ts':List TypeId} (h:Keep (Ty B ts w) w w') (hB:B'<=B) (ht:∀e ∈ ts,e ∈ ts'):Keep (Ty B' ts' w) w w':=
 h.mono λ _ _ ⟨h1,e,h2,h3⟩=>⟨by omega,e,h2,ht e h3⟩
theorem Keep.one (w:World) (a:Addr) (v:Value):Keep (λ k=>k=a.block) w (w.setCell a v):=
 ⟨rfl,rfl,rfl,by simp [World.setCell],λ k _ hn=>heap_set w a v k λ e=>hn e.symm⟩
theorem Keep.fresh (w:World) (x:Obj):Keep No w (w.alloc x):=
 ⟨rfl,rfl,rfl,by show w.heap.size<=(w.heap.push x).size;simp,λ k hk _=>by rw [heap_alloc,if_neg (by omega)]⟩
theorem Keep.drawn (w:World):Keep No w w.drew:=⟨rfl,rfl,rfl,Nat.le_refl _,λ _ _ _=>rfl⟩
theorem Keep.drew (h:Keep fp w w'):Keep fp w w'.drew:=h.no (Keep.drawn w')
theorem Keep.blk (h:Keep fp w w') {b:Nat} {e:TypeId} {cs:List Value} (hb:Blk w b e cs) (hn:¬fp b):Blk w' b e cs:=(h.block b hb.lt hn).trans hb
theorem Keep.nblk (h:Keep No w w') {b:Nat} {e:TypeId} {cs:List Value} (hb:Blk w b e cs):Blk w' b e cs:=h.blk hb id
theorem Keep.tblk {B:Nat} {ts:List TypeId} (h:Keep (Ty B ts w) w w') {b:Nat} {e:TypeId} {cs:List Value} (hb:Blk w b e cs) (hn:e ∉ ts):Blk w' b e cs:=
 h.blk hb λ ⟨_,e',he,ht⟩=>by
  rw [hb.etype] at he
  cases he
  exact hn ht
theorem Keep.cell (h:Keep fp w w') {a:Addr} {v:Value} (hc:w.cell? a=some v) (hn:¬fp a.block):w'.cell? a=some v:=
 (World.cell?_of_block (h.block a.block (World.block_lt_of_cell? w a hc) hn)).trans hc
theorem Keep.below {B:Nat} (h:Keep fp w w') (hf:∀k,fp k->B<=k) (hB:B<=w.heap.size):Below B w w':=
 ⟨h.os,h.tape,h.output,h.size,λ k hk=>h.block k (by omega) λ hn=>by have:=hf k hn;omega⟩
theorem Keep.of_grown {row:Option Nat} (h:w.grownBy w' row):Keep (λ k=>row=some k) w w':=
 ⟨h.os,h.tape,h.output,h.size,λ k hk hn=>h.block k hk λ e=>hn e.symm⟩
end
@[simp] theorem size_set (w:World) (a:Addr) (v:Value):(w.setCell a v).heap.size=w.heap.size:=by simp [World.setCell]
@[simp] theorem size_new (w:World) (x:Obj):(w.alloc x).heap.size=w.heap.size+1:=by show (w.heap.push x).size=_;rw [Array.size_push]
@[simp] theorem size_drew (w:World):w.drew.heap.size=w.heap.size:=rfl
theorem newK_of {w:World} {cs:Array Value} {e:TypeId} {K:Addr->World->Prop} (h:∀b w',b=w.heap.size->Blk w' b e cs.toList->Keep No w w'->K ⟨b,0,none⟩ w'):newK w cs e K:=
 h _ _ rfl (Blk.new w cs e) (Keep.fresh w _)
theorem stK_of {w:World} {b o:Nat} {e:TypeId} {cs:List Value} {v:Value} {K:World->Prop} (hb:Blk w b e cs) (ho:o<cs.length)
  (h:∀w',Blk w' b e (cs.set o v)->Keep (λ k=>k=b) w w'->K w'):stK w ⟨b,o,none⟩ v K:=by
 refine ⟨⟨?_,hb.frozen⟩,h _ hb.set (Keep.one w ⟨b,o,none⟩ v)⟩
 rw [hb.cell (List.getElem?_eq_getElem ho)]
 rfl
theorem stK_add {w:World} {b n:Nat} {e:TypeId} {cs:List Value} {v:Value} {K:World->Prop} (hb:Blk w b e cs) (ho:n<cs.length)
  (h:∀w',Blk w' b e (cs.set n v)->Keep (λ k=>k=b) w w'->K w'):stK w ((⟨b,0,none⟩:Addr).add n) v K:=by
 rw [add_mk,Nat.zero_add]
 exact stK_of hb ho h
theorem bsel_pos {b:Bool} {X Y:Prop} (h:b=true) (hx:X):bsel b X Y:=by subst h;exact hx
theorem bsel_neg {b:Bool} {X Y:Prop} (h:b=false) (hy:Y):bsel b X Y:=by subst h;exact hy
theorem bsel_split {b:Bool} {X Y:Prop} (hx:b=true->X) (hy:b=false->Y):bsel b X Y:=by cases b;exact hy rfl;exact hx rfl
theorem idxK_of {a:Addr} {len i:Nat} {size:Nat} {K:Addr->Prop} (hi:i<len) (h:K (a.add (i*size))):idxK (some a) len (i:Int) size K:=
 ⟨a,rfl,⟨by omega,by omega⟩,by simpa using h⟩
theorem wrap_i64 {n:Int} (h:-9223372036854775808<=n/\n<9223372036854775808):IntKind.wrap .i64 n=n:=by
 have h1:IntKind.bits .i64=64:=rfl
 unfold IntKind.wrap
 simp only [h1]
 have:(IntKind.signed .i64)=true:=rfl
 simp only [this,Bool.true_and,decide_eq_true_eq]
 split <;> omega
theorem ret_mono {P:Program} {f:FuncId} {args:Array Value} {w:World} {R:Ending->World->Prop} {Q:Value->World->Prop} (h:Calls P f args w λ e w'=>∃v,e=.returned v/\Q v w') (hQ:∀v w',Q v w'->R (.returned v) w'):Calls P f args w R:=
 h.mono λ _ _ ⟨_,he,hv⟩=>he ▸ hQ _ _ hv
end Go.Fw

namespace Go.Fw
def trNext (log:Nat) (x:Nat × Nat):Nat × Nat:=((5*x.1+x.2 / 32+1) % 2 ^ log,x.2 / 32)
def trFrom (log:Nat) (x:Nat × Nat):Nat->Nat × Nat
 | 0=>x
 | n+1=>trNext log (trFrom log x n)
def trAt (log h n:Nat):Nat:=(trFrom log (h % 2 ^ log,h) n).1
theorem trFrom_add (log:Nat) (x:Nat × Nat) (m:Nat):∀n,trFrom log x (m+n)=trFrom log (trFrom log x m) n
 | 0=>rfl
 | n+1=>by
  show trNext log (trFrom log x (m+n))=_
  rw [trFrom_add log x m n];rfl
theorem trFrom_p (log:Nat) (x:Nat × Nat):∀n,(trFrom log x n).2=x.2 / 32 ^ n
 | 0=>by simp [trFrom]
 | n+1=>by
  show (trFrom log x n).2 / 32=_
  rw [trFrom_p log x n,Nat.div_div_eq_div_mul,Nat.pow_succ]
def lcg (x:Nat):Nat->Nat
 | 0=>x
 | n+1=>5*lcg x n+1
theorem lcg_add (x m:Nat):∀n,lcg x (m+n)=lcg (lcg x m) n
 | 0=>rfl
 | n+1=>by show 5*lcg x (m+n)+1=_;rw [lcg_add x m n];rfl
theorem lcg_eq (x:Nat):∀n,4*lcg x n+1=5 ^ n*(4*x+1)
 | 0=>by simp [lcg]
 | n+1=>by
  have:=lcg_eq x n
  show 4*(5*lcg x n+1)+1=_
  rw [Nat.pow_succ,Nat.mul_comm (5 ^ n) 5,Nat.mul_assoc,<-this]
  omega
theorem five_pow:∀k,∃q,5 ^ 2 ^ k=1+2 ^ (k+2)*(2*q+1)
 | 0=>⟨0,by decide⟩
 | k+1=>by
  obtain ⟨q,hq⟩:=five_pow k
  refine ⟨q+2 ^ k*(2*q+1)*(2*q+1),?_⟩
  rw [Nat.pow_succ,Nat.pow_mul,hq]
  have e1:2 ^ (k+2)=4*2 ^ k:=by rw [Nat.pow_add];omega
  have e2:2 ^ (k+1+2)=8*2 ^ k:=by rw [Nat.pow_add,Nat.pow_succ];omega
  rw [e1,e2]
  generalize 2 ^ k=a
  generalize h:2*q+1=b
  have hq':2*(q+a*b*b)+1=b+2*(a*b*b):=by omega
  rw [hq',Nat.pow_two,Nat.mul_add,Nat.mul_one,Nat.add_mul,Nat.one_mul,Nat.mul_add]
  have h2:4*a*b*(4*a*b)=8*a*(2*(a*b*b)):=by
   have:4*a*b*(4*a*b)=16*(a*(b*(a*b))):=by
    rw [show 4*a*b*(4*a*b)=4*(a*(b*(4*(a*b)))) by simp [Nat.mul_assoc]]
    rw [show b*(4*(a*b))=4*(b*(a*b)) by rw [<-Nat.mul_assoc,Nat.mul_comm b 4,Nat.mul_assoc]]
    rw [show a*(4*(b*(a*b)))=4*(a*(b*(a*b))) by rw [<-Nat.mul_assoc,Nat.mul_comm a 4,Nat.mul_assoc]]
    omega
   rw [this]
   rw [show 8*a*(2*(a*b*b))=8*(a*(2*(a*b*b))) by simp [Nat.mul_assoc]]
   rw [show a*(2*(a*b*b))=2*(a*(a*b*b)) by rw [<-Nat.mul_assoc,Nat.mul_comm a 2,Nat.mul_assoc]]
   rw [show b*(a*b)=a*b*b by rw [Nat.mul_comm]]
   omega
  rw [h2]
  have:4*a*b+4*a*b=8*a*b:=by
   rw [<-Nat.add_mul];congr 1;omega
  omega
theorem lcg_pow (x k:Nat):∃q,lcg x (2 ^ k)=x+2 ^ k*(2*q+1):=by
 obtain ⟨q,hq⟩:=five_pow k
 have h:=lcg_eq x (2 ^ k)
 rw [hq] at h
 have e1:2 ^ (k+2)=4*2 ^ k:=by rw [Nat.pow_add];omega
 rw [e1] at h
 refine ⟨q+2*x*(2*q+1),?_⟩
 generalize 2 ^ k=a at *
 generalize lcg x a=y at *
 have h2:(1+4*a*(2*q+1))*(4*x+1)=4*x+1+4*(a*((2*q+1)*(4*x+1))):=by
  rw [Nat.add_mul,Nat.one_mul]
  simp [Nat.mul_assoc]
 rw [h2] at h
 have h3:y=x+a*((2*q+1)*(4*x+1)):=by omega
 rw [h3]
 congr 2
 rw [Nat.mul_add,Nat.mul_one,Nat.mul_comm (2*q+1) (4*x)]
 rw [show 4*x*(2*q+1)=2*(2*x*(2*q+1)) by rw [<-Nat.mul_assoc];congr 1;omega]
 omega
theorem lcg_all:∀(k x y:Nat),∃n,n<2 ^ k/\lcg x n % 2 ^ k=y % 2 ^ k
 | 0,x,y=>⟨0,by simp,by simp [Nat.mod_one]⟩
 | k+1,x,y=>by
  obtain ⟨n,hn,he⟩:=lcg_all k x y
  have hp:2 ^ (k+1)=2 ^ k+2 ^ k:=by rw [Nat.pow_succ];omega
  have hpos:0<2 ^ k:=Nat.pow_pos (by decide)
  by_cases hc:lcg x n % 2 ^ (k+1)=y % 2 ^ (k+1)
  ·exact ⟨n,by omega,hc⟩
  ·refine ⟨n+2 ^ k,by omega,?_⟩
   rw [lcg_add]
   obtain ⟨q,hq⟩:=lcg_pow (lcg x n) k
   rw [hq,Nat.mul_add,Nat.mul_one,<-Nat.mul_assoc,show 2 ^ k*2=2 ^ (k+1) by rw [Nat.pow_succ]]
   rw [show lcg x n+(2 ^ (k+1)*q+2 ^ k)=lcg x n+2 ^ k+2 ^ (k+1)*q by omega,Nat.add_mul_mod_self_left]
   generalize lcg x n=z at *
   have a1:z % 2 ^ (k+1) % 2 ^ k=z % 2 ^ k:=Nat.mod_mod_of_dvd _ ⟨2,by rw [Nat.pow_succ]⟩
   have a2:y % 2 ^ (k+1) % 2 ^ k=y % 2 ^ k:=Nat.mod_mod_of_dvd _ ⟨2,by rw [Nat.pow_succ]⟩
   have b1:z % 2 ^ (k+1)<2 ^ (k+1):=Nat.mod_lt _ (by omega)
   have b2:y % 2 ^ (k+1)<2 ^ (k+1):=Nat.mod_lt _ (by omega)
   have e3:(z+2 ^ k) % 2 ^ (k+1)=(z % 2 ^ (k+1)+2 ^ k) % 2 ^ (k+1):=by simp [Nat.add_mod]
   rw [e3]
   generalize z % 2 ^ (k+1)=u at *
   generalize y % 2 ^ (k+1)=v at *
   rw [hp] at b1 b2 ⊢
   generalize 2 ^ k=a at *
   have hmod:∀t,t<a+a->t % a=if t<a then t else t-a:=by
    intro t ht
    split
    ·exact Nat.mod_eq_of_lt (by omega)
    ·rw [Nat.mod_eq_sub_mod (by omega)];exact Nat.mod_eq_of_lt (by omega)
   have m1:=hmod u b1
   have m2:=hmod v b2
   rw [<-a1,<-a2,m1,m2] at he
   split at he <;> split at he
   ·omega
   ·rw [Nat.mod_eq_of_lt (by omega)];omega
   ·rw [Nat.mod_eq_sub_mod (by omega)];rw [Nat.mod_eq_of_lt (by omega)];omega
   ·omega
theorem trFrom_zero (log c:Nat):∀n,(trFrom log (c,0) n).1 % 2 ^ log=lcg c n % 2 ^ log
 | 0=>rfl
 | n+1=>by
  have h1:(trFrom log (c,0) n).2=0:=by rw [trFrom_p];simp
  show ((5*(trFrom log (c,0) n).1+(trFrom log (c,0) n).2 / 32+1) % 2 ^ log) % 2 ^ log=_
  rw [h1,Nat.mod_mod]
  have ih:=trFrom_zero log c n
  show _=(5*lcg c n+1) % 2 ^ log
  rw [Nat.zero_div,Nat.add_zero,Nat.add_mod,Nat.mul_mod,ih,<-Nat.mul_mod,<-Nat.add_mod]
theorem trAt_lt (log h n:Nat):trAt log h n<2 ^ log:=by
 have hp:0<2 ^ log:=Nat.pow_pos (by decide)
 cases n with
 | zero=>exact Nat.mod_lt _ hp
 | succ n=>exact Nat.mod_lt _ hp
theorem trAt_all (log h y:Nat) (hh:h<2 ^ 64) (hy:y<2 ^ log):∃n,n<2 ^ log+13/\trAt log h n=y:=by
 have h13:(trFrom log (h % 2 ^ log,h) 13).2=0:=by
  rw [trFrom_p]
  exact Nat.div_eq_of_lt (Nat.lt_of_lt_of_le hh (by decide))
 obtain ⟨c,hc⟩:∃c,trFrom log (h % 2 ^ log,h) 13=(c,0):=⟨_,Prod.ext rfl h13⟩
 obtain ⟨n,hn,he⟩:=lcg_all log c y
 refine ⟨13+n,by omega,?_⟩
 have h1:=trFrom_zero log c n
 have h2:trAt log h (13+n)=(trFrom log (c,0) n).1:=by unfold trAt;rw [trFrom_add,hc]
 have h3:=trAt_lt log h (13+n)
 rw [<-h2,he,Nat.mod_eq_of_lt hy,Nat.mod_eq_of_lt h3] at h1
 exact h1
end Go.Fw

namespace Go.Fw
structure Ent where
 live:Bool
 hash:Int
 key:Int
 value:Int
 birth:Int
def u64 (h:Int):Nat:=(h % 18446744073709551616).toNat
theorem u64_lt (h:Int):u64 h<2 ^ 64:=by unfold u64;omega
def trStart (log:Nat) (h:Int):Nat × Nat:=(u64 h % 2 ^ log,u64 h)
def Ahead (cells:List Int) (log:Nat) (h:Int) (k:Nat):Prop:=∀j,j<k->cells[trAt log (u64 h) j]?≠some (-1)
def free (cells:List Int) (log:Nat):Nat->Nat × Nat->Option Nat
 | 0,_=>none
 | f+1,x=>if cells[x.1]?=some (-1) then some x.1 else free cells log f (trNext log x)
theorem trAt_from (log:Nat) (h:Int) (k:Nat):trAt log (u64 h) k=(trFrom log (trStart log h) k).1:=rfl
theorem free_of {cells:List Int} {log:Nat} {h:Int} {k:Nat} (hk:cells[trAt log (u64 h) k]?=some (-1)) (ha:Ahead cells log h k) :
  ∀f j,j<=k->k<f+j->free cells log f (trFrom log (trStart log h) j)=some (trAt log (u64 h) k)
 | 0,j,h1,h2=>by omega
 | f+1,j,h1,h2=>by
  unfold free
  by_cases hj:j=k
  ·subst hj
   rw [if_pos (by rw [<-trAt_from];exact hk)];rfl
  ·rw [if_neg (by rw [<-trAt_from];exact ha j (by omega))]
   exact free_of hk ha f (j+1) (by omega) (by omega)
theorem least_of (R:Nat->Prop) (n:Nat) (h:R n):∃k,R k/\k<=n/\∀j,j<k->¬R j:=by
 induction n using Nat.strongRecOn with
 | ind n ih=>
  by_cases hx:∃m,m<n/\R m
  ·obtain ⟨m,hm,hr⟩:=hx
   obtain ⟨k,a,b,c⟩:=ih m hm hr
   exact ⟨k,a,by omega,c⟩
  ·exact ⟨n,h,Nat.le_refl _,λ j hj hr=>hx ⟨j,hj,hr⟩⟩
theorem free_ex {cells:List Int} {log:Nat} (h:Int) {c:Nat} (hc:c<2 ^ log) (he:cells[c]?=some (-1)) :
  ∃k,k<2 ^ log+13/\cells[trAt log (u64 h) k]?=some (-1)/\Ahead cells log h k:=by
 obtain ⟨n,hn,ht⟩:=trAt_all log (u64 h) c (u64_lt h) hc
 obtain ⟨k,h1,h2,h3⟩:=least_of (λ k=>cells[trAt log (u64 h) k]?=some (-1)) n (by rw [ht];exact he)
 exact ⟨k,by omega,h1,h3⟩
def lay (cells:List Int) (log:Nat) (h:Int) (n:Nat):List Int:=match free cells log (2 ^ log+13) (trStart log h) with
 | some c=>cells.set c n
 | none=>cells
theorem lay_at {cells:List Int} {log:Nat} {h:Int} {n k:Nat} (hk:k<2 ^ log+13) (he:cells[trAt log (u64 h) k]?=some (-1)) (ha:Ahead cells log h k):lay cells log h n=cells.set (trAt log (u64 h) k) n:=by
 unfold lay
 rw [show trStart log h=trFrom log (trStart log h) 0 from rfl,free_of he ha _ 0 (by omega) (by omega)]
def room (log:Nat):Nat:=2*2 ^ log / 3
theorem room_lt (log:Nat):room log<2 ^ log:=by
 have:0<2 ^ log:=Nat.pow_pos (by decide)
 unfold room
 omega
def filled (cells:List Int):Nat:=cells.countP (λ v=>v != -1)
theorem filled_lt:∀{cells:List Int},filled cells<cells.length->∃c:Nat,cells[c]?=some (-1)
 | [],h=>by simp [filled] at h
 | v :: l,h=>by
  by_cases hv:v=-1
  ·exact ⟨0,by simp [hv]⟩
  ·have:filled l<l.length:=by
    unfold filled at h ⊢
    rw [List.countP_cons_of_pos (by simpa using hv)] at h
    simp at h
    exact h
   obtain ⟨c,hc⟩:=filled_lt this
   exact ⟨c+1,by simpa using hc⟩
theorem filled_set:∀{cells:List Int} {c:Nat} (v:Int),cells[c]?=some (-1)->filled (cells.set c v)<=filled cells+1
 | [],c,v,h=>by simp at h
 | u :: l,0,v,h=>by
  simp at h
  subst h
  unfold filled
  rw [List.set_cons_zero,List.countP_cons,List.countP_cons]
  split <;> simp
 | u :: l,c+1,v,h=>by
  have:=filled_set (cells:=l) (c:=c) v (by simpa using h)
  unfold filled at this ⊢
  rw [List.set_cons_succ,List.countP_cons,List.countP_cons]
  omega
structure IdxOk (es:List Ent) (log:Nat) (cells:List Int):Prop where
 lg:3<=log/\log<=20
 len:cells.length=2 ^ log
 full:filled cells<=es.length
 ent:∀(c:Nat) (v:Int),cells[c]?=some v->v=-1\/v=-2\/∃i e,v=(i:Nat)/\es[i]?=some e/\e.live=true
 pos:∃p:Nat->Nat,(∀i e,es[i]?=some e->e.live=true->Ahead cells log e.hash (p i)/\cells[trAt log (u64 e.hash) (p i)]?=some (i:Int)/\∀j,j<p i->cells[trAt log (u64 e.hash) j]?≠some (i:Int))/\
  ∀i j e e',i<j->es[i]?=some e->es[j]?=some e'->e.live=true->e'.live=true->e.hash=e'.hash->p i<p j
theorem IdxOk.empty {es:List Ent} {log:Nat} {cells:List Int} (h:IdxOk es log cells) (hr:es.length<=room log) (x:Int):∃k,k<2 ^ log+13/\cells[trAt log (u64 x) k]?=some (-1)/\Ahead cells log x k:=by
 obtain ⟨c,hc⟩:=filled_lt (cells:=cells) (by have:=room_lt log;have:=h.full;have:=h.len;omega)
 exact free_ex x (by have:=(List.getElem?_eq_some_iff.1 hc).1;have:=h.len;omega) hc
theorem IdxOk.fresh {log:Nat} (h:3<=log/\log<=20):IdxOk [] log (List.replicate (2 ^ log) (-1)):=by
 refine ⟨h,by simp,?_,?_,λ _=>0,?_,?_⟩
 ·unfold filled;rw [List.countP_replicate];simp
 ·intro c v hv
  rw [List.getElem?_replicate] at hv
  split at hv
  ·cases hv;exact .inl rfl
  ·cases hv
 ·intro i e he;simp at he
 ·intro i j e e' _ he;simp at he
theorem IdxOk.lay {es:List Ent} {log:Nat} {cells:List Int} (h:IdxOk es log cells) (hr:es.length<=room log) (e:Ent) (hl:e.live=true):IdxOk (es ++ [e]) log (lay cells log e.hash es.length):=by
 obtain ⟨k,hk,he,ha⟩:=h.empty hr e.hash
 rw [lay_at hk he ha]
 obtain ⟨p,hp,hq⟩:=h.pos
 have hlen:=h.len
 have hlt:=trAt_lt log (u64 e.hash) k
 have hkeep:∀x j,Ahead cells log x j->Ahead (cells.set (trAt log (u64 e.hash) k) es.length) log x j:=by
  intro x j hx i hi
  rw [List.getElem?_set]
  split
  ·split
   ·intro hc;simp at hc
   ·simp
  ·exact hx i hi
 have hold:∀(i:Nat) (c:Nat),cells[c]?=some (i:Int)->(cells.set (trAt log (u64 e.hash) k) es.length)[c]?=some (i:Int):=by
  intro i c hc
  rw [List.getElem?_set_ne]
  ·exact hc
  ·intro hx;rw [hx,hc] at he;simp at he
 refine ⟨h.lg,by simp [hlen],?_,?_,λ i=>if i<es.length then p i else k,?_,?_⟩
 ·have:=filled_set (es.length:Int) he
  have:=h.full
  simp;omega
 ·intro c v hv
  rw [List.getElem?_set] at hv
  split at hv
  ·split at hv
   ·simp at hv
    exact .inr (.inr ⟨es.length,e,by omega,by simp,hl⟩)
   ·simp at hv
  ·rcases h.ent c v hv with h1 | h1 | ⟨i,e',h1,h2,h3⟩
   ·exact .inl h1
   ·exact .inr (.inl h1)
   ·exact .inr (.inr ⟨i,e',h1,by rw [List.getElem?_append_left (List.getElem?_eq_some_iff.1 h2).1];exact h2,h3⟩)
 ·intro i e' hi hle
  simp only
  by_cases hc:i<es.length
  ·rw [if_pos hc]
   rw [List.getElem?_append_left hc] at hi
   obtain ⟨h1,h2,h3⟩:=hp i e' hi hle
   refine ⟨hkeep _ _ h1,hold _ _ h2,λ j hj=>?_⟩
   rw [List.getElem?_set]
   split
   ·split
    ·simp;omega
    ·simp
   ·exact h3 j hj
  ·rw [if_neg hc]
   have hi2:=hi
   rw [List.getElem?_append_right (by omega)] at hi
   have:i=es.length:=by
    have:=(List.getElem?_eq_some_iff.1 hi2).1
    simp at this;omega
   subst this
   simp at hi
   subst hi
   refine ⟨hkeep _ _ ha,by rw [List.getElem?_set_self (by omega)],λ j hj=>?_⟩
   rw [List.getElem?_set]
   split
   ·rename_i hx
    exact absurd (by rw [<-hx];exact he) (ha j hj)
   ·intro hc
    rcases h.ent _ _ hc with h1 | h1 | ⟨i,e',h1,h2,_⟩
    ·omega
    ·omega
    ·have:=(List.getElem?_eq_some_iff.1 h2).1
     omega
 ·intro i j e1 e2 hij hi hj h1 h2 hh
  have hjl:=(List.getElem?_eq_some_iff.1 hj).1
  simp at hjl
  have hil:i<es.length:=by omega
  simp only [if_pos hil]
  rw [List.getElem?_append_left hil] at hi
  by_cases hc:j<es.length
  ·rw [if_pos hc]
   rw [List.getElem?_append_left hc] at hj
   exact hq i j e1 e2 hij hi hj h1 h2 hh
  ·rw [if_neg hc]
   have:j=es.length:=by omega
   subst this
   simp at hj
   subst hj
   obtain ⟨h3,h4,_⟩:=hp i e1 hi h1
   rw [hh] at h3 h4
   apply Classical.byContradiction
   intro hn
   by_cases hlt2:k<p i
   ·exact h3 k hlt2 he
   ·have:k=p i:=by omega
    rw [this,h4] at he
    simp at he
def hashIs (es:List Ent) (v:Int) (hash:Int):Prop:=∃e,es[v.toNat]?=some e/\e.hash=hash
inductive Scan (es:List Ent) (log:Nat) (cells:List Int) (hash:Int):Nat->Nat × Nat->Int->List Nat->Prop
 | stop {x:Nat × Nat} {told:Int}:cells[x.1]?=some (-1)->Scan es log cells hash 0 x told []
 | skip {n:Nat} {x:Nat × Nat} {told v:Int} {l:List Nat}:cells[x.1]?=some v->v≠-1->(told<v->¬hashIs es v hash)->Scan es log cells hash n (trNext log x) told l->Scan es log cells hash (n+1) x told l
 | hit {n:Nat} {x:Nat × Nat} {told:Int} {i:Nat} {l:List Nat}:cells[x.1]?=some (i:Int)->told<i->hashIs es i hash->Scan es log cells hash n (trNext log x) i l->Scan es log cells hash (n+1) x told (i :: l)
theorem Scan.uniq {es:List Ent} {log:Nat} {cells:List Int} {hash:Int} {n m:Nat} {x:Nat × Nat} {told:Int} {l l':List Nat} (h:Scan es log cells hash n x told l) (h':Scan es log cells hash m x told l'):n=m/\l=l':=by
 induction h generalizing m l' with
 | stop h1=>
  cases h' with
  | stop=>exact ⟨rfl,rfl⟩
  | skip h2 h3=>rw [h1] at h2;simp at h2;exact absurd h2.symm h3
  | hit h2=>rw [h1] at h2;simp at h2
 | skip h1 h2 h3 _ ih=>
  cases h' with
  | stop h4=>rw [h1] at h4;simp at h4;exact absurd h4 h2
  | skip h4 h5 h6 h7=>obtain ⟨a,b⟩:=ih h7;exact ⟨by omega,b⟩
  | hit h4 h5 h6 h7=>rw [h1] at h4;simp at h4;subst h4;exact absurd h6 (h3 h5)
 | hit h1 h2 h3 _ ih=>
  cases h' with
  | stop h4=>rw [h1] at h4;simp at h4
  | skip h4 h5 h6 h7=>rw [h1] at h4;simp at h4;subst h4;exact absurd h3 (h6 h2)
  | hit h4 h5 h6 h7=>
   rw [h1] at h4
   simp at h4
   have h4:_=_:=Int.ofNat_inj.1 h4
   subst h4
   obtain ⟨a,b⟩:=ih h7
   exact ⟨by omega,by rw [b]⟩
def hitB (es:List Ent) (hash:Int) (i:Nat):Bool:=match es[i]? with | some e=>e.live && e.hash == hash | none=>false
theorem hitB_iff {es:List Ent} {hash:Int} {i:Nat}:hitB es hash i=true↔∃e,es[i]?=some e/\e.live=true/\e.hash=hash:=by
 unfold hitB
 split
 ·rename_i e he;simp [he]
 ·rename_i he;simp [he]
theorem sorted_ext:∀{l l':List Nat},l.Pairwise (· < ·)->l'.Pairwise (· < ·)->(∀x,x ∈ l↔x ∈ l')->l=l'
 | [],[],_,_,_=>rfl
 | [],y :: l',_,_,h=>absurd ((h y).2 (by simp)) (by simp)
 | x :: l,[],_,_,h=>absurd ((h x).1 (by simp)) (by simp)
 | x :: l,y :: l',h1,h2,h=>by
  obtain ⟨a1,a2⟩:=List.pairwise_cons.1 h1
  obtain ⟨b1,b2⟩:=List.pairwise_cons.1 h2
  have hxy:x=y:=by
   rcases List.mem_cons.1 ((h x).1 (by simp)) with e | e
   ·exact e
   ·rcases List.mem_cons.1 ((h y).2 (by simp)) with e' | e'
    ·exact e'.symm
    ·have:=b1 x e;have:=a1 y e';omega
  subst hxy
  rw [sorted_ext a2 b2 λ z=>⟨λ hz=>?_,λ hz=>?_⟩]
  ·rcases List.mem_cons.1 ((h z).1 (by simp [hz])) with e | e
   ·have:=a1 z hz;omega
   ·exact e
  ·rcases List.mem_cons.1 ((h z).2 (by simp [hz])) with e | e
   ·have:=b1 z hz;omega
   ·exact e
theorem IdxOk.scan {es:List Ent} {log:Nat} {cells:List Int} (h:IdxOk es log cells) (hr:es.length<=room log) (hash:Int) :
  ∃n l,n<2 ^ log+13/\Scan es log cells hash n (trStart log hash) (-1) l/\l.Pairwise (· < ·)/\∀i,i ∈ l↔hitB es hash i=true:=by
 obtain ⟨K,hK,he,ha⟩:=h.empty hr hash
 obtain ⟨p,hp,hq⟩:=h.pos
 have key:∀(d k:Nat) (t:Int),-1<=t->k+d=K->(∀i,hitB es hash i=true->p i<k->(i:Int)<=t)->(∀i,hitB es hash i=true->k<=p i->t<i)->
   ∃l,Scan es log cells hash d (trFrom log (trStart log hash) k) t l/\l.Pairwise (· < ·)/\∀i,i ∈ l↔(hitB es hash i=true/\t<i):=by
  intro d
  induction d with
  | zero=>
   intro k t ht hk h1 h2
   obtain rfl:k=K:=by omega
   refine ⟨[],.stop he,List.Pairwise.nil,λ i=>⟨λ hi=>by simp at hi,λ ⟨hi,hlt⟩=>?_⟩⟩
   obtain ⟨e,g1,g2,g3⟩:=hitB_iff.1 hi
   obtain ⟨c1,c2,_⟩:=hp i e g1 g2
   rw [g3] at c1 c2
   by_cases hx:p i<k
   ·have:=h1 i hi hx;omega
   ·by_cases hy:p i=k
    ·rw [hy,he] at c2;simp at c2
    ·exact absurd he (c1 k (by omega))
  | succ d ih=>
   intro k t ht hk h1 h2
   obtain ⟨v,hv⟩:∃v,cells[trAt log (u64 hash) k]?=some v:=⟨_,List.getElem?_eq_getElem (by rw [h.len];exact trAt_lt _ _ _)⟩
   have hv1:v≠-1:=λ hc=>ha k (by omega) (by rw [<-hc];exact hv)
   have hskip:(t<v->¬hashIs es v hash)->∃l,Scan es log cells hash (d+1) (trFrom log (trStart log hash) k) t l/\l.Pairwise (· < ·)/\∀i,i ∈ l↔(hitB es hash i=true/\t<i):=by
    intro hn
    obtain ⟨l,a,b,c⟩:=ih (k+1) t ht (by omega) (λ i hi hlt=>by
     by_cases hx:p i=k
     ·obtain ⟨e,g1,g2,g3⟩:=hitB_iff.1 hi
      obtain ⟨c1,c2,_⟩:=hp i e g1 g2
      rw [g3,hx,hv] at c2
      simp at c2
      subst c2
      apply Classical.byContradiction
      intro hc
      exact hn (by omega) ⟨e,by simpa using g1,g3⟩
     ·exact h1 i hi (by omega)) (λ i hi hle=>h2 i hi (by omega))
    exact ⟨l,.skip hv hv1 hn a,b,c⟩
   by_cases hh:t<v/\hashIs es v hash
   ·obtain ⟨hlt,e,g1,g2⟩:=hh
    rcases h.ent _ _ hv with c | c | ⟨i,e',c1,c2,c3⟩
    ·exact absurd c hv1
    ·omega
    ·subst c1
     simp at g1
     rw [g1] at c2
     cases c2
     have hi:hitB es hash i=true:=hitB_iff.2 ⟨e,g1,c3,g2⟩
     have hk1:k<=p i:=by
      apply Classical.byContradiction
      intro hc
      have:=h1 i hi (by omega)
      omega
     obtain ⟨d1,d2,d3⟩:=hp i e g1 c3
     rw [g2] at d1 d2 d3
     have hpk:p i=k:=by
      apply Classical.byContradiction
      intro hc
      exact d3 k (by omega) hv
     have hord:∀j,hitB es hash j=true->i<j->p i<p j:=by
      intro j hj hij
      obtain ⟨e2,f1,f2,f3⟩:=hitB_iff.1 hj
      exact hq i j e e2 hij g1 f1 c3 f2 (by rw [g2,f3])
     have hord2:∀j,hitB es hash j=true->j<i->p j<p i:=by
      intro j hj hij
      obtain ⟨e2,f1,f2,f3⟩:=hitB_iff.1 hj
      exact hq j i e2 e hij f1 g1 f2 c3 (by rw [g2,f3])
     obtain ⟨l,a,b,c⟩:=ih (k+1) i (by omega) (by omega) (λ j hj hjl=>by
      apply Classical.byContradiction
      intro hc
      have:=hord j hj (by omega)
      omega) (λ j hj hjl=>by
      apply Classical.byContradiction
      intro hc
      by_cases hji:j=i
      ·subst hji;omega
      ·have:=hord2 j hj (by omega)
       omega)
     refine ⟨i :: l,.hit hv hlt ⟨e,by simpa using g1,g2⟩ a,List.pairwise_cons.2 ⟨λ j hj=>by have:=((c j).1 hj).2;omega,b⟩,λ j=>?_⟩
     rw [List.mem_cons,c]
     constructor
     ·rintro (rfl | ⟨x,y⟩)
      ·exact ⟨hi,hlt⟩
      ·exact ⟨x,by omega⟩
     ·rintro ⟨x,y⟩
      by_cases hji:j=i
      ·exact .inl hji
      ·refine .inr ⟨x,?_⟩
       apply Classical.byContradiction
       intro hc
       have h3:=hord2 j x (by omega)
       have:=h1 j x (by omega)
       omega
   ·exact hskip λ hlt hs=>hh ⟨hlt,hs⟩
 obtain ⟨l,a,b,c⟩:=key K 0 (-1) (by omega) (by omega) (λ i _ hi=>by omega) (λ i _ _=>by omega)
 exact ⟨K,l,hK,a,b,λ i=>by rw [c];exact ⟨λ x=>x.1,λ x=>⟨x,by omega⟩⟩⟩
theorem IdxOk.scan_hits {es:List Ent} {log:Nat} {cells:List Int} (h:IdxOk es log cells) (hr:es.length<=room log) (hash:Int) :
  ∃n,n<2 ^ log+13/\Scan es log cells hash n (trStart log hash) (-1) ((List.range es.length).filter (hitB es hash)):=by
 obtain ⟨n,l,hn,hs,h1,h2⟩:=h.scan hr hash
 have:l=(List.range es.length).filter (hitB es hash):=sorted_ext h1 (List.pairwise_lt_range.filter _) λ i=>by
  rw [h2,List.mem_filter,List.mem_range]
  refine ⟨λ hi=>⟨?_,hi⟩,λ hi=>hi.2⟩
  obtain ⟨e,g1,_⟩:=hitB_iff.1 hi
  exact (List.getElem?_eq_some_iff.1 g1).1
 rw [<-this]
 exact ⟨n,hn,hs⟩
end Go.Fw

namespace Go.Fw
theorem wrap_u64 (n:Int):IntKind.wrap .u64 n=n % 18446744073709551616:=by
 have h1:IntKind.bits .u64=64:=rfl
 have h2:IntKind.signed .u64=false:=rfl
 unfold IntKind.wrap
 simp only [h1,h2,Bool.false_and]
 rfl
theorem pow_le20 {log:Nat} (h:log<=20):2 ^ log<=1048576:=by
 have:=Nat.pow_le_pow_right (n:=2) (by decide) h
 simpa using this
theorem pow_pos' (log:Nat):0<2 ^ log:=Nat.pow_pos (by decide)
theorem pow_cast (log:Nat):((2:Int) ^ log)=((2 ^ log:Nat):Int):=by norm_cast
theorem shl_i64 {log:Nat} (h:log<=20):shl .i64 1 log=((2 ^ log:Nat):Int):=by
 have hp:=pow_le20 h
 unfold shl
 rw [Int.toNat_natCast,show min log (IntKind.bits .i64)=log by simp [IntKind.bits];omega,Int.one_mul,pow_cast]
 generalize 2 ^ log=a at *
 exact wrap_i64 (by omega)
theorem shl_u64 {log:Nat} (h:log<=20):shl .u64 1 log=((2 ^ log:Nat):Int):=by
 have hp:=pow_le20 h
 unfold shl
 rw [Int.toNat_natCast,show min log (IntKind.bits .u64)=log by simp [IntKind.bits];omega,Int.one_mul,pow_cast,wrap_u64]
 generalize 2 ^ log=a at *
 omega
theorem bAnd_mask {log:Nat} (h:log<=20) {x:Nat} (hx:x<18446744073709551616):bAnd .u64 x (IntKind.wrap .u64 (shl .u64 1 log-1))=((x % 2 ^ log:Nat):Int):=by
 have hp:=pow_le20 h
 have h0:=pow_pos' log
 rw [shl_u64 h,wrap_u64,show ((2 ^ log:Nat):Int)-1=((2 ^ log-1:Nat):Int) by omega]
 rw [show ((2 ^ log-1:Nat):Int) % 18446744073709551616=((2 ^ log-1:Nat):Int) by omega]
 unfold bAnd
 have hb:IntKind.bits .u64=64:=rfl
 rw [hb,BitVec.ofInt_natCast,BitVec.ofInt_natCast,BitVec.toNat_and,BitVec.toNat_ofNat,BitVec.toNat_ofNat]
 rw [Nat.mod_eq_of_lt (show x<2 ^ 64 by omega),Nat.mod_eq_of_lt (show 2 ^ log-1<2 ^ 64 by omega),Nat.and_two_pow_sub_one_eq_mod,wrap_u64]
 have:x % 2 ^ log<2 ^ log:=Nat.mod_lt _ h0
 omega
theorem wrap_hash (h:Int):IntKind.wrap .u64 h=(u64 h:Int):=by
 rw [wrap_u64]
 unfold u64
 omega
theorem u64_lt' (h:Int):u64 h<18446744073709551616:=u64_lt h
theorem first_eq {log:Nat} (hl:log<=20) (h:Int):IntKind.wrap .i64 (bAnd .u64 (IntKind.wrap .u64 h) (IntKind.wrap .u64 (shl .u64 1 log-1)))=((trStart log h).1:Int):=by
 rw [wrap_hash,bAnd_mask hl (u64_lt' h)]
 have hp:=pow_le20 hl
 have:u64 h % 2 ^ log<2 ^ log:=Nat.mod_lt _ (pow_pos' log)
 rw [wrap_i64 (by omega)]
 rfl
theorem shr_five {p:Nat} (hp:p<18446744073709551616):shr .u64 p 5=((p / 32:Nat):Int):=by
 unfold shr
 rw [show min (5:Int).toNat (IntKind.bits .u64)=5 from rfl,Int.fdiv_eq_ediv_of_nonneg _ (by decide)]
 omega
theorem next_mask {log:Nat} (hl:log<=20) (c q:Nat):bAnd .u64 (IntKind.wrap .u64 (IntKind.wrap .u64 (IntKind.wrap .u64 (5*c)+q)+1)) (IntKind.wrap .u64 (shl .u64 1 log-1))=(((5*c+q+1) % 2 ^ log:Nat):Int):=by
 have e:IntKind.wrap .u64 (IntKind.wrap .u64 (IntKind.wrap .u64 (5*c)+q)+1)=(((5*c+q+1) % 18446744073709551616:Nat):Int):=by
  rw [wrap_u64,wrap_u64,wrap_u64];omega
 rw [e,bAnd_mask hl (Nat.mod_lt _ (by decide))]
 congr 1
 exact Nat.mod_mod_of_dvd _ ((Nat.pow_dvd_pow 2 (show log<=64 by omega)))
theorem trNext_fst {log:Nat} (x:Nat × Nat):(trNext log x).1<2 ^ log:=Nat.mod_lt _ (pow_pos' log)
theorem trNext_snd {log:Nat} (x:Nat × Nat) (h:x.2<18446744073709551616):(trNext log x).2<18446744073709551616:=by
 unfold trNext;simp only;omega
theorem trFrom_fst {log:Nat} (h:Int):∀n,(trFrom log (trStart log h) n).1<2 ^ log
 | 0=>Nat.mod_lt _ (pow_pos' log)
 | n+1=>trNext_fst _
theorem trFrom_snd {log:Nat} (h:Int):∀n,(trFrom log (trStart log h) n).2<18446744073709551616
 | 0=>u64_lt' h
 | n+1=>trNext_snd _ (trFrom_snd h n)
end Go.Fw
