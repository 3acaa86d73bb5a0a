/- Part of a proof over the given program: texts of lemmas (conditions: none beyond each lemma as stated). -/
import Derived.Test.YtdmoefbfepeeaaaGreatDoorN17
import Derived.Laws.Strings
set_option linter.unnecessarySimpa false
set_option linter.unusedVariables false
set_option linter.unusedSimpArgs false

namespace Go.Fw
open Go.Proofs Go.RowKit
theorem nilA94 (x:TypeId):∀w:World,(Instr.typeAssert .nilIface x 94 true).run Tryz.prog w=.ok (.tuple #[.pointer none,.bool false]) w:=ta_nil Tryz.underlying94 rfl Tryz.zeroValue94 x
theorem yesA94 (x:TypeId) (v:Value):∀w:World,(Instr.typeAssert (.iface 94 v) x 94 true).run Tryz.prog w=.ok (.tuple #[v,.bool true]) w:=ta_yes Tryz.underlying94 rfl x v
theorem nilA111 (x:TypeId):∀w:World,(Instr.typeAssert .nilIface x 111 true).run Tryz.prog w=.ok (.tuple #[.pointer none,.bool false]) w:=ta_nil Tryz.underlying111 rfl Tryz.zeroValue111 x
theorem nilA162 (x:TypeId):∀w:World,(Instr.typeAssert .nilIface x 162 true).run Tryz.prog w=.ok (.tuple #[.pointer none,.bool false]) w:=ta_nil Tryz.underlying162 rfl Tryz.zeroValue162 x
theorem nilA163 (x:TypeId):∀w:World,(Instr.typeAssert .nilIface x 163 true).run Tryz.prog w=.ok (.tuple #[.pointer none,.bool false]) w:=ta_nil Tryz.underlying163 rfl Tryz.zeroValue163 x
theorem nilA284 (x:TypeId):∀w:World,(Instr.typeAssert .nilIface x 284 true).run Tryz.prog w=.ok (.tuple #[.pointer none,.bool false]) w:=ta_nil Tryz.underlying284 rfl Tryz.zeroValue284 x
theorem nilA105 (x:TypeId):∀w:World,(Instr.typeAssert .nilIface x 105 true).run Tryz.prog w=.ok (.tuple #[.agg #[.int .i64 0,.string ⟨#[]⟩],.bool false]) w:=ta_nil Tryz.underlying105 rfl Tryz.zeroValue105 x
theorem nilA285 (x:TypeId):∀w:World,(Instr.typeAssert .nilIface x 285 true).run Tryz.prog w=.ok (.tuple #[.pointer none,.bool false]) w:=ta_nil Tryz.underlying285 rfl Tryz.zeroValue285 x
theorem nilA190 (x:TypeId):∀w:World,(Instr.typeAssert .nilIface x 190 true).run Tryz.prog w=.ok (.tuple #[.pointer none,.bool false]) w:=ta_nil Tryz.underlying190 rfl Tryz.zeroValue190 x
theorem nilA310 (x:TypeId):∀w:World,(Instr.typeAssert .nilIface x 310 true).run Tryz.prog w=.ok (.tuple #[.pointer none,.bool false]) w:=ta_nil Tryz.underlying310 rfl Tryz.zeroValue310 x
theorem C258 {w:World} {base:Nat} {ov:Value} {op:List Nat} (h:w.ownsRow base 3 1 ov op.length (op.map λ (x:Nat)=>Value.int .i64 x)) (hl:op.length<=1000) (v:Nat) :
  Calls Tryz.prog 258 #[ov,.int .i64 v] w λ e w'=>e=.returned (.bool (decide (v ∈ op)))/\w'=w:=by
 obtain ⟨a,c,rfl⟩:∃a c,ov=.slice a op.length c:=by
  rcases h.2 with ⟨h1,h2⟩ | ⟨g,cap,cur,h1,_⟩
  ·exact ⟨_,_,by rw [h1,h2]⟩
  ·exact ⟨_,_,h1⟩
 refine ret_mono (V258_sound a op.length c v w (λ r w'=>r=.bool (decide (v ∈ op))/\w'=w) ?_) (by rintro _ _ ⟨rfl,h⟩;exact ⟨rfl,h⟩)
 unfold V258
 refine (V314_sound a op.length c v w (λ r w'=>(∃i:Int,r=.int .i64 i/\(decide (i>=0))=decide (v ∈ op))/\w'=w) ?_).mono ?_
 ·unfold V314
  refine ⟨λ i w'=>0<=i/\i<=op.length/\v ∉ op.take i.toNat/\w'=w,λ i _=>(op.length-i).toNat,⟨by omega,by omega,by simp,rfl⟩,?_⟩
  rintro j i w1 ⟨hi,hle,hn,rfl⟩
  refine bsel_split (λ hlt=>?_) λ hge=>?_
  ·simp at hlt
   obtain ⟨n,rfl⟩:=Int.eq_ofNat_of_zero_le hi
   have hn':n<op.length:=by omega
   obtain ⟨g,cap,hv,_,hc⟩:=row_cell h (i:=n) (x:=.int .i64 op[n]) (by simp [hn'])
   cases hv
   refine idxK_of (by omega) ⟨op[n],by simpa using hc,bsel_split (λ he=>?_) λ he=>?_⟩
   ·refine ⟨⟨_,rfl,?_⟩,rfl⟩
    have hm:v ∈ op:=by
     have:(v:Int)=op[n]:=by simpa using he
     have:v=op[n]:=by omega
     rw [this];exact List.getElem_mem hn'
    simp [hm]
   ·rw [wrap_i64 (by omega)]
    refine ⟨⟨by omega,by omega,?_,rfl⟩,by simp only;omega⟩
    rw [show ((n:Int)+1).toNat=n+1 by omega,List.take_succ_eq_append_getElem hn',List.mem_append]
    rintro (hm | hm)
    ·exact hn (by simpa using hm)
    ·simp at hm
     simp at he
     omega
  ·simp at hge
   refine ⟨⟨-1,rfl,?_⟩,rfl⟩
   have:v ∉ op:=by rwa [List.take_of_length_le (by omega)] at hn
   simp [this]
 ·rintro _ w' ⟨_,rfl,⟨i,rfl,he⟩,rfl⟩
  exact ⟨_,rfl,by rw [he],rfl⟩
theorem tellL_on {F:Nat->Out->Out} {first:Bool} {k:Nat} {ks:List Nat} {o:Out} (h:o.2=true):tellL F first (k :: ks) o=tellL F false ks (F k (if first then o else emit [44,32] o)):=by
 conv=>lhs;unfold tellL
 rw [h]
theorem tellL_off {F:Nat->Out->Out} {first:Bool} {ks:List Nat} {o:Out} (h:o.2=false):tellL F first ks o=o:=by
 cases ks with
 | nil=>rfl
 | cons k ks=>unfold tellL;rw [h]
section
variable {N b l p:Nat} {Rec:LoopState->Option Code->Obj} {w0:World} {s:Option Addr}
theorem say1 (hY:Yld N b l Rec) {op:List Nat} {o:Out} {w:World} {y:ByteArray} (h:PSt N b l p Rec w0 s op o w) (hy:y.size<=10000000000000) {R:Ending->World->Prop}
  (hR:∀w',PSt N b l p Rec w0 s op (emit (bs y) o) w'->Keep (Pfp N b l p w) w w'->R (.returned (.tuple #[])) w') :
  newK w #[.string y] 9 λ a w1=>Calls Tryz.prog 199 #[.pointer (some ⟨p,0,none⟩),.slice (some a) 1 1] w1 R:=by
 refine newK_of λ a w1 ha hb hk=>?_
 refine (C199 hY (h.no hk) (h.mine hY hb (by omega) (by decide) (by decide)) hy).mono ?_
 rintro _ w2 ⟨rfl,h2,hk2⟩
 exact hR w2 h2 ((Keep.of_no hk).pfp hk2)
def Tells (N b l p:Nat) (Rec:LoopState->Option Code->Obj) (w0:World) (s:Option Addr) (op:List Nat) (D:Nat->Prop) (F:Nat->Out->Out):Prop:=
 ∀(v:Nat) (o:Out) (w:World),D v->PSt N b l p Rec w0 s op o w->Calls Tryz.prog 119 #[.pointer (some ⟨p,0,none⟩),.int .i64 v] w λ e w'=>e=.returned (.tuple #[])/\PSt N b l p Rec w0 s op (F v o) w'/\Keep (Pfp N b l p w) w w'
theorem callFunc119 (x y:Value) (w:World):(callFunc 119 #[x,y]).run Tryz.prog w=.ok (.enter 119 #[x,y]) w:=by kernel_rfl
theorem callFunc192 (x y:Value) (w:World):(callFunc 192 #[x,y]).run Tryz.prog w=.ok (.enter 192 #[x,y]) w:=by kernel_rfl
theorem C259 (hY:Yld N b l Rec) {op:List Nat} {D:Nat->Prop} {F:Nat->Out->Out} (hT:Tells N b l p Rec w0 s op D F) {o:Out} {w:World} {ga:Option Addr} {c:Nat} {kids:List Nat} (h:PSt N b l p Rec w0 s op o w)
  (hk:∀j k,kids[j]?=some k->∃q,ga=some q/\w0.cell? (q.add j)=some (.int .i64 (k:Nat))) (hD:∀k ∈ kids,D k) (hl:kids.length<1000000000000) :
  Calls Tryz.prog 259 #[.pointer (some ⟨p,0,none⟩),.slice ga kids.length c,.func (.func 119) #[.pointer (some ⟨p,0,none⟩)] #[]] w λ e w'=>e=.returned (.tuple #[])/\PSt N b l p Rec w0 s op (tellL F true kids o) w'/\Keep (Pfp N b l p w) w w':=by
 refine ret_mono (V259_sound _ ga kids.length c _ w (λ r w'=>r=.tuple #[]/\PSt N b l p Rec w0 s op (tellL F true kids o) w'/\Keep (Pfp N b l p w) w w') ?_) (by rintro _ _ ⟨rfl,h⟩;exact ⟨rfl,h⟩)
 unfold V259
 refine ⟨λ i w'=>0<=i/\i<=kids.length/\∃o',PSt N b l p Rec w0 s op o' w'/\Keep (Pfp N b l p w) w w'/\tellL F true kids o=tellL F (decide (i=0)) (kids.drop i.toNat) o',λ i _=>(kids.length-i).toNat,⟨by omega,by omega,o,h,Keep.refl _ _,by simp⟩,?_⟩
 rintro j i w1 ⟨hi,hle,o',h1,hk1,he⟩
 refine bsel_split (λ hlt=>?_) λ hge=>?_
 ·simp at hlt
  obtain ⟨n,rfl⟩:=Int.eq_ofNat_of_zero_le hi
  have hn:n<kids.length:=by omega
  obtain ⟨q,rfl,hc⟩:=hk n kids[n] (List.getElem?_eq_getElem hn)
  simp only [Int.toNat_natCast] at he
  rw [List.drop_eq_getElem_cons hn] at he
  refine idxK_of hn ⟨kids[n],by rw [Nat.mul_one];exact h1.keep.cell hc id,?_⟩
  rw [nilK_some]
  obtain ⟨ov,hp,hrow⟩:=h1.ex
  refine ⟨o'.2,hp.add 3 rfl,bsel_split (λ ho=>?_) λ ho=>?_⟩
  ·refine ⟨rfl,?_,hk1⟩
   have ho:o'.2=false:=by simpa using ho
   rw [he,tellL_off ho]
   exact h1
  ·have ho:o'.2=true:=by simpa using ho
   rw [tellL_on ho] at he
   have hgo:∀(o2:Out) (w2:World),PSt N b l p Rec w0 s op o2 w2->Keep (Pfp N b l p w) w w2->o2=(if decide ((n:Int)=0)=true then o' else emit [44,32] o')->
     CallV Tryz.prog (.func (.func 119) #[.pointer (some ⟨p,0,none⟩)] #[]) #[.int .i64 (kids[n]:Nat)] w2 λ e29 w30=>∃t31:Value,e29=.returned (t31)/\
      ((0<=IntKind.wrap .i64 ((n:Int)+1)/\IntKind.wrap .i64 ((n:Int)+1)<=kids.length/\∃o',PSt N b l p Rec w0 s op o' w30/\Keep (Pfp N b l p w) w w30/\tellL F true kids o=tellL F (decide (IntKind.wrap .i64 ((n:Int)+1)=0)) (kids.drop (IntKind.wrap .i64 ((n:Int)+1)).toNat) o')/\
       (kids.length-IntKind.wrap .i64 ((n:Int)+1)).toNat<((kids.length:Int)-(n:Int)).toNat):=by
    intro o2 w2 h2 hk2 ho2
    refine ⟨callFunc119 _ _ _,(hT kids[n] o2 w2 (hD _ (List.getElem_mem hn)) h2).mono ?_⟩
    rintro _ w3 ⟨rfl,h3,hk3⟩
    refine ⟨_,rfl,?_⟩
    rw [wrap_i64 (by omega)]
    refine ⟨⟨by omega,by omega,_,h3,hk2.pfp hk3,?_⟩,by omega⟩
    rw [he,<-ho2,show decide ((n:Int)+1=0)=false by simp;omega,show ((n:Int)+1).toNat=n+1 by omega]
   refine bsel_split (λ hp0=>?_) λ hp0=>?_
   ·refine say1 hY h1 (y:=⟨#[44,32]⟩) (by decide) λ w2 h2 hk2=>⟨_,rfl,?_⟩
    unfold V259J1
    exact hgo _ w2 h2 (hk1.pfp hk2) (by rw [if_neg (by simp at hp0 ⊢;omega)];rfl)
   ·unfold V259J1
    exact hgo _ w1 h1 hk1 (by rw [if_pos (by simp at hp0 ⊢;omega)])
 ·simp at hge
  refine ⟨rfl,?_,hk1⟩
  rw [he,List.drop_of_length_le (by omega)]
  exact h1
theorem CallV_mono {P:Program} {f:FuncId} {fs cs args:Array Value} {x:Value} {w:World} {R R':Ending->World->Prop} (hx:x=.func (.func f) fs cs) (h:CallV P x args w R) (hR:∀e w',R e w'->R' e w'):CallV P x args w R':=by
 subst hx
 exact ⟨h.1,h.2.mono hR⟩
theorem C191 (hY:Yld N b l Rec) {op:List Nat} {o:Out} {w:World} (v:Nat) {fx:FuncId} {fs cs:Array Value} {x:Value} (hx:x=.func (.func fx) fs cs) {F:Out->Out} (h:PSt N b l p Rec w0 s op o w) (hop:op.length<=20)
  (hT:v ∉ op->op.length<20->∀w1,PSt N b l p Rec w0 s (op ++ [v]) o w1->Keep (Pfp N b l p w) w w1->CallV Tryz.prog x #[] w1 λ e w'=>(∃t,e=.returned t)/\PSt N b l p Rec w0 s (op ++ [v]) (F o) w'/\Keep (Pfp N b l p w1) w1 w') :
  Calls Tryz.prog 191 #[.pointer (some ⟨p,0,none⟩),.int .i64 v,x] w λ e w'=>e=.returned (.tuple #[])/\PSt N b l p Rec w0 s op (if v ∈ op\/20<=op.length then emit dots o else F o) w'/\Keep (Pfp N b l p w) w w':=by
 refine ret_mono (V191_sound _ v x w (λ r w'=>r=.tuple #[]/\PSt N b l p Rec w0 s op (if v ∈ op\/20<=op.length then emit dots o else F o) w'/\Keep (Pfp N b l p w) w w') ?_) (by rintro _ _ ⟨rfl,h⟩;exact ⟨rfl,h⟩)
 obtain ⟨ov,hp,hrow⟩:=h.ex
 obtain ⟨a,c,rfl⟩:∃a c,ov=.slice a op.length c:=by
  rcases hrow.2 with ⟨h1,h2⟩ | ⟨g,cap,cur,h1,_⟩
  ·exact ⟨_,_,by rw [h1,h2]⟩
  ·exact ⟨_,_,h1⟩
 have hdots:(v ∈ op\/20<=op.length)->V191J1 (λ r w'=>r=.tuple #[]/\PSt N b l p Rec w0 s op (if v ∈ op\/20<=op.length then emit dots o else F o) w'/\Keep (Pfp N b l p w) w w') (some ⟨p,0,none⟩) v x true w:=by
  intro hc
  unfold V191J1
  refine bsel_pos rfl (say1 hY h (y:=⟨#[46,46,46]⟩) (by decide) λ w2 h2 hk2=>⟨_,rfl,rfl,?_,hk2⟩)
  rw [if_pos hc]
  exact h2
 unfold V191
 rw [nilK_some]
 refine ⟨_,_,_,hp.add 2 rfl,(C258 hrow (by omega) v).mono ?_⟩
 rintro _ w1 ⟨rfl,rfl⟩
 refine ⟨_,rfl,bsel_split (λ hc=>hdots (.inl (by simpa using hc))) λ hc=>?_⟩
 have hc:v ∉ op:=by simpa using hc
 rw [nilK_some]
 refine ⟨_,_,_,hp.add 2 rfl,?_⟩
 by_cases hd:20<=op.length
 ·rw [show decide ((op.length:Int)>=20)=true by simp;omega]
  exact hdots (.inr hd)
 rw [show decide ((op.length:Int)>=20)=false by simp;omega]
 have hne:¬(v ∈ op\/20<=op.length):=λ hh=>hh.elim hc hd
 rw [if_neg hne]
 unfold V191J1
 refine bsel_neg rfl ?_
 simp only [nilK_some]
 refine ⟨_,_,_,hp.add 2 rfl,newK_of λ a2 w2 ha2 hb2 hk2=>?_⟩
 have hold:=h.old
 refine appendRow rowInts (hk2.nrow hrow) hb2 rfl (by omega) (by have:=h.keep.size;have:=hk2.size;omega) λ g cap w3 hrow3 hk3 hat=>?_
 have hp2:=hk2.nblk hp
 have hp3:=hk3.blk hp2 λ e=>ownsRow_ne (hk2.nrow hrow) hp2 (by decide) e
 refine stK_add hp3 (by simp) λ w4 hp4 hk4=>?_
 have hk24:Keep (Pfp N b l p w1) w1 w4:=by
  refine ((Keep.of_no hk2).trans (fp':=λ k=>(Value.slice a op.length c).ownBlock=some k) hk3 λ k hk hg=>?_).trans hk4 λ k _ e=>.inr (.inl e)
  exact .inr (.inr (.inr ⟨(hrow.lt k hg).1,.inr (ownsRow_etype hrow hg)⟩))
 have hrow4:=hk4.row hrow3 λ g' hg' e=>ownsRow_ne hrow3 hp3 (by decide) (e ▸ hg')
 have hy4:YSt N b l Rec o w4:=by
  refine ((h.y.keep hk2 id λ _ _ h=>h.elim).keep hk3 (λ e=>?_) λ k _ e=>?_).keep hk4 (λ e=>?_) λ k _ e=>?_
  ·have h1:=ownsRow_etype hrow e
   rw [h.y.etl hY.nc] at h1;cases h1
  ·rw [ownsRow_etype (hk2.nrow hrow) e];exact ⟨by decide,by decide⟩
  ·have h1:=h.y.etl hY.nc
   rw [e,hp.etype] at h1;cases h1
  ·subst e;rw [hp3.etype];exact ⟨by decide,by decide⟩
 have hp4':PSt N b l p Rec w0 s (op ++ [v]) o w4:=by
  refine ⟨((h.keep.no hk2).news hk3 λ k e=>?_).news hk4 λ k e=>?_,hy4,⟨_,hp4,?_⟩,hold⟩
  ·have:=(hrow.lt k e).1;omega
  ·omega
  ·simpa using hrow4
 refine CallV_mono hx (hT hc (by omega) w4 hp4' hk24) ?_
 rintro _ w5 ⟨⟨t,rfl⟩,h5,hk5⟩
 refine ⟨_,rfl,?_⟩
 obtain ⟨ov5,hp5,hrow5⟩:=h5.ex
 obtain ⟨g5,cap5,rfl,_,_⟩:=row_cell hrow5 (i:=op.length) (x:=.int .i64 v) (by simp)
 refine ⟨_,_,_,hp5.drew.add 2 rfl,_,_,_,hp5.drew.add 2 rfl,?_⟩
 have hlen:(op ++ [v]).length=op.length+1:=by simp
 rw [hlen,wrap_i64 (by omega)]
 have hcap:op.length+1<=cap5:=by
  rcases hrow5.2 with ⟨h1,_⟩ | ⟨g,cap,cur,h1,_,_,h2,_⟩
  ·cases h1
  ·cases h1;omega
 refine ⟨⟨by omega,by omega,by omega⟩,?_⟩
 have e1:(if (cap5:Int)=0 then (some (⟨g5,0,none⟩:Addr)) else (some (⟨g5,0,none⟩:Addr)).map (·.add ((0:Int).toNat*1)))=some ⟨g5,0,none⟩:=by
  rw [if_neg (by omega)];simp
 rw [e1]
 have e2:(((op.length+1:Nat):Int)-1).toNat-(0:Int).toNat=op.length:=by omega
 have e3:cap5-(0:Int).toNat=cap5:=by simp
 rw [e2,e3]
 refine stK_add hp5.drew (by simp) λ w6 hp6 hk6=>⟨trivial,⟨?_,?_,⟨_,hp6,?_⟩,hold⟩,?_⟩
 ·exact (h5.keep.drew).news hk6 (by rintro k rfl;omega)
 ·refine (h5.y.keep (Keep.drawn w5) id λ _ _ h=>h.elim).keep hk6 (λ e=>?_) λ k _ e=>?_
  ·have h1:=h5.y.etl hY.nc
   rw [e,hp5.etype] at h1;cases h1
  ·subst e;rw [hp5.drew.etype];exact ⟨by decide,by decide⟩
 ·have hr:=hrow5
  rw [hlen,List.map_append] at hr
  have hr2:=ownsRow_pop (by simp) hr
  exact hk6.row ((Keep.drawn w5).nrow hr2) λ g' hg' e=>by
   have:=ownsRow_ne hrow5 hp5 (by decide)
   exact this (e ▸ hg')
 ·refine (hk24.pfp hk5).pfp ?_
  exact (Keep.of_no (Keep.drawn w5)).trans hk6 λ k _ e=>.inr (.inl e)
structure Gr (w0:World) (s:Option Addr) (D:Nat->Prop) (G:Nat->SV):Prop where
 leaf:∀v t,D v->G v=.leaf t->t≠[]/\t.length<=10000000000000/\(∀w,Keep No w0 w->Calls Tryz.prog 48 #[.pointer s,.int .i64 v] w λ e w'=>e=.returned .nilIface/\Keep No w w')/\
  ∀w,Keep No w0 w->Calls Tryz.prog 34 #[.pointer s,.int .i64 v] w λ e w'=>e=.returned (.string ⟨t.toArray⟩)/\Keep No w w'
 row:∀v tup kids,D v->G v=.row tup kids->kids.length<1000000000000/\(∀k ∈ kids,D k)/\∃r num ga c,Blk w0 r 100 [num,.slice ga kids.length c,.int .i64 (if tup then 5 else 6)]/\
  (∀j k,kids[j]?=some k->∃q,ga=some q/\w0.cell? (q.add j)=some (.int .i64 (k:Nat)))/\
  ∀w,Keep No w0 w->Calls Tryz.prog 48 #[.pointer s,.int .i64 v] w λ e w'=>e=.returned (.iface 94 (.pointer (some ⟨r,0,none⟩)))/\Keep No w w'
theorem C193 (hY:Yld N b l Rec) {op:List Nat} {D:Nat->Prop} {F:Nat->Out->Out} (hT:Tells N b l p Rec w0 s op D F) {o:Out} {w:World} {r:Nat} {num:Value} {ga:Option Addr} {c:Nat} {kids:List Nat} {tup:Bool}
  (h:PSt N b l p Rec w0 s op o w) (hr:Blk w0 r 100 [num,.slice ga kids.length c,.int .i64 (if tup then 5 else 6)])
  (hk:∀j k,kids[j]?=some k->∃q,ga=some q/\w0.cell? (q.add j)=some (.int .i64 (k:Nat))) (hD:∀k ∈ kids,D k) (hl:kids.length<1000000000000) :
  Calls Tryz.prog 193 #[.pointer (some ⟨p,0,none⟩),.pointer (some ⟨r,0,none⟩)] w λ e w'=>e=.returned (.tuple #[])/\PSt N b l p Rec w0 s op (emit (shuts tup kids.length) (tellL F true kids (emit (opens tup) o))) w'/\Keep (Pfp N b l p w) w w':=by
 refine ret_mono (V193_sound _ _ w (λ r w'=>r=.tuple #[]/\PSt N b l p Rec w0 s op (emit (shuts tup kids.length) (tellL F true kids (emit (opens tup) o))) w'/\Keep (Pfp N b l p w) w w') ?_) (by rintro _ _ ⟨rfl,h⟩;exact ⟨rfl,h⟩)
 have hr':=h.keep.nblk hr
 have hgo:∀ob sb:ByteArray,bs ob=opens tup->bs sb=shuts tup kids.length->ob.size<=10->sb.size<=10->V193J1 (λ r w'=>r=.tuple #[]/\PSt N b l p Rec w0 s op (emit (shuts tup kids.length) (tellL F true kids (emit (opens tup) o))) w'/\Keep (Pfp N b l p w) w w') (some ⟨p,0,none⟩) (some ⟨r,0,none⟩) ob sb w:=by
  intro ob sb ho hs hos hss
  unfold V193J1
  refine say1 hY h (y:=ob) (by omega) λ w2 h2 hk2=>⟨_,rfl,?_⟩
  rw [ho] at h2
  have hr2:=h2.keep.nblk hr
  rw [nilK_some]
  refine ⟨_,_,_,hr2.add 1 rfl,(C259 hY hT h2 hk hD hl).mono ?_⟩
  rintro _ w3 ⟨rfl,h3,hk3⟩
  refine ⟨_,rfl,say1 hY h3 (y:=sb) (by omega) λ w4 h4 hk4=>⟨_,rfl,rfl,?_,(hk2.pfp hk3).pfp hk4⟩⟩
  rw [hs] at h4
  exact h4
 unfold V193
 refine (V158_sound _ w (λ v w'=>v=.int .i64 (if tup then 5 else 6)/\w'=w) ?_).mono ?_
 ·unfold V158
  rw [nilK_some]
  exact ⟨_,hr'.add 2 rfl,rfl,rfl⟩
 ·rintro _ w1 ⟨_,rfl,rfl,rfl⟩
  refine ⟨_,rfl,?_⟩
  cases tup
  ·exact bsel_neg (by decide) (hgo _ _ rfl rfl (by decide) (by decide))
  ·refine bsel_pos (by decide) ?_
   rw [nilK_some]
   refine ⟨_,_,_,hr'.add 1 rfl,bsel_split (λ h1=>?_) λ h1=>?_⟩
   ·have h1:kids.length=1:=by
     have:(kids.length:Int)=1:=by simpa using h1
     omega
    unfold V193J2
    exact hgo _ _ rfl (by simp only [shuts,h1,if_true];rfl) (by decide) (by decide)
   ·have h1:¬kids.length=1:=by
     have:¬(kids.length:Int)=1:=by simpa using h1
     omega
    unfold V193J2
    exact hgo _ _ rfl (by simp only [shuts,if_neg h1,if_true];rfl) (by decide) (by decide)
theorem tellV_off {G:Nat->SV} {f:Nat} {op:List Nat} {v:Nat} {o:Out} (h:o.2=false):tellV G f op v o=o:=by
 unfold tellV;rw [h]
theorem tellV_row {G:Nat->SV} {f:Nat} {op:List Nat} {v:Nat} {o:Out} {tup:Bool} {kids:List Nat} (h:o.2=true) (hg:G v=.row tup kids) (hf:f+op.length=20) :
  tellV G f op v o=if v ∈ op\/20<=op.length then emit dots o else emit (shuts tup kids.length) (tellL (λ k o=>tellV G (f-1) (op ++ [v]) k o) true kids (emit (opens tup) o)):=by
 conv=>lhs;unfold tellV
 rw [h]
 simp only [hg]
 cases f with
 | zero=>rw [if_pos (.inr (by omega))]
 | succ f=>
  by_cases hv:v ∈ op
  ·simp [hv]
  ·have h20:¬20<=op.length:=by omega
   simp [hv,h20]
theorem C119_step (hY:Yld N b l Rec) {D:Nat->Prop} {G:Nat->SV} (hG:Gr w0 s D G) (f:Nat) (op:List Nat) (hop:f+op.length=20)
  (ih:op.length<20->∀v,Tells N b l p Rec w0 s (op ++ [v]) D (λ u o=>tellV G (f-1) (op ++ [v]) u o)):Tells N b l p Rec w0 s op D (λ v o=>tellV G f op v o):=by
 intro v o w hDv h
 refine ret_mono (V119_sound _ v w (λ r w'=>r=.tuple #[]/\PSt N b l p Rec w0 s op (tellV G f op v o) w'/\Keep (Pfp N b l p w) w w') ?_) (by rintro _ _ ⟨rfl,h⟩;exact ⟨rfl,h⟩)
 unfold V119
 refine newK_of λ a w1 ha hb hk1=>?_
 have h1:=h.no hk1
 have hm1:=h.mine hY hb (by omega) (by decide) (by decide)
 obtain ⟨ov,hp1,hrow1⟩:=h1.ex
 refine ⟨_,by simpa using hb.cell (o:=0) rfl,?_⟩
 rw [nilK_some]
 refine ⟨o.2,hp1.add 3 rfl,bsel_split (λ ho=>?_) λ ho=>?_⟩
 ·have ho:o.2=false:=by simpa using ho
  refine ⟨rfl,?_,Keep.of_no hk1⟩
  rw [tellV_off ho]
  exact h1
 have ho:o.2=true:=by simpa using ho
 refine ⟨_,by simpa using hb.cell (o:=0) rfl,?_⟩
 rw [nilK_some]
 refine ⟨_,hp1.add 0 rfl,?_⟩
 cases hg:G v with
 | leaf t=>
  obtain ⟨ht0,htl,hobj,htag⟩:=hG.leaf v t hDv hg
  refine (hobj w1 h1.keep).mono ?_
  rintro _ w2 ⟨rfl,hk2⟩
  have h2:=h1.no hk2
  have hb2:=hk2.nblk hb
  obtain ⟨ov2,hp2,_⟩:=h2.ex
  refine ⟨_,rfl,_,_,nilA94 _,bsel_neg rfl ⟨_,_,nilA111 _,bsel_neg rfl ⟨_,_,nilA162 _,bsel_neg rfl ⟨_,_,nilA163 _,bsel_neg rfl ⟨_,_,nilA284 _,bsel_neg rfl ⟨_,_,_,nilA105 _,bsel_neg rfl ⟨_,_,nilA285 _,bsel_neg rfl ⟨_,_,nilA190 _,bsel_neg rfl ⟨_,_,nilA310 _,bsel_neg rfl ?_⟩⟩⟩⟩⟩⟩⟩⟩⟩
  rw [eqNilI_nil]
  refine bsel_pos rfl ⟨_,by simpa using hb2.cell (o:=0) rfl,?_⟩
  rw [nilK_some]
  refine ⟨_,hp2.add 0 rfl,(htag w2 h2.keep).mono ?_⟩
  rintro _ w3 ⟨rfl,hk3⟩
  have h3:=h2.no hk3
  refine ⟨_,rfl,bsel_pos (by
   cases t with
   | nil=>exact absurd rfl ht0
   | cons x l=>rw [ByteArray.toList_eq,ByteArray.toList_eq];simp) ⟨_,by simpa using (hk3.nblk hb2).cell (o:=0) rfl,?_⟩⟩
  refine say1 hY h3 (y:=⟨t.toArray⟩) (by show t.toArray.size<=_;simpa using htl) λ w4 h4 hk4=>⟨_,rfl,rfl,?_,(Keep.of_no ((hk1.no hk2).no hk3)).pfp hk4⟩
  rw [tellV_leaf hg]
  simpa [bs] using h4
 | row tup kids=>
  obtain ⟨hkl,hkD,r,num,ga,c,hr,hkids,hobj⟩:=hG.row v tup kids hDv hg
  refine (hobj w1 h1.keep).mono ?_
  rintro _ w2 ⟨rfl,hk2⟩
  have h2:=h1.no hk2
  have hb2:=hk2.nblk hb
  have hm2:=hm1.no hk2
  refine ⟨_,rfl,_,_,yesA94 _ _,bsel_pos rfl (newK_of λ a3 w3 ha3 hb3 hk3=>?_)⟩
  have h3:=h2.no hk3
  have hm3:=hm2.no hk3
  refine stK_of hb3 (by simp) λ w4 hb4 hk4=>?_
  have hsz:=h.keep.size
  have h4:PSt N b l p Rec w0 s op o w4:=by
   obtain ⟨q1,q2,⟨ov,q3,q4⟩,q5⟩:=h3
   have hsz2:=h2.keep.size
   refine ⟨q1.news hk4 (by rintro k rfl;omega),q2.keep hk4 (λ e=>?_) (λ k _ e=>?_),⟨ov,hk4.blk q3 λ e=>?_,hk4.row q4 λ g hg e=>?_⟩,q5⟩
   ·have:=h2.y.lt;omega
   ·subst e;rw [hb3.etype];exact ⟨by decide,by decide⟩
   ·obtain ⟨_,q,_⟩:=h2.ex;have:=q.lt;omega
   ·have h5:=ownsRow_etype q4 hg
    subst e
    rw [hb3.etype] at h5;cases h5
  have hk24:Keep (Pfp N b l p w) w w4:=by
   refine (Keep.of_no ((hk1.no hk2).no hk3)).trans (fp':=λ k=>k=a3) hk4 λ k hk e=>?_
   have:=(hk1.no hk2).size;omega
  have hm4:Mine b l p w4 a 229 [.pointer (some ⟨p,0,none⟩)]:=⟨hk4.blk hm3.blk λ e=>by have:=hm2.blk.lt;omega,hm3.ne⟩
  have hm4':Mine b l p w4 a3 94 [.pointer (some ⟨r,0,none⟩)]:=h2.mine hY (by simpa using hb4) (by omega) (by decide) (by decide)
  refine ⟨_,by simpa using hm4.blk.cell (o:=0) rfl,?_⟩
  refine (C191 hY v rfl (F:=λ o=>emit (shuts tup kids.length) (tellL (λ k o=>tellV G (f-1) (op ++ [v]) k o) true kids (emit (opens tup) o))) h4 (by omega) λ hv hlt w5 h5 hk5=>?_).mono ?_
  ·refine ⟨callFunc192 _ _ _,(V192_sound ⟨a,0,none⟩ ⟨a3,0,none⟩ w5 (λ _ w'=>PSt N b l p Rec w0 s (op ++ [v]) (emit (shuts tup kids.length) (tellL (λ k o=>tellV G (f-1) (op ++ [v]) k o) true kids (emit (opens tup) o))) w'/\Keep (Pfp N b l p w5) w5 w') ?_).mono ?_⟩
   ·unfold V192
    refine ⟨_,by simpa using (hm4.keep hk5).blk.cell (o:=0) rfl,_,by simpa using (hm4'.keep hk5).blk.cell (o:=0) rfl,?_⟩
    refine (C193 hY (ih hlt v) h5 hr hkids hkD hkl).mono ?_
    rintro _ w6 ⟨rfl,h6,hk6⟩
    exact ⟨_,rfl,h6,hk6⟩
   ·rintro _ w6 ⟨t,rfl,h6,hk6⟩
    exact ⟨⟨_,rfl⟩,h6,hk6⟩
  ·rintro _ w6 ⟨rfl,h6,hk6⟩
   refine ⟨_,rfl,rfl,?_,hk24.pfp hk6⟩
   rw [tellV_row ho hg hop]
   exact h6
theorem C119 (hY:Yld N b l Rec) {D:Nat->Prop} {G:Nat->SV} (hG:Gr w0 s D G):∀(f:Nat) (op:List Nat),f+op.length=20->Tells N b l p Rec w0 s op D (λ v o=>tellV G f op v o)
 | 0,op,hop=>C119_step hY hG 0 op hop λ hlt=>by omega
 | f+1,op,hop=>C119_step hY hG (f+1) op hop λ _ v=>C119 hY hG f (op ++ [v]) (by simp;omega)
end
end Go.Fw

namespace Go.Fw
open Go.Proofs Go.RowKit
theorem C68 {w:World} {b B:Nat} {l:List UInt8} (h:BufAt w b B l):Calls Tryz.prog 68 #[.pointer (some ⟨b,0,none⟩)] w λ e w'=>e=.returned (.int .i64 l.length)/\w'=w:=by
 refine ret_mono (V68_sound _ w (λ r w'=>r=.int .i64 l.length/\w'=w) ?_) (by rintro _ _ ⟨rfl,h⟩;exact ⟨rfl,h⟩)
 obtain ⟨⟨p,v,h1,h2,h3⟩,hge⟩:=h
 obtain ⟨a,c,rfl⟩:∃a c,v=.slice a l.length c:=by
  rcases h3.2 with ⟨h1,h2⟩ | ⟨g,cap,cur,h1,_⟩
  ·exact ⟨_,_,by rw [h1,h2]⟩
  ·exact ⟨_,_,h1⟩
 unfold V68
 rw [nilK_some]
 exact ⟨_,_,_,h2.add 1 rfl,rfl,rfl⟩
section
variable {w0:World} {s:Option Addr}
theorem callFunc118 (x y z:Value) (w:World):(callFunc 118 #[x,y,z]).run Tryz.prog w=.ok (.enter 118 #[x,y,z]) w:=by kernel_rfl
theorem C118 {N b l:Nat} {Rec:LoopState->Option Code->Obj} (hY:Yld N b l Rec) {D:Nat->Prop} {G:Nat->SV} (hG:Gr w0 s D G) (hN:N=w0.heap.size) (hb:N<=b) {w:World} (hk:Keep No w0 w) (hy:YSt N b l Rec ([],true) w) {a3 a5 v:Nat}
  (h3:Blk w a3 25 [.pointer s]) (h5:Blk w a5 3 [.int .i64 v]) (hD:D v) :
  Calls Tryz.prog 118 #[.func (.yield l) #[] #[],.pointer (some ⟨a3,0,none⟩),.pointer (some ⟨a5,0,none⟩)] w λ e w'=>e=.returned (.tuple #[])/\∃p,PSt N b l p Rec w0 s [] (tellV G 20 [] v ([],true)) w'/\w.heap.size<=p/\Keep (Pfp N b l p w) w w':=by
 refine ret_mono (V118_sound _ ⟨a3,0,none⟩ ⟨a5,0,none⟩ w (λ r w'=>r=.tuple #[]/\∃p,PSt N b l p Rec w0 s [] (tellV G 20 [] v ([],true)) w'/\w.heap.size<=p/\Keep (Pfp N b l p w) w w') ?_) (by rintro _ _ ⟨rfl,h⟩;exact ⟨rfl,h⟩)
 unfold V118
 refine ⟨_,h3.cell rfl,plK_of rfl (newK_of λ p w1 hp hbp hk1=>⟨_,(hk1.nblk h5).cell rfl,?_⟩)⟩
 have hsz:=hk.size
 have hP:PSt N b l p Rec w0 s [] ([],true) w1:=⟨hk.no hk1,hy.keep hk1 id λ _ _ h=>h.elim,⟨_,hbp,World.ownsRow_nil _ _ _ _⟩,by omega,hb,hN⟩
 refine (C119 hY hG 20 [] rfl v _ w1 hD hP).mono ?_
 rintro _ w2 ⟨rfl,h2,hk2⟩
 exact ⟨_,rfl,rfl,p,h2,by omega,(Keep.of_no hk1).pfp hk2⟩
theorem text_pieces {D:Nat->Prop} {G:Nat->SV} (hG:Gr w0 s D G) {w:World} (hk:Keep No w0 w) {v:Nat} (hD:D v) (hleaf:∀u t,D u->G u=.leaf t->t.length<=1000) (x:ByteArray) :
  V32J2 (λ r w'=>r=.string ⟨(tellV G 20 [] v ([],true)).1.toArray⟩/\Keep No w0 w') s v x false w:=by
 unfold V32J2
 refine bsel_neg rfl (newK_of λ b w1 hb hbb hk1=>?_)
 refine (V67_sound s v w1 (λ r w'=>∃a3 a5,r=.func (.func 118) #[] #[.pointer (some ⟨a3,0,none⟩),.pointer (some ⟨a5,0,none⟩)]/\Blk w' a3 25 [.pointer s]/\Blk w' a5 3 [.int .i64 v]/\Keep No w1 w') ?_).mono ?_
 ·unfold V67
  exact newK_of λ a3 w2 _ h3 hk2=>newK_of λ a5 w3 _ h5 hk3=>⟨a3,a5,rfl,hk3.nblk h3,h5,hk2.no hk3⟩
 rintro _ w2 ⟨_,rfl,a3,a5,rfl,h3,h5,hk2⟩
 refine ⟨_,rfl,?_⟩
 intro Rec hnc hround
 have hN:=hk.size
 have hk02:=(hk.no hk1).no hk2
 have hb0:=bufAt_new hbb (B:=w0.heap.size) (by omega)
 have hsz2:=hk02.size
 have hY:Yld w0.heap.size b (w2.heap.size+1) Rec:=by
  refine ⟨hnc,by omega,?_⟩
  intro w3 o y K ho hys hNw hst hK
  have hl:=hst.lt
  have hls:w3.heap[w2.heap.size+1]?=some (Rec .ready none):=by have:=hst.st;rwa [ho] at this
  refine hround w3 K hls y ⟨hls,?_⟩
  have hkp:=Keep.put (w:=w3) (l:=w2.heap.size+1) (x:=Rec .busy none)
  have hbu:=hst.buf.keep hkp λ k _ e=>by subst e;rw [hst.etl hnc];exact ⟨by decide,by decide⟩
  have hlen:=hst.len
  rw [ho] at hlen
  simp only [if_true,Nat.add_zero] at hlen
  have hfin:∀(w4:World) (z:List UInt8) (t:Bool) (st:LoopState) (pd:Option Code),BufAt w4 b w0.heap.size z->Keep (Bfp b w0.heap.size (w3.putObj (w2.heap.size+1) (Rec .busy none))) (w3.putObj (w2.heap.size+1) (Rec .busy none)) w4->
    (if t then Rec .ready none else Rec .done (some (.exit 0)))=Rec st pd->emit (bs y) o=(z,t)->z.length<=10000000004096+(if t then 0 else 3)->
    (∃s p,w4.heap[w2.heap.size+1]?=some (Rec s p))/\K t (w4.putObj (w2.heap.size+1) (Rec st pd)):=by
   intro w4 z t st pd hb4 hk4 hrec he hzl
   have hnl:¬Bfp b w0.heap.size (w3.putObj (w2.heap.size+1) (Rec .busy none)) (w2.heap.size+1):=by
    have e0:etype (w3.putObj (w2.heap.size+1) (Rec .busy none)) (w2.heap.size+1)=none:=by
     unfold etype
     rw [put_get hl]
     cases hc:Rec .busy none <;> first | rfl | exact absurd hc (hnc _ _ _ _ _)
    rintro (e | ⟨_,e⟩)
    ·have:=hbu.etype;rw [<-e,e0] at this;cases this
    ·rw [e0] at e;cases e
   have hl4:w4.heap[w2.heap.size+1]?=some (Rec .busy none):=by
    rw [hk4.block _ (by simpa [World.putObj] using hl) hnl,put_get hl]
   have hk5:=Keep.put (w:=w4) (l:=w2.heap.size+1) (x:=Rec st pd)
   have hne4:etype w4 (w2.heap.size+1)=none:=by
    unfold etype
    rw [hl4]
    cases hc:Rec .busy none <;> first | rfl | exact absurd hc (hnc _ _ _ _ _)
   refine ⟨⟨_,_,hl4⟩,?_⟩
   have:=hK (w4.putObj (w2.heap.size+1) (Rec st pd)) ?_ ?_
   ·rw [he] at this;exact this
   ·rw [he]
    refine ⟨hb4.keep hk5 λ k _ e=>by subst e;rw [hne4];exact ⟨by decide,by decide⟩,?_,hzl⟩
    rw [put_get (Array.getElem?_eq_some_iff.1 hl4).1,<-hrec]
   ·refine ((hkp.mono (fp':=Yfp w0.heap.size b (w2.heap.size+1) w3) λ k _ e=>.inl e).trans hk4 λ k hk e=>?_).trans hk5 λ k _ e=>.inl e
    rcases e with e | ⟨e1,e2⟩
    ·exact .inr (.inl e)
    ·by_cases hkl:k=w2.heap.size+1
     ·exact .inl hkl
     ·refine .inr (.inr ⟨e1,?_⟩)
      unfold etype at e2 ⊢
      rw [<-hkp.block k hk hkl]
      exact e2
  refine (C68 hbu).mono ?_
  rintro _ w4 ⟨rfl,rfl⟩
  refine ⟨_,rfl,bsel_split (λ hc=>?_) λ hc=>?_⟩
  ·refine (C69 ⟨#[46,46,46]⟩ hbu (by
    have:(⟨#[46,46,46]⟩:ByteArray).size=3:=rfl
    omega) (by simpa [World.putObj] using hNw)).mono ?_
   rintro _ w5 ⟨rfl,hb5,hk5⟩
   refine ⟨_,_,rfl,hfin w5 (o.1 ++ dots) false .done (some (.exit 0)) hb5 hk5 rfl ?_ (by simp [dots];omega)⟩
   unfold emit
   rw [ho]
   simp only
   rw [if_pos (by simp at hc;omega)]
  ·have hc:o.1.length<4096:=by simp at hc;omega
   refine (C69 y hbu (by omega) (by simpa [World.putObj] using hNw)).mono ?_
   rintro _ w5 ⟨rfl,hb5,hk5⟩
   refine ⟨_,_,rfl,hfin w5 (o.1 ++ bs y) true .ready none hb5 hk5 rfl ?_ (by simp [bs_len];omega)⟩
   unfold emit
   rw [ho]
   simp only
   rw [if_neg (by omega)]
 generalize hw3:(w2.alloc (.deferred (some []))).alloc (Rec .ready none)=w3
 have hkd:Keep No w2 w3:=by subst hw3;exact (Keep.fresh w2 _).no (Keep.fresh _ _)
 have hsz3:w3.heap.size=w2.heap.size+2:=by subst hw3;simp
 have hl3:w3.heap[w2.heap.size+1]?=some (Rec .ready none):=by
  subst hw3
  rw [heap_alloc,if_pos (by simp)]
 have hd3:w3.heap[w2.heap.size]?=some (.deferred (some [])):=by
  subst hw3
  rw [heap_alloc,if_neg (by simp),heap_alloc,if_pos rfl]
 have hb3:=(hb0.no hk2).no hkd
 have hbge:w0.heap.size<=b:=by omega
 have hst3:YSt w0.heap.size b (w2.heap.size+1) Rec ([],true) w3:=⟨hb3,by rw [hl3];rfl,by simp⟩
 refine ⟨callFunc118 _ _ _ _,?_⟩
 refine (C118 hY hG rfl hbge (hk02.no hkd) hst3 (hkd.nblk h3) (hkd.nblk h5) hD).mono ?_
 rintro _ w4 ⟨rfl,p,h4,hp,hk4⟩
 refine ⟨⟨_,rfl⟩,?_⟩
 have hst4:=h4.y.st
 have hl4:=h4.y.lt
 have hbd:w2.heap.size≠b:=by
  intro e
  have:=hb3.etype
  unfold etype at this
  rw [<-e,hd3] at this;cases this
 have hd4:w4.heap[w2.heap.size]?=some (.deferred (some [])):=by
  rw [hk4.block _ (by omega) ?_,hd3]
  rintro (e | e | e | ⟨_,e⟩)
  ·omega
  ·omega
  ·exact hbd e
  ·unfold etype at e
   rw [hd3] at e
   rcases e with e | e <;> cases e
 have hend:∀(x:Obj),(∀c e f,x≠.cells c e f)->V32J1 (λ r w'=>r=.string ⟨(tellV G 20 [] v ([],true)).1.toArray⟩/\Keep No w0 w') w2 ⟨b,0,none⟩ (w4.putObj (w2.heap.size+1) x):=by
  intro x hx
  unfold V32J1
  have hkp:=Keep.put (w:=w4) (l:=w2.heap.size+1) (x:=x)
  have hb4:=h4.y.buf.keep hkp λ k _ e=>by subst e;rw [h4.y.etl hnc];exact ⟨by decide,by decide⟩
  have hsz4:=h4.keep.size
  refine (C70 hb4 (by simpa [World.putObj] using hsz4)).mono ?_
  rintro _ w5 ⟨rfl,hk5⟩
  have hdp:(w4.putObj (w2.heap.size+1) x).heap[w2.heap.size]?=some (.deferred (some [])):=by
   rw [hkp.block _ (Array.getElem?_eq_some_iff.1 hd4).1 (by omega),hd4]
  have hd5:w5.heap[w2.heap.size]?=some (.deferred (some [])):=by
   rw [hk5.block _ (Array.getElem?_eq_some_iff.1 hdp).1 ?_,hdp]
   rintro (e | ⟨_,e⟩)
   ·exact hbd e
   ·unfold etype at e
    rw [hdp] at e;cases e
  refine ⟨_,rfl,hd5,rfl,?_⟩
  refine ((h4.keep.news hkp (by rintro k rfl;omega)).news hk5 λ k e=>?_).news (Keep.put (w:=w5) (l:=w2.heap.size) (x:=.deferred none)) (by rintro k rfl;omega)
  rcases e with e | ⟨e,_⟩
  ·omega
  ·omega
 cases ho:(tellV G 20 [] v ([],true)).2
 ·rw [ho] at hst4
  exact .inr (.inl ⟨hst4,hend _ (λ c e f=>hnc _ _ _ _ _)⟩)
 ·rw [ho] at hst4
  exact .inl ⟨hst4,hend _ (λ c e f=>hnc _ _ _ _ _)⟩
theorem C32 {D:Nat->Prop} {G:Nat->SV} (hG:Gr w0 s D G) {v:Nat} (hD:D v) (hleaf:∀u t,D u->G u=.leaf t->t.length<=1000)
  (hT:Calls Tryz.prog 44 #[.pointer s,.int .i64 v] w0 λ e w'=>∃t b,e=.returned (.tuple #[.string t,.bool b])/\Keep No w0 w') :
  Calls Tryz.prog 32 #[.pointer s,.int .i64 v,.bool false] w0 λ e w'=>e=.returned (.string ⟨(tellV G 20 [] v ([],true)).1.toArray⟩)/\Keep No w0 w':=by
 refine ret_mono (V32_sound s v false w0 (λ r w'=>r=.string ⟨(tellV G 20 [] v ([],true)).1.toArray⟩/\Keep No w0 w') ?_) (by rintro _ _ ⟨rfl,h⟩;exact ⟨rfl,h⟩)
 unfold V32
 refine hT.mono ?_
 rintro _ w1 ⟨t,b,rfl,hk⟩
 exact ⟨_,_,rfl,bsel_split (λ _=>text_pieces hG hk hD hleaf t) λ _=>text_pieces hG hk hD hleaf t⟩
theorem C32_plain {v:Int} {t:ByteArray} (hT:Calls Tryz.prog 44 #[.pointer s,.int .i64 v] w0 λ e w'=>e=.returned (.tuple #[.string t,.bool true])/\Keep No w0 w') :
  Calls Tryz.prog 32 #[.pointer s,.int .i64 v,.bool true] w0 λ e w'=>e=.returned (.string t)/\Keep No w0 w':=by
 refine ret_mono (V32_sound s v true w0 (λ r w'=>r=.string t/\Keep No w0 w') ?_) (by rintro _ _ ⟨rfl,h⟩;exact ⟨rfl,h⟩)
 unfold V32
 refine hT.mono ?_
 rintro _ w1 ⟨rfl,hk⟩
 refine ⟨_,_,rfl,bsel_pos rfl ?_⟩
 unfold V32J2
 exact bsel_pos rfl ⟨rfl,hk⟩
end
end Go.Fw

namespace Go.Fw
open Go.Proofs Go.RowKit
theorem numbered160 (t:ByteArray) (w:World):(callMethod (.iface 160 (.agg #[.string t])) "lexicon/store.numbered" #[]).run Tryz.prog w=.ok (.enter 397 (#[.agg #[]] ++ #[])) w:=by kernel_rfl
theorem kind85 (w:World):(callMethod (.iface 85 (.agg #[])) "Kind" #[]).run Tryz.prog w=.ok (.enter 398 (#[.agg #[]] ++ #[])) w:=by kernel_rfl
theorem kind160 (t:ByteArray) (w:World):(callMethod (.iface 160 (.agg #[.string t])) "Kind" #[]).run Tryz.prog w=.ok (.enter 409 (#[.agg #[.string t]] ++ #[])) w:=by kernel_rfl
theorem C397 (w:World):Calls Tryz.prog 397 #[.agg #[]] w λ e w'=>e=.returned (.int .i64 0)/\Keep No w w':=by
 refine ret_mono (V397_sound w (λ r w'=>r=.int .i64 0/\Keep No w w') ?_) (by rintro _ _ ⟨rfl,h⟩;exact ⟨rfl,h⟩)
 unfold V397
 exact newK_of λ b w1 _ _ hk=>⟨rfl,hk⟩
theorem C409 (t:ByteArray) (w:World):Calls Tryz.prog 409 #[.agg #[.string t]] w λ e w'=>e=.returned (.int .i64 4)/\Keep No w w':=by
 refine ret_mono (V409_sound t w (λ r w'=>r=.int .i64 4/\Keep No w w') ?_) (by rintro _ _ ⟨rfl,h⟩;exact ⟨rfl,h⟩)
 unfold V409
 exact newK_of λ b w1 _ _ hk=>⟨rfl,hk⟩
section
variable {w:World} {s B:Nat} {S:St} {i:Nat}
theorem C48_row (h:StAt w s B S) {r:Nat} (hx:S.vals[i]?=some (.iface 94 (.pointer (some ⟨r,0,none⟩)))) {n:Int} {rest:List Value} (hr:Blk w r 100 (.int .i64 n :: rest)) (hn:n≠0) :
  Calls Tryz.prog 48 #[.pointer (some ⟨s,0,none⟩),.int .i64 i] w λ e w'=>e=.returned (.iface 94 (.pointer (some ⟨r,0,none⟩)))/\Keep No w w':=by
 refine ret_mono (V48_sound _ _ w (λ v w'=>v=.iface 94 (.pointer (some ⟨r,0,none⟩))/\Keep No w w') ?_) (by rintro _ _ ⟨rfl,h⟩;exact ⟨rfl,h⟩)
 unfold V48
 refine (C41_in h hx).mono ?_
 rintro _ w1 ⟨rfl,rfl⟩
 refine ⟨_,rfl,?_⟩
 rw [eqNilI_iface]
 refine bsel_neg rfl (inv_numbered80 (hr.cell rfl) λ w2 hk2=>⟨_,rfl,bsel_neg (by simpa using hn) ⟨rfl,hk2⟩⟩)
theorem C48_str (h:StAt w s B S) {t:ByteArray} (hx:S.vals[i]?=some (.iface 160 (.agg #[.string t]))) :
  Calls Tryz.prog 48 #[.pointer (some ⟨s,0,none⟩),.int .i64 i] w λ e w'=>e=.returned .nilIface/\Keep No w w':=by
 refine ret_mono (V48_sound _ _ w (λ v w'=>v=.nilIface/\Keep No w w') ?_) (by rintro _ _ ⟨rfl,h⟩;exact ⟨rfl,h⟩)
 unfold V48
 refine (C41_in h hx).mono ?_
 rintro _ w1 ⟨rfl,rfl⟩
 refine ⟨_,rfl,?_⟩
 rw [eqNilI_iface]
 refine bsel_neg rfl ⟨397,.agg #[],numbered160 _ _,(C397 _).mono ?_⟩
 rintro _ w2 ⟨rfl,hk2⟩
 refine ⟨_,rfl,bsel_pos rfl ⟨409,.agg #[.string t],kind160 _ _,(C409 _ _).mono ?_⟩⟩
 rintro _ w3 ⟨rfl,hk3⟩
 exact ⟨_,rfl,bsel_pos rfl ⟨rfl,hk2.no hk3⟩⟩
theorem C44_str (h:StAt w s B S) {t:ByteArray} (hx:S.vals[i]?=some (.iface 160 (.agg #[.string t]))) :
  Calls Tryz.prog 44 #[.pointer (some ⟨s,0,none⟩),.int .i64 i] w λ e w'=>e=.returned (.tuple #[.string t,.bool true])/\Keep No w w':=by
 refine ret_mono (V44_sound _ _ w (λ r w'=>r=.tuple #[.string t,.bool true]/\Keep No w w') ?_) (by rintro _ _ ⟨rfl,h⟩;exact ⟨rfl,h⟩)
 unfold V44
 refine (C41_in h hx).mono ?_
 rintro _ w1 ⟨rfl,rfl⟩
 refine ⟨_,rfl,_,_,yes96 _ _,newK_of λ b w2 hs hb hk=>stK_add hb (by simp) λ w3 hb3 hk3=>⟨_,hb3.add 0 rfl,rfl,hk.news hk3 (by rintro k rfl;omega)⟩⟩
theorem C44_no (h:StAt w s B S) {u:TypeId} {v:Value} (hx:S.vals[i]?=some (.iface u v)) (hu:u≠160) :
  Calls Tryz.prog 44 #[.pointer (some ⟨s,0,none⟩),.int .i64 i] w λ e w'=>e=.returned (.tuple #[.string ⟨#[]⟩,.bool false])/\Keep No w w':=by
 refine ret_mono (V44_sound _ _ w (λ r w'=>r=.tuple #[.string ⟨#[]⟩,.bool false]/\Keep No w w') ?_) (by rintro _ _ ⟨rfl,h⟩;exact ⟨rfl,h⟩)
 unfold V44
 refine (C41_in h hx).mono ?_
 rintro _ w1 ⟨rfl,rfl⟩
 refine ⟨_,rfl,_,_,no96 hu _ _,newK_of λ b w2 hs hb hk=>stK_add hb (by simp) λ w3 hb3 hk3=>⟨_,hb3.add 0 rfl,rfl,hk.news hk3 (by rintro k rfl;omega)⟩⟩
end
end Go.Fw

namespace Go.Fw
open Go.Proofs Go.RowKit
inductive VD where
 | none
 | bool (b:Bool)
 | int (neg:Bool) (ms:List Int)
 | str (t:ByteArray)
 | obj (kind num:Int)
def VD.num:VD->Int
 | .obj _ n=>n
 | _=>0
def VD.kind:VD->Int
 | .none=>1
 | .bool _=>2
 | .int _ _=>3
 | .str _=>4
 | .obj k _=>k
def wkey (neg:Bool) (ms:List Int):Int × List Int:=(sgnI neg ms,trimmed ms)
def VD.key:VD->Option (Int × List Int)
 | .bool b=>some (wkey false [if b then 1 else 0,0])
 | .int neg ms=>some (wkey neg ms)
 | _=>Option.none
def alikeD (d e:VD):Prop:=(∃a,d.key=some a/\e.key=some a)\/(∃t,d=.str t/\e=.str t)\/(d=.none/\e=.none)
theorem alikeD_symm {d e:VD} (h:alikeD d e):alikeD e d:=by
 rcases h with ⟨a,h1,h2⟩ | ⟨t,h1,h2⟩ | ⟨h1,h2⟩
 ·exact .inl ⟨a,h2,h1⟩
 ·exact .inr (.inl ⟨t,h2,h1⟩)
 ·exact .inr (.inr ⟨h2,h1⟩)
theorem alikeD_obj {d:VD} {k n:Int}:¬alikeD d (.obj k n):=by
 rintro (⟨a,h1,h2⟩ | ⟨t,h1,h2⟩ | ⟨h1,h2⟩) <;> cases h2
def objTy (A:TypeId) (e:TypeId) (k:Int) (rest:List Value):Prop:=
 (A=94/\e=100/\rest[1]?=some (.int .i64 k))\/(A=111/\e=120/\rest[1]?=some (.int .i64 k))\/(A=162/\e=166/\rest[1]?=some (.int .i64 k))\/(A=163/\e=169/\k=14)\/(A=190/\e=194/\k=13)
def VDAt (w:World) (B:Nat) (v:Value):VD->Prop
 | .none=>v=.iface 85 (.agg #[])
 | .bool b=>v=.iface 87 (.agg #[.bool b])
 | .int neg ms=>ms.length<1000000000000/\∃y,v=.iface 172 y/\FormAt B w y neg ms
 | .str t=>v=.iface 160 (.agg #[.string t])
 | .obj k n=>5<=k/\∃A p e rest,v=.iface A (.pointer (some ⟨p,0,Option.none⟩))/\B<=p/\Blk w p e (.int .i64 n :: rest)/\objTy A e k rest
def objE:List TypeId:=[45,100,120,166,169,194]
theorem objTy_mem {A e:TypeId} {k:Int} {rest:List Value} (h:objTy A e k rest):e ∈ objE:=by
 rcases h with ⟨_,rfl,_⟩ | ⟨_,rfl,_⟩ | ⟨_,rfl,_⟩ | ⟨_,rfl,_⟩ | ⟨_,rfl,_⟩ <;> decide
theorem FormAt.keepT {fp:Nat->Prop} {B:Nat} {w w':World} {y:Value} {neg:Bool} {ms:List Int} (h:FormAt B w y neg ms) (hk:Keep fp w w') (hn:∀k,B<=k->etype w k=some 45->¬fp k):FormAt B w' y neg ms:=by
 obtain ⟨v,h1,h2⟩:=h
 exact ⟨v,h1.keep hk hn,h2⟩
theorem VDAt.keep {fp:Nat->Prop} {w w':World} {B:Nat} {v:Value}:∀{d:VD},VDAt w B v d->Keep fp w w'->(∀k e,B<=k->etype w k=some e->e ∈ objE->¬fp k)->VDAt w' B v d
 | .none,h,_,_=>h
 | .bool _,h,_,_=>h
 | .int _ _,⟨hl,y,h1,h2⟩,hk,hn=>⟨hl,y,h1,h2.keepT hk λ k hB he=>hn k _ hB he (by decide)⟩
 | .str _,h,_,_=>h
 | .obj _ _,⟨h5,A,p,e,rest,h1,h2,h3,h4⟩,hk,hn=>⟨h5,A,p,e,rest,h1,h2,hk.blk h3 (hn p e h2 h3.etype (objTy_mem h4)),h4⟩
theorem VDAt.no {w w':World} {B:Nat} {v:Value} {d:VD} (h:VDAt w B v d) (hk:Keep No w w'):VDAt w' B v d:=h.keep hk λ _ _ _ _ _=>id
theorem VDAt.iface {w:World} {B:Nat} {v:Value}:∀{d:VD},VDAt w B v d->∃A x,v=.iface A x
 | .none,h=>⟨_,_,h⟩
 | .bool _,h=>⟨_,_,h⟩
 | .int _ _,⟨_,_,h,_⟩=>⟨_,_,h⟩
 | .str _,h=>⟨_,_,h⟩
 | .obj _ _,⟨_,_,_,_,_,h,_⟩=>⟨_,_,h⟩
theorem num111 (r:Nat) (w:World):(callMethod (.iface 111 (.pointer (some ⟨r,0,none⟩))) "lexicon/store.numbered" #[]).run Tryz.prog w=(do let v <-loadVar 98 ⟨r,0,none⟩;callFunc 401 #[v]).run Tryz.prog w:=by kernel_rfl
theorem num162 (r:Nat) (w:World):(callMethod (.iface 162 (.pointer (some ⟨r,0,none⟩))) "lexicon/store.numbered" #[]).run Tryz.prog w=(do let v <-loadVar 98 ⟨r,0,none⟩;callFunc 401 #[v]).run Tryz.prog w:=by kernel_rfl
theorem num163 (r:Nat) (w:World):(callMethod (.iface 163 (.pointer (some ⟨r,0,none⟩))) "lexicon/store.numbered" #[]).run Tryz.prog w=(do let v <-loadVar 98 ⟨r,0,none⟩;callFunc 401 #[v]).run Tryz.prog w:=by kernel_rfl
theorem num190 (r:Nat) (w:World):(callMethod (.iface 190 (.pointer (some ⟨r,0,none⟩))) "lexicon/store.numbered" #[]).run Tryz.prog w=(do let v <-loadVar 98 ⟨r,0,none⟩;callFunc 401 #[v]).run Tryz.prog w:=by kernel_rfl
theorem num85 (w:World):(callMethod (.iface 85 (.agg #[])) "lexicon/store.numbered" #[]).run Tryz.prog w=.ok (.enter 397 (#[.agg #[]] ++ #[])) w:=by kernel_rfl
theorem num87 (b:Bool) (w:World):(callMethod (.iface 87 (.agg #[.bool b])) "lexicon/store.numbered" #[]).run Tryz.prog w=.ok (.enter 397 (#[.agg #[]] ++ #[])) w:=by kernel_rfl
theorem num172 (b:Bool) (a:Option Addr) (l c:Nat) (w:World):(callMethod (.iface 172 (.agg #[.bool b,.slice a l c])) "lexicon/store.numbered" #[]).run Tryz.prog w=.ok (.enter 397 (#[.agg #[]] ++ #[])) w:=by kernel_rfl
theorem kind87 (b:Bool) (w:World):(callMethod (.iface 87 (.agg #[.bool b])) "Kind" #[]).run Tryz.prog w=.ok (.enter 399 (#[.agg #[.bool b]] ++ #[])) w:=by kernel_rfl
theorem kind172 (b:Bool) (a:Option Addr) (l c:Nat) (w:World):(callMethod (.iface 172 (.agg #[.bool b,.slice a l c])) "Kind" #[]).run Tryz.prog w=.ok (.enter 414 (#[.agg #[.bool b,.slice a l c]] ++ #[])) w:=by kernel_rfl
theorem kind94 (r:Nat) (w:World):(callMethod (.iface 94 (.pointer (some ⟨r,0,none⟩))) "Kind" #[]).run Tryz.prog w=.ok (.enter 158 (#[.pointer (some ⟨r,0,none⟩)] ++ #[])) w:=by kernel_rfl
theorem kind111 (r:Nat) (w:World):(callMethod (.iface 111 (.pointer (some ⟨r,0,none⟩))) "Kind" #[]).run Tryz.prog w=.ok (.enter 49 (#[.pointer (some ⟨r,0,none⟩)] ++ #[])) w:=by kernel_rfl
theorem kind162 (r:Nat) (w:World):(callMethod (.iface 162 (.pointer (some ⟨r,0,none⟩))) "Kind" #[]).run Tryz.prog w=.ok (.enter 173 (#[.pointer (some ⟨r,0,none⟩)] ++ #[])) w:=by kernel_rfl
theorem kind163 (r:Nat) (w:World):(callMethod (.iface 163 (.pointer (some ⟨r,0,none⟩))) "Kind" #[]).run Tryz.prog w=.ok (.enter 411 (#[.pointer (some ⟨r,0,none⟩)] ++ #[])) w:=by kernel_rfl
theorem kind190 (r:Nat) (w:World):(callMethod (.iface 190 (.pointer (some ⟨r,0,none⟩))) "Kind" #[]).run Tryz.prog w=.ok (.enter 419 (#[.pointer (some ⟨r,0,none⟩)] ++ #[])) w:=by kernel_rfl
theorem inv_num {A:TypeId} {r:Nat} {n:Int} {w:World} (hA:(callMethod (.iface A (.pointer (some ⟨r,0,none⟩))) "lexicon/store.numbered" #[]).run Tryz.prog w=(do let v <-loadVar 98 ⟨r,0,none⟩;callFunc 401 #[v]).run Tryz.prog w) (h:w.cell? ⟨r,0,none⟩=some (.int .i64 n)) {R:Ending->World->Prop} (hR:∀w',Keep No w w'->R (.returned (.int .i64 n)) w') :
  InvK Tryz.prog (.iface A (.pointer (some ⟨r,0,none⟩))) "lexicon/store.numbered" #[] w R:=by
 refine ⟨401,.agg #[.int .i64 n],?_,(C401 n w).mono ?_⟩
 ·rw [hA,Sem.run_bind,load84 r n w h]
  simp only [Result.andThen,Array.append_empty]
  exact callFunc225 _ _
 ·rintro _ w' ⟨rfl,hk⟩
  exact hR w' hk
theorem VDAt.numbered {w:World} {B:Nat} {v:Value} {d:VD} (h:VDAt w B v d) {R:Ending->World->Prop} (hR:∀w',Keep No w w'->R (.returned (.int .i64 d.num)) w'):InvK Tryz.prog v "lexicon/store.numbered" #[] w R:=by
 have plain:∀w1,Calls Tryz.prog 397 (#[.agg #[]] ++ #[]) w1 λ e w'=>e=.returned (.int .i64 0)/\Keep No w1 w':=λ w1=>C397 w1
 cases d with
 | none=>cases h;exact ⟨397,_,num85 w,(plain w).mono (by rintro _ w' ⟨rfl,hk⟩;exact hR w' hk)⟩
 | bool b=>cases h;exact ⟨397,_,num87 b w,(plain w).mono (by rintro _ w' ⟨rfl,hk⟩;exact hR w' hk)⟩
 | str t=>cases h;exact ⟨397,_,numbered160 t w,(plain w).mono (by rintro _ w' ⟨rfl,hk⟩;exact hR w' hk)⟩
 | int neg ms=>
  obtain ⟨hl,y,rfl,hy⟩:=h
  obtain ⟨a,c,rfl,_⟩:=hy.cells
  exact ⟨397,_,num172 _ _ _ _ w,(plain w).mono (by rintro _ w' ⟨rfl,hk⟩;exact hR w' hk)⟩
 | obj k n=>
  obtain ⟨_,A,p,e,rest,rfl,_,hb,ht⟩:=h
  have hc:w.cell? ⟨p,0,none⟩=some (.int .i64 n):=hb.cell rfl
  rcases ht with ⟨rfl,_⟩ | ⟨rfl,_⟩ | ⟨rfl,_⟩ | ⟨rfl,_⟩ | ⟨rfl,_⟩
  ·exact inv_num (numbered80 p w) hc hR
  ·exact inv_num (num111 p w) hc hR
  ·exact inv_num (num162 p w) hc hR
  ·exact inv_num (num163 p w) hc hR
  ·exact inv_num (num190 p w) hc hR
theorem VDAt.kindOf {w:World} {B:Nat} {v:Value} {d:VD} (h:VDAt w B v d) {R:Ending->World->Prop} (hR:∀w',Keep No w w'->R (.returned (.int .i64 d.kind)) w'):InvK Tryz.prog v "Kind" #[] w R:=by
 cases d with
 | none=>
  cases h
  refine ⟨398,_,kind85 w,(V398_sound w (λ r w'=>r=.int .i64 1/\Keep No w w') ?_).mono (by rintro _ w' ⟨_,rfl,rfl,hk⟩;exact hR w' hk)⟩
  unfold V398
  exact newK_of λ b w1 hs hb hk=>⟨rfl,hk⟩
 | bool b=>
  cases h
  refine ⟨399,_,kind87 b w,(V399_sound b w (λ r w'=>r=.int .i64 2/\Keep No w w') ?_).mono (by rintro _ w' ⟨_,rfl,rfl,hk⟩;exact hR w' hk)⟩
  unfold V399
  exact newK_of λ b w1 hs hb hk=>⟨rfl,hk⟩
 | str t=>
  cases h
  exact ⟨409,_,kind160 t w,(C409 t w).mono (by rintro _ w' ⟨rfl,hk⟩;exact hR w' hk)⟩
 | int neg ms=>
  obtain ⟨hl,y,rfl,hy⟩:=h
  obtain ⟨a,c,rfl,_⟩:=hy.cells
  refine ⟨414,_,kind172 _ _ _ _ w,(V414_sound _ _ _ _ w (λ r w'=>r=.int .i64 3/\Keep No w w') ?_).mono (by rintro _ w' ⟨_,rfl,rfl,hk⟩;exact hR w' hk)⟩
  unfold V414
  exact newK_of λ b w1 hs hb hk=>⟨rfl,hk⟩
 | obj k n=>
  obtain ⟨_,A,p,e,rest,rfl,_,hb,ht⟩:=h
  have hc:rest[1]?=some (.int .i64 k)->w.cell? ((⟨p,0,none⟩:Addr).add 2)=some (.int .i64 k):=λ h1=>hb.add 2 (by simpa using h1)
  rcases ht with ⟨rfl,_,h1⟩ | ⟨rfl,_,h1⟩ | ⟨rfl,_,h1⟩ | ⟨rfl,_,rfl⟩ | ⟨rfl,_,rfl⟩
  ·refine ⟨158,_,kind94 p w,(V158_sound _ w (λ r w'=>r=.int .i64 k/\w'=w) ?_).mono (by rintro _ w' ⟨_,rfl,rfl,rfl⟩;exact hR w' (Keep.refl _ _))⟩
   unfold V158;rw [nilK_some];exact ⟨_,hc h1,rfl,rfl⟩
  ·refine ⟨49,_,kind111 p w,(V49_sound _ w (λ r w'=>r=.int .i64 k/\w'=w) ?_).mono (by rintro _ w' ⟨_,rfl,rfl,rfl⟩;exact hR w' (Keep.refl _ _))⟩
   unfold V49;rw [nilK_some];exact ⟨_,hc h1,rfl,rfl⟩
  ·refine ⟨173,_,kind162 p w,(V173_sound _ w (λ r w'=>r=.int .i64 k/\w'=w) ?_).mono (by rintro _ w' ⟨_,rfl,rfl,rfl⟩;exact hR w' (Keep.refl _ _))⟩
   unfold V173;rw [nilK_some];exact ⟨_,hc h1,rfl,rfl⟩
  ·refine ⟨411,_,kind163 p w,(V411_sound _ w (λ r w'=>r=.int .i64 14/\w'=w) ⟨rfl,rfl⟩).mono (by rintro _ w' ⟨_,rfl,rfl,rfl⟩;exact hR w' (Keep.refl _ _))⟩
  ·refine ⟨419,_,kind190 p w,(V419_sound _ w (λ r w'=>r=.int .i64 13/\w'=w) ⟨rfl,rfl⟩).mono (by rintro _ w' ⟨_,rfl,rfl,rfl⟩;exact hR w' (Keep.refl _ _))⟩
section
variable {w:World} {s B:Nat} {S:St} {i j:Nat} {v u:Value} {d e:VD}
theorem C15_in (h:StAt w s B S) (hv:S.vals[i]?=some v) (hd:VDAt w B v d):Calls Tryz.prog 15 #[.pointer (some ⟨s,0,none⟩),.int .i64 i] w λ r w'=>r=.returned (.int .i64 d.num)/\Keep No w w':=by
 refine ret_mono (V15_sound _ _ w (λ r w'=>r=.int .i64 d.num/\Keep No w w') ?_) (by rintro _ _ ⟨rfl,h⟩;exact ⟨rfl,h⟩)
 unfold V15
 refine (C41_in h hv).mono ?_
 rintro _ w1 ⟨rfl,rfl⟩
 obtain ⟨A,x,rfl⟩:=hd.iface
 refine ⟨_,rfl,?_⟩
 rw [eqNilI_iface]
 exact bsel_pos rfl (hd.numbered λ w2 hk=>⟨_,rfl,rfl,hk⟩)
end
end Go.Fw

namespace Go.Fw
open Go.Proofs Go.RowKit
theorem copy2 {w:World} {e:TypeId} {z0 z1 v0 v1:Value} {K:Addr->World->Prop} (h:∀b w',Blk w' b e [v0,v1]->Keep No w w'->b=w.heap.size->K ⟨b,0,none⟩ w') :
  newK w #[z0,z1] e λ a w1=>stK w1 (a.add 0) v0 λ w2=>stK w2 (a.add 1) v1 λ w3=>K a w3:=by
 refine newK_of λ b w1 hs hb hk=>stK_add hb (by simp) λ w2 hb hk2=>?_
 replace hk:=hk.news hk2 (by rintro k rfl;omega)
 refine stK_add hb (by simp) λ w3 hb hk2=>?_
 replace hk:=hk.news hk2 (by rintro k rfl;omega)
 exact h b w3 hb hk hs
theorem set2 {w:World} {b:Nat} {e:TypeId} {z0 z1 v0 v1:Value} {K:World->Prop} (hb:Blk w b e [z0,z1]) (h:∀w',Blk w' b e [v0,v1]->Keep (λ k=>k=b) w w'->K w') :
  stK w ((⟨b,0,none⟩:Addr).add 0) v0 λ w2=>stK w2 ((⟨b,0,none⟩:Addr).add 1) v1 λ w3=>K w3:=by
 refine stK_add hb (by simp) λ w2 hb hk=>stK_add hb (by simp) λ w3 hb hk2=>?_
 exact h w3 hb (hk.trans hk2 λ _ _ e=>e)
theorem copy1 {w:World} {e:TypeId} {z0 v0:Value} {K:Addr->World->Prop} (h:∀b w',Blk w' b e [v0]->Keep No w w'->b=w.heap.size->K ⟨b,0,none⟩ w') :
  newK w #[z0] e λ a w1=>stK w1 (a.add 0) v0 λ w2=>K a w2:=by
 refine newK_of λ b w1 hs hb hk=>stK_add hb (by simp) λ w2 hb hk2=>?_
 exact h b w2 hb (hk.news hk2 (by rintro k rfl;omega)) hs
section
variable {w:World} {s B:Nat} {S:St} {i j:Nat} {v u:Value} {d e:VD}
def WholeIs (w':World) (r:Value) (d:VD):Prop:=match d.key with
 | some a=>∃(y:Value) (neg:Bool) (ms:List Int) (R:Nat),r=.tuple #[y,.bool true]/\FormAt R w' y neg ms/\ms.length<1000000000000/\wkey neg ms=a
 | none=>r=.tuple #[.agg #[.bool false,.slice none 0 0],.bool false]
theorem C42_in (h:StAt w s B S) (hv:S.vals[i]?=some v) (hd:VDAt w B v d):Calls Tryz.prog 42 #[.pointer (some ⟨s,0,none⟩),.int .i64 i] w λ r w'=>∃x,r=.returned x/\WholeIs w' x d/\Keep No w w':=by
 refine (V42_sound _ _ w (λ r w'=>WholeIs w' r d/\Keep No w w') ?_)
 unfold V42
 refine newK_of λ b w1 hs hb hk=>(C41_in (h.no hk) hv).mono ?_
 rintro _ w1' ⟨rfl,rfl⟩
 refine ⟨_,rfl,?_⟩
 have hno:∀{w2:World},d.key=none->Keep No w w2->Blk w2 b 40 [.bool false,.slice none 0 0]->stK w2 ((⟨b,0,none⟩:Addr).add 0) (.bool false) λ w57=>stK w57 ((⟨b,0,none⟩:Addr).add 1) (.slice none 0 0) λ w58=>
   ∃t59:Bool,∃t60:Option Addr,∃t61:Nat,∃t62:Nat,CellsAt w58 ⟨b,0,none⟩ [.bool t59,.slice t60 t61 t62]/\(WholeIs w58 (.tuple #[.agg #[.bool t59,.slice t60 t61 t62],.bool false]) d/\Keep No w w58):=by
  intro w2 hdk hk2 hb2
  refine set2 hb2 λ w3 hb3 hk3=>⟨_,_,_,_,hb3.cells0,?_,hk2.news hk3 λ k e=>by omega⟩
  unfold WholeIs
  rw [hdk]
 have hfin:∀{w2 w3:World} {y:Value} {neg:Bool} {ms:List Int} {R:Nat},FormAt R w2 y neg ms->ms.length<1000000000000->d.key=some (wkey neg ms)->Keep No w w2->Blk w2 b 40 [.bool false,.slice none 0 0]->∀{x:Bool} {a:Option Addr} {l c:Nat},y=.agg #[.bool x,.slice a l c]->
   stK w2 ((⟨b,0,none⟩:Addr).add 0) (.bool x) λ w57=>stK w57 ((⟨b,0,none⟩:Addr).add 1) (.slice a l c) λ w58=>
   ∃t59:Bool,∃t60:Option Addr,∃t61:Nat,∃t62:Nat,CellsAt w58 ⟨b,0,none⟩ [.bool t59,.slice t60 t61 t62]/\(WholeIs w58 (.tuple #[.agg #[.bool t59,.slice t60 t61 t62],.bool true]) d/\Keep No w w58):=by
  intro w2 w3 y neg ms R hy hl hdk hk2 hb2 x a l c hyx
  refine set2 hb2 λ w3 hb3 hk3=>⟨_,_,_,_,hb3.cells0,?_,hk2.news hk3 λ k e=>by omega⟩
  unfold WholeIs
  rw [hdk]
  exact ⟨y,neg,ms,R,by rw [hyx],hy.one hb2 (by decide) hk3,hl,rfl⟩
 cases d with
 | none=>cases hd;exact ⟨_,_,no72 (by decide) _ _,bsel_neg rfl ⟨_,_,_,_,_,no112 (by decide) _ _,bsel_neg rfl (hno rfl hk hb)⟩⟩
 | str t=>cases hd;exact ⟨_,_,no72 (by decide) _ _,bsel_neg rfl ⟨_,_,_,_,_,no112 (by decide) _ _,bsel_neg rfl (hno rfl hk hb)⟩⟩
 | obj k n=>
  obtain ⟨_,A,p,e,rest,rfl,_,_,ht⟩:=hd
  have hA:A≠87/\A≠172:=by rcases ht with ⟨rfl,_⟩ | ⟨rfl,_⟩ | ⟨rfl,_⟩ | ⟨rfl,_⟩ | ⟨rfl,_⟩ <;> decide
  exact ⟨_,_,no72 hA.1 _ _,bsel_neg rfl ⟨_,_,_,_,_,no112 hA.2 _ _,bsel_neg rfl (hno rfl hk hb)⟩⟩
 | bool c=>
  cases hd
  refine ⟨_,_,yes72 _ _,bsel_pos rfl (copy1 λ b2 w2 hb2 hk2 hs2=>⟨_,hb2.add 0 rfl,?_⟩)⟩
  have hk02:=hk.no hk2
  have hc93:=C93 w2 c
  cases c
  ·refine bsel_neg rfl (hc93.mono ?_)
   rintro _ w3 ⟨y,rfl,hy,hk3⟩
   obtain ⟨a,cc,hya,_⟩:=hy.cells
   exact ⟨_,_,_,_,by rw [hya],hfin (w3:=w3) hy (by simp) rfl (hk02.no hk3) (hk3.nblk (hk2.nblk hb)) hya⟩
  ·refine bsel_pos rfl (hc93.mono ?_)
   rintro _ w3 ⟨y,rfl,hy,hk3⟩
   obtain ⟨a,cc,hya,_⟩:=hy.cells
   exact ⟨_,_,_,_,by rw [hya],hfin (w3:=w3) hy (by simp) rfl (hk02.no hk3) (hk3.nblk (hk2.nblk hb)) hya⟩
 | int neg ms=>
  obtain ⟨hl,y,rfl,hy⟩:=hd
  obtain ⟨a,cc,hya,_⟩:=hy.cells
  subst hya
  refine ⟨_,_,no72 (by decide) _ _,bsel_neg rfl ⟨_,_,_,_,_,yes112 _ _,bsel_pos rfl (copy2 λ b2 w2 hb2 hk2 hs2=>?_)⟩⟩
  have e0:(⟨b2,0,none⟩:Addr).add 0=⟨b2,0,none⟩:=by simp
  rw [e0]
  exact ⟨_,_,_,_,hb2.cells0,hfin (w3:=w2) ((hy.no hk).no hk2) hl rfl (hk.no hk2) (hk2.nblk hb) rfl⟩
theorem wkey_form (neg:Bool) (ms:List Int):wkey (neg && !(trimmed ms).isEmpty) (trimmed ms)=wkey neg ms:=by
 unfold wkey sgnI
 rw [trimmed_trimmed]
 cases h:(trimmed ms) with
 | nil=>simp
 | cons m l=>simp
theorem C16_in (h:StAt w s B S) (hv:S.vals[i]?=some v) (hd:VDAt w B v d) (hu:S.vals[j]?=some u) (he:VDAt w B u e) :
  Calls Tryz.prog 16 #[.pointer (some ⟨s,0,none⟩),.int .i64 i,.int .i64 j] w λ r w'=>∃b,r=.returned (.bool b)/\(b=true↔(i=j\/alikeD d e))/\Keep No w w':=by
 refine (V16_sound _ _ _ w (λ r w'=>∃b,r=.bool b/\(b=true↔(i=j\/alikeD d e))/\Keep No w w') ?_).mono (by rintro _ w' ⟨_,rfl,b,rfl,h⟩;exact ⟨b,rfl,h⟩)
 unfold V16
 refine (C41_in h hv).mono ?_
 rintro _ w1 ⟨rfl,rfl⟩
 refine ⟨_,rfl,(C41_in h hu).mono ?_⟩
 rintro _ w1' ⟨rfl,rfl⟩
 obtain ⟨A,x,hvA⟩:=hd.iface
 obtain ⟨A',x',huA⟩:=he.iface
 refine ⟨_,rfl,?_⟩
 have hJ:V16J2 w1' (λ r w'=>∃b,r=.bool b/\(b=true↔(i=j\/alikeD d e))/\Keep No w1' w') (some ⟨s,0,none⟩) i j v u false w1':=by
  unfold V16J2
  refine bsel_neg rfl (bsel_split (λ hij=>?_) λ hij=>?_)
  ·have hij:i=j:=Int.ofNat_inj.1 (by simpa using hij)
   exact ⟨true,rfl,by simp [hij],Keep.refl _ _⟩
  have hij:i≠j:=λ e=>by subst e;simp at hij
  refine (C42_in h hv hd).mono ?_
  rintro _ w2 ⟨y,rfl,hy,hk2⟩
  have hyv:∃b1 a1 l1 c1 o1,y=.tuple #[.agg #[.bool b1,.slice a1 l1 c1],.bool o1]/\(o1=true↔d.key≠none):=by
   unfold WholeIs at hy
   split at hy
   ·rename_i a ha
    obtain ⟨y',neg,ms,R,rfl,hf,_⟩:=hy
    obtain ⟨a,c,rfl,_⟩:=hf.cells
    exact ⟨_,_,_,_,_,rfl,by simp [ha]⟩
   ·rename_i ha
    exact ⟨_,_,_,_,_,hy,by simp [ha]⟩
  obtain ⟨b1,a1,l1,c1,o1,rfl,ho1⟩:=hyv
  refine ⟨_,_,_,_,_,rfl,copy2 λ p1 w3 hp1 hk3 hs3=>?_⟩
  have hk03:=hk2.no hk3
  refine (C42_in (h.no hk03) hu (he.no hk03)).mono ?_
  rintro _ w4 ⟨z,rfl,hz,hk4⟩
  have hzv:∃b2 a2 l2 c2 o2,z=.tuple #[.agg #[.bool b2,.slice a2 l2 c2],.bool o2]/\(o2=true↔e.key≠none):=by
   unfold WholeIs at hz
   split at hz
   ·rename_i a ha
    obtain ⟨y',neg,ms,R,rfl,hf,_⟩:=hz
    obtain ⟨a,c,rfl,_⟩:=hf.cells
    exact ⟨_,_,_,_,_,rfl,by simp [ha]⟩
   ·rename_i ha
    exact ⟨_,_,_,_,_,hz,by simp [ha]⟩
  obtain ⟨b2,a2,l2,c2,o2,rfl,ho2⟩:=hzv
  refine ⟨_,_,_,_,_,rfl,copy2 λ p2 w5 hp2 hk5 hs5=>?_⟩
  have hk35:=hk4.no hk5
  have hk05:=hk03.no hk35
  have hother:(d.key=none\/e.key=none)->V16J1 w1' (λ r w'=>∃b,r=.bool b/\(b=true↔(i=j\/alikeD d e))/\Keep No w1' w') (some ⟨s,0,none⟩) i j v u ⟨p1,0,none⟩ ⟨p2,0,none⟩ false w5:=by
   intro hne
   unfold V16J1
   have hA105:A≠105:=by
    cases d with
    | none=>cases hd;cases hvA;decide
    | bool b=>cases hd;cases hvA;decide
    | str t=>cases hd;cases hvA;decide
    | int neg ms=>obtain ⟨_,y,rfl,_⟩:=hd;cases hvA;decide
    | obj k n=>
     obtain ⟨_,A,p,e,rest,rfl,_,_,ht⟩:=hd
     cases hvA
     rcases ht with ⟨rfl,_⟩ | ⟨rfl,_⟩ | ⟨rfl,_⟩ | ⟨rfl,_⟩ | ⟨rfl,_⟩ <;> decide
   refine bsel_neg rfl ⟨_,_,_,by rw [hvA];exact no91 hA105 _ _,copy2 λ p3 w6 hp3 hk6 hs6=>bsel_neg rfl ?_⟩
   have hk06:=hk05.no hk6
   have hal:∀t,(d=.str t->e=.str t->True):=λ _ _ _=>trivial
   have htext:∀{n:Nat} {vv:Value} {dd:VD} {wa:World},Keep No w1' wa->S.vals[n]?=some vv->VDAt w1' B vv dd->Calls Tryz.prog 44 #[.pointer (some ⟨s,0,none⟩),.int .i64 n] wa λ r w'=>∃(t:ByteArray) (o:Bool),r=.returned (.tuple #[.string t,.bool o])/\(o=true->dd=.str t)/\(o=false->∀t',dd≠.str t')/\Keep No wa w':=by
    intro n vv dd wa hka hvv hdd
    obtain ⟨A2,x2,hA2⟩:=hdd.iface
    cases dd with
    | str t=>
     cases hdd
     refine (C44_str (h.no hka) hvv).mono ?_
     rintro _ w' ⟨rfl,hk'⟩
     exact ⟨t,true,rfl,λ _=>rfl,(λ hc=>nomatch hc),hk'⟩
    | _=>
     have hne:A2≠160:=by
      first
       | (cases hdd;cases hA2;decide)
       | (obtain ⟨_,y,rfl,_⟩:=hdd;cases hA2;decide)
       | (
         obtain ⟨_,A3,p,e,rest,rfl,_,_,ht⟩:=hdd
         cases hA2
         rcases ht with ⟨rfl,_⟩ | ⟨rfl,_⟩ | ⟨rfl,_⟩ | ⟨rfl,_⟩ | ⟨rfl,_⟩ <;> decide)
     rw [hA2] at hvv
     refine (C44_no (h.no hka) hvv hne).mono ?_
     rintro _ w' ⟨rfl,hk'⟩
     exact ⟨_,false,rfl,(λ hc=>nomatch hc),(λ _ t' hc=>nomatch hc),hk'⟩
   refine (htext hk06 hv hd).mono ?_
   rintro _ w7 ⟨t1,q1,rfl,hq1,hq1',hk7⟩
   refine ⟨_,_,rfl,(htext (hk06.no hk7) hu he).mono ?_⟩
   rintro _ w8 ⟨t2,q2,rfl,hq2,hq2',hk8⟩
   have hk08:=(hk06.no hk7).no hk8
   have hkinds:¬(∃t,d=.str t/\e=.str t)->InvK Tryz.prog v "Kind" #[] w8 λ e80 w81=>∃t82:Int,e80=.returned (.int .i64 t82)/\bsel (t82 == 1) (InvK Tryz.prog u "Kind" #[] w81 λ e83 w84=>∃t85:Int,e83=.returned (.int .i64 t85)/\(∃b,Value.bool (t85 == 1)=.bool b/\(b=true↔(i=j\/alikeD d e))/\Keep No w1' w84)) (∃b,Value.bool false=.bool b/\(b=true↔(i=j\/alikeD d e))/\Keep No w1' w81):=by
    intro hns
    have hnk:∀a,¬(d.key=some a/\e.key=some a):=λ a ⟨x1,x2⟩=>by rcases hne with q | q <;> simp_all
    refine (hd.no hk08).kindOf λ w9 hk9=>⟨_,rfl,bsel_split (λ hc=>?_) λ hc=>?_⟩
    ·have hdn:d=.none:=by
      cases d with
      | none=>rfl
      | bool b=>simp [VD.kind] at hc
      | int neg ms=>simp [VD.kind] at hc
      | str t=>simp [VD.kind] at hc
      | obj k n=>
       obtain ⟨h5,_⟩:=hd
       simp [VD.kind] at hc
       omega
     refine (he.no (hk08.no hk9)).kindOf λ w10 hk10=>⟨_,rfl,_,rfl,?_,(hk08.no hk9).no hk10⟩
     subst hdn
     cases e with
     | none=>simp [VD.kind,alikeD]
     | bool b=>simp [VD.kind,alikeD,hij,VD.key]
     | int neg ms=>simp [VD.kind,alikeD,hij,VD.key]
     | str t=>simp [VD.kind,alikeD,hij,VD.key]
     | obj k n=>
      obtain ⟨h5,_⟩:=he
      have h5':k≠1:=by omega
      simp [VD.kind,alikeD,hij,h5',VD.key]
    ·refine ⟨false,rfl,?_,hk08.no hk9⟩
     have hdn:d≠.none:=λ e=>by subst e;simp [VD.kind] at hc
     simp only [Bool.false_eq_true,false_iff]
     rintro (q | ⟨a,x1,x2⟩ | q | ⟨q,_⟩)
     ·exact hij q
     ·exact hnk a ⟨x1,x2⟩
     ·exact hns q
     ·exact hdn q
   refine ⟨_,_,rfl,bsel_split (λ c1=>bsel_split (λ c2=>bsel_split (λ c3=>?_) λ c3=>?_) λ c2=>?_) λ c1=>?_⟩
   ·have hteq:t1=t2:=by
     have:t1.toList=t2.toList:=by simpa using c3
     rw [ByteArray.toList_eq,ByteArray.toList_eq] at this
     exact ByteArray.ext (Array.toList_inj.1 this)
    exact ⟨true,rfl,⟨λ _=>.inr (.inr (.inl ⟨t1,hq1 c1,hteq ▸ hq2 c2⟩)),λ _=>rfl⟩,hk08⟩
   ·refine hkinds ?_
    rintro ⟨t,rfl,rfl⟩
    have x1:=hq1 c1
    have x2:=hq2 c2
    cases x1;cases x2
    simp at c3
   ·exact hkinds λ ⟨t,x1,x2⟩=>hq2' c2 t x2
   ·exact hkinds λ ⟨t,x1,x2⟩=>hq1' c1 t x1
  refine bsel_split (λ c1=>?_) λ c1=>?_
  ·have hdk:=ho1.1 c1
   cases o2 with
   | false=>exact hother (.inr (by
     apply Classical.byContradiction
     intro hc
     exact absurd (ho2.2 hc) (by simp)))
   | true=>
    have hek:=ho2.1 rfl
    unfold WholeIs at hy hz
    split at hy
    ·rename_i ka hka
     split at hz
     ·rename_i kb hkb
      obtain ⟨y,neg1,ms1,R1,hy1,hy2,hy3,hy4⟩:=hy
      obtain ⟨z,neg2,ms2,R2,hz1,hz2,hz3,hz4⟩:=hz
      obtain ⟨ya,yc,hye,hyw,hyc⟩:=hy2.cells
      obtain ⟨za,zc,hze,hzw,hzc⟩:=hz2.cells
      rw [hye] at hy1
      rw [hze] at hz1
      cases hy1
      cases hz1
      unfold V16J1
      refine bsel_pos rfl ?_
      have hp1':=hk35.nblk hp1
      refine ⟨_,_,_,_,hp1'.cells0,_,_,_,_,hp2.cells0,?_⟩
      have hl1:(trimmed ms1).length<1000000000000:=by have:=trimmed_length_le ms1;omega
      have hl2:(trimmed ms2).length<1000000000000:=by have:=trimmed_length_le ms2;omega
      refine (C43 (hyw.no (hk3.no hk35)) hyc hl1 (hzw.no hk5) hzc hl2).mono ?_
      rintro _ w6 ⟨r,rfl,hr,hk6⟩
      refine ⟨r,rfl,r == 0,rfl,?_,hk05.no hk6⟩
      have e1:=wkey_form neg1 ms1
      have e2:=wkey_form neg2 ms2
      unfold wkey at e1 e2 hy4 hz4
      rw [beq_iff_eq,hr]
      simp only [Prod.mk.injEq] at e1 e2
      constructor
      ·rintro ⟨x1,x2⟩
       refine .inr (.inl ⟨ka,hka,?_⟩)
       rw [hkb,<-hy4,<-hz4]
       rw [e1.1,e2.1] at x1
       rw [trimmed_trimmed,trimmed_trimmed] at x2
       rw [x1,x2]
      ·rintro (q | ⟨a,x1,x2⟩ | ⟨t,x1,x2⟩ | ⟨x1,x2⟩)
       ·exact absurd q hij
       ·rw [hka] at x1;rw [hkb] at x2
        cases x1
        have x2:=Option.some.inj x2
        rw [<-hy4,<-hz4] at x2
        simp only [Prod.mk.injEq] at x2
        exact ⟨by rw [e1.1,e2.1,x2.1],by rw [trimmed_trimmed,trimmed_trimmed,x2.2]⟩
       ·rw [x1] at hka;cases hka
       ·rw [x1] at hka;cases hka
     ·rename_i hkb;exact absurd hkb hek
    ·rename_i hka;exact absurd hka hdk
  ·exact hother (.inl (by
    apply Classical.byContradiction
    intro hc
    rw [ho1.2 hc] at c1;cases c1))
 rw [hvA,eqNilI_iface]
 refine bsel_neg rfl ?_
 rw [huA,eqNilI_iface]
 rw [<-hvA,<-huA]
 exact hJ
end
end Go.Fw

namespace Go.Fw
open Go.Proofs Go.RowKit
def nV (t:Tm):Nat:=if t.kind=1\/t.kind=2 then 0 else if t.kind=14 then 2 else 1
def nO (t:Tm):Nat:=if t.kind=1\/t.kind=2\/t.kind=3\/t.kind=4 then 0 else if t.kind=14 then 2 else 1
def cV (ts:List Tm) (i:Nat):Nat:=((ts.take i).map nV).sum
def cO (ts:List Tm) (i:Nat):Nat:=((ts.take i).map nO).sum
theorem sum_succ {f:Tm->Nat} {ts:List Tm} {i:Nat} {t:Tm} (h:ts[i]?=some t):((ts.take (i+1)).map f).sum=((ts.take i).map f).sum+f t:=by
 obtain ⟨hi,he⟩:=List.getElem?_eq_some_iff.1 h
 rw [List.take_succ_eq_append_getElem hi,List.map_append,List.sum_append,he]
 simp
theorem cV_succ {ts:List Tm} {i:Nat} {t:Tm} (h:ts[i]?=some t):cV ts (i+1)=cV ts i+nV t:=sum_succ h
theorem cO_succ {ts:List Tm} {i:Nat} {t:Tm} (h:ts[i]?=some t):cO ts (i+1)=cO ts i+nO t:=sum_succ h
theorem sum_mono {f:Tm->Nat} {ts:List Tm} {i:Nat}:∀k,((ts.take i).map f).sum<=((ts.take (i+k)).map f).sum
 | 0=>Nat.le_refl _
 | k+1=>by
  have ih:=sum_mono (f:=f) (ts:=ts) (i:=i) k
  cases h:ts[i+k]? with
  | none=>
   have hl:=List.getElem?_eq_none_iff.1 h
   rw [show i+(k+1)=i+k+1 by omega,List.take_of_length_le (show ts.length<=i+k+1 by omega)]
   rw [List.take_of_length_le hl] at ih
   exact ih
  | some t=>
   have:=sum_succ (f:=f) h
   rw [show i+(k+1)=i+k+1 by omega]
   omega
theorem cV_mono {ts:List Tm} {i j:Nat} (h:i<=j):cV ts i<=cV ts j:=by
 obtain ⟨k,rfl⟩:=Nat.exists_eq_add_of_le h
 exact sum_mono k
theorem sum_le2 {f:Tm->Nat} (hf:∀t,f t<=2):∀l:List Tm,(l.map f).sum<=2*l.length
 | []=>by simp
 | t :: l=>by
  have:=sum_le2 hf l
  have:=hf t
  simp
  omega
theorem nV_le (t:Tm):nV t<=2:=by unfold nV;split <;> (try split) <;> omega
theorem nO_le (t:Tm):nO t<=2:=by unfold nO;split <;> (try split) <;> omega
theorem cV_le (ts:List Tm) (i:Nat):cV ts i<=2*ts.length:=by
 have h1:=sum_le2 nV_le (ts.take i)
 have h2:(ts.take i).length<=ts.length:=by simp;omega
 unfold cV;omega
theorem cO_le (ts:List Tm) (i:Nat):cO ts i<=2*ts.length:=by
 have h1:=sum_le2 nO_le (ts.take i)
 have h2:(ts.take i).length<=ts.length:=by simp;omega
 unfold cO;omega
def refT (t:Tm) (c:Nat):Nat:=if t.kind=1 then 0 else if t.kind=2 then (if t.b then 2 else 1) else if t.kind=14 then 3+c+1 else 3+c
def gref (ts:List Tm) (i:Nat):Nat:=match ts[i]? with
 | some t=>refT t (cV ts i)
 | none=>0
def numT (t:Tm) (c:Nat):Int:=if t.kind=14 then c+2 else c+1
def descT (t:Tm) (ms:List Int) (c:Nat):VD:=if t.kind=1 then .none else if t.kind=2 then .bool t.b else if t.kind=3 then .int t.neg ms else if t.kind=4 then .str t.text else .obj t.kind (numT t c)
def gdesc (ts:List Tm) (mss:Nat->List Int) (i:Nat):VD:=match ts[i]? with
 | some t=>descT t (mss i) (cO ts i)
 | none=>.none
theorem gref_of {ts:List Tm} {i:Nat} {t:Tm} (h:ts[i]?=some t):gref ts i=refT t (cV ts i):=by unfold gref;rw [h]
theorem gdesc_of {ts:List Tm} {mss:Nat->List Int} {i:Nat} {t:Tm} (h:ts[i]?=some t):gdesc ts mss i=descT t (mss i) (cO ts i):=by unfold gdesc;rw [h]
theorem gref_lt {ts:List Tm} {x y:Nat} {t u:Tm} (hx:ts[x]?=some t) (hy:ts[y]?=some u) (hxy:x<y) (ht:¬(t.kind=1\/t.kind=2)) (hu:¬(u.kind=1\/u.kind=2)):gref ts x<gref ts y:=by
 have h1:=cV_succ hx
 have h2:=cV_mono (ts:=ts) (i:=x+1) (j:=y) (by omega)
 rw [gref_of hx,gref_of hy]
 simp only [not_or] at ht hu
 have hn:nV t=if t.kind=14 then 2 else 1:=by unfold nV;rw [if_neg (by omega)]
 unfold refT
 rw [if_neg ht.1,if_neg ht.2,if_neg hu.1,if_neg hu.2]
 by_cases h14:t.kind=14
 ·rw [if_pos h14] at hn ⊢
  split <;> omega
 ·rw [if_neg h14] at hn ⊢
  split <;> omega
theorem gref_plain {ts:List Tm} {x:Nat} {t:Tm} (hx:ts[x]?=some t):(t.kind=1\/t.kind=2)↔gref ts x<3:=by
 rw [gref_of hx]
 unfold refT
 by_cases h1:t.kind=1
 ·simp [h1]
 ·by_cases h2:t.kind=2
  ·rw [if_neg h1,if_pos h2]
   simp [h2]
   split <;> omega
  ·rw [if_neg h1,if_neg h2]
   simp [h1,h2]
   split <;> omega
theorem gdesc_eq {ts:List Tm} {mss:Nat->List Int} {x y:Nat} {t u:Tm} (hx:ts[x]?=some t) (hy:ts[y]?=some u) (h:gref ts x=gref ts y):gdesc ts mss x=gdesc ts mss y:=by
 by_cases hp:t.kind=1\/t.kind=2
 ·have hq:u.kind=1\/u.kind=2:=(gref_plain hy).2 (by rw [<-h];exact (gref_plain hx).1 hp)
  rw [gref_of hx,gref_of hy] at h
  rw [gdesc_of hx,gdesc_of hy]
  unfold refT at h
  unfold descT
  rcases hp with hp | hp <;> rcases hq with hq | hq
  ·simp [hp,hq]
  ·simp [hp,hq] at h
   split at h <;> omega
  ·simp [hp,hq] at h
   split at h <;> omega
  ·simp [hp,hq] at h ⊢
   cases h1:t.b <;> cases h2:u.b <;> simp [h1,h2] at h ⊢
 ·have hq:¬(u.kind=1\/u.kind=2):=λ hc=>hp ((gref_plain hx).2 (by rw [h];exact (gref_plain hy).1 hc))
  rcases Nat.lt_trichotomy x y with hc | hc | hc
  ·have:=gref_lt hx hy hc hp hq;omega
  ·rw [hc]
  ·have:=gref_lt hy hx hc hq hp;omega
structure GVal (s B:Nat) (S:St) (ts:List Tm) (mss:Nat->List Int) (i:Nat) (w:World):Prop where
 st:StAt w s B S
 vd:∀x t,ts[x]?=some t->x<i->∃v,S.vals[gref ts x]?=some v/\VDAt w B v (gdesc ts mss x)
theorem GVal.keep {s B:Nat} {S:St} {ts:List Tm} {mss:Nat->List Int} {i:Nat} {w w':World} {fp:Nat->Prop} (h:GVal s B S ts mss i w) (hk:Keep fp w w') (hn:∀k,k<w.heap.size->fp k->∃e,etype w k=some e/\e ∉ storeTy/\e ∉ objE):GVal s B S ts mss i w':=by
 refine ⟨h.st.types hk λ k hf hl=>?_,λ x t hx hi=>?_⟩
 ·obtain ⟨e,h1,h2,_⟩:=hn k hl hf
  exact ⟨e,h1,h2⟩
 ·obtain ⟨v,h1,h2⟩:=h.vd x t hx hi
  refine ⟨v,h1,h2.keep (fp:=λ k=>fp k/\k<w.heap.size) (hk.mono λ k hl hf=>⟨hf,hl⟩) λ k e hB he hm hf=>?_⟩
  obtain ⟨e',h3,_,h5⟩:=hn k hf.2 hf.1
  rw [he] at h3
  cases h3
  exact h5 hm
theorem GVal.no {s B:Nat} {S:St} {ts:List Tm} {mss:Nat->List Int} {i:Nat} {w w':World} (h:GVal s B S ts mss i w) (hk:Keep No w w'):GVal s B S ts mss i w':=h.keep hk λ _ _ hf=>hf.elim
def hashT (ts:List Tm) (mss:Nat->List Int) (x:Nat):Int:=match ts[x]? with
 | some t=>if t.kind=1 then hWhole true [7,0] else if t.kind=2 then hWhole false [if t.b then 1 else 0,0] else if t.kind=3 then hWhole t.neg (mss x) else if t.kind=4 then hText t.text else
  if t.hash then hWhole t.neg (mss x) else hNumber (numT t (cO ts x))
 | none=>0
theorem hWhole_form (neg:Bool) (ms:List Int):hWhole (neg && !(trimmed ms).isEmpty) (trimmed ms)=hWhole neg ms:=by
 unfold hWhole
 rw [trimmed_trimmed]
 cases h:trimmed ms with
 | nil=>cases neg <;> simp [restW]
 | cons m l=>simp
theorem C93_m7 (w:World):Calls Tryz.prog 93 #[.int .i64 (-7)] w λ e w'=>∃v,e=.returned v/\FormAt w.heap.size w' v true [7,0]/\Keep No w w':=by
 refine V93_sound (-7) w (λ v w'=>FormAt w.heap.size w' v true [7,0]/\Keep No w w') ?_
 unfold V93
 refine newK_of λ b w1 hb hbb hk=>bsel_pos rfl ?_
 unfold V93J1
 refine ⟨by omega,newK_of λ b2 w2 hb2 hbb2 hk2=>?_⟩
 have hkk:=hk.no hk2
 have e1:IntKind.wrap .u32 (IntKind.wrap .u64 (0-IntKind.wrap .u64 (-7)))=7:=rfl
 have e2:IntKind.wrap .u32 (shr .u64 (IntKind.wrap .u64 (0-IntKind.wrap .u64 (-7))) 32)=0:=rfl
 rw [e1,e2] at hbb2
 have hw:WordsAt w2 (some ⟨b2,0,none⟩) [7,0]:=by
  intro i m hm
  exact ⟨_,rfl,hbb2.add i (by
   rcases i with _ | _ | i
   ·cases hm;rfl
   ·cases hm;rfl
   ·simp at hm)⟩
 rw [show decide ((-7:Int)<0)=true from rfl]
 refine (C147 hw (c:=2) (by simp) (by simp)).mono ?_
 rintro _ w3 ⟨rfl,hk3⟩
 have hbb3:=hk3.nblk (hk2.nblk hbb)
 refine ⟨_,_,_,_,rfl,stK_add hbb3 (by simp) λ w8 hb8 hk8=>stK_add hb8 (by simp) λ w9 hb9 hk9=>?_⟩
 have hne:b2≠b:=by have:=hbb.lt;omega
 have hkn:Keep (λ k=>k=b) w3 w9:=hk8.trans hk9 λ k hk he=>he
 have hb29:Blk w9 b2 45 _:=hkn.blk (hk3.nblk hbb2) hne
 refine ⟨_,_,_,_,hb9.cells0,⟨_,⟨some ⟨b2,0,none⟩,2,rfl,λ i m hm=>⟨_,rfl,?_⟩,by decide,λ p hp=>?_⟩,rfl⟩,((hkk.no hk3).news hk8 (by rintro k rfl;omega)).news hk9 (by rintro k rfl;omega)⟩
 ·refine hb29.add i ?_
  rcases i with _ | i
  ·cases hm;rfl
  ·simp [trimmed,trimN] at hm
 ·cases hp
  exact ⟨by have:=hk.size;simp only;omega,hb29.lt,hb29.etype⟩
theorem hash_form {w:World} {R:Nat} {y:Value} {neg:Bool} {ms:List Int} (hy:FormAt R w y neg ms) (hl:ms.length<1000000000000) {x:Bool} {a:Option Addr} {l c:Nat} (hyx:y=.agg #[.bool x,.slice a l c]) :
  Calls Tryz.prog 103 #[.agg #[.bool x,.slice a l c]] w λ e w'=>e=.returned (.int .i64 (hWhole neg ms))/\Keep No w w':=by
 obtain ⟨a',c',hya,hw,hc⟩:=hy.cells
 rw [hya] at hyx
 cases hyx
 have hl':(trimmed ms).length<1000000000000:=by have:=trimmed_length_le ms;omega
 rw [<-hWhole_form]
 exact C103 hw hc hl'
section
variable {w:World} {s B b:Nat} {S:St} {ts:List Tm} {mss:Nat->List Int} {i:Nat} {ta:Option Addr} {tc:Nat} {v:Value} {R:Nat}
theorem row_get {x:Nat} (hrow:w.ownsRow R 3 1 v i (ints ((List.range i).map λ x=>(gref ts x:Int)))) (hx:x<i):∃g c,v=.slice (some ⟨g,0,none⟩) i c/\w.cell? ⟨g,x,none⟩=some (.int .i64 (gref ts x)):=by
 obtain ⟨g,c,h1,_,h2⟩:=row_cell hrow (i:=x) (ints_get (n:=(gref ts x:Int)) (by simp [hx]))
 exact ⟨g,c,h1,h2⟩
theorem C213_gen (hG:GVal s B S ts mss i w) (hb:Blk w b 92 [.pointer (some ⟨s,0,none⟩),.slice ta ts.length tc,v]) (hts:TermsAt w ta ts) (hrow:w.ownsRow R 3 1 v i (ints ((List.range i).map λ x=>(gref ts x:Int)))) {x:Nat} {t:Tm} (ht:ts[x]?=some t) (hx:x<i)
  (hms:WordsAt w t.ma (mss x)/\t.ml=(mss x).length/\(mss x).length<=t.mc/\(mss x).length<1000000000000) (htx:t.text.size<9000000000000000000) (hkey:t.kind=1\/t.kind=2\/t.kind=3\/t.kind=4\/t.kind=14) :
  Calls Tryz.prog 213 #[.pointer (some ⟨b,0,none⟩),.int .i64 x] w λ e w'=>e=.returned (.int .i64 (hashT ts mss x))/\Keep No w w':=by
 refine ret_mono (V213_sound _ _ w (λ r w'=>r=.int .i64 (hashT ts mss x)/\Keep No w w') ?_) (by rintro _ _ ⟨rfl,h⟩;exact ⟨rfl,h⟩)
 obtain ⟨vv,hv1,hv2⟩:=hG.vd x t ht hx
 obtain ⟨g,rc,rfl,hcell⟩:=row_get hrow hx
 have hxn:x<ts.length:=(List.getElem?_eq_some_iff.1 ht).1
 obtain ⟨p,rfl,hc⟩:=hts x t ht
 have hh:hashT ts mss x=if t.kind=1 then hWhole true [7,0] else if t.kind=2 then hWhole false [if t.b then 1 else 0,0] else if t.kind=3 then hWhole t.neg (mss x) else if t.kind=4 then hText t.text else
  if t.hash then hWhole t.neg (mss x) else hNumber (numT t (cO ts x)):=by unfold hashT;rw [ht]
 rw [gdesc_of ht] at hv2
 unfold V213
 simp only [nilK_some]
 refine ⟨_,_,_,hb.add 1 rfl,idxK_of hxn ⟨_,_,_,_,_,_,_,_,_,_,_,_,hc,termCopy λ c w1 hc1 hk1 hcs=>⟨_,hc1.add 0 rfl,?_⟩⟩⟩
 refine bsel_split (λ h1=>?_) λ h1=>?_
 ·have h1:t.kind=1:=by simpa using h1
  refine (C93_m7 w1).mono ?_
  rintro _ w2 ⟨y,rfl,hy,hk2⟩
  obtain ⟨a',c',hya,_⟩:=hy.cells
  refine ⟨_,_,_,_,by rw [hya],(hash_form hy (by simp) hya).mono ?_⟩
  rintro _ w3 ⟨rfl,hk3⟩
  exact ⟨_,rfl,by rw [hh,if_pos h1],(hk1.no hk2).no hk3⟩
 have h1:t.kind≠1:=by simpa using h1
 refine bsel_split (λ h4=>?_) λ h4=>?_
 ·have h4:t.kind=4:=by simpa using h4
  refine ⟨_,hc1.add 4 rfl,(C104 t.text htx w1).mono ?_⟩
  rintro _ w2 ⟨rfl,hk2⟩
  exact ⟨_,rfl,by rw [hh];simp [h4],hk1.no hk2⟩
 have h4:t.kind≠4:=by simpa using h4
 refine bsel_split (λ h14=>?_) λ h14=>?_
 ·have h14:t.kind=14:=by simpa using h14
  refine ⟨_,hc1.add 6 rfl,bsel_split (λ hha=>?_) λ hha=>?_⟩
  ·refine ⟨_,_,_,_,hc1.cellsAdd 2 rfl,?_⟩
   obtain ⟨m1,m2,m3,m4⟩:=hms
   rw [m2]
   refine (C103 (m1.no hk1) m3 m4).mono ?_
   rintro _ w2 ⟨rfl,hk2⟩
   exact ⟨_,rfl,by rw [hh];simp [h14,hha],hk1.no hk2⟩
  ·have hkd:=hk1.no (Keep.drawn w1)
   have hGd:=hG.no hkd
   have hbd:=hkd.nblk hb
   refine ⟨_,hbd.add 0 rfl,_,_,_,hbd.add 2 rfl,idxK_of hx ⟨_,by rw [add_mk,Nat.mul_one,Nat.zero_add];exact hkd.cell hcell id,(C15_in hGd.st hv1 (hv2.no hkd)).mono ?_⟩⟩
   rintro _ w2 ⟨rfl,hk2⟩
   have hd:(descT t (mss x) (cO ts x)).num=numT t (cO ts x):=by unfold descT;simp [h14,VD.num]
   refine ⟨_,rfl,(C164 _ w2).mono ?_⟩
   rintro _ w3 ⟨rfl,hk3⟩
   exact ⟨_,rfl,by rw [hh,hd];simp [h14,hha],(hkd.no hk2).no hk3⟩
 have h14:t.kind≠14:=by simpa using h14
 have h23:t.kind=2\/t.kind=3:=by omega
 have hkd:=hk1.no (Keep.drawn w1)
 have hbd:=hkd.nblk hb
 have hJ:∀{a:Nat} {w5:World} {y:Value} {neg:Bool} {ms:List Int} {R:Nat} {x1:Bool} {a1:Option Addr} {l1 c1:Nat},Keep No w w5->FormAt R w5 y neg ms->ms.length<1000000000000->y=.agg #[.bool x1,.slice a1 l1 c1]->wkey neg ms=wkey (if t.kind=3 then t.neg else false) (if t.kind=3 then mss x else [if t.b then 1 else 0,0])->Blk w5 a 40 [.bool x1,.slice a1 l1 c1]->
   V213J1 (λ r w'=>r=.int .i64 (hashT ts mss x)/\Keep No w w') ⟨a,0,none⟩ w5:=by
  intro a w5 y neg ms R x1 a1 l1 c1 hk5 hy hl hya hwk hba
  unfold V213J1
  refine ⟨_,_,_,_,hba.cells0,(hash_form hy hl hya).mono ?_⟩
  rintro _ w6 ⟨rfl,hk6⟩
  refine ⟨_,rfl,?_,hk5.no hk6⟩
  have hwh:∀{n1 n2:Bool} {m1 m2:List Int},wkey n1 m1=wkey n2 m2->hWhole n1 m1=hWhole n2 m2:=by
   intro n1 n2 m1 m2 hw
   unfold wkey sgnI at hw
   simp only [Prod.mk.injEq] at hw
   obtain ⟨q1,q2⟩:=hw
   unfold hWhole
   rw [<-q2] at q1 ⊢
   by_cases h0:(trimmed m1).length=0
   ·have:trimmed m1=[]:=List.length_eq_zero_iff.1 h0
    rw [this]
    simp [restW]
   ·rw [if_neg h0,if_neg h0] at q1
    cases n1 <;> cases n2 <;> simp at q1 ⊢
  rw [hwh hwk,hh]
  rcases h23 with h | h <;> simp [h]
 have hwhole:∀{wa:World},Keep No w wa->Calls Tryz.prog 42 #[.pointer (some ⟨s,0,none⟩),.int .i64 (gref ts x)] wa λ r w'=>∃(y:Value) (neg:Bool) (ms:List Int) (R:Nat),r=.returned (.tuple #[y,.bool true])/\FormAt R w' y neg ms/\ms.length<1000000000000/\wkey neg ms=wkey (if t.kind=3 then t.neg else false) (if t.kind=3 then mss x else [if t.b then 1 else 0,0])/\Keep No wa w':=by
  intro wa hka
  refine (C42_in (hG.st.no hka) hv1 (hv2.no hka)).mono ?_
  rintro _ w' ⟨r,rfl,hw,hk'⟩
  unfold WholeIs at hw
  have hkk:(descT t (mss x) (cO ts x)).key=some (wkey (if t.kind=3 then t.neg else false) (if t.kind=3 then mss x else [if t.b then 1 else 0,0])):=by
   unfold descT
   rcases h23 with h | h <;> simp [h,VD.key]
  rw [hkk] at hw
  obtain ⟨y,neg,ms,R,rfl,q1,q2,q3⟩:=hw
  exact ⟨y,neg,ms,R,rfl,q1,q2,q3,hk'⟩
 refine ⟨_,hbd.add 0 rfl,_,_,_,hbd.add 2 rfl,idxK_of hx ⟨_,by rw [add_mk,Nat.mul_one,Nat.zero_add];exact hkd.cell hcell id,?_,?_⟩⟩
 ·refine (hwhole hkd).mono ?_
  rintro _ w2 ⟨y,neg,ms,R',rfl,q1,q2,q3,hk2⟩
  obtain ⟨a',c',hya,_⟩:=q1.cells
  refine ⟨_,_,_,_,_,by rw [hya],copy2 λ a w3 hba hk3 hs3=>hJ ((hkd.no hk2).no hk3) (q1.no hk3) q2 hya q3 hba⟩
 ·refine newK_of λ a w2 hs2 hba hk2=>⟨?_,(hk2.nblk hbd).add 2 rfl,(hk2.nblk hbd).add 0 rfl,(hwhole (hkd.no hk2)).mono ?_⟩
  ·rw [add_mk,Nat.mul_one,Nat.zero_add];exact (hkd.no hk2).cell hcell id
  rintro _ w3 ⟨y,neg,ms,R',rfl,q1,q2,q3,hk3⟩
  obtain ⟨a',c',hya,_⟩:=q1.cells
  refine ⟨_,_,_,_,_,by rw [hya],set2 (hk3.nblk hba) λ w4 hba4 hk4=>?_⟩
  have hsz:=hkd.size
  exact hJ (((hkd.no hk2).no hk3).news hk4 λ k e=>by omega) (q1.one (hk3.nblk hba) (by decide) hk4) q2 hya q3 hba4
end
end Go.Fw

namespace Go.Fw
open Go.Proofs Go.RowKit
def alikeP (ts:List Tm) (mss:Nat->List Int) (x:Nat) (k:Int):Prop:=∃y t,ts[y]?=some t/\(gref ts y:Int)=k/\(gref ts y=gref ts x\/alikeD (gdesc ts mss y) (gdesc ts mss x))
open Classical in
noncomputable def alikeR (ts:List Tm) (mss:Nat->List Int) (x:Nat) (k:Int):Bool:=decide (alikeP ts mss x k)
open Classical in
theorem alikeR_of {ts:List Tm} {mss:Nat->List Int} {x y:Nat} {t:Tm} (hy:ts[y]?=some t) {b:Bool} (hb:b=true↔(gref ts y=gref ts x\/alikeD (gdesc ts mss y) (gdesc ts mss x))):b=alikeR ts mss x (gref ts y):=by
 have h2:alikeR ts mss x (gref ts y)=true↔(gref ts y=gref ts x\/alikeD (gdesc ts mss y) (gdesc ts mss x)):=by
  unfold alikeR
  rw [decide_eq_true_iff]
  constructor
  ·rintro ⟨z,u,hz,he,h⟩
   have he:gref ts z=gref ts y:=Int.ofNat_inj.1 he
   rw [he,gdesc_eq (mss:=mss) hz hy he] at h
   exact h
  ·intro h
   exact ⟨y,t,hy,rfl,h⟩
 cases b
 ·cases hc:alikeR ts mss x (gref ts y)
  ·rfl
  ·exact absurd (hb.2 (h2.1 hc)) (by simp)
 ·exact (h2.2 (hb.1 rfl)).symm
theorem mfp_types {w:World} {R d B0:Nat} {D:Dc} (h:DictAt w R d D) {k:Nat} (hk:Mfp B0 D d w k):∃e,etype w k=some e/\(e ∈ dictTy\/e=348\/e=395):=by
 rcases hk with hk | ⟨_,hk | hk⟩
 ·obtain ⟨_,_,e,he,hm⟩:=h.ty hk
  exact ⟨e,he,.inl hm⟩
 ·exact ⟨_,hk,.inr (.inl rfl)⟩
 ·exact ⟨_,hk,.inr (.inr rfl)⟩
section
variable {w:World} {s B b:Nat} {S:St} {ts:List Tm} {mss:Nat->List Int} {i:Nat} {ta:Option Addr} {tc:Nat} {v:Value} {R:Nat}
def InAt (w:World) (t:Tm) (ms:List Int):Prop:=(WordsAt w t.ma ms/\t.ml=ms.length/\ms.length<=t.mc/\ms.length<1000000000000)/\t.text.size<9000000000000000000
theorem InAt.no {w w':World} {t:Tm} {ms:List Int} (h:InAt w t ms) (hk:Keep No w w'):InAt w' t ms:=⟨⟨h.1.1.no hk,h.1.2⟩,h.2⟩
def isKeyK (t:Tm):Prop:=t.kind=1\/t.kind=2\/t.kind=3\/t.kind=4\/t.kind=14
theorem C142_gen (hG:GVal s B S ts mss i w) (hb:Blk w b 92 [.pointer (some ⟨s,0,none⟩),.slice ta ts.length tc,v]) (hts:TermsAt w ta ts) (hrow:w.ownsRow R 3 1 v i (ints ((List.range i).map λ x=>(gref ts x:Int)))) {x:Nat} {t:Tm} (ht:ts[x]?=some t) (hx:x<i)
  (hin:InAt w t (mss x)) (hkey:isKeyK t) {p d:Nat} {num kind:Int} (hp:Blk w p 120 [.int .i64 num,.pointer (some ⟨d,0,none⟩),.int .i64 kind]) {Rd:Nat} {D:Dc} (h:DictAt w Rd d D) (hok:DcOk D) (hmost:D.most<=65536) (hn:D.T.turns<1000000000000/\D.T.made<1000000000000)
  (hil:i<=ts.length) (hkeys:∀e ∈ D.T.es,∃y,y<i/\e.key=gref ts y) (value:Int) (hRd:Rd<=w.heap.size) :
  Calls Tryz.prog 142 #[.pointer (some ⟨b,0,none⟩),.pointer (some ⟨p,0,none⟩),.int .i64 x,.int .i64 value] w λ e w'=>e=.returned (.tuple #[])/\∃D',DictAt w' Rd d D'/\DcOk D'/\D'.T.es=putEs (alikeR ts mss x) D.most D.T.es (hashT ts mss x) (gref ts x) value/\D'.most=D.most/\
   D'.T.turns<=D.T.turns+1/\D'.T.made<=D.T.made+1/\(∀k,D'.own d k->D.own d k\/w.heap.size<=k)/\Keep (D.own d) w w':=by
 refine ret_mono (V142_sound _ _ _ _ w (λ r w'=>r=.tuple #[]/\∃D',DictAt w' Rd d D'/\DcOk D'/\D'.T.es=putEs (alikeR ts mss x) D.most D.T.es (hashT ts mss x) (gref ts x) value/\D'.most=D.most/\
   D'.T.turns<=D.T.turns+1/\D'.T.made<=D.T.made+1/\(∀k,D'.own d k->D.own d k\/w.heap.size<=k)/\Keep (D.own d) w w') ?_) (by rintro _ _ ⟨rfl,h⟩;exact ⟨rfl,h⟩)
 have hb0:=hok.births
 have hl0:=hok.len
 obtain ⟨g,rc,rfl,hcell⟩:=row_get hrow hx
 unfold V142
 simp only [nilK_some]
 have hd:=Keep.drawn w
 have hbd:=hd.nblk hb
 have hpd:=hd.nblk hp
 have hcell0:w.drew.cell? ((⟨g,0,none⟩:Addr).add (x*1))=some (.int .i64 (gref ts x)):=by rw [add_mk,Nat.mul_one,Nat.zero_add];exact hcell
 refine ⟨_,hpd.add 1 rfl,_,_,_,hbd.add 2 rfl,idxK_of hx ⟨_,hcell0,(C213_gen (hG.no hd) hbd (hts.no hd) (hd.nrow hrow) ht hx (hin.no hd).1 hin.2 hkey).mono ?_⟩⟩
 rintro _ w1 ⟨rfl,hk1⟩
 have hk01:=hd.no hk1
 have hb1:=hk01.nblk hb
 have hp1:=hk01.nblk hp
 refine ⟨_,rfl,hk1.cell hcell0 id,hb1.add 2 rfl,hp1.add 1 rfl,(C148 (goal:=2) (by decide) d _ _ value w1).mono ?_⟩
 rintro _ w2 ⟨m,rfl,hm,hmB,hk2⟩
 have hk02:=hk01.no hk2
 have hs1:=hk01.size
 have hs2:=hk2.size
 have h2:=h.no hk02
 have hG2:=hG.no hk02
 have hb2:=hk02.nblk hb
 have hcell2:=hk02.cell hcell id
 have hrow2:=hk02.nrow hrow
 have hgty:etype w2 g=some 3:=ownsRow_etype hrow2 rfl
 have hnm:∀{k:Nat} {e:TypeId},etype w2 k=some e->e ∉ dictTy->e≠348->e≠395->¬Mfp w1.heap.size D d w2 k:=by
  intro k e he q1 q2 q3 hk
  obtain ⟨e',he',hm⟩:=mfp_types h2 hk
  rw [he] at he'
  cases he'
  rcases hm with q | q | q
  ·exact q1 q
  ·exact q2 q
  ·exact q3 q
 refine ⟨_,rfl,put_dialog (s:=some ⟨s,0,none⟩) (B:=w1.heap.size) (alike:=alikeR ts mss x) (st:=λ w3=>Keep (Mfp w1.heap.size D d w2) w2 w3) (λ _ _ q1 q2=>q1.mfp2 q2) ?_ ?_ h2 hok.ok (by omega) ⟨by omega,hn.1,hn.2⟩ hm ⟨hmB,hs2,by omega⟩ (Keep.refl _ _) ?_⟩
 ·rintro w3 k hk3 ⟨e,he,rfl⟩
  obtain ⟨y,hy,hyk⟩:=hkeys e he
  obtain ⟨u,hu⟩:∃u,ts[y]?=some u:=⟨_,List.getElem?_eq_getElem (by omega)⟩
  have hG3:=hG2.keep hk3 λ k _ hf=>by
   obtain ⟨e,he,hm⟩:=mfp_types h2 hf
   refine ⟨e,he,?_⟩
   rcases hm with q | rfl | rfl
   ·have:∀e ∈ dictTy,e ∉ storeTy/\e ∉ objE:=by decide
    exact this e q
   ·decide
   ·decide
  obtain ⟨v1,q1,q2⟩:=hG3.vd y u hu hy
  obtain ⟨v2,q3,q4⟩:=hG3.vd x t ht hx
  rw [hyk]
  refine (C16_in hG3.st q1 q2 q3 q4).mono ?_
  rintro _ w4 ⟨bb,rfl,hbb,hk4⟩
  rw [alikeR_of hu hbb]
  exact ⟨rfl,hk4⟩
 ·intro w3 hk3
  have hb3:=hk3.blk hb2 (hnm hb2.etype (by decide) (by decide) (by decide))
  refine ⟨g,i,rc,hb3.add 0 rfl,hb3.add 2 rfl,hx,hk3.cell hcell2 (hnm hgty (by decide) (by decide) (by decide))⟩
 ·intro w3 D' hout h3 hown3 hk3
  obtain ⟨r1,r2,r3,r4,r5⟩:=hout.es hok
  refine ⟨rfl,D',h3,r1,r2,r3,r4,r5,λ k hk=>?_,?_⟩
  ·rcases hown3 k hk with q | q
   ·exact .inl q
   ·exact .inr (by omega)
  ·refine hk02.of_no.trans hk3 λ k hk hf=>?_
   rcases hf with q | ⟨q,_⟩
   ·exact q
   ·omega
end
end Go.Fw

namespace Go.Fw
open Go.Proofs Go.RowKit
def KeysAt (w:World) (B:Nat) (a:Option Addr) (l:List Int):Prop:=∀j k,l[j]?=some k->∃p,a=some p/\w.cell? (p.add j)=some (.int .i64 k)/\(p.block<B\/etype w p.block=some 3)
def evens (ks:List Int) (m:Nat):List Int:=(List.range m).map λ j=>ks.getD (2*j) 0
def keysL (t:Tm) (ks:List Int):List Int:=if t.kind=8\/t.kind=9 then ks else if t.kind=7 then evens ks ((ks.length+1) / 2) else []
theorem evens_len (ks:List Int) (m:Nat):(evens ks m).length=m:=by simp [evens]
theorem evens_succ {ks:List Int} {m:Nat} {k:Int} (h:ks[2*m]?=some k):evens ks (m+1)=evens ks m ++ [k]:=by
 unfold evens
 rw [List.range_succ,List.map_append]
 simp [List.getD,h]
section
variable {w:World} {B:Nat} {t:Tm} {ks:List Int}
theorem C134_gen (hks:KidsAt w t ks) (hty:∀p,t.ka=some p->0<t.kl->p.block<B) (hkl:t.kl<1000000000000) :
  Calls Tryz.prog 134 #[.agg t.cells.toArray] w λ e w'=>∃a c,e=.returned (.slice a (keysL t ks).length c)/\KeysAt w' B a (keysL t ks)/\Keep No w w':=by
 refine ret_mono (V134_sound t.kind t.b t.neg t.ma t.ml t.mc t.text t.ka t.kl t.kc t.hash t.same w (λ r w'=>∃a c,r=.slice a (keysL t ks).length c/\KeysAt w' B a (keysL t ks)/\Keep No w w') ?_) (by rintro _ _ ⟨a,c,rfl,h⟩;exact ⟨a,c,rfl,h⟩)
 have hlen:=hks.1
 unfold V134
 refine newK_of λ b w1 hs hb hk=>⟨_,hb.add 0 rfl,?_⟩
 have hset:(t.kind=8\/t.kind=9)->V134J1 (λ r w'=>∃a c,r=.slice a (keysL t ks).length c/\KeysAt w' B a (keysL t ks)/\Keep No w w') ⟨b,0,none⟩ t.kind true w1:=by
  intro h89
  have e1:keysL t ks=ks:=by unfold keysL;rw [if_pos h89]
  unfold V134J1
  refine bsel_pos rfl ⟨_,_,_,hb.add 5 rfl,t.ka,t.kc,by rw [e1,hlen],?_,hk⟩
  rw [e1]
  intro j k hj
  obtain ⟨q,hq,hc⟩:=hks.2 j k hj
  exact ⟨q,hq,hk.cell hc id,.inl (hty q hq (by have:=(List.getElem?_eq_some_iff.1 hj).1;omega))⟩
 refine bsel_split (λ h8=>hset (.inl (by simpa using h8))) λ h8=>?_
 have h8:t.kind≠8:=by simpa using h8
 by_cases h9:t.kind=9
 ·rw [show (t.kind == 9)=true by simp [h9]]
  exact hset (.inr h9)
 rw [show (t.kind == 9)=false by simp [h9]]
 unfold V134J1
 refine bsel_neg rfl (bsel_split (λ h7=>?_) λ h7=>?_)
 ·have h7:t.kind=7:=by simpa using h7
  have e1:keysL t ks=evens ks ((ks.length+1) / 2):=by unfold keysL;rw [if_neg (by omega),if_pos h7]
  refine ⟨λ a n c i w'=>∃m:Nat,i=2*m/\n=m/\m<=(ks.length+1) / 2/\w'.ownsRow w.heap.size 3 1 (.slice a n c) m (ints (evens ks m))/\Keep No w w'/\Blk w' b 42 t.cells,λ _ _ _ i _=>(ks.length+1-i).toNat,⟨0,rfl,rfl,by omega,World.ownsRow_nil _ _ _ _,hk,hb⟩,?_⟩
  rintro j a n c i w2 ⟨m,rfl,rfl,hm,hrow,hk2,hb2⟩
  refine ⟨_,_,_,hb2.add 5 rfl,bsel_split (λ hlt=>?_) λ hge=>?_⟩
  ·have hlt:2*n<t.kl:=by simp at hlt;omega
   obtain ⟨k,hkn⟩:∃k,ks[2*n]?=some k:=⟨_,List.getElem?_eq_getElem (by omega)⟩
   obtain ⟨q,hq,hc⟩:=hks.2 _ _ hkn
   refine ⟨_,_,_,hb2.add 5 rfl,?_⟩
   rw [hq]
   have e2:(2*(n:Int))=((2*n:Nat):Int):=by omega
   rw [e2]
   refine idxK_of hlt ⟨k,by rw [Nat.mul_one];exact hk2.cell hc id,newK_of λ b3 w3 hs3 hb3 hk3=>?_⟩
   refine appendRow rowInts (hk3.nrow hrow) hb3 rfl (by omega) (by have:=(hk2.no hk3).size;omega) λ g cap w4 hrow4 hk4 hat=>?_
   rw [wrap_i64 (by omega)]
   have hbne:=ownsRow_ne (hk3.nrow hrow) (hk3.nblk hb2) (by decide)
   refine ⟨⟨n+1,by omega,rfl,by omega,?_,?_,hk4.blk (hk3.nblk hb2) λ e=>hbne e⟩,by simp only;omega⟩
   ·rw [evens_succ hkn]
    simpa [ints] using hrow4
   ·exact (hk2.no hk3).news hk4 λ x hx=>((hk3.nrow hrow).lt x hx).1
  ·have hge:t.kl<=2*n:=by simp at hge;omega
   have hmn:n=(ks.length+1) / 2:=by omega
   subst hmn
   refine ⟨a,c,by rw [e1,evens_len],?_,hk2⟩
   rw [e1]
   intro j k hj
   obtain ⟨g,cap,hv,_,hcell⟩:=row_cell hrow (ints_get hj)
   cases hv
   exact ⟨_,rfl,by rw [add_mk,Nat.zero_add];exact hcell,.inr (ownsRow_etype hrow rfl)⟩
 ·have h7:t.kind≠7:=by simpa using h7
  have e1:keysL t ks=[]:=by unfold keysL;rw [if_neg (by omega),if_neg h7]
  refine ⟨none,0,by rw [e1];rfl,?_,hk⟩
  rw [e1]
  intro j k hj
  simp at hj
end
noncomputable def tabStep (ts:List Tm) (mss:Nat->List Int) (most:Int) (t:Tm) (ks:List Int) (es:List Ent) (j:Nat):List Ent:=
 putEs (alikeR ts mss ((keysL t ks).getD j 0).toNat) most es (hashT ts mss ((keysL t ks).getD j 0).toNat) (gref ts ((keysL t ks).getD j 0).toNat) (if t.kind=7 then gref ts (ks.getD (2*j+1) 0).toNat else 0)
noncomputable def tabEs (ts:List Tm) (mss:Nat->List Int) (most:Int) (t:Tm) (ks:List Int) (n:Nat):List Ent:=(List.range n).foldl (tabStep ts mss most t ks) []
theorem tabEs_succ (ts:List Tm) (mss:Nat->List Int) (most:Int) (t:Tm) (ks:List Int) (n:Nat):tabEs ts mss most t ks (n+1)=tabStep ts mss most t ks (tabEs ts mss most t ks n) n:=by
 unfold tabEs
 rw [List.range_succ,List.foldl_append]
 rfl
theorem putEs_keys {alike:Int->Bool} {most:Int} {es:List Ent} {hash key value:Int} {P:Int->Prop} (h:∀e ∈ es,P e.key) (hk:P key):∀e ∈ putEs alike most es hash key value,P e.key:=by
 unfold putEs
 split
 ·rename_i i _
  cases hi:es[i]? with
  | none=>simpa using h
  | some e=>
   intro x hx
   simp only [Option.elim] at hx
   rcases List.mem_or_eq_of_mem_set hx with hx | rfl
   ·exact h x hx
   ·exact h e (List.mem_of_getElem? hi)
 ·split
  ·exact h
  ·intro x hx
   simp at hx
   rcases hx with hx | rfl
   ·exact h x hx
   ·exact hk
end Go.Fw
