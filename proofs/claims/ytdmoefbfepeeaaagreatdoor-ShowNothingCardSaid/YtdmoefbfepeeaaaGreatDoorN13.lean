/- Part of a proof over the given program: texts of lemmas (conditions: none beyond each lemma as stated). -/
import Derived.Test.YtdmoefbfepeeaaaGreatDoorN12
set_option linter.unnecessarySimpa false
set_option linter.unusedVariables false
set_option linter.unusedSimpArgs false

namespace Go.Fw
open Go.Proofs Go.RowKit
def u32s (ws:List Nat):List Int:=ws.map λ m=>((m:Nat):Int)
theorem u32s_len (ws:List Nat):(u32s ws).length=ws.length:=by simp [u32s]
theorem row_shrink {w:World} {B e n n':Nat} {a:Option Addr} {c:Nat} {xs:List Value} (h:w.ownsRow B e 1 (.slice a n c) n xs) (hn:n'<=n):w.ownsRow B e 1 (.slice a n' c) n' (xs.take n'):=by
 refine ⟨by simp [h.1];omega,?_⟩
 rcases h.2 with ⟨h1,h2⟩ | ⟨g,cap,cur,h1,hB,hg,hc,hm,hs,ht⟩
 ·subst h2
  have:n'=0:=by omega
  subst this
  exact .inl ⟨h1,rfl⟩
 ·cases h1
  refine .inr ⟨g,c,cur,rfl,hB,hg,by omega,hm,hs,?_⟩
  rw [<-ht,List.take_take,Nat.mul_one,Nat.mul_one,Nat.min_eq_left hn]
theorem row_uniq {w:World} {B B' e size n:Nat} {v:Value} {xs xs':List Value} (h:w.ownsRow B e size v n xs) (h':w.ownsRow B' e size v n xs'):xs=xs':=by
 rcases h.2 with ⟨h1,h2⟩ | ⟨g,cap,cur,h1,hB,hg,hc,hm,hs,ht⟩
 ·have e1:=h.1
  have e2:=h'.1
  rw [h2,Nat.zero_mul] at e1 e2
  rw [List.length_eq_zero_iff.1 e1,List.length_eq_zero_iff.1 e2]
 ·rcases h'.2 with ⟨h1',h2'⟩ | ⟨g',cap',cur',h1',hB',hg',hc',hm',hs',ht'⟩
  ·rw [h1] at h1';cases h1'
  ·rw [h1] at h1'
   cases h1'
   rw [hg] at hg'
   cases hg'
   rw [<-ht,<-ht']
theorem C123_row {w:World} {a:Option Addr} {ms:List Int} {c:Nat} (h:WordsAt w a ms) (hl:ms.length<1000000000000) :
  Calls Tryz.prog 123 #[.slice a ms.length c] w λ e w'=>∃v,e=.returned v/\w'.ownsRow w.heap.size 45 1 v ms.length (ms.map (.int .u32))/\Keep No w w':=by
 refine V123_sound a ms.length c w (λ v w'=>w'.ownsRow w.heap.size 45 1 v ms.length (ms.map (.int .u32))/\Keep No w w') ?_
 unfold V123
 cases a with
 | none=>
  have:=h.none_nil
  subst this
  exact bsel_pos rfl ⟨World.ownsRow_nil _ _ _ _,Keep.refl _ _⟩
 | some p=>
  refine bsel_neg rfl (newK_of λ b w1 hb hbb hk=>?_)
  obtain ⟨i,hi,hi1,hi2,z,hz,hz1⟩:∃i,Tryz.prog.info? 45=some i/\i.size=1/\i.bytes=4/\∃z,i.zero=some z/\z.cells.size=1:=infoU32
  have hown:w1.ownsRow w.heap.size 45 1 (.slice (some ⟨b,0,none⟩) 0 0) 0 []:=⟨rfl,.inr ⟨b,0,#[],rfl,by omega,hbb,by omega,by simp [maxLen],rfl,rfl⟩⟩
  obtain ⟨v',w',hr,h2,h3,h4,h5⟩:=run_append_own_at (P:=Tryz.prog) w1 w.heap.size 38 38 45 i z 1 4 Tryz.underlying38 hi hz hi1 hi2 hz1 (by omega) _ 0 [] hown p ms.length c (ms.map (.int .u32)) (by simp)
   (by
    intro j u hj
    obtain ⟨m,hm,rfl⟩:∃m,ms[j]?=some m/\Value.int .u32 m=u:=by simpa using hj
    obtain ⟨q,hq,hc⟩:=h j m hm
    cases hq
    exact hk.cell hc id) (by intro u hu;obtain ⟨m,_,rfl⟩:=List.mem_map.1 hu;rfl) (by simp [maxLen];omega) (by omega) (by have:=hk.size;omega)
  rw [Nat.zero_add,List.nil_append] at h2
  obtain ⟨a',c',rfl⟩:=ownsRow_slice h2
  refine ⟨w',_,_,_,hr,h2,?_⟩
  refine hk.news (Keep.of_grown h3) λ k hk'=>?_
  simp [Value.ownBlock] at hk'
  omega
theorem row_words {w:World} {B n:Nat} {a:Option Addr} {c:Nat} {ms:List Int} (h:w.ownsRow B 45 1 (.slice a n c) n (ms.map (.int .u32))):WordsAt w a ms/\n=ms.length/\ms.length<=c:=by
 have hl:n=ms.length:=by have:=h.1;simp at this;omega
 refine ⟨λ i m hm=>?_,hl,?_⟩
 ·obtain ⟨g,cap,hv,hi,hc⟩:=row_cell h (i:=i) (x:=.int .u32 m) (by simp [hm])
  cases hv
  exact ⟨_,rfl,by rw [add_mk,Nat.zero_add];exact hc⟩
 ·rcases h.2 with ⟨h1,h2⟩ | ⟨g,cap,cur,h1,hB,hg,hc,hm,hs,ht⟩
  ·omega
  ·cases h1;omega
theorem take_pass {ws:List Nat} {i m:Nat} (h:ws[i]?=some m):(ws.take (i+1) ++ (pass (ws.drop (i+1))).1).set i (((pass (ws.drop (i+1))).2*4294967296+m) / 1000000000)=ws.take i ++ (pass (ws.drop i)).1/\(pass (ws.drop i)).2=((pass (ws.drop (i+1))).2*4294967296+m) % 1000000000:=by
 obtain ⟨hi,he⟩:=List.getElem?_eq_some_iff.1 h
 have hd:ws.drop i=m :: ws.drop (i+1):=by rw [List.drop_eq_getElem_cons hi,he]
 rw [hd]
 refine ⟨?_,rfl⟩
 rw [List.take_succ_eq_append_getElem hi,List.append_assoc,List.set_append_right _ _ (by simp;omega),List.length_take,Nat.min_eq_left (by omega),Nat.sub_self]
 rfl
theorem inner_pass {w w0:World} {B n:Nat} {a:Option Addr} {c:Nat} {ws:List Nat} (hrow:w.ownsRow B 45 1 (.slice a n c) n ((u32s ws).map (.int .u32))) (hn:n=ws.length) (hl:n<1000000000000) (hr:∀m ∈ ws,m<4294967296) (hB:w0.heap.size<=B) (hk0:Keep No w0 w) {K:Int->World->Prop}
  (hK:∀w',w'.ownsRow B 45 1 (.slice a n c) n ((u32s (pass ws).1).map (.int .u32))->Keep (λ k=>(Value.slice a n c).ownBlock=some k) w w'->K ((pass ws).2:Nat) w') :
  ∃(I30:Int->Int->World->Prop) (μ31:Int->Int->World->Nat),I30 0 (IntKind.wrap .i64 ((n:Int)-1)) w/\∀(j35:Fr) (i32:Int) (i33:Int) (w34:World),I30 i32 i33 w34->
  bsel (decide (i33>=0)) (
  idxK a n i33 1 λ a36=>
  ∃t37:Int,w34.cell? a36=some (.int .u32 t37)/\
  Calls Tryz.prog 125 #[.int .u32 i32,.int .u32 t37,.int .u32 1000000000] w34 λ e38 w39=>∃t40:Int,∃t41:Int,e38=.returned (.tuple #[.int .u32 t40,.int .u32 t41])/\
  idxK a n i33 1 λ a42=>
  stK w39 a42 (.int .u32 t40) λ w43=>
  (I30 t41 (IntKind.wrap .i64 (i33-1)) w43/\μ31 t41 (IntKind.wrap .i64 (i33-1)) w43<μ31 i32 i33 w34)) (K i32 w34):=by
 refine ⟨λ r i w'=>∃k:Nat,k<=n/\i=(k:Int)-1/\r=((pass (ws.drop k)).2:Nat)/\w'.ownsRow B 45 1 (.slice a n c) n ((u32s (ws.take k ++ (pass (ws.drop k)).1)).map (.int .u32))/\Keep (λ k=>(Value.slice a n c).ownBlock=some k) w w',λ _ i _=>(i+1).toNat,⟨n,Nat.le_refl _,by rw [wrap_i64 (by omega)],?_,?_,Keep.refl _ _⟩,?_⟩
 ·rw [hn,List.drop_length];rfl
 ·rw [hn,List.drop_length,List.take_length]
  simpa [pass,hn] using hrow
 rintro j r i w1 ⟨k,hk,rfl,rfl,hrow1,hk1⟩
 refine bsel_split (λ hge=>?_) λ hlt=>?_
 ·obtain ⟨i,rfl⟩:∃i,k=i+1:=⟨k-1,by simp at hge;omega⟩
  obtain ⟨m,hm⟩:∃m,ws[i]?=some m:=⟨_,List.getElem?_eq_getElem (by omega)⟩
  have hml:=hr m (List.mem_of_getElem? hm)
  have hei:((i+1:Nat):Int)-1=(i:Int):=by omega
  rw [hei]
  have hget:((u32s (ws.take (i+1) ++ (pass (ws.drop (i+1))).1)).map (Value.int .u32))[i]?=some (.int .u32 (m:Nat)):=by
   unfold u32s
   rw [List.getElem?_map,List.getElem?_map,List.getElem?_append_left (by simp;omega),List.getElem?_take,if_pos (by omega),hm]
   rfl
  obtain ⟨g,cap,hv,_,hcell⟩:=row_cell hrow1 hget
  cases hv
  have hplt:=(pass_lt (ws.drop (i+1)) λ x hx=>hr x (List.mem_of_mem_drop hx)).1
  obtain ⟨t1,t2⟩:=take_pass hm
  refine idxK_of (by omega) ⟨_,by rw [add_mk,Nat.mul_one,Nat.zero_add];exact hcell,(C125_bil hplt hml w1).mono ?_⟩
  rintro _ w2 ⟨rfl,hk2⟩
  refine ⟨_,_,rfl,idxK_of (by omega) ?_⟩
  rw [add_mk,Nat.mul_one,Nat.zero_add]
  refine stRow (hk2.nrow hrow1) hget λ w3 hrow3 hk3=>⟨⟨i,by omega,by rw [wrap_i64 (by omega)],by rw [t2],?_,(hk1.no hk2).trans hk3 λ k _ e=>by rw [e];rfl⟩,?_⟩
  ·have e:((u32s (ws.take (i+1) ++ (pass (ws.drop (i+1))).1)).map (Value.int .u32)).set i (.int .u32 ((((pass (ws.drop (i+1))).2*4294967296+m) / 1000000000:Nat):Int))=(u32s (ws.take i ++ (pass (ws.drop i)).1)).map (Value.int .u32):=by
    rw [<-t1]
    unfold u32s
    rw [List.map_set,List.map_set]
   rw [<-e];exact hrow3
  ·simp only
   rw [wrap_i64 (by omega)];omega
 ·have:k=0:=by simp at hlt;omega
  subst this
  rw [List.take_zero,List.nil_append,List.drop_zero] at hrow1
  exact hK w1 hrow1 hk1
end Go.Fw

namespace Go.Fw
open Go.Proofs Go.RowKit
theorem valW_append:∀l r:List Nat,valW (l ++ r)=valW l+4294967296 ^ l.length*valW r
 | [],r=>by simp [valW]
 | m :: l,r=>by
  have:=valW_append l r
  simp only [List.cons_append,valW,this,List.length_cons,Nat.pow_succ]
  rw [Nat.mul_add,Nat.mul_comm (4294967296 ^ l.length) 4294967296,Nat.mul_assoc]
  omega
theorem valW_zero:∀l:List Nat,(∀m ∈ l,m=0)->valW l=0
 | [],_=>rfl
 | m :: l,h=>by
  have h1:=h m (by simp)
  have h2:=valW_zero l λ x hx=>h x (by simp [hx])
  simp [valW,h1,h2]
theorem valW_lt:∀l:List Nat,(∀m ∈ l,m<4294967296)->valW l<2 ^ (32*l.length)
 | [],_=>by simp [valW]
 | m :: l,h=>by
  have h1:=h m (by simp)
  have h2:=valW_lt l λ x hx=>h x (by simp [hx])
  have e:2 ^ (32*(m :: l).length)=4294967296*2 ^ (32*l.length):=by
   rw [List.length_cons,Nat.mul_add,Nat.pow_add,Nat.mul_comm]
  rw [e]
  simp only [valW]
  omega
theorem trimN_zero (ms:List Int):∀n,n<=ms.length->∀i,trimN ms n<=i->i<n->ms[i]?=some 0
 | 0,_,i,_,h=>by omega
 | n+1,hn,i,h1,h2=>by
  rw [trimN_succ] at h1
  split at h1
  ·rename_i hz
   by_cases hi:i=n
   ·subst hi;exact hz
   ·exact trimN_zero ms n (by omega) i h1 (by omega)
  ·omega
theorem trimN_last (ms:List Int):∀n j,trimN ms n=j+1->ms[j]?≠some 0
 | 0,j,h=>by cases h
 | n+1,j,h=>by
  rw [trimN_succ] at h
  split at h
  ·exact trimN_last ms n j h
  ·rename_i hz
   have:n=j:=by omega
   subst this
   exact hz
def tw (p:List Nat):List Nat:=p.take (trimN (u32s p) p.length)
theorem tw_u32 (p:List Nat):trimmed (u32s p)=u32s (tw p):=by
 unfold trimmed tw
 rw [u32s_len]
 unfold u32s
 rw [List.map_take]
theorem tw_val (p:List Nat):valW (tw p)=valW p:=by
 have h:=valW_append (p.take (trimN (u32s p) p.length)) (p.drop (trimN (u32s p) p.length))
 rw [List.take_append_drop] at h
 have hz:valW (p.drop (trimN (u32s p) p.length))=0:=by
  refine valW_zero _ λ m hm=>?_
  obtain ⟨i,hi⟩:=List.getElem?_of_mem hm
  rw [List.getElem?_drop] at hi
  have hlt:=(List.getElem?_eq_some_iff.1 hi).1
  have:=trimN_zero (u32s p) p.length (by rw [u32s_len];omega) (trimN (u32s p) p.length+i) (by omega) hlt
  unfold u32s at this hi
  rw [List.getElem?_map,hi] at this
  simpa using this
 rw [hz,Nat.mul_zero,Nat.add_zero] at h
 exact h.symm
theorem tw_ne (p:List Nat) (h:tw p≠[]):valW (tw p)≠0:=by
 obtain ⟨j,hj⟩:∃j,trimN (u32s p) p.length=j+1:=by
  cases hc:trimN (u32s p) p.length with
  | zero=>exact absurd (by unfold tw;rw [hc];rfl) h
  | succ j=>exact ⟨j,rfl⟩
 have hle:=trimN_le (u32s p) p.length
 have hl:=trimN_last (u32s p) p.length j hj
 obtain ⟨m,hm⟩:∃m,p[j]?=some m:=⟨_,List.getElem?_eq_getElem (by omega)⟩
 have hm0:m≠0:=by
  intro e
  apply hl
  unfold u32s
  rw [List.getElem?_map,hm,e];rfl
 have e:tw p=p.take j ++ [m]:=by
  unfold tw
  obtain ⟨hlt,he⟩:=List.getElem?_eq_some_iff.1 hm
  rw [hj,List.take_succ_eq_append_getElem hlt,he]
 rw [e,valW_append]
 have hp:0<4294967296 ^ (p.take j).length:=Nat.pow_pos (by decide)
 have:valW [m]=m:=by simp [valW]
 rw [this]
 have:=Nat.mul_pos hp (Nat.pos_of_ne_zero hm0)
 omega
theorem tw_lt {p:List Nat} (h:∀m ∈ p,m<4294967296):∀m ∈ tw p,m<4294967296:=λ m hm=>h m (List.mem_of_mem_take hm)
theorem u32s_inj {a b:List Nat} (h:(u32s a).map (Value.int .u32)=(u32s b).map (Value.int .u32)):a=b:=by
 unfold u32s at h
 rw [List.map_map,List.map_map] at h
 refine List.map_inj_right (f:=Value.int IntKind.u32 ∘ λ (m:Nat)=>(m:Int)) (λ x y hxy=>?_) |>.1 h
 have hxy:(x:Int)=(y:Int):=by simpa using hxy
 exact Int.ofNat_inj.1 hxy
theorem piece_bound {V n k:Nat} (hV:V<2 ^ (32*n)) (h:∀j,j<k->pieceAt V j≠0):k<=32*n:=by
 apply Classical.byContradiction
 intro hc
 exact h (32*n) (by omega) (pieceAt_zero V _ hV)
end Go.Fw

set_option maxRecDepth 100000
namespace Go.Fw
open Go.Proofs
def V324J1 (Q:Value->World->Prop) (x2:Int) (x3:Bool) (w4:World):Prop:=
bsel x3 (
Q (.tuple #[.pointer none,.int .i64 1]) w4) (
Calls Tryz.prog 359 #[.int .i64 x2] w4 λ e5 w6=>∃t7,e5=.returned (t7)/\
plK t7 (
newK w6 #[.int .i64 x2,t7] 440 λ a8 w9=>
∃t10,w9.cell? (a8.add 1)=some (t10)/\
InvK Tryz.prog t10 "lexicon/cells.len" #[] w9 λ e11 w12=>∃t13,e11=.returned (.int .i64 t13)/\
∃(I14:Int->World->Prop) (μ15:Int->World->Nat),I14 0 w12/\∀(j18:Fr) (i16:Int) (w17:World),I14 i16 w17->
bsel (decide (i16<t13)) (
∃t19,w17.cell? (a8.add 1)=some (t19)/\
InvK Tryz.prog t19 "lexicon/cells.set" #[.int .i64 i16,.int .i64 (-1)] w17 λ e20 w21=>∃t22,e20=.returned (t22)/\
(I14 (IntKind.wrap .i64 (i16+1)) w21/\μ15 (IntKind.wrap .i64 (i16+1)) w21<μ15 i16 w17)) (
Q (.tuple #[.pointer (some a8),.int .i64 0]) w17)))
def V324 (x1:Int) (w:World) (Q:Value->World->Prop):Prop:=
bsel (decide (x1<3)) (
V324J1 Q x1 true w) (
V324J1 Q x1 (decide (x1>20)) w)
def V324_ann:Nat->Ann:=λ k=>match k with | 0=>⟨[4,21],[(22,.int .i64)]⟩ | _=>⟨[],[]⟩
theorem V324_sound (x1 w Q) (h:V324 x1 w Q):Calls Tryz.prog 324 #[.int .i64 x1] w λ e w'=>∃v,e=.returned v/\Q v w':=
 sound_of Tryz.func324 V324_ann rfl (Eq.mpr (by kernel_rfl) h)
def V359 (x1:Int) (w:World) (Q:Value->World->Prop):Prop:=
bsel (decide (x1<=7)) (
((0:Int)<=x1)/\
∃w2:World,∃t3 t4 t5,(Instr.makeSlice 470 (.int .i64 (shl .i64 1 x1)) (.int .i64 (shl .i64 1 x1))).run Tryz.prog w=.ok (.slice t3 t4 t5) w2/\
Q (.iface 472 (.agg #[.slice t3 t4 t5,.int .i64 1])) w2) (
bsel (decide (x1<=15)) (
((0:Int)<=x1)/\
∃w6:World,∃t7 t8 t9,(Instr.makeSlice 473 (.int .i64 (shl .i64 1 x1)) (.int .i64 (shl .i64 1 x1))).run Tryz.prog w=.ok (.slice t7 t8 t9) w6/\
Q (.iface 475 (.agg #[.slice t7 t8 t9,.int .i64 2])) w6) (
((0:Int)<=x1)/\
∃w10:World,∃t11 t12 t13,(Instr.makeSlice 365 (.int .i64 (shl .i64 1 x1)) (.int .i64 (shl .i64 1 x1))).run Tryz.prog w=.ok (.slice t11 t12 t13) w10/\
Q (.iface 477 (.agg #[.slice t11 t12 t13,.int .i64 4])) w10))
def V359_ann:Nat->Ann:=λ _=>⟨[],[]⟩
theorem V359_sound (x1 w Q) (h:V359 x1 w Q):Calls Tryz.prog 359 #[.int .i64 x1] w λ e w'=>∃v,e=.returned v/\Q v w':=
 sound_of Tryz.func359 V359_ann rfl (Eq.mpr (by kernel_rfl) h)
def V334 (x1:Option Addr) (w:World) (Q:Value->World->Prop):Prop:=
bsel (Option.isNone x1) (
Q (.bool true) w) (
nilK x1 λ a4=>
∃t5,w.cell? (a4.add 1)=some (t5)/\
eqNilI t5 λ b6=>
Q (.bool b6) w)
def V334_ann:Nat->Ann:=λ _=>⟨[],[]⟩
theorem V334_sound (x1 w Q) (h:V334 x1 w Q):Calls Tryz.prog 334 #[.pointer x1] w λ e w'=>∃v,e=.returned v/\Q v w':=
 sound_of Tryz.func334 V334_ann rfl (Eq.mpr (by kernel_rfl) h)
def V335 (x1:Option Addr) (x2:Int) (w:World) (Q:Value->World->Prop):Prop:=
Calls Tryz.prog 334 #[.pointer x1] w λ e3 w4=>∃t5,e3=.returned (.bool t5)/\
bsel t5 (
Q (.int .i64 1) w4) (
bsel (decide (x2<0)) (
Q (.int .i64 5) w4) (
Calls Tryz.prog 362 #[.pointer x1] w4 λ e8 w9=>∃t10,e8=.returned (.int .i64 t10)/\
bsel (decide (x2>=t10)) (
Q (.int .i64 5) w9) (
Q (.int .i64 0) w9)))
def V335_ann:Nat->Ann:=λ _=>⟨[],[]⟩
theorem V335_sound (x1 x2 w Q) (h:V335 x1 x2 w Q):Calls Tryz.prog 335 #[.pointer x1,.int .i64 x2] w λ e w'=>∃v,e=.returned v/\Q v w':=
 sound_of Tryz.func335 V335_ann rfl (Eq.mpr (by kernel_rfl) h)
def V289 (x1:Option Addr) (w:World) (Q:Value->World->Prop):Prop:=
Calls Tryz.prog 334 #[.pointer x1] w λ e2 w3=>∃t4,e2=.returned (.bool t4)/\
bsel t4 (
Q (.int .i64 0) w3) (
nilK x1 λ a5=>
∃t6,w3.cell? (a5.add 0)=some (.int .i64 t6)/\
Q (.int .i64 t6) w3)
def V289_ann:Nat->Ann:=λ _=>⟨[],[]⟩
theorem V289_sound (x1 w Q) (h:V289 x1 w Q):Calls Tryz.prog 289 #[.pointer x1] w λ e w'=>∃v,e=.returned v/\Q v w':=
 sound_of Tryz.func289 V289_ann rfl (Eq.mpr (by kernel_rfl) h)
def V362 (x1:Option Addr) (w:World) (Q:Value->World->Prop):Prop:=
Calls Tryz.prog 334 #[.pointer x1] w λ e2 w3=>∃t4,e2=.returned (.bool t4)/\
bsel t4 (
Q (.int .i64 0) w3) (
nilK x1 λ a5=>
∃t6,w3.cell? (a5.add 1)=some (t6)/\
InvK Tryz.prog t6 "lexicon/cells.len" #[] w3 λ e7 w8=>∃t9,e7=.returned (.int .i64 t9)/\
Q (.int .i64 t9) w8)
def V362_ann:Nat->Ann:=λ _=>⟨[],[]⟩
theorem V362_sound (x1 w Q) (h:V362 x1 w Q):Calls Tryz.prog 362 #[.pointer x1] w λ e w'=>∃v,e=.returned v/\Q v w':=
 sound_of Tryz.func362 V362_ann rfl (Eq.mpr (by kernel_rfl) h)
def V328 (x1:Option Addr) (w:World) (Q:Value->World->Prop):Prop:=
Calls Tryz.prog 362 #[.pointer x1] w λ e2 w3=>∃t4,e2=.returned (.int .i64 t4)/\
((3:Int)≠0)/\
Q (.int .i64 (IntKind.wrap .i64 (Int.tdiv (IntKind.wrap .i64 (2*t4)) 3))) w3
def V328_ann:Nat->Ann:=λ _=>⟨[],[]⟩
theorem V328_sound (x1 w Q) (h:V328 x1 w Q):Calls Tryz.prog 328 #[.pointer x1] w λ e w'=>∃v,e=.returned v/\Q v w':=
 sound_of Tryz.func328 V328_ann rfl (Eq.mpr (by kernel_rfl) h)
def V290 (x1:Option Addr) (x2:Int) (w:World) (Q:Value->World->Prop):Prop:=
Calls Tryz.prog 335 #[.pointer x1,.int .i64 x2] w λ e3 w4=>∃t5,e3=.returned (.int .i64 t5)/\
bsel (t5 != 0) (
Q (.tuple #[.int .i64 0,.int .i64 t5]) w4) (
nilK x1 λ a6=>
∃t7,w4.cell? (a6.add 1)=some (t7)/\
InvK Tryz.prog t7 "lexicon/cells.get" #[.int .i64 x2] w4 λ e8 w9=>∃t10,e8=.returned (.int .i64 t10)/\
Q (.tuple #[.int .i64 t10,.int .i64 0]) w9)
def V290_ann:Nat->Ann:=λ _=>⟨[],[]⟩
theorem V290_sound (x1 x2 w Q) (h:V290 x1 x2 w Q):Calls Tryz.prog 290 #[.pointer x1,.int .i64 x2] w λ e w'=>∃v,e=.returned v/\Q v w':=
 sound_of Tryz.func290 V290_ann rfl (Eq.mpr (by kernel_rfl) h)
def V327 (x1:Option Addr) (x2 x3:Int) (w:World) (Q:Value->World->Prop):Prop:=
Calls Tryz.prog 335 #[.pointer x1,.int .i64 x2] w λ e4 w5=>∃t6,e4=.returned (.int .i64 t6)/\
bsel (t6 != 0) (
Q (.int .i64 t6) w5) (
Calls Tryz.prog 361 #[.pointer x1,.int .i64 x3] w5 λ e7 w8=>∃t9,e7=.returned (.bool t9)/\
bsel (!t9) (
Q (.int .i64 1) w8) (
nilK x1 λ a10=>
∃t11,w8.cell? (a10.add 1)=some (t11)/\
InvK Tryz.prog t11 "lexicon/cells.set" #[.int .i64 x2,.int .i64 x3] w8 λ e12 w13=>∃t14,e12=.returned (t14)/\
Q (.int .i64 0) w13))
def V327_ann:Nat->Ann:=λ _=>⟨[],[]⟩
theorem V327_sound (x1 x2 x3 w Q) (h:V327 x1 x2 x3 w Q):Calls Tryz.prog 327 #[.pointer x1,.int .i64 x2,.int .i64 x3] w λ e w'=>∃v,e=.returned v/\Q v w':=
 sound_of Tryz.func327 V327_ann rfl (Eq.mpr (by kernel_rfl) h)
def V361 (x1:Option Addr) (x2:Int) (w:World) (Q:Value->World->Prop):Prop:=
bsel (x2 == (-1)) (
Q (.bool true) w) (
bsel (x2 == (-2)) (
Q (.bool true) w) (
bsel (decide (x2>=0)) (
Calls Tryz.prog 328 #[.pointer x1] w λ e5 w6=>∃t7,e5=.returned (.int .i64 t7)/\
Q (.bool (decide (x2<t7))) w6) (
Q (.bool false) w)))
def V361_ann:Nat->Ann:=λ _=>⟨[],[]⟩
theorem V361_sound (x1 x2 w Q) (h:V361 x1 x2 w Q):Calls Tryz.prog 361 #[.pointer x1,.int .i64 x2] w λ e w'=>∃v,e=.returned v/\Q v w':=
 sound_of Tryz.func361 V361_ann rfl (Eq.mpr (by kernel_rfl) h)
def V276 (x1:Option Addr) (x2:Int) (w:World) (Q:Value->World->Prop):Prop:=
Calls Tryz.prog 324 #[.int .i64 x2] w λ e3 w4=>∃t5 t6,e3=.returned (.tuple #[.pointer t5,.int .i64 t6])/\
nilK x1 λ a7=>
stK w4 (a7.add 2) (.pointer t5) λ w8=>
nilK x1 λ a9=>
∃t10,w8.cell? (a9.add 5)=some (.int .i64 t10)/\
nilK x1 λ a11=>
stK w8 (a11.add 5) (.int .i64 (IntKind.wrap .i64 (t10+1))) λ w12=>
nilK x1 λ a13=>
∃t14,w12.cell? (a13.add 0)=some (.pointer t14)/\
Calls Tryz.prog 325 #[.pointer t14] w12 λ e15 w16=>∃t17,e15=.returned (t17)/\
Q (.tuple #[]) w16
def V276_ann:Nat->Ann:=λ _=>⟨[],[]⟩
theorem V276_sound (x1 x2 w Q) (h:V276 x1 x2 w Q):Calls Tryz.prog 276 #[.pointer x1,.int .i64 x2] w λ e w'=>∃v,e=.returned v/\Q v w':=
 sound_of Tryz.func276 V276_ann rfl (Eq.mpr (by kernel_rfl) h)
def V325 (x1:Option Addr) (w:World) (Q:Value->World->Prop):Prop:=
Calls Tryz.prog 336 #[.pointer x1,.int .i64 0,.int .i64 1] w λ e2 w3=>∃t4,e2=.returned (t4)/\
Q (.tuple #[]) w3
def V325_ann:Nat->Ann:=λ _=>⟨[],[]⟩
theorem V325_sound (x1 w Q) (h:V325 x1 w Q):Calls Tryz.prog 325 #[.pointer x1] w λ e w'=>∃v,e=.returned v/\Q v w':=
 sound_of Tryz.func325 V325_ann rfl (Eq.mpr (by kernel_rfl) h)
def V336J1 (Q:Value->World->Prop) (x4:Option Addr) (x5 x6:Int) (x7:Bool) (w8:World):Prop:=
bsel x7 (
nilK x4 λ a9=>
aidxK (a9.add 0) 4 x5 1 λ a10=>
Calls Tryz.prog 363 #[.pointer (some a10),.int .i64 x6] w8 λ e11 w12=>∃t13,e11=.returned (.int .i64 t13)/\
Q (.tuple #[]) w12) (
Q (.tuple #[]) w8)
def V336 (x1:Option Addr) (x2 x3:Int) (w:World) (Q:Value->World->Prop):Prop:=
bsel (!(Option.isNone x1)) (
bsel (decide (x3>=1)) (
V336J1 Q x1 x2 x3 (decide (x3<=2147483647)) w) (
V336J1 Q x1 x2 x3 false w)) (
V336J1 Q x1 x2 x3 false w)
def V336_ann:Nat->Ann:=λ _=>⟨[],[]⟩
theorem V336_sound (x1 x2 x3 w Q) (h:V336 x1 x2 x3 w Q):Calls Tryz.prog 336 #[.pointer x1,.int .i64 x2,.int .i64 x3] w λ e w'=>∃v,e=.returned v/\Q v w':=
 sound_of Tryz.func336 V336_ann rfl (Eq.mpr (by kernel_rfl) h)
def V287 (x1:Option Addr) (w:World) (Q:Value->World->Prop):Prop:=
nilK x1 λ a2=>
∃t3,w.cell? (a2.add 2)=some (.pointer t3)/\
bsel (Option.isNone t3) (
Calls Tryz.prog 276 #[.pointer x1,.int .i64 3] w λ e4 w5=>∃t6,e4=.returned (t6)/\
Q (.tuple #[]) w5) (
Q (.tuple #[]) w)
def V287_ann:Nat->Ann:=λ _=>⟨[],[]⟩
theorem V287_sound (x1 w Q) (h:V287 x1 w Q):Calls Tryz.prog 287 #[.pointer x1] w λ e w'=>∃v,e=.returned v/\Q v w':=
 sound_of Tryz.func287 V287_ann rfl (Eq.mpr (by kernel_rfl) h)
def V214 (x1:Option Addr) (w:World) (Q:Value->World->Prop):Prop:=
newK w #[.pointer x1,.slice none 0 0,.pointer none,.int .i64 0,.int .i64 0,.int .i64 0,.int .i64 0] 315 λ a2 w3=>
Calls Tryz.prog 276 #[.pointer (some a2),.int .i64 3] w3 λ e4 w5=>∃t6,e4=.returned (t6)/\
Q (.pointer (some a2)) w5
def V214_ann:Nat->Ann:=λ _=>⟨[],[]⟩
theorem V214_sound (x1 w Q) (h:V214 x1 w Q):Calls Tryz.prog 214 #[.pointer x1] w λ e w'=>∃v,e=.returned v/\Q v w':=
 sound_of Tryz.func214 V214_ann rfl (Eq.mpr (by kernel_rfl) h)
def V288J1 (Q:Value->World->Prop) (x3 x4:Int) (x5:Bool) (w6:World):Prop:=
bsel x5 (
Q (.int .i64 0) w6) (
((0:Int)<=x4)/\
Q (.int .i64 (IntKind.wrap .i64 (bAnd .u64 (IntKind.wrap .u64 x3) (IntKind.wrap .u64 (shl .u64 1 x4-1))))) w6)
def V288 (x1 x2:Int) (w:World) (Q:Value->World->Prop):Prop:=
bsel (decide (x2<0)) (
V288J1 Q x1 x2 true w) (
V288J1 Q x1 x2 (decide (x2>20)) w)
def V288_ann:Nat->Ann:=λ _=>⟨[],[]⟩
theorem V288_sound (x1 x2 w Q) (h:V288 x1 x2 w Q):Calls Tryz.prog 288 #[.int .i64 x1,.int .i64 x2] w λ e w'=>∃v,e=.returned v/\Q v w':=
 sound_of Tryz.func288 V288_ann rfl (Eq.mpr (by kernel_rfl) h)
def V218 (x1:Option Addr) (x2:Int) (w:World) (Q:Value->World->Prop):Prop:=
bsel (Option.isNone x1) (
Q (.pointer none) w) (
Calls Tryz.prog 287 #[.pointer x1] w λ e3 w4=>∃t5,e3=.returned (t5)/\
nilK x1 λ a6=>
∃t7,w4.drew.cell? (a6.add 2)=some (.pointer t7)/\
nilK x1 λ a8=>
∃t9,w4.drew.cell? (a8.add 6)=some (.int .i64 t9)/\
Calls Tryz.prog 289 #[.pointer t7] w4.drew λ e10 w11=>∃t12,e10=.returned (.int .i64 t12)/\
(w11.cell? (a8.add 6)=some (.int .i64 t9))/\
Calls Tryz.prog 288 #[.int .i64 x2,.int .i64 t12] w11 λ e13 w14=>∃t15,e13=.returned (.int .i64 t15)/\
(w14.cell? (a8.add 6)=some (.int .i64 t9))/\
newK w14 #[.pointer x1,.int .i64 x2,.int .i64 t15,.int .u64 (IntKind.wrap .u64 x2),.int .i64 t9,.int .i64 0,.int .i64 (-1),.bool false] 395 λ a16 w17=>
Q (.pointer (some a16)) w17)
def V218_ann:Nat->Ann:=λ _=>⟨[],[]⟩
theorem V218_sound (x1 x2 w Q) (h:V218 x1 x2 w Q):Calls Tryz.prog 218 #[.pointer x1,.int .i64 x2] w λ e w'=>∃v,e=.returned v/\Q v w':=
 sound_of Tryz.func218 V218_ann rfl (Eq.mpr (by kernel_rfl) h)
def V292 (x1:Option Addr) (w:World) (Q:Value->World->Prop):Prop:=
nilK x1 λ a2=>
∃t3,w.cell? (a2.add 3)=some (.int .u64 t3)/\
((0:Int)<=5)/\
nilK x1 λ a4=>
stK w (a4.add 3) (.int .u64 (shr .u64 t3 5)) λ w5=>
nilK x1 λ a6=>
∃t7,w5.drew.cell? (a6.add 2)=some (.int .i64 t7)/\
nilK x1 λ a8=>
∃t9,w5.drew.cell? (a8.add 3)=some (.int .u64 t9)/\
nilK x1 λ a10=>
∃t11,w5.drew.cell? (a10.add 0)=some (.pointer t11)/\
nilK t11 λ a12=>
∃t13,w5.drew.cell? (a12.add 2)=some (.pointer t13)/\
Calls Tryz.prog 289 #[.pointer t13] w5.drew λ e14 w15=>∃t16,e14=.returned (.int .i64 t16)/\
(w15.cell? (a8.add 3)=some (.int .u64 t9))/\
(w15.cell? (a6.add 2)=some (.int .i64 t7))/\
((0:Int)<=t16)/\
nilK x1 λ a17=>
stK w15 (a17.add 2) (.int .i64 (IntKind.wrap .i64 (bAnd .u64 (IntKind.wrap .u64 (IntKind.wrap .u64 (IntKind.wrap .u64 (5*IntKind.wrap .u64 t7)+t9)+1)) (IntKind.wrap .u64 (shl .u64 1 t16-1))))) λ w18=>
Q (.tuple #[]) w18
def V292_ann:Nat->Ann:=λ _=>⟨[],[]⟩
theorem V292_sound (x1 w Q) (h:V292 x1 w Q):Calls Tryz.prog 292 #[.pointer x1] w λ e w'=>∃v,e=.returned v/\Q v w':=
 sound_of Tryz.func292 V292_ann rfl (Eq.mpr (by kernel_rfl) h)
def V291 (x1:Option Addr) (x2:Int) (w:World) (Q:Value->World->Prop):Prop:=
Calls Tryz.prog 336 #[.pointer x1,.int .i64 1,.int .i64 x2] w λ e3 w4=>∃t5,e3=.returned (t5)/\
Q (.tuple #[]) w4
def V291_ann:Nat->Ann:=λ _=>⟨[],[]⟩
theorem V291_sound (x1 x2 w Q) (h:V291 x1 x2 w Q):Calls Tryz.prog 291 #[.pointer x1,.int .i64 x2] w λ e w'=>∃v,e=.returned v/\Q v w':=
 sound_of Tryz.func291 V291_ann rfl (Eq.mpr (by kernel_rfl) h)
def V220J1 (Q:Value->World->Prop) (x9:Option Addr) (w10:World):Prop:=
∃(I11:World->Prop) (μ12:World->Nat),I11  w10/\∀(j14:Fr)  (w13:World),I11  w13->
nilK x9 λ a15=>
∃t16,w13.cell? (a15.add 7)=some (.bool t16)/\
bsel (!t16) (
nilK x9 λ a17=>
∃t18,w13.drew.cell? (a17.add 0)=some (.pointer t18)/\
nilK t18 λ a19=>
∃t20,w13.drew.cell? (a19.add 2)=some (.pointer t20)/\
nilK x9 λ a21=>
∃t22,w13.drew.cell? (a21.add 2)=some (.int .i64 t22)/\
Calls Tryz.prog 290 #[.pointer t20,.int .i64 t22] w13.drew λ e23 w24=>∃t25 t26,e23=.returned (.tuple #[.int .i64 t25,.int .i64 t26])/\
nilK x9 λ a27=>
∃t28,w24.cell? (a27.add 5)=some (.int .i64 t28)/\
nilK x9 λ a29=>
stK w24 (a29.add 5) (.int .i64 (IntKind.wrap .i64 (t28+1))) λ w30=>
nilK x9 λ a31=>
∃t32,w30.cell? (a31.add 0)=some (.pointer t32)/\
nilK t32 λ a33=>
∃t34,w30.cell? (a33.add 0)=some (.pointer t34)/\
Calls Tryz.prog 291 #[.pointer t34,.int .i64 1] w30 λ e35 w36=>∃t37,e35=.returned (t37)/\
bsel (t25 == (-1)) (
nilK x9 λ a38=>
stK w36 (a38.add 7) (.bool true) λ w39=>
Q (.tuple #[.int .i64 (-1),.bool false]) w39) (
Calls Tryz.prog 292 #[.pointer x9] w36 λ e41 w42=>∃t43,e41=.returned (t43)/\
nilK x9 λ a44=>
∃t45,w42.drew.cell? (a44.add 6)=some (.int .i64 t45)/\
bsel (decide (t25>t45)) (
nilK x9 λ a46=>
∃t47,w42.drew.cell? (a46.add 0)=some (.pointer t47)/\
nilK t47 λ a48=>
∃t49 t50 t51,w42.drew.cell? (a48.add 1)=some (.slice t49 t50 t51)/\
idxK t49 t50 t25 5 λ a52=>
∃t53,w42.drew.cell? (a52.add 1)=some (.int .i64 t53)/\
nilK x9 λ a54=>
∃t55,w42.drew.cell? (a54.add 1)=some (.int .i64 t55)/\
bsel (t53 == t55) (
nilK x9 λ a62=>
stK w42.drew (a62.add 6) (.int .i64 t25) λ w63=>
Q (.tuple #[.int .i64 t25,.bool true]) w63) (
(I11  w42.drew/\μ12  w42.drew<μ12  w13))) (
(I11  w42.drew/\μ12  w42.drew<μ12  w13)))) (
Q (.tuple #[.int .i64 (-1),.bool false]) w13)
def V220J2 (Q:Value->World->Prop) (x2:Option Addr) (x3:Bool) (w4:World):Prop:=
bsel x3 (
Q (.tuple #[.int .i64 (-1),.bool false]) w4) (
nilK x2 λ a5=>
∃t6,w4.drew.cell? (a5.add 7)=some (.bool t6)/\
bsel t6 (
nilK x2 λ a7=>
stK w4.drew (a7.add 7) (.bool true) λ w8=>
V220J1 Q x2 w8) (
nilK x2 λ a64=>
∃t65,w4.drew.cell? (a64.add 4)=some (.int .i64 t65)/\
nilK x2 λ a66=>
∃t67,w4.drew.cell? (a66.add 0)=some (.pointer t67)/\
nilK t67 λ a68=>
∃t69,w4.drew.cell? (a68.add 6)=some (.int .i64 t69)/\
nilK x2 λ a70=>
stK w4.drew (a70.add 7) (.bool (t65 != t69)) λ w71=>
V220J1 Q x2 w71))
def V220 (x1:Option Addr) (w:World) (Q:Value->World->Prop):Prop:=
bsel (Option.isNone x1) (
V220J2 Q x1 true w) (
nilK x1 λ a72=>
∃t73,w.cell? (a72.add 0)=some (.pointer t73)/\
V220J2 Q x1 (Option.isNone t73) w)
def V220_ann:Nat->Ann:=λ k=>match k with | 0=>⟨[0],[]⟩ | _=>⟨[],[]⟩
theorem V220_sound (x1 w Q) (h:V220 x1 w Q):Calls Tryz.prog 220 #[.pointer x1] w λ e w'=>∃v,e=.returned v/\Q v w':=
 sound_of Tryz.func220 V220_ann rfl (Eq.mpr (by kernel_rfl) h)
def V121 (x1:Option Addr) (w:World) (Q:Value->World->Prop):Prop:=
bsel (Option.isNone x1) (
Q (.int .i64 0) w) (
nilK x1 λ a2=>
∃t3,w.cell? (a2.add 3)=some (.int .i64 t3)/\
Q (.int .i64 t3) w)
def V121_ann:Nat->Ann:=λ _=>⟨[],[]⟩
theorem V121_sound (x1 w Q) (h:V121 x1 w Q):Calls Tryz.prog 121 #[.pointer x1] w λ e w'=>∃v,e=.returned v/\Q v w':=
 sound_of Tryz.func121 V121_ann rfl (Eq.mpr (by kernel_rfl) h)
def V293 (x1:Option Addr) (x2:Int) (w:World) (Q:Value->World->Prop):Prop:=
bsel (Option.isNone x1) (
Q (.int .i64 1) w) (
bsel (decide (x2<0)) (
Q (.int .i64 7) w) (
nilK x1 λ a5=>
∃t6 t7 t8,w.cell? (a5.add 1)=some (.slice t6 t7 t8)/\
bsel (decide (x2>=(t7:Int))) (
Q (.int .i64 7) w) (
nilK x1 λ a9=>
∃t10 t11 t12,w.cell? (a9.add 1)=some (.slice t10 t11 t12)/\
idxK t10 t11 x2 5 λ a13=>
∃t14,w.cell? (a13.add 0)=some (.bool t14)/\
bsel (!t14) (
Q (.int .i64 7) w) (
Q (.int .i64 0) w))))
def V293_ann:Nat->Ann:=λ _=>⟨[],[]⟩
theorem V293_sound (x1 x2 w Q) (h:V293 x1 x2 w Q):Calls Tryz.prog 293 #[.pointer x1,.int .i64 x2] w λ e w'=>∃v,e=.returned v/\Q v w':=
 sound_of Tryz.func293 V293_ann rfl (Eq.mpr (by kernel_rfl) h)
def V222 (x1:Option Addr) (x2:Int) (w:World) (Q:Value->World->Prop):Prop:=
newK w #[.bool false,.int .i64 0,.int .i64 0,.int .i64 0,.int .i64 0] 295 λ a3 w4=>
Calls Tryz.prog 293 #[.pointer x1,.int .i64 x2] w4 λ e5 w6=>∃t7,e5=.returned (.int .i64 t7)/\
bsel (t7 != 0) (
stK w6 (a3.add 0) (.bool false) λ w8=>
stK w8 (a3.add 1) (.int .i64 0) λ w9=>
stK w9 (a3.add 2) (.int .i64 0) λ w10=>
stK w10 (a3.add 3) (.int .i64 0) λ w11=>
stK w11 (a3.add 4) (.int .i64 0) λ w12=>
∃t13 t14 t15 t16 t17,CellsAt w12 a3 [.bool t13,.int .i64 t14,.int .i64 t15,.int .i64 t16,.int .i64 t17]/\
Q (.tuple #[.agg #[.bool t13,.int .i64 t14,.int .i64 t15,.int .i64 t16,.int .i64 t17],.int .i64 t7]) w12) (
nilK x1 λ a18=>
∃t19 t20 t21,w6.cell? (a18.add 1)=some (.slice t19 t20 t21)/\
idxK t19 t20 x2 5 λ a22=>
∃t23 t24 t25 t26 t27,CellsAt w6 a22 [.bool t23,.int .i64 t24,.int .i64 t25,.int .i64 t26,.int .i64 t27]/\
stK w6 (a3.add 0) (.bool t23) λ w28=>
stK w28 (a3.add 1) (.int .i64 t24) λ w29=>
stK w29 (a3.add 2) (.int .i64 t25) λ w30=>
stK w30 (a3.add 3) (.int .i64 t26) λ w31=>
stK w31 (a3.add 4) (.int .i64 t27) λ w32=>
∃t33 t34 t35 t36 t37,CellsAt w32 a3 [.bool t33,.int .i64 t34,.int .i64 t35,.int .i64 t36,.int .i64 t37]/\
Q (.tuple #[.agg #[.bool t33,.int .i64 t34,.int .i64 t35,.int .i64 t36,.int .i64 t37],.int .i64 0]) w32)
def V222_ann:Nat->Ann:=λ _=>⟨[],[]⟩
theorem V222_sound (x1 x2 w Q) (h:V222 x1 x2 w Q):Calls Tryz.prog 222 #[.pointer x1,.int .i64 x2] w λ e w'=>∃v,e=.returned v/\Q v w':=
 sound_of Tryz.func222 V222_ann rfl (Eq.mpr (by kernel_rfl) h)
def V280 (x1:Option Addr) (x2 x3:Int) (w:World) (Q:Value->World->Prop):Prop:=
Calls Tryz.prog 293 #[.pointer x1,.int .i64 x2] w λ e4 w5=>∃t6,e4=.returned (.int .i64 t6)/\
bsel (t6 == 0) (
nilK x1 λ a7=>
∃t8 t9 t10,w5.cell? (a7.add 1)=some (.slice t8 t9 t10)/\
idxK t8 t9 x2 5 λ a11=>
stK w5 (a11.add 3) (.int .i64 x3) λ w12=>
Q (.int .i64 t6) w12) (
Q (.int .i64 t6) w5)
def V280_ann:Nat->Ann:=λ _=>⟨[],[]⟩
theorem V280_sound (x1 x2 x3 w Q) (h:V280 x1 x2 x3 w Q):Calls Tryz.prog 280 #[.pointer x1,.int .i64 x2,.int .i64 x3] w λ e w'=>∃v,e=.returned v/\Q v w':=
 sound_of Tryz.func280 V280_ann rfl (Eq.mpr (by kernel_rfl) h)
def V326 (x1 x2:Int) (w:World) (Q:Value->World->Prop):Prop:=
newK w #[.int .i64 x1] 3 λ a3 w4=>
newK w4 #[.int .i64 x2] 3 λ a5 w6=>
Q (.func (.func 360) #[] #[.pointer (some a5),.pointer (some a3)]) w6
def V326_ann:Nat->Ann:=λ _=>⟨[],[]⟩
theorem V326_sound (x1 x2 w Q) (h:V326 x1 x2 w Q):Calls Tryz.prog 326 #[.int .i64 x1,.int .i64 x2] w λ e w'=>∃v,e=.returned v/\Q v w':=
 sound_of Tryz.func326 V326_ann rfl (Eq.mpr (by kernel_rfl) h)
def V360J1 (Q:Value->World->Prop) (x5:Value) (x6 x7:Addr) (x8:Bool) (w9:World):Prop:=
bsel x8 (
Q (.tuple #[]) w9) (
∃t10,w9.cell? x6=some (.int .i64 t10)/\
((0:Int)<=t10)/\
∃t11,w9.cell? x7=some (.int .i64 t11)/\
∃t12,w9.cell? x6=some (.int .i64 t12)/\
((0:Int)<=t12)/\
∃(I13:Int->Int->Int->World->Prop) (μ14:Int->Int->Int->World->Nat),I13 (IntKind.wrap .u64 t11) (bAnd .u64 (IntKind.wrap .u64 t11) (IntKind.wrap .u64 (shl .u64 1 t10-1))) 0 w9/\∀(j19:Fr) (i15:Int) (i16:Int) (i17:Int) (w18:World),I13 i15 i16 i17 w18->
bsel (decide (i17<IntKind.wrap .i64 (shl .i64 1 t12+13))) (
CallV Tryz.prog x5 #[.int .i64 (IntKind.wrap .i64 i16)] w18 λ e20 w21=>∃t22,e20=.returned (.bool t22)/\
bsel (!t22) (
Q (.tuple #[]) w21) (
((0:Int)<=5)/\
(I13 (shr .u64 i15 5) (bAnd .u64 (IntKind.wrap .u64 (IntKind.wrap .u64 (IntKind.wrap .u64 (5*i16)+shr .u64 i15 5)+1)) (IntKind.wrap .u64 (shl .u64 1 t10-1))) (IntKind.wrap .i64 (i17+1)) w21/\μ14 (shr .u64 i15 5) (bAnd .u64 (IntKind.wrap .u64 (IntKind.wrap .u64 (IntKind.wrap .u64 (5*i16)+shr .u64 i15 5)+1)) (IntKind.wrap .u64 (shl .u64 1 t10-1))) (IntKind.wrap .i64 (i17+1)) w21<μ14 i15 i16 i17 w18))) (
Q (.tuple #[]) w18))
def V360 (x1:Value) (x2 x3:Addr) (w:World) (Q:Value->World->Prop):Prop:=
∃t4,w.cell? x2=some (.int .i64 t4)/\
bsel (decide (t4<0)) (
V360J1 Q x1 x2 x3 true w) (
∃t23,w.cell? x2=some (.int .i64 t23)/\
V360J1 Q x1 x2 x3 (decide (t23>20)) w)
def V360_ann:Nat->Ann:=λ k=>match k with | 0=>⟨[0,4,23],[(5,.int .u64),(6,.int .u64),(24,.int .i64)]⟩ | _=>⟨[],[]⟩
theorem V360_sound (x1 x2 x3 w Q) (h:V360 x1 x2 x3 w Q):Calls Tryz.prog 360 #[x1,.pointer (some x2),.pointer (some x3)] w λ e w'=>∃v,e=.returned v/\Q v w':=
 sound_of Tryz.func360 V360_ann rfl (Eq.mpr (by kernel_rfl) h)
def V333J1 (Q:Value->World->Prop) (x24 x25:Addr) (x26:Value) (w27:World):Prop:=
∀Rec28:LoopState->Option Code->Obj,(∀s p c e f,Rec28 s p≠.cells c e f)->
(∀(w29:World) (K30:Bool->World->Prop),w29.heap[(w27.heap.size+1)]?=some (Rec28 .ready none)->∀(y31:Int),(
w29.heap[(w27.heap.size+1)]?=some (Rec28 .ready none)/\
∃t32,(w29.putObj (w27.heap.size+1) (Rec28 .busy none)).cell? x24=some (.pointer t32)/\
nilK t32 λ a33=>
∃t34,(w29.putObj (w27.heap.size+1) (Rec28 .busy none)).cell? (a33.add 2)=some (.pointer t34)/\
Calls Tryz.prog 290 #[.pointer t34,.int .i64 y31] (w29.putObj (w27.heap.size+1) (Rec28 .busy none)) λ e35 w36=>∃t37 t38,e35=.returned (.tuple #[.int .i64 t37,.int .i64 t38])/\
bsel (t37 == (-1)) (
∃t39,w36.drew.cell? x24=some (.pointer t39)/\
nilK t39 λ a40=>
∃t41,w36.drew.cell? (a40.add 2)=some (.pointer t41)/\
∃t42,w36.drew.cell? x25=some (.int .i64 t42)/\
Calls Tryz.prog 327 #[.pointer t41,.int .i64 y31,.int .i64 t42] w36.drew λ e43 w44=>∃t45,e43=.returned (.int .i64 t45)/\
((∃s p,w44.heap[(w27.heap.size+1)]?=some (Rec28 s p))/\K30 false (w44.putObj (w27.heap.size+1) (Rec28 .done (some (.exit 0)))))) (
((∃s p,w36.heap[(w27.heap.size+1)]?=some (Rec28 s p))/\K30 true (w36.putObj (w27.heap.size+1) (Rec28 .ready none)))))->RoundK Tryz.prog (w27.heap.size+1) #[.int .i64 y31] w29 K30)->
CallG Tryz.prog x26 #[.func (.yield (w27.heap.size+1)) #[] #[]] ((w27.alloc (.deferred (some []))).alloc (Rec28 .ready none)) λ e46 w47=>(∃v48,e46=.returned v48)/\((w47.heap[(w27.heap.size+1)]?=some (Rec28 .ready none)/\
(((w47.putObj (w27.heap.size+1) (Rec28 .exhausted none)).heap[w27.heap.size]?=some (.deferred (some [])))/\Q (.tuple #[]) ((w47.putObj (w27.heap.size+1) (Rec28 .exhausted none)).putObj w27.heap.size (.deferred none))))\/
(w47.heap[(w27.heap.size+1)]?=some (Rec28 .done (some (.exit 0)))/\
(((w47.putObj (w27.heap.size+1) (Rec28 .exhausted (some (.exit 0)))).heap[w27.heap.size]?=some (.deferred (some [])))/\Q (.tuple #[]) ((w47.putObj (w27.heap.size+1) (Rec28 .exhausted (some (.exit 0)))).putObj w27.heap.size (.deferred none))))\/False)
def V333 (x1:Option Addr) (x2:Int) (w:World) (Q:Value->World->Prop):Prop:=
newK w #[.pointer x1] 233 λ a3 w4=>
newK w4 #[.int .i64 x2] 3 λ a5 w6=>
∃t7,w6.drew.cell? a3=some (.pointer t7)/\
nilK t7 λ a8=>
∃t9 t10 t11,w6.drew.cell? (a8.add 1)=some (.slice t9 t10 t11)/\
∃t12,w6.drew.cell? a5=some (.int .i64 t12)/\
idxK t9 t10 t12 5 λ a13=>
∃t14,w6.drew.cell? (a13.add 1)=some (.int .i64 t14)/\
∃t15,w6.drew.cell? a3=some (.pointer t15)/\
nilK t15 λ a16=>
∃t17,w6.drew.cell? (a16.add 2)=some (.pointer t17)/\
Calls Tryz.prog 289 #[.pointer t17] w6.drew λ e18 w19=>∃t20,e18=.returned (.int .i64 t20)/\
(w19.cell? (a13.add 1)=some (.int .i64 t14))/\
(w19.cell? a5=some (.int .i64 t12))/\
(w19.cell? (a8.add 1)=some (.slice t9 t10 t11))/\
(w19.cell? a3=some (.pointer t7))/\
Calls Tryz.prog 326 #[.int .i64 t14,.int .i64 t20] w19 λ e21 w22=>∃t23,e21=.returned (t23)/\
V333J1 Q a3 a5 t23 w22
def V333_sh:Nat->List (Nat × Shape):=λ k=>match k with | 0=>[(21,.one (.int .i64))] | _=>[]
def V333_ann:Nat->Ann:=λ _=>⟨[],[]⟩
theorem V333_sound (x1 x2 w Q) (h:V333 x1 x2 w Q):Calls Tryz.prog 333 #[.pointer x1,.int .i64 x2] w λ e w'=>∃v,e=.returned v/\Q v w':=
 sound_ofM Tryz.func333 V333_ann V333_sh rfl (Eq.mpr (by kernel_rfl) h)
def V332 (x1:Option Addr) (w:World) (Q:Value->World->Prop):Prop:=
nilK x1 λ a2=>
∃t3 t4 t5,w.cell? (a2.add 1)=some (.slice t3 t4 t5)/\
∃(I6:Int->World->Prop) (μ7:Int->World->Nat),I6 0 w/\∀(j10:Fr) (i8:Int) (w9:World),I6 i8 w9->
bsel (decide (i8<(t4:Int))) (
Calls Tryz.prog 333 #[.pointer x1,.int .i64 i8] w9 λ e11 w12=>∃t13,e11=.returned (t13)/\
(I6 (IntKind.wrap .i64 (i8+1)) w12/\μ7 (IntKind.wrap .i64 (i8+1)) w12<μ7 i8 w9)) (
Q (.tuple #[]) w9)
def V332_ann:Nat->Ann:=λ k=>match k with | 0=>⟨[0,7],[(8,.int .i64)]⟩ | _=>⟨[],[]⟩
theorem V332_sound (x1 w Q) (h:V332 x1 w Q):Calls Tryz.prog 332 #[.pointer x1] w λ e w'=>∃v,e=.returned v/\Q v w':=
 sound_of Tryz.func332 V332_ann rfl (Eq.mpr (by kernel_rfl) h)
def V331 (x1:Option Addr) (w:World) (Q:Value->World->Prop):Prop:=
nilK x1 λ a2=>
∃t3 t4 t5,w.cell? (a2.add 1)=some (.slice t3 t4 t5)/\
∃(I6:Int->Int->World->Prop) (μ7:Int->Int->World->Nat),I6 0 0 w/\∀(j11:Fr) (i8:Int) (i9:Int) (w10:World),I6 i8 i9 w10->
bsel (decide (i9<(t4:Int))) (
idxK t3 t4 i9 5 λ a12=>
∃t13 t14 t15 t16 t17,CellsAt w10 a12 [.bool t13,.int .i64 t14,.int .i64 t15,.int .i64 t16,.int .i64 t17]/\
newK w10 #[.bool false,.int .i64 0,.int .i64 0,.int .i64 0,.int .i64 0] 295 λ a18 w19=>
stK w19 (a18.add 0) (.bool t13) λ w20=>
stK w20 (a18.add 1) (.int .i64 t14) λ w21=>
stK w21 (a18.add 2) (.int .i64 t15) λ w22=>
stK w22 (a18.add 3) (.int .i64 t16) λ w23=>
stK w23 (a18.add 4) (.int .i64 t17) λ w24=>
∃t25,w24.cell? (a18.add 0)=some (.bool t25)/\
bsel t25 (
nilK x1 λ a26=>
∃t27 t28 t29,w24.drew.cell? (a26.add 1)=some (.slice t27 t28 t29)/\
slcK t27 t29 i8 (IntKind.wrap .i64 (i8+1)) 5 λ t30 t31 t32=>
nilK x1 λ a33=>
∃t34 t35 t36,w24.drew.cell? (a33.add 1)=some (.slice t34 t35 t36)/\
slcK t34 t36 i9 (IntKind.wrap .i64 (i9+1)) 5 λ t37 t38 t39=>
∃w40:World,∃t41,(vcEff.bltV .copy #[292,292] 3 #[.slice t30 t31 t32,.slice t37 t38 t39]).run Tryz.prog w24.drew=.ok (.int .i64 t41) w40/\
(I6 (IntKind.wrap .i64 (i8+t41)) (IntKind.wrap .i64 (i9+1)) w40/\μ7 (IntKind.wrap .i64 (i8+t41)) (IntKind.wrap .i64 (i9+1)) w40<μ7 i8 i9 w10)) (
(I6 i8 (IntKind.wrap .i64 (i9+1)) w24/\μ7 i8 (IntKind.wrap .i64 (i9+1)) w24<μ7 i8 i9 w10))) (
nilK x1 λ a50=>
∃t51 t52 t53,w10.cell? (a50.add 1)=some (.slice t51 t52 t53)/\
slcK t51 t53 i8 t52 5 λ t54 t55 t56=>
∃w57:World,∃t58,(vcEff.bltV .clear #[292] 0 #[.slice t54 t55 t56]).run Tryz.prog w10=.ok (t58) w57/\
nilK x1 λ a59=>
∃t60 t61 t62,w57.cell? (a59.add 1)=some (.slice t60 t61 t62)/\
slcK t60 t62 0 i8 5 λ t63 t64 t65=>
nilK x1 λ a66=>
stK w57 (a66.add 1) (.slice t63 t64 t65) λ w67=>
Q (.tuple #[]) w67)
def V331_ann:Nat->Ann:=λ k=>match k with | 0=>⟨[0,8,9],[(2,.int .i64),(10,.int .i64)]⟩ | _=>⟨[],[]⟩
theorem V331_sound (x1 w Q) (h:V331 x1 w Q):Calls Tryz.prog 331 #[.pointer x1] w λ e w'=>∃v,e=.returned v/\Q v w':=
 sound_of Tryz.func331 V331_ann rfl (Eq.mpr (by kernel_rfl) h)
def V329 (x1:Value) (w:World) (Q:Value->World->Prop):Prop:=
∃(I2:Int->World->Prop) (μ3:Int->World->Nat),I2 3 w/\∀(j6:Fr) (i4:Int) (w5:World),I2 i4 w5->
bsel (decide (i4<=20)) (
CallV Tryz.prog x1 #[.int .i64 i4] w5 λ e7 w8=>∃t9,e7=.returned (.bool t9)/\
bsel (!t9) (
(I2 (IntKind.wrap .i64 (i4+1)) w8/\μ3 (IntKind.wrap .i64 (i4+1)) w8<μ3 i4 w5)) (
Q (.int .i64 i4) w8)) (
Q (.int .i64 i4) w5)
def V329_ann:Nat->Ann:=λ k=>match k with | 0=>⟨[0],[(3,.int .i64)]⟩ | _=>⟨[],[]⟩
theorem V329_sound (x1 w Q) (h:V329 x1 w Q):Calls Tryz.prog 329 #[x1] w λ e w'=>∃v,e=.returned v/\Q v w':=
 sound_of Tryz.func329 V329_ann rfl (Eq.mpr (by kernel_rfl) h)
def V330 (x1:Int) (x2:Addr) (w:World) (Q:Value->World->Prop):Prop:=
((0:Int)<=x1)/\
∃t3,w.drew.cell? x2=some (.pointer t3)/\
nilK t3 λ a4=>
∃t5,w.drew.cell? (a4.add 3)=some (.int .i64 t5)/\
Q (.bool (decide (shl .i64 1 x1>=IntKind.wrap .i64 (3*t5)))) w.drew
def V330_ann:Nat->Ann:=λ _=>⟨[],[]⟩
theorem V330_sound (x1 x2 w Q) (h:V330 x1 x2 w Q):Calls Tryz.prog 330 #[.int .i64 x1,.pointer (some x2)] w λ e w'=>∃v,e=.returned v/\Q v w':=
 sound_of Tryz.func330 V330_ann rfl (Eq.mpr (by kernel_rfl) h)
def V286J1 (Q:Value->World->Prop) (x65:Addr) (x66:Int) (w67:World):Prop:=
∃t68,w67.cell? x65=some (.pointer t68)/\
Calls Tryz.prog 333 #[.pointer t68,.int .i64 x66] w67 λ e69 w70=>∃t71,e69=.returned (t71)/\
∃t72,w70.cell? x65=some (.pointer t72)/\
nilK t72 λ a73=>
∃t74,w70.cell? (a73.add 4)=some (.int .i64 t74)/\
nilK t72 λ a75=>
stK w70 (a75.add 4) (.int .i64 (IntKind.wrap .i64 (t74+1))) λ w76=>
∃t77,w76.cell? x65=some (.pointer t77)/\
nilK t77 λ a78=>
∃t79,w76.cell? (a78.add 3)=some (.int .i64 t79)/\
nilK t77 λ a80=>
stK w76 (a80.add 3) (.int .i64 (IntKind.wrap .i64 (t79+1))) λ w81=>
∃t82,w81.cell? x65=some (.pointer t82)/\
nilK t82 λ a83=>
∃t84,w81.cell? (a83.add 6)=some (.int .i64 t84)/\
nilK t82 λ a85=>
stK w81 (a85.add 6) (.int .i64 (IntKind.wrap .i64 (t84+1))) λ w86=>
Q (.tuple #[.int .i64 x66,.int .i64 0]) w86
def V286J2 (Q:Value->World->Prop) (x38 x39 x40:Int) (x41:Addr) (w42:World):Prop:=
∃t43,w42.cell? x41=some (.pointer t43)/\
nilK t43 λ a44=>
∃t45 t46 t47,w42.cell? (a44.add 1)=some (.slice t45 t46 t47)/\
∃t48,w42.drew.cell? x41=some (.pointer t48)/\
∃t49,w42.drew.cell? x41=some (.pointer t49)/\
nilK t49 λ a50=>
∃t51 t52 t53,w42.drew.cell? (a50.add 1)=some (.slice t51 t52 t53)/\
∃t54,w42.drew.cell? x41=some (.pointer t54)/\
nilK t54 λ a55=>
∃t56,w42.drew.cell? (a55.add 4)=some (.int .i64 t56)/\
newK w42.drew #[.bool true,.int .i64 x38,.int .i64 x39,.int .i64 x40,.int .i64 t56] 295 λ a57 w58=>
(w58.cell? (a50.add 1)=some (.slice t51 t52 t53))/\
(w58.cell? x41=some (.pointer t49))/\
(w58.cell? x41=some (.pointer t48))/\
∃w59:World,∃t60 t61 t62,(vcEff.bltV .append #[292,292] 292 #[.slice t51 t52 t53,.slice (some a57) 1 1]).run Tryz.prog w58=.ok (.slice t60 t61 t62) w59/\
(w59.cell? x41=some (.pointer t48))/\
nilK t48 λ a63=>
stK w59 (a63.add 1) (.slice t60 t61 t62) λ w64=>
V286J1 Q x41 (t46:Int) w64
def V286 (x1:Option Addr) (x2 x3 x4:Int) (w:World) (Q:Value->World->Prop):Prop:=
newK w #[.pointer x1] 233 λ a5 w6=>
∃t7,w6.cell? a5=some (.pointer t7)/\
bsel (Option.isNone t7) (
Q (.tuple #[.int .i64 0,.int .i64 1]) w6) (
∃t8,w6.cell? a5=some (.pointer t8)/\
Calls Tryz.prog 287 #[.pointer t8] w6 λ e9 w10=>∃t11,e9=.returned (t11)/\
∃t12,w10.drew.cell? a5=some (.pointer t12)/\
nilK t12 λ a13=>
∃t14 t15 t16,w10.drew.cell? (a13.add 1)=some (.slice t14 t15 t16)/\
∃t17,w10.drew.cell? a5=some (.pointer t17)/\
nilK t17 λ a18=>
∃t19,w10.drew.cell? (a18.add 2)=some (.pointer t19)/\
Calls Tryz.prog 328 #[.pointer t19] w10.drew λ e20 w21=>∃t22,e20=.returned (.int .i64 t22)/\
(w21.cell? (a13.add 1)=some (.slice t14 t15 t16))/\
(w21.cell? a5=some (.pointer t12))/\
bsel ((t15:Int) == t22) (
Calls Tryz.prog 329 #[.func (.func 330) #[] #[.pointer (some a5)]] w21 λ e23 w24=>∃t25,e23=.returned (.int .i64 t25)/\
bsel (decide (t25>20)) (
Q (.tuple #[.int .i64 0,.int .i64 3]) w24) (
∃t26,w24.cell? a5=some (.pointer t26)/\
Calls Tryz.prog 331 #[.pointer t26] w24 λ e27 w28=>∃t29,e27=.returned (t29)/\
∃t30,w28.cell? a5=some (.pointer t30)/\
Calls Tryz.prog 276 #[.pointer t30,.int .i64 t25] w28 λ e31 w32=>∃t33,e31=.returned (t33)/\
∃t34,w32.cell? a5=some (.pointer t34)/\
Calls Tryz.prog 332 #[.pointer t34] w32 λ e35 w36=>∃t37,e35=.returned (t37)/\
V286J2 Q x2 x3 x4 a5 w36)) (
V286J2 Q x2 x3 x4 a5 w21))
def V286_ann:Nat->Ann:=λ _=>⟨[],[]⟩
theorem V286_sound (x1 x2 x3 x4 w Q) (h:V286 x1 x2 x3 x4 w Q):Calls Tryz.prog 286 #[.pointer x1,.int .i64 x2,.int .i64 x3,.int .i64 x4] w λ e w'=>∃v,e=.returned v/\Q v w':=
 sound_of Tryz.func286 V286_ann rfl (Eq.mpr (by kernel_rfl) h)
end Go.Fw

set_option maxRecDepth 100000
namespace Go.Fw
open Go.Proofs
def V442 (x1:Option Addr) (x2 x3:Nat) (x4 x5:Int) (w:World) (Q:Value->World->Prop):Prop:=
newK w #[.slice x1 x2 x3,.int .i64 x4] 472 λ a6 w7=>
∃t8 t9 t10,w7.cell? (a6.add 0)=some (.slice t8 t9 t10)/\
idxK t8 t9 x5 1 λ a11=>
∃t12,w7.cell? a11=some (.int .i8 t12)/\
Q (.int .i64 (IntKind.wrap .i64 t12)) w7
def V442_ann:Nat->Ann:=λ _=>⟨[],[]⟩
theorem V442_sound (x1 x2 x3 x4 x5 w Q) (h:V442 x1 x2 x3 x4 x5 w Q):Calls Tryz.prog 442 #[.agg #[.slice x1 x2 x3,.int .i64 x4],.int .i64 x5] w λ e w'=>∃v,e=.returned v/\Q v w':=
 sound_of Tryz.func442 V442_ann rfl (Eq.mpr (by kernel_rfl) h)
def V443 (x1:Option Addr) (x2 x3:Nat) (x4:Int) (w:World) (Q:Value->World->Prop):Prop:=
newK w #[.slice x1 x2 x3,.int .i64 x4] 472 λ a5 w6=>
∃t7 t8 t9,w6.cell? (a5.add 0)=some (.slice t7 t8 t9)/\
Q (.int .i64 (t8:Int)) w6
def V443_ann:Nat->Ann:=λ _=>⟨[],[]⟩
theorem V443_sound (x1 x2 x3 x4 w Q) (h:V443 x1 x2 x3 x4 w Q):Calls Tryz.prog 443 #[.agg #[.slice x1 x2 x3,.int .i64 x4]] w λ e w'=>∃v,e=.returned v/\Q v w':=
 sound_of Tryz.func443 V443_ann rfl (Eq.mpr (by kernel_rfl) h)
def V444 (x1:Option Addr) (x2 x3:Nat) (x4 x5 x6:Int) (w:World) (Q:Value->World->Prop):Prop:=
newK w #[.slice x1 x2 x3,.int .i64 x4] 472 λ a7 w8=>
∃t9 t10 t11,w8.cell? (a7.add 0)=some (.slice t9 t10 t11)/\
idxK t9 t10 x5 1 λ a12=>
stK w8 a12 (.int .i8 (IntKind.wrap .i8 x6)) λ w13=>
Q (.tuple #[]) w13
def V444_ann:Nat->Ann:=λ _=>⟨[],[]⟩
theorem V444_sound (x1 x2 x3 x4 x5 x6 w Q) (h:V444 x1 x2 x3 x4 x5 x6 w Q):Calls Tryz.prog 444 #[.agg #[.slice x1 x2 x3,.int .i64 x4],.int .i64 x5,.int .i64 x6] w λ e w'=>∃v,e=.returned v/\Q v w':=
 sound_of Tryz.func444 V444_ann rfl (Eq.mpr (by kernel_rfl) h)
def V446 (x1:Option Addr) (x2 x3:Nat) (x4 x5:Int) (w:World) (Q:Value->World->Prop):Prop:=
newK w #[.slice x1 x2 x3,.int .i64 x4] 475 λ a6 w7=>
∃t8 t9 t10,w7.cell? (a6.add 0)=some (.slice t8 t9 t10)/\
idxK t8 t9 x5 1 λ a11=>
∃t12,w7.cell? a11=some (.int .i16 t12)/\
Q (.int .i64 (IntKind.wrap .i64 t12)) w7
def V446_ann:Nat->Ann:=λ _=>⟨[],[]⟩
theorem V446_sound (x1 x2 x3 x4 x5 w Q) (h:V446 x1 x2 x3 x4 x5 w Q):Calls Tryz.prog 446 #[.agg #[.slice x1 x2 x3,.int .i64 x4],.int .i64 x5] w λ e w'=>∃v,e=.returned v/\Q v w':=
 sound_of Tryz.func446 V446_ann rfl (Eq.mpr (by kernel_rfl) h)
def V447 (x1:Option Addr) (x2 x3:Nat) (x4:Int) (w:World) (Q:Value->World->Prop):Prop:=
newK w #[.slice x1 x2 x3,.int .i64 x4] 475 λ a5 w6=>
∃t7 t8 t9,w6.cell? (a5.add 0)=some (.slice t7 t8 t9)/\
Q (.int .i64 (t8:Int)) w6
def V447_ann:Nat->Ann:=λ _=>⟨[],[]⟩
theorem V447_sound (x1 x2 x3 x4 w Q) (h:V447 x1 x2 x3 x4 w Q):Calls Tryz.prog 447 #[.agg #[.slice x1 x2 x3,.int .i64 x4]] w λ e w'=>∃v,e=.returned v/\Q v w':=
 sound_of Tryz.func447 V447_ann rfl (Eq.mpr (by kernel_rfl) h)
def V448 (x1:Option Addr) (x2 x3:Nat) (x4 x5 x6:Int) (w:World) (Q:Value->World->Prop):Prop:=
newK w #[.slice x1 x2 x3,.int .i64 x4] 475 λ a7 w8=>
∃t9 t10 t11,w8.cell? (a7.add 0)=some (.slice t9 t10 t11)/\
idxK t9 t10 x5 1 λ a12=>
stK w8 a12 (.int .i16 (IntKind.wrap .i16 x6)) λ w13=>
Q (.tuple #[]) w13
def V448_ann:Nat->Ann:=λ _=>⟨[],[]⟩
theorem V448_sound (x1 x2 x3 x4 x5 x6 w Q) (h:V448 x1 x2 x3 x4 x5 x6 w Q):Calls Tryz.prog 448 #[.agg #[.slice x1 x2 x3,.int .i64 x4],.int .i64 x5,.int .i64 x6] w λ e w'=>∃v,e=.returned v/\Q v w':=
 sound_of Tryz.func448 V448_ann rfl (Eq.mpr (by kernel_rfl) h)
def V450 (x1:Option Addr) (x2 x3:Nat) (x4 x5:Int) (w:World) (Q:Value->World->Prop):Prop:=
newK w #[.slice x1 x2 x3,.int .i64 x4] 477 λ a6 w7=>
∃t8 t9 t10,w7.cell? (a6.add 0)=some (.slice t8 t9 t10)/\
idxK t8 t9 x5 1 λ a11=>
∃t12,w7.cell? a11=some (.int .i32 t12)/\
Q (.int .i64 (IntKind.wrap .i64 t12)) w7
def V450_ann:Nat->Ann:=λ _=>⟨[],[]⟩
theorem V450_sound (x1 x2 x3 x4 x5 w Q) (h:V450 x1 x2 x3 x4 x5 w Q):Calls Tryz.prog 450 #[.agg #[.slice x1 x2 x3,.int .i64 x4],.int .i64 x5] w λ e w'=>∃v,e=.returned v/\Q v w':=
 sound_of Tryz.func450 V450_ann rfl (Eq.mpr (by kernel_rfl) h)
def V451 (x1:Option Addr) (x2 x3:Nat) (x4:Int) (w:World) (Q:Value->World->Prop):Prop:=
newK w #[.slice x1 x2 x3,.int .i64 x4] 477 λ a5 w6=>
∃t7 t8 t9,w6.cell? (a5.add 0)=some (.slice t7 t8 t9)/\
Q (.int .i64 (t8:Int)) w6
def V451_ann:Nat->Ann:=λ _=>⟨[],[]⟩
theorem V451_sound (x1 x2 x3 x4 w Q) (h:V451 x1 x2 x3 x4 w Q):Calls Tryz.prog 451 #[.agg #[.slice x1 x2 x3,.int .i64 x4]] w λ e w'=>∃v,e=.returned v/\Q v w':=
 sound_of Tryz.func451 V451_ann rfl (Eq.mpr (by kernel_rfl) h)
def V452 (x1:Option Addr) (x2 x3:Nat) (x4 x5 x6:Int) (w:World) (Q:Value->World->Prop):Prop:=
newK w #[.slice x1 x2 x3,.int .i64 x4] 477 λ a7 w8=>
∃t9 t10 t11,w8.cell? (a7.add 0)=some (.slice t9 t10 t11)/\
idxK t9 t10 x5 1 λ a12=>
stK w8 a12 (.int .i32 (IntKind.wrap .i32 x6)) λ w13=>
Q (.tuple #[]) w13
def V452_ann:Nat->Ann:=λ _=>⟨[],[]⟩
theorem V452_sound (x1 x2 x3 x4 x5 x6 w Q) (h:V452 x1 x2 x3 x4 x5 x6 w Q):Calls Tryz.prog 452 #[.agg #[.slice x1 x2 x3,.int .i64 x4],.int .i64 x5,.int .i64 x6] w λ e w'=>∃v,e=.returned v/\Q v w':=
 sound_of Tryz.func452 V452_ann rfl (Eq.mpr (by kernel_rfl) h)
end Go.Fw

namespace Go.Fw
open Go.Proofs Go.RowKit
def wT (log:Nat):TypeId:=if log<=7 then 472 else if log<=15 then 475 else 477
def wE (log:Nat):TypeId:=if log<=7 then 505 else if log<=15 then 506 else 21
def wK (log:Nat):IntKind:=if log<=7 then .i8 else if log<=15 then .i16 else .i32
def wB (log:Nat):Int:=if log<=7 then 1 else if log<=15 then 2 else 4
theorem rowI8:RowT 470 505 1 (.int .i8 0):=⟨by kernel_rfl,info_of (by kernel_rfl),rfl,by decide⟩
theorem rowI16:RowT 473 506 2 (.int .i16 0):=⟨by kernel_rfl,info_of (by kernel_rfl),rfl,by decide⟩
theorem rowI32:RowT 365 21 4 (.int .i32 0):=⟨by kernel_rfl,info_of (by kernel_rfl),rfl,by decide⟩
theorem room_bound {log:Nat} (h:log<=20):(log<=7->room log<128)/\(log<=15->room log<32768)/\room log<2147483648:=by
 have hr:∀k,log<=k->room log<=2*2 ^ k / 3:=λ k hk=>by
  have:=Nat.pow_le_pow_right (n:=2) (by decide) hk
  unfold room;omega
 refine ⟨λ hk=>?_,λ hk=>?_,?_⟩
 ·have:=hr 7 hk;omega
 ·have:=hr 15 hk;omega
 ·have:=hr 20 h;omega
def fits (log:Nat) (v:Int):Prop:=-2<=v/\v<room log
theorem wrapK {log:Nat} (h:log<=20) {v:Int} (hv:fits log v):IntKind.wrap (wK log) v=v:=by
 obtain ⟨h1,h2,h3⟩:=room_bound h
 obtain ⟨v1,v2⟩:=hv
 generalize room log=r at *
 unfold wK
 have hb8:IntKind.bits .i8=8:=rfl
 have hb16:IntKind.bits .i16=16:=rfl
 have hb32:IntKind.bits .i32=32:=rfl
 have s8:IntKind.signed .i8=true:=rfl
 have s16:IntKind.signed .i16=true:=rfl
 have s32:IntKind.signed .i32=true:=rfl
 split
 ·unfold IntKind.wrap
  simp only [hb8,s8,Bool.true_and,decide_eq_true_eq]
  split <;> omega
 ·split
  ·unfold IntKind.wrap
   simp only [hb16,s16,Bool.true_and,decide_eq_true_eq]
   split <;> omega
  ·unfold IntKind.wrap
   simp only [hb32,s32,Bool.true_and,decide_eq_true_eq]
   split <;> omega
theorem fits_i64 {log:Nat} (h:log<=20) {v:Int} (hv:fits log v):IntKind.wrap .i64 v=v:=by
 obtain ⟨h1,h2,h3⟩:=room_bound h
 obtain ⟨v1,v2⟩:=hv
 exact wrap_i64 (by omega)
structure CellsOk (w:World) (R c g log:Nat) (cells:List Int):Prop where
 lg:3<=log/\log<=20
 blk:Blk w c 440 [.int .i64 log,.iface (wT log) (.agg #[.slice (some ⟨g,0,none⟩) (2 ^ log) (2 ^ log),.int .i64 (wB log)])]
 row:Blk w g (wE log) (cells.map (.int (wK log)))
 len:cells.length=2 ^ log
 rng:∀v ∈ cells,fits log v
 ge:R<=c/\R<=g
section
variable {w w':World} {R c g log:Nat} {cells:List Int} {fp:Nat->Prop}
theorem CellsOk.keep (h:CellsOk w R c g log cells) (hk:Keep fp w w') (h1:¬fp c) (h2:¬fp g):CellsOk w' R c g log cells:=⟨h.lg,hk.blk h.blk h1,hk.blk h.row h2,h.len,h.rng,h.ge⟩
theorem CellsOk.no (h:CellsOk w R c g log cells) (hk:Keep No w w'):CellsOk w' R c g log cells:=h.keep hk id id
theorem CellsOk.ne (h:CellsOk w R c g log cells):c≠g:=h.blk.ne h.row (by unfold wE;split <;> (try split) <;> decide)
theorem len_inv {a:Option Addr} {n cap:Nat} {b:Int} {Q:Ending->World->Prop} (h:∀w',Keep No w w'->Q (.returned (.int .i64 n)) w') :
  InvK Tryz.prog (.iface (wT log) (.agg #[.slice a n cap,.int .i64 b])) "lexicon/cells.len" #[] w Q:=by
 unfold wT
 split
 ·refine ⟨443,_,(by kernel_rfl:(callMethod (.iface 472 (.agg #[.slice a n cap,.int .i64 b])) "lexicon/cells.len" #[]).run Tryz.prog w=.ok (.enter 443 (#[.agg #[.slice a n cap,.int .i64 b]] ++ #[])) w),?_⟩
  refine (V443_sound a n cap b w (λ r w'=>Q (.returned r) w') ?_).mono (by rintro _ _ ⟨v,rfl,h⟩;exact h)
  unfold V443
  exact newK_of λ d w1 hs hb hk=>⟨_,_,_,hb.add 0 rfl,h w1 hk⟩
 split
 ·refine ⟨447,_,(by kernel_rfl:(callMethod (.iface 475 (.agg #[.slice a n cap,.int .i64 b])) "lexicon/cells.len" #[]).run Tryz.prog w=.ok (.enter 447 (#[.agg #[.slice a n cap,.int .i64 b]] ++ #[])) w),?_⟩
  refine (V447_sound a n cap b w (λ r w'=>Q (.returned r) w') ?_).mono (by rintro _ _ ⟨v,rfl,h⟩;exact h)
  unfold V447
  exact newK_of λ d w1 hs hb hk=>⟨_,_,_,hb.add 0 rfl,h w1 hk⟩
 ·refine ⟨451,_,(by kernel_rfl:(callMethod (.iface 477 (.agg #[.slice a n cap,.int .i64 b])) "lexicon/cells.len" #[]).run Tryz.prog w=.ok (.enter 451 (#[.agg #[.slice a n cap,.int .i64 b]] ++ #[])) w),?_⟩
  refine (V451_sound a n cap b w (λ r w'=>Q (.returned r) w') ?_).mono (by rintro _ _ ⟨v,rfl,h⟩;exact h)
  unfold V451
  exact newK_of λ d w1 hs hb hk=>⟨_,_,_,hb.add 0 rfl,h w1 hk⟩
theorem get_inv {n cap i:Nat} {b v:Int} {cs:List Value} (hlog:log<=20) (hg:Blk w g (wE log) cs) (hi:i<n) (hv:cs[i]?=some (.int (wK log) v)) (hf:fits log v) {Q:Ending->World->Prop} (h:∀w',Keep No w w'->Q (.returned (.int .i64 v)) w') :
  InvK Tryz.prog (.iface (wT log) (.agg #[.slice (some ⟨g,0,none⟩) n cap,.int .i64 b])) "lexicon/cells.get" #[.int .i64 i] w Q:=by
 have hw:=fits_i64 hlog hf
 unfold wT wE wK at *
 split
 ·rename_i hc
  rw [if_pos hc] at hg hv
  refine ⟨442,_,(by kernel_rfl:(callMethod (.iface 472 (.agg #[.slice (some ⟨g,0,none⟩) n cap,.int .i64 b])) "lexicon/cells.get" #[.int .i64 i]).run Tryz.prog w=.ok (.enter 442 (#[.agg #[.slice (some ⟨g,0,none⟩) n cap,.int .i64 b]] ++ #[.int .i64 i])) w),?_⟩
  refine (V442_sound _ n cap b i w (λ r w'=>Q (.returned r) w') ?_).mono (by rintro _ _ ⟨v,rfl,h⟩;exact h)
  unfold V442
  refine newK_of λ d w1 hs hb hk=>⟨_,_,_,hb.add 0 rfl,idxK_of hi ⟨v,by rw [Nat.mul_one];exact (hk.nblk hg).add _ hv,?_⟩⟩
  rw [hw];exact h w1 hk
 rename_i hc0
 rw [if_neg hc0] at hg hv
 split
 ·rename_i hc
  rw [if_pos hc] at hg hv
  refine ⟨446,_,(by kernel_rfl:(callMethod (.iface 475 (.agg #[.slice (some ⟨g,0,none⟩) n cap,.int .i64 b])) "lexicon/cells.get" #[.int .i64 i]).run Tryz.prog w=.ok (.enter 446 (#[.agg #[.slice (some ⟨g,0,none⟩) n cap,.int .i64 b]] ++ #[.int .i64 i])) w),?_⟩
  refine (V446_sound _ n cap b i w (λ r w'=>Q (.returned r) w') ?_).mono (by rintro _ _ ⟨v,rfl,h⟩;exact h)
  unfold V446
  refine newK_of λ d w1 hs hb hk=>⟨_,_,_,hb.add 0 rfl,idxK_of hi ⟨v,by rw [Nat.mul_one];exact (hk.nblk hg).add _ hv,?_⟩⟩
  rw [hw];exact h w1 hk
 ·rename_i hc
  rw [if_neg hc] at hg hv
  refine ⟨450,_,(by kernel_rfl:(callMethod (.iface 477 (.agg #[.slice (some ⟨g,0,none⟩) n cap,.int .i64 b])) "lexicon/cells.get" #[.int .i64 i]).run Tryz.prog w=.ok (.enter 450 (#[.agg #[.slice (some ⟨g,0,none⟩) n cap,.int .i64 b]] ++ #[.int .i64 i])) w),?_⟩
  refine (V450_sound _ n cap b i w (λ r w'=>Q (.returned r) w') ?_).mono (by rintro _ _ ⟨v,rfl,h⟩;exact h)
  unfold V450
  refine newK_of λ d w1 hs hb hk=>⟨_,_,_,hb.add 0 rfl,idxK_of hi ⟨v,by rw [Nat.mul_one];exact (hk.nblk hg).add _ hv,?_⟩⟩
  rw [hw];exact h w1 hk
theorem set_inv {n cap i:Nat} {b v:Int} {cs:List Value} (hlog:log<=20) (hg:Blk w g (wE log) cs) (hi:i<n) (hcs:i<cs.length) (hf:fits log v) {Q:Ending->World->Prop} (h:∀w',Blk w' g (wE log) (cs.set i (.int (wK log) v))->Keep (λ k=>k=g) w w'->Q (.returned (.tuple #[])) w') :
  InvK Tryz.prog (.iface (wT log) (.agg #[.slice (some ⟨g,0,none⟩) n cap,.int .i64 b])) "lexicon/cells.set" #[.int .i64 i,.int .i64 v] w Q:=by
 have hw:=wrapK hlog hf
 unfold wT wE wK at *
 split
 ·rename_i hc
  rw [if_pos hc] at hg hw h
  rw [if_pos hc] at h
  refine ⟨444,_,(by kernel_rfl:(callMethod (.iface 472 (.agg #[.slice (some ⟨g,0,none⟩) n cap,.int .i64 b])) "lexicon/cells.set" #[.int .i64 i,.int .i64 v]).run Tryz.prog w=.ok (.enter 444 (#[.agg #[.slice (some ⟨g,0,none⟩) n cap,.int .i64 b]] ++ #[.int .i64 i,.int .i64 v])) w),?_⟩
  refine (V444_sound _ n cap b i v w (λ r w'=>Q (.returned r) w') ?_).mono (by rintro _ _ ⟨v,rfl,h⟩;exact h)
  unfold V444
  refine newK_of λ d w1 hs hb hk=>⟨_,_,_,hb.add 0 rfl,idxK_of hi ?_⟩
  rw [hw,Nat.mul_one]
  exact stK_add (hk.nblk hg) hcs λ w2 hb2 hk2=>h w2 hb2 ((Keep.of_no hk).trans hk2 λ _ _ e=>e)
 rename_i hc0
 rw [if_neg hc0] at hg hw h
 rw [if_neg hc0] at h
 split
 ·rename_i hc
  rw [if_pos hc] at hg hw h
  rw [if_pos hc] at h
  refine ⟨448,_,(by kernel_rfl:(callMethod (.iface 475 (.agg #[.slice (some ⟨g,0,none⟩) n cap,.int .i64 b])) "lexicon/cells.set" #[.int .i64 i,.int .i64 v]).run Tryz.prog w=.ok (.enter 448 (#[.agg #[.slice (some ⟨g,0,none⟩) n cap,.int .i64 b]] ++ #[.int .i64 i,.int .i64 v])) w),?_⟩
  refine (V448_sound _ n cap b i v w (λ r w'=>Q (.returned r) w') ?_).mono (by rintro _ _ ⟨v,rfl,h⟩;exact h)
  unfold V448
  refine newK_of λ d w1 hs hb hk=>⟨_,_,_,hb.add 0 rfl,idxK_of hi ?_⟩
  rw [hw,Nat.mul_one]
  exact stK_add (hk.nblk hg) hcs λ w2 hb2 hk2=>h w2 hb2 ((Keep.of_no hk).trans hk2 λ _ _ e=>e)
 ·rename_i hc
  rw [if_neg hc] at hg hw h
  rw [if_neg hc] at h
  refine ⟨452,_,(by kernel_rfl:(callMethod (.iface 477 (.agg #[.slice (some ⟨g,0,none⟩) n cap,.int .i64 b])) "lexicon/cells.set" #[.int .i64 i,.int .i64 v]).run Tryz.prog w=.ok (.enter 452 (#[.agg #[.slice (some ⟨g,0,none⟩) n cap,.int .i64 b]] ++ #[.int .i64 i,.int .i64 v])) w),?_⟩
  refine (V452_sound _ n cap b i v w (λ r w'=>Q (.returned r) w') ?_).mono (by rintro _ _ ⟨v,rfl,h⟩;exact h)
  unfold V452
  refine newK_of λ d w1 hs hb hk=>⟨_,_,_,hb.add 0 rfl,idxK_of hi ?_⟩
  rw [hw,Nat.mul_one]
  exact stK_add (hk.nblk hg) hcs λ w2 hb2 hk2=>h w2 hb2 ((Keep.of_no hk).trans hk2 λ _ _ e=>e)
theorem C334 (h:CellsOk w R c g log cells):Calls Tryz.prog 334 #[.pointer (some ⟨c,0,none⟩)] w λ e w'=>e=.returned (.bool false)/\w'=w:=by
 refine ret_mono (V334_sound _ w (λ r w'=>r=.bool false/\w'=w) ?_) (by rintro _ _ ⟨rfl,h⟩;exact ⟨rfl,h⟩)
 unfold V334
 refine bsel_neg rfl ?_
 rw [nilK_some]
 exact ⟨_,h.blk.add 1 rfl,rfl,rfl⟩
theorem C289 (h:CellsOk w R c g log cells):Calls Tryz.prog 289 #[.pointer (some ⟨c,0,none⟩)] w λ e w'=>e=.returned (.int .i64 log)/\w'=w:=by
 refine ret_mono (V289_sound _ w (λ r w'=>r=.int .i64 log/\w'=w) ?_) (by rintro _ _ ⟨rfl,h⟩;exact ⟨rfl,h⟩)
 unfold V289
 refine (C334 h).mono ?_
 rintro _ w1 ⟨rfl,rfl⟩
 refine ⟨_,rfl,bsel_neg rfl ?_⟩
 rw [nilK_some]
 exact ⟨_,h.blk.add 0 rfl,rfl,rfl⟩
theorem C362 (h:CellsOk w R c g log cells):Calls Tryz.prog 362 #[.pointer (some ⟨c,0,none⟩)] w λ e w'=>e=.returned (.int .i64 (2 ^ log:Nat))/\Keep No w w':=by
 refine ret_mono (V362_sound _ w (λ r w'=>r=.int .i64 (2 ^ log:Nat)/\Keep No w w') ?_) (by rintro _ _ ⟨rfl,h⟩;exact ⟨rfl,h⟩)
 unfold V362
 refine (C334 h).mono ?_
 rintro _ w1 ⟨rfl,rfl⟩
 refine ⟨_,rfl,bsel_neg rfl ?_⟩
 rw [nilK_some]
 exact ⟨_,h.blk.add 1 rfl,len_inv λ w' hk=>⟨_,rfl,rfl,hk⟩⟩
theorem C328 (h:CellsOk w R c g log cells):Calls Tryz.prog 328 #[.pointer (some ⟨c,0,none⟩)] w λ e w'=>e=.returned (.int .i64 (room log))/\Keep No w w':=by
 refine ret_mono (V328_sound _ w (λ r w'=>r=.int .i64 (room log)/\Keep No w w') ?_) (by rintro _ _ ⟨rfl,h⟩;exact ⟨rfl,h⟩)
 unfold V328
 refine (C362 h).mono ?_
 rintro _ w1 ⟨rfl,hk⟩
 refine ⟨_,rfl,by decide,?_,hk⟩
 have hp:=pow_le20 h.lg.2
 unfold room
 generalize 2 ^ log=a at *
 rw [wrap_i64 (n:=2*(a:Int)) (by omega),Int.tdiv_eq_ediv_of_nonneg (by omega),wrap_i64 (by omega)]
 congr 1
theorem C335_in (h:CellsOk w R c g log cells) {i:Nat} (hi:i<2 ^ log):Calls Tryz.prog 335 #[.pointer (some ⟨c,0,none⟩),.int .i64 i] w λ e w'=>e=.returned (.int .i64 0)/\Keep No w w':=by
 refine ret_mono (V335_sound _ _ w (λ r w'=>r=.int .i64 0/\Keep No w w') ?_) (by rintro _ _ ⟨rfl,h⟩;exact ⟨rfl,h⟩)
 unfold V335
 refine (C334 h).mono ?_
 rintro _ w1 ⟨rfl,rfl⟩
 refine ⟨_,rfl,bsel_neg rfl (bsel_neg (by simp) ((C362 h).mono ?_))⟩
 rintro _ w2 ⟨rfl,hk⟩
 exact ⟨_,rfl,bsel_neg (by simp only [ge_iff_le,decide_eq_false_iff_not,Int.not_le];exact Int.ofNat_lt.2 hi) ⟨rfl,hk⟩⟩
theorem C290 (h:CellsOk w R c g log cells) {i:Nat} {v:Int} (hv:cells[i]?=some v):Calls Tryz.prog 290 #[.pointer (some ⟨c,0,none⟩),.int .i64 i] w λ e w'=>e=.returned (.tuple #[.int .i64 v,.int .i64 0])/\Keep No w w':=by
 have hi:i<2 ^ log:=by have:=(List.getElem?_eq_some_iff.1 hv).1;rw [h.len] at this;exact this
 refine ret_mono (V290_sound _ _ w (λ r w'=>r=.tuple #[.int .i64 v,.int .i64 0]/\Keep No w w') ?_) (by rintro _ _ ⟨rfl,h⟩;exact ⟨rfl,h⟩)
 unfold V290
 refine (C335_in h hi).mono ?_
 rintro _ w1 ⟨rfl,hk⟩
 have h1:=h.no hk
 refine ⟨_,rfl,bsel_neg rfl ?_⟩
 rw [nilK_some]
 exact ⟨_,h1.blk.add 1 rfl,get_inv h.lg.2 h1.row hi (by rw [List.getElem?_map,hv];rfl) (h.rng v (List.mem_of_getElem? hv)) λ w' hk'=>⟨_,rfl,rfl,hk.no hk'⟩⟩
theorem C361 (h:CellsOk w R c g log cells) {v:Int} (hv:fits log v):Calls Tryz.prog 361 #[.pointer (some ⟨c,0,none⟩),.int .i64 v] w λ e w'=>e=.returned (.bool true)/\Keep No w w':=by
 refine ret_mono (V361_sound _ _ w (λ r w'=>r=.bool true/\Keep No w w') ?_) (by rintro _ _ ⟨rfl,h⟩;exact ⟨rfl,h⟩)
 unfold V361
 refine bsel_split (λ _=>⟨rfl,Keep.refl _ _⟩) λ h1=>bsel_split (λ _=>⟨rfl,Keep.refl _ _⟩) λ h2=>?_
 simp at h1 h2
 obtain ⟨v1,v2⟩:=hv
 refine bsel_pos (by simp;omega) ((C328 h).mono ?_)
 rintro _ w1 ⟨rfl,hk⟩
 exact ⟨_,rfl,by simp [v2],hk⟩
theorem C327 (h:CellsOk w R c g log cells) {i:Nat} {v:Int} (hi:i<2 ^ log) (hv:fits log v):Calls Tryz.prog 327 #[.pointer (some ⟨c,0,none⟩),.int .i64 i,.int .i64 v] w λ e w'=>e=.returned (.int .i64 0)/\CellsOk w' R c g log (cells.set i v)/\Keep (λ k=>k=g) w w':=by
 refine ret_mono (V327_sound _ _ _ w (λ r w'=>r=.int .i64 0/\CellsOk w' R c g log (cells.set i v)/\Keep (λ k=>k=g) w w') ?_) (by rintro _ _ ⟨rfl,h⟩;exact ⟨rfl,h⟩)
 unfold V327
 refine (C335_in h hi).mono ?_
 rintro _ w1 ⟨rfl,hk⟩
 refine ⟨_,rfl,bsel_neg rfl ((C361 (h.no hk) hv).mono ?_)⟩
 rintro _ w2 ⟨rfl,hk2⟩
 have h2:=(h.no hk).no hk2
 refine ⟨_,rfl,bsel_neg rfl ?_⟩
 rw [nilK_some]
 refine ⟨_,h2.blk.add 1 rfl,set_inv h.lg.2 h2.row hi (by rw [List.length_map,h2.len];exact hi) hv λ w3 hb3 hk3=>⟨_,rfl,rfl,⟨h.lg,hk3.blk h2.blk h2.ne,?_,by rw [List.length_set,h.len],λ x hx=>?_,h.ge⟩,(Keep.of_no (hk.no hk2)).trans hk3 λ _ _ e=>e⟩⟩
 ·rw [List.map_set];exact hb3
 ·rcases List.mem_or_eq_of_mem_set hx with hx | hx
  ·exact h.rng x hx
  ·subst hx;exact hv
theorem made_run {T e:TypeId} {by':Nat} {k:IntKind} (T1:RowT T e by' (.int k 0)) (hb4:by'<=4) {log:Nat} (hl:log<=20) {K:World->Option Addr->Nat->Nat->Prop}
  (h:∀w',Blk w' w.heap.size e (List.replicate (2 ^ log) (.int k 0))->Keep No w w'->K w' (some ⟨w.heap.size,0,none⟩) (2 ^ log) (2 ^ log)) :
  ∃w':World,∃a:Option Addr,∃l:Nat,∃c:Nat,(Instr.makeSlice T (.int .i64 (shl .i64 1 log)) (.int .i64 (shl .i64 1 log))).run Tryz.prog w=.ok (.slice a l c) w'/\K w' a l c:=by
 obtain ⟨i,hi,hz,hs,hb⟩:=T1.info
 have hp:=pow_le20 hl
 rw [shl_i64 hl]
 have hr:=run_make (P:=Tryz.prog) w T e i _ T1.und hi hz .i64 .i64 (2 ^ log:Nat) (2 ^ log:Nat) (Int.natCast_nonneg _) (Int.le_refl _)
  (by
   have hm:by'*2 ^ log<=4*1048576:=Nat.mul_le_mul hb4 hp
   rw [hb,<-Int.natCast_mul]
   generalize by'*2 ^ log=a at *
   omega) (by generalize 2 ^ log=a at *;omega)
 refine ⟨_,_,_,_,hr,?_⟩
 have e1:(madeCells (Value.int k 0).cells (((2 ^ log:Nat):Int).toNat*i.size)).toList=List.replicate (2 ^ log) (.int k 0):=by
  rw [hs,Nat.mul_one,Int.toNat_natCast]
  exact toList_madeCells_one _ _
 have hB:=Blk.new w (madeCells (Value.int k 0).cells (((2 ^ log:Nat):Int).toNat*i.size)) e
 rw [e1] at hB
 exact h _ hB (Keep.fresh w _)
theorem C359 (hl:log<=20) (w:World):Calls Tryz.prog 359 #[.int .i64 log] w λ e w'=>e=.returned (.iface (wT log) (.agg #[.slice (some ⟨w.heap.size,0,none⟩) (2 ^ log) (2 ^ log),.int .i64 (wB log)]))/\Blk w' w.heap.size (wE log) (List.replicate (2 ^ log) (.int (wK log) 0))/\Keep No w w':=by
 refine ret_mono (V359_sound _ w (λ r w'=>r=.iface (wT log) (.agg #[.slice (some ⟨w.heap.size,0,none⟩) (2 ^ log) (2 ^ log),.int .i64 (wB log)])/\Blk w' w.heap.size (wE log) (List.replicate (2 ^ log) (.int (wK log) 0))/\Keep No w w') ?_) (by rintro _ _ ⟨rfl,h⟩;exact ⟨rfl,h⟩)
 unfold V359 wT wE wK wB
 by_cases h7:log<=7
 ·simp only [if_pos h7]
  exact bsel_pos (by simp;omega) ⟨by omega,made_run rowI8 (by decide) hl λ w1 hb hk=>⟨rfl,hb,hk⟩⟩
 ·simp only [if_neg h7]
  refine bsel_neg (by simp;omega) ?_
  by_cases h15:log<=15
  ·simp only [if_pos h15]
   exact bsel_pos (by simp;omega) ⟨by omega,made_run rowI16 (by decide) hl λ w1 hb hk=>⟨rfl,hb,hk⟩⟩
  ·simp only [if_neg h15]
   exact bsel_neg (by simp;omega) ⟨by omega,made_run rowI32 (by decide) hl λ w1 hb hk=>⟨rfl,hb,hk⟩⟩
theorem room_pos {log:Nat} (h:3<=log):5<=room log:=by
 have:=Nat.pow_le_pow_right (n:=2) (by decide) h
 unfold room;omega
theorem rep_set (n k:Nat) (a b:Int) (h:k<n):(List.replicate k a ++ List.replicate (n-k) b).set k a=List.replicate (k+1) a ++ List.replicate (n-(k+1)) b:=by
 rw [List.set_append_right _ _ (by simp),List.length_replicate,Nat.sub_self]
 obtain ⟨m,hm⟩:∃m,n-k=m+1:=⟨n-k-1,by omega⟩
 rw [hm,List.replicate_succ,List.set_cons_zero,show n-(k+1)=m by omega,List.replicate_succ',List.append_assoc]
 rfl
theorem C324 (hl:3<=log/\log<=20) (w:World):Calls Tryz.prog 324 #[.int .i64 log] w λ e w'=>∃c g,e=.returned (.tuple #[.pointer (some ⟨c,0,none⟩),.int .i64 0])/\CellsOk w' w.heap.size c g log (List.replicate (2 ^ log) (-1))/\Keep No w w':=by
 refine ret_mono (V324_sound _ w (λ r w'=>∃c g,r=.tuple #[.pointer (some ⟨c,0,none⟩),.int .i64 0]/\CellsOk w' w.heap.size c g log (List.replicate (2 ^ log) (-1))/\Keep No w w') ?_) (by rintro _ _ ⟨c,g,rfl,h⟩;exact ⟨c,g,rfl,h⟩)
 unfold V324
 refine bsel_neg (by simp;omega) ?_
 unfold V324J1
 refine bsel_neg (by simp;omega) ((C359 hl.2 w).mono ?_)
 rintro _ w1 ⟨rfl,hg,hk1⟩
 have hroom:=room_pos hl.1
 refine ⟨_,rfl,plK_of rfl (newK_of λ c w2 hs2 hc hk2=>⟨_,hc.add 1 rfl,len_inv λ w3 hk3=>⟨_,rfl,?_⟩⟩)⟩
 have hcw:w.heap.size<=c:=by have:=hk1.size;omega
 have h0:CellsOk w3 w.heap.size c w.heap.size log (List.replicate 0 (-1) ++ List.replicate (2 ^ log-0) 0):=⟨hl,hk3.nblk hc,by simpa using hk3.nblk (hk2.nblk hg),by simp,λ v hv=>by
  simp at hv;rw [hv];exact ⟨by omega,by omega⟩,hcw,Nat.le_refl _⟩
 have hp:=pow_le20 hl.2
 refine ⟨λ i w'=>0<=i/\i<=(2 ^ log:Nat)/\CellsOk w' w.heap.size c w.heap.size log (List.replicate i.toNat (-1) ++ List.replicate (2 ^ log-i.toNat) 0)/\Keep No w w',λ i _=>((2 ^ log:Nat)-i).toNat,
  ⟨by omega,Int.natCast_nonneg _,h0,(hk1.no hk2).no hk3⟩,?_⟩
 rintro j i w4 ⟨hi0,hin,h4,hk4⟩
 refine bsel_split (λ hlt=>?_) λ hge=>?_
 ·obtain ⟨n,rfl⟩:=Int.eq_ofNat_of_zero_le hi0
  have hn:n<2 ^ log:=by simp only [decide_eq_true_eq] at hlt;exact Int.ofNat_lt.1 hlt
  simp only [Int.toNat_natCast] at h4
  refine ⟨_,h4.blk.add 1 rfl,set_inv hl.2 h4.row hn (by rw [List.length_map,h4.len];exact hn) (v:=-1) ⟨by omega,by omega⟩ λ w5 hb5 hk5=>⟨_,rfl,?_⟩⟩
  rw [wrap_i64 (by generalize 2 ^ log=a at *;omega)]
  have e1:((n:Int)+1).toNat=n+1:=by omega
  refine ⟨⟨by omega,by generalize 2 ^ log=a at *;omega,?_,hk4.news hk5 λ k e=>by subst e;exact Nat.le_refl _⟩,by simp only;generalize 2 ^ log=a at *;omega⟩
  rw [e1,<-rep_set _ _ _ _ hn]
  refine ⟨hl,hk5.blk h4.blk h4.ne,by rw [List.map_set];exact hb5,by rw [List.length_set,h4.len],λ x hx=>?_,h4.ge⟩
  rcases List.mem_or_eq_of_mem_set hx with hx | hx
  ·exact h4.rng x hx
  ·subst hx;exact ⟨by omega,by omega⟩
 ·have hi:i=(2 ^ log:Nat):=by simp only [decide_eq_false_iff_not,Int.not_lt] at hge;omega
  subst hi
  rw [Int.toNat_natCast,Nat.sub_self,List.replicate_zero,List.append_nil] at h4
  exact ⟨c,w.heap.size,rfl,h4,hk4⟩
end
end Go.Fw

namespace Go.Fw
open Go.Proofs Go.RowKit
def Ent.cells (e:Ent):List Value:=[.bool e.live,.int .i64 e.hash,.int .i64 e.key,.int .i64 e.value,.int .i64 e.birth]
theorem ent_len (e:Ent):e.cells.length=5:=rfl
structure Tb where
 ev:Value
 c:Nat
 cg:Nat
 log:Nat
 es:List Ent
 cells:List Int
 live:Int
 births:Int
 made:Int
 turns:Int
def Tb.own (T:Tb) (t:Nat):Nat->Prop:=λ k=>k=t\/T.ev.ownBlock=some k\/k=T.c\/k=T.cg
def Tb.all (T:Tb):List Value:=[.pointer none,T.ev,.pointer (some ⟨T.c,0,none⟩),.int .i64 T.live,.int .i64 T.births,.int .i64 T.made,.int .i64 T.turns]
structure TabAt (w:World) (R t:Nat) (T:Tb):Prop where
 blk:Blk w t 315 T.all
 row:w.ownsRow R 295 5 T.ev T.es.length (T.es.flatMap Ent.cells)
 cel:CellsOk w R T.c T.cg T.log T.cells
 ge:R<=t
 len:T.es.length<=room T.log
section
variable {w w':World} {R t:Nat} {T:Tb} {fp:Nat->Prop}
theorem TabAt.keep (h:TabAt w R t T) (hk:Keep fp w w') (hn:∀k,T.own t k->¬fp k):TabAt w' R t T:=
 ⟨hk.blk h.blk (hn t (.inl rfl)),hk.row h.row λ g hg=>hn g (.inr (.inl hg)),h.cel.keep hk (hn _ (.inr (.inr (.inl rfl)))) (hn _ (.inr (.inr (.inr rfl)))),h.ge,h.len⟩
theorem TabAt.no (h:TabAt w R t T) (hk:Keep No w w'):TabAt w' R t T:=h.keep hk λ _ _=>id
def tabTy:List TypeId:=[315,295,440,505,506,21]
theorem TabAt.ty (h:TabAt w R t T) {k:Nat} (hk:T.own t k):R<=k/\k<w.heap.size/\∃e,etype w k=some e/\e ∈ tabTy:=by
 rcases hk with rfl | hk | rfl | rfl
 ·exact ⟨h.ge,h.blk.lt,_,h.blk.etype,by decide⟩
 ·exact ⟨(h.row.lt k hk).1,(h.row.lt k hk).2,_,ownsRow_etype h.row hk,by decide⟩
 ·exact ⟨h.cel.ge.1,h.cel.blk.lt,_,h.cel.blk.etype,by decide⟩
 ·exact ⟨h.cel.ge.2,h.cel.row.lt,_,h.cel.row.etype,by unfold wE;split <;> (try split) <;> decide⟩
theorem TabAt.not_own (h:TabAt w R t T) {b:Nat} {x:Option TypeId} (hb:etype w b=x) (hx:∀e,x=some e->e ∉ tabTy):¬T.own t b:=λ hk=>by
 obtain ⟨_,_,e,he,hm⟩:=h.ty hk
 rw [he] at hb
 exact hx e hb.symm hm
theorem TabAt.ne_t (h:TabAt w R t T):T.ev.ownBlock≠some t/\T.c≠t/\T.cg≠t:=by
 refine ⟨ownsRow_ne h.row h.blk (by decide),h.cel.blk.ne h.blk (by decide),h.cel.row.ne h.blk (by unfold wE;split <;> (try split) <;> decide)⟩
theorem TabAt.ne_ev (h:TabAt w R t T):T.ev.ownBlock≠some T.c/\T.ev.ownBlock≠some T.cg:=by
 refine ⟨ownsRow_ne h.row h.cel.blk (by decide),ownsRow_ne h.row h.cel.row (by unfold wE;split <;> (try split) <;> decide)⟩
theorem TabAt.ent (h:TabAt w R t T) {i:Nat} {e:Ent} (he:T.es[i]?=some e):∃g cap,T.ev=.slice (some ⟨g,0,none⟩) T.es.length cap/\i<T.es.length/\CellsAt w ⟨g,i*5,none⟩ e.cells:=by
 have hi:=(List.getElem?_eq_some_iff.1 he).1
 have hf:∀k,k<5->(T.es.flatMap Ent.cells)[i*5+k]?=e.cells[k]?:=λ k hk=>flat_get ent_len hk _ _ _ he
 obtain ⟨g,cap,hv,_,hc,_⟩:=row_at h.row (hf 0 (by decide))
 refine ⟨g,cap,hv,hi,?_⟩
 have hx:∀k v,k<5->e.cells[k]?=some v->w.cell? ⟨g,i*5+k,none⟩=some v:=by
  intro k v hk hv'
  obtain ⟨g',cap',hv2,_,hc2,_⟩:=row_at h.row ((hf k hk).trans hv')
  rw [hv] at hv2
  cases hv2
  exact hc2
 have key:∀(l:List Value) (j:Nat),(∀m v,l[m]?=some v->w.cell? ⟨g,i*5+(j+m),none⟩=some v)->cellsFrom w ⟨g,i*5,none⟩ l j:=by
  intro l
  induction l with
  | nil=>intro j _;trivial
  | cons v l ih=>
   intro j hm
   refine cellsFrom_cons.2 ⟨?_,ih (j+1) λ m u hu=>?_⟩
   ·rw [add_mk];exact hm 0 v rfl
   ·have:=hm (m+1) u (by simpa using hu)
    rw [<-this];congr 2;omega
 refine key _ 0 λ m v hm=>?_
 have hm5:m<5:=(List.getElem?_eq_some_iff.1 hm).1
 rw [Nat.zero_add]
 exact hx m v hm5 hm
theorem TabAt.ent_add (h:TabAt w R t T) {i:Nat} {e:Ent} (he:T.es[i]?=some e):∃g cap,T.ev=.slice (some ⟨g,0,none⟩) T.es.length cap/\i<T.es.length/\CellsAt w ((⟨g,0,none⟩:Addr).add (i*5)) e.cells:=by
 obtain ⟨g,cap,h1,h2,h3⟩:=h.ent he
 exact ⟨g,cap,h1,h2,by rw [add_mk,Nat.zero_add];exact h3⟩
theorem copy5 {e:TypeId} {z0 z1 z2 z3 z4 v0 v1 v2 v3 v4:Value} {K:Addr->World->Prop} (h:∀b w',Blk w' b e [v0,v1,v2,v3,v4]->Keep No w w'->b=w.heap.size->K ⟨b,0,none⟩ w') :
  newK w #[z0,z1,z2,z3,z4] e λ a w1=>stK w1 (a.add 0) v0 λ w2=>stK w2 (a.add 1) v1 λ w3=>stK w3 (a.add 2) v2 λ w4=>stK w4 (a.add 3) v3 λ w5=>stK w5 (a.add 4) v4 λ w6=>K a w6:=by
 refine newK_of λ b w1 hs hb hk=>?_
 refine stK_add hb (by simp) λ w2 hb hk2=>?_
 replace hk:=hk.news hk2 (by rintro k rfl;omega)
 refine stK_add hb (by simp) λ w3 hb hk2=>?_
 replace hk:=hk.news hk2 (by rintro k rfl;omega)
 refine stK_add hb (by simp) λ w4 hb hk2=>?_
 replace hk:=hk.news hk2 (by rintro k rfl;omega)
 refine stK_add hb (by simp) λ w5 hb hk2=>?_
 replace hk:=hk.news hk2 (by rintro k rfl;omega)
 refine stK_add hb (by simp) λ w6 hb hk2=>?_
 replace hk:=hk.news hk2 (by rintro k rfl;omega)
 exact h b w6 hb hk hs
theorem set5 {b:Nat} {e:TypeId} {z0 z1 z2 z3 z4 v0 v1 v2 v3 v4:Value} {K:World->Prop} (hb:Blk w b e [z0,z1,z2,z3,z4]) (h:∀w',Blk w' b e [v0,v1,v2,v3,v4]->Keep (λ k=>k=b) w w'->K w') :
  stK w ((⟨b,0,none⟩:Addr).add 0) v0 λ w2=>stK w2 ((⟨b,0,none⟩:Addr).add 1) v1 λ w3=>stK w3 ((⟨b,0,none⟩:Addr).add 2) v2 λ w4=>stK w4 ((⟨b,0,none⟩:Addr).add 3) v3 λ w5=>stK w5 ((⟨b,0,none⟩:Addr).add 4) v4 λ w6=>K w6:=by
 refine stK_add hb (by simp) λ w2 hb hk=>?_
 refine stK_add hb (by simp) λ w3 hb hk2=>?_
 replace hk:=hk.trans hk2 λ _ _ e=>e
 refine stK_add hb (by simp) λ w4 hb hk2=>?_
 replace hk:=hk.trans hk2 λ _ _ e=>e
 refine stK_add hb (by simp) λ w5 hb hk2=>?_
 replace hk:=hk.trans hk2 λ _ _ e=>e
 refine stK_add hb (by simp) λ w6 hb hk2=>?_
 replace hk:=hk.trans hk2 λ _ _ e=>e
 exact h w6 hb hk
theorem C326 (h l:Int) (w:World):Calls Tryz.prog 326 #[.int .i64 h,.int .i64 l] w λ e w'=>∃a b,e=.returned (.func (.func 360) #[] #[.pointer (some ⟨b,0,none⟩),.pointer (some ⟨a,0,none⟩)])/\Blk w' a 3 [.int .i64 h]/\Blk w' b 3 [.int .i64 l]/\w.heap.size<=a/\w.heap.size<=b/\Keep No w w':=by
 refine ret_mono (V326_sound h l w (λ r w'=>∃a b,r=.func (.func 360) #[] #[.pointer (some ⟨b,0,none⟩),.pointer (some ⟨a,0,none⟩)]/\Blk w' a 3 [.int .i64 h]/\Blk w' b 3 [.int .i64 l]/\w.heap.size<=a/\w.heap.size<=b/\Keep No w w') ?_) (by rintro _ _ ⟨a,b,rfl,h⟩;exact ⟨a,b,rfl,h⟩)
 unfold V326
 exact newK_of λ a w1 hs ha hk1=>newK_of λ b w2 hs2 hb hk2=>⟨a,b,rfl,hk2.nblk ha,hb,by omega,by have:=hk1.size;omega,hk1.no hk2⟩
theorem C360 {l a b log:Nat} {hash:Int} (hl:3<=log/\log<=20) (ha:Blk w a 3 [.int .i64 hash]) (hb:Blk w b 3 [.int .i64 log]) (Inv:Nat->World->Prop) (Done:World->Prop) (h0:Inv 0 w)
  (hstep:∀n w1,n<2 ^ log+13->Inv n w1->RoundK Tryz.prog l #[.int .i64 (trAt log (u64 hash) n)] w1 λ r w2=>if r then Inv (n+1) w2 else Done w2) :
  Calls Tryz.prog 360 #[.func (.yield l) #[] #[],.pointer (some ⟨b,0,none⟩),.pointer (some ⟨a,0,none⟩)] w λ e w'=>e=.returned (.tuple #[])/\(Done w'\/Inv (2 ^ log+13) w'):=by
 refine ret_mono (V360_sound _ ⟨b,0,none⟩ ⟨a,0,none⟩ w (λ r w'=>r=.tuple #[]/\(Done w'\/Inv (2 ^ log+13) w')) ?_) (by rintro _ _ ⟨rfl,h⟩;exact ⟨rfl,h⟩)
 unfold V360
 refine ⟨_,hb.cell rfl,bsel_neg (by simp) ⟨_,hb.cell rfl,?_⟩⟩
 unfold V360J1
 have hp:=pow_le20 hl.2
 have h0p:=pow_pos' log
 refine bsel_neg (by simp;omega) ⟨_,hb.cell rfl,by omega,_,ha.cell rfl,_,hb.cell rfl,by omega,?_⟩
 rw [wrap_hash,shl_i64 hl.2]
 refine ⟨λ i c n w'=>∃m:Nat,n=m/\m<=2 ^ log+13/\i=(trFrom log (trStart log hash) m).2/\c=(trFrom log (trStart log hash) m).1/\Inv m w',λ _ _ n _=>(((2 ^ log+13:Nat):Int)-n).toNat,⟨0,rfl,by omega,rfl,?_,h0⟩,?_⟩
 ·rw [bAnd_mask hl.2 (u64_lt' hash)];rfl
 rintro j i c n w1 ⟨m,rfl,hm,rfl,rfl,hI⟩
 have hw:IntKind.wrap .i64 (((2 ^ log:Nat):Int)+13)=((2 ^ log+13:Nat):Int):=by
  generalize 2 ^ log=x at *
  rw [wrap_i64 (by omega)];omega
 rw [hw]
 refine bsel_split (λ hlt=>?_) λ hge=>?_
 ·have hlt:m<2 ^ log+13:=by simp only [decide_eq_true_eq] at hlt;exact Int.ofNat_lt.1 hlt
  have hf:=trFrom_fst (log:=log) hash m
  rw [wrap_i64 (by generalize 2 ^ log=x at *;omega)]
  have hr:=hstep m w1 hlt hI
  obtain ⟨f,tmps,assign,body,w2,hy,hround⟩:=hr
  refine ⟨f,tmps,assign,body,w2,hy,hround.mono ?_⟩
  rintro _ w3 ⟨r,rfl,hr⟩
  refine ⟨r,rfl,r,rfl,?_⟩
  cases r
  ·exact bsel_pos rfl ⟨rfl,.inl hr⟩
  ·refine bsel_neg rfl ⟨by omega,⟨m+1,?_,by omega,?_,?_,hr⟩,?_⟩
   ·generalize 2 ^ log=x at *
    rw [wrap_i64 (by omega)];omega
   ·rw [shr_five (trFrom_snd hash m)];rfl
   ·rw [shr_five (trFrom_snd hash m),next_mask hl.2];rfl
   ·simp only
    generalize 2 ^ log=x at *
    rw [wrap_i64 (n:=(m:Int)+1) (by omega)];omega
 ·have:m=2 ^ log+13:=by
   simp only [decide_eq_false_iff_not,Int.not_lt] at hge
   have:=Int.ofNat_le.1 hge
   omega
  subst this
  exact ⟨rfl,.inr hI⟩
end
end Go.Fw

namespace Go.Fw
open Go.Proofs Go.RowKit
theorem callFunc360 (x y z:Value) (w:World):(callFunc 360 #[x,y,z]).run Tryz.prog w=.ok (.enter 360 #[x,y,z]) w:=by kernel_rfl
theorem Keep.ett {fp:Nat->Prop} {w w':World} (h:Keep fp w w') {k:Nat} (hk:k<w.heap.size) (hn:¬fp k):etype w' k=etype w k:=by
 unfold etype
 rw [h.block k hk hn]
section
variable {w w':World} {R t:Nat} {T:Tb}
theorem fits_of_lt {log:Nat} {i:Nat} (h:i<room log):fits log i:=⟨by omega,by omega⟩
theorem C333 (h:TabAt w R t T) {i:Nat} {e:Ent} (he:T.es[i]?=some e) {k:Nat} (hk:k<2 ^ T.log+13) (hemp:T.cells[trAt T.log (u64 e.hash) k]?=some (-1)) (ha:Ahead T.cells T.log e.hash k) :
  Calls Tryz.prog 333 #[.pointer (some ⟨t,0,none⟩),.int .i64 i] w λ r w'=>r=.returned (.tuple #[])/\TabAt w' R t { T with cells:=lay T.cells T.log e.hash i }/\Keep (λ x=>x=T.cg) w w':=by
 refine ret_mono (V333_sound _ _ w (λ r w'=>r=.tuple #[]/\TabAt w' R t { T with cells:=lay T.cells T.log e.hash i }/\Keep (λ x=>x=T.cg) w w') ?_) (by rintro _ _ ⟨rfl,h⟩;exact ⟨rfl,h⟩)
 rw [lay_at hk hemp ha]
 unfold V333
 refine newK_of λ a3 w1 hs3 h3 hk1=>newK_of λ a5 w2 hs5 h5 hk2=>?_
 replace h3:=hk2.nblk h3
 have hk02:=(hk1.no hk2).no (Keep.drawn w2)
 have h2:=h.no hk02
 obtain ⟨g,cap,hev,hi,hent⟩:=h2.ent_add he
 refine ⟨_,h3.drew.cell rfl,?_⟩
 rw [nilK_some]
 refine ⟨_,_,_,(h2.blk.add 1 (by rw [Tb.all,hev];rfl)),_,h5.drew.cell rfl,idxK_of hi ⟨_,hent.get 1 rfl,_,h3.drew.cell rfl,?_⟩⟩
 rw [nilK_some]
 refine ⟨_,h2.blk.add 2 rfl,(C289 h2.cel).mono ?_⟩
 rintro _ w2' ⟨rfl,rfl⟩
 refine ⟨_,rfl,hent.get 1 rfl,h5.drew.cell rfl,(h2.blk.add 1 (by rw [Tb.all,hev];rfl)),h3.drew.cell rfl,(C326 _ _ _).mono ?_⟩
 rintro _ W ⟨A,B,rfl,hA,hB,hA1,hB1,hkW⟩
 have hW:TabAt W R t T:=h2.no hkW
 have h3W:=hkW.nblk h3.drew
 have h5W:=hkW.nblk h5.drew
 have hk0W:=hk02.no hkW
 refine ⟨_,rfl,?_⟩
 intro Rec hnc hround
 generalize hw3:(W.alloc (.deferred (some []))).alloc (Rec .ready none)=W' at *
 have hkd:Keep No W W':=by subst hw3;exact (Keep.fresh W _).no (Keep.fresh _ _)
 have hsz:W'.heap.size=W.heap.size+2:=by subst hw3;simp
 have hl:W'.heap[W.heap.size+1]?=some (Rec .ready none):=by
  subst hw3
  rw [heap_alloc,if_pos (by simp)]
 have hdf:W'.heap[W.heap.size]?=some (.deferred (some [])):=by
  subst hw3
  rw [heap_alloc,if_neg (by simp),heap_alloc,if_pos rfl]
 have hT':=hW.no hkd
 have h3':=hkd.nblk h3W
 have h5':=hkd.nblk h5W
 clear hw3
 have hold:∀{b:Nat},b<W.heap.size->b≠W.heap.size+1:=λ hb=>by omega
 have htl:∀x,T.own t x->x≠W.heap.size+1:=λ x hx=>hold (hW.ty hx).2.1
 have hcgne:T.cg≠W.heap.size+1:=htl _ (.inr (.inr (.inr rfl)))
 have h3cg:a3≠T.cg:=λ e=>hW.not_own h3W.etype (by rintro _ ⟨⟩;decide) (.inr (.inr (.inr e)))
 have h5cg:a5≠T.cg:=λ e=>hW.not_own h5W.etype (by rintro _ ⟨⟩;decide) (.inr (.inr (.inr e)))
 have hfin:∀(w4:World) (x:Obj) (cs:List Int),CellsOk w4 R T.c T.cg T.log cs->Keep (λ x=>x=W.heap.size+1\/x=T.cg) W' w4->w4.heap[W.heap.size]?=some (.deferred (some []))/\
   ((w4.putObj (W.heap.size+1) x).heap[W.heap.size]?=some (.deferred (some [])))/\TabAt ((w4.putObj (W.heap.size+1) x).putObj W.heap.size (.deferred none)) R t { T with cells:=cs }/\Keep (λ x=>x=T.cg) w ((w4.putObj (W.heap.size+1) x).putObj W.heap.size (.deferred none)):=by
  intro w4 x cs hcs hk4
  have hd4:w4.heap[W.heap.size]?=some (.deferred (some [])):=by
   rw [hk4.block _ (by omega) (by
    rintro (e | e)
    ·omega
    ·have:=hW.cel.row.lt;omega)]
   exact hdf
  have hp1:=Keep.put (w:=w4) (l:=W.heap.size+1) (x:=x)
  have hp2:=Keep.put (w:=w4.putObj (W.heap.size+1) x) (l:=W.heap.size) (x:=.deferred none)
  refine ⟨hd4,?_,?_,?_⟩
  ·rw [hp1.block _ (Array.getElem?_eq_some_iff.1 hd4).1 (by omega),hd4]
  ·have hT4:TabAt w4 R t { T with cells:=cs }:=by
    refine ⟨hk4.blk hT'.blk ?_,hk4.row hT'.row ?_,hcs,hT'.ge,hT'.len⟩
    ·rintro (e | e)
     ·exact htl t (.inl rfl) e
     ·exact hW.ne_t.2.2 e.symm
    ·rintro g hg (e | e)
     ·exact htl g (.inr (.inl hg)) e
     ·exact hW.ne_ev.2 (by rw [hg,e])
   have hx:∀x,Tb.own { T with cells:=cs } t x->x<W.heap.size:=λ x hx=>(hW.ty hx).2.1
   exact (hT4.keep hp1 λ x hx' e=>by have:=hx x hx';omega).keep hp2 λ x hx' e=>by have:=hx x hx';omega
  ·have hkw:=hk0W.no hkd
   have hs0:=hk0W.size
   refine ((hkw.of_no.trans hk4 λ x hx e=>?_).news hp1 λ x e=>by omega).news hp2 λ x e=>by omega
   rcases e with e | e
   ·omega
   ·exact e
 have hstep:∀(n:Nat) (w1:World),n<2 ^ T.log+13->(w1.heap[W.heap.size+1]?=some (Rec .ready none)/\Ahead T.cells T.log e.hash n/\Keep (λ x=>x=W.heap.size+1) W' w1)->
   RoundK Tryz.prog (W.heap.size+1) #[.int .i64 (trAt T.log (u64 e.hash) n)] w1 λ r w2=>if r then (w2.heap[W.heap.size+1]?=some (Rec .ready none)/\Ahead T.cells T.log e.hash (n+1)/\Keep (λ x=>x=W.heap.size+1) W' w2) else
    (w2.heap[W.heap.size+1]?=some (Rec .done (some (.exit 0)))/\CellsOk w2 R T.c T.cg T.log (T.cells.set (trAt T.log (u64 e.hash) k) i)/\Keep (λ x=>x=W.heap.size+1\/x=T.cg) W' w2):=by
  rintro n w1 hn ⟨hr1,hA1,hk1⟩
  refine hround w1 _ hr1 _ ⟨hr1,?_⟩
  have hll:=(Array.getElem?_eq_some_iff.1 hr1).1
  have hkp:=Keep.put (w:=w1) (l:=W.heap.size+1) (x:=Rec .busy none)
  have hk2:Keep (λ x=>x=W.heap.size+1) W' (w1.putObj (W.heap.size+1) (Rec .busy none)):=hk1.trans hkp λ _ _ e=>e
  have hbusy:=put_get (x:=Rec .busy none) hll
  generalize w1.putObj (W.heap.size+1) (Rec .busy none)=w2 at *
  have hT2:TabAt w2 R t T:=hT'.keep hk2 λ x hx e=>htl x hx e
  have h32:=hk2.blk h3' (hold h3W.lt)
  have h52:=hk2.blk h5' (hold h5W.lt)
  refine ⟨_,h32.cell rfl,?_⟩
  rw [nilK_some]
  obtain ⟨v,hv⟩:∃v,T.cells[trAt T.log (u64 e.hash) n]?=some v:=⟨_,List.getElem?_eq_getElem (by rw [h.cel.len];exact trAt_lt _ _ _)⟩
  refine ⟨_,hT2.blk.add 2 rfl,(C290 hT2.cel hv).mono ?_⟩
  rintro _ w3 ⟨rfl,hk3⟩
  have hb3:w3.heap[W.heap.size+1]?=some (Rec .busy none):=by rw [hk3.block _ (Array.getElem?_eq_some_iff.1 hbusy).1 id,hbusy]
  refine ⟨_,_,rfl,bsel_split (λ hc=>?_) λ hc=>?_⟩
  ·have hv1:v=-1:=by simpa using hc
   subst hv1
   have hnk:n=k:=by
    rcases Nat.lt_trichotomy n k with hx | hx | hx
    ·exact absurd hv (ha n hx)
    ·exact hx
    ·exact absurd hemp (hA1 k hx)
   subst hnk
   have hk23:=hk3.no (Keep.drawn w3)
   have hT3:=hT2.no hk23
   refine ⟨_,(hk3.nblk h32).drew.cell rfl,?_⟩
   rw [nilK_some]
   have hir:i<room T.log:=Nat.lt_of_lt_of_le hi h.len
   refine ⟨_,hT3.blk.add 2 rfl,_,(hk3.nblk h52).drew.cell rfl,(C327 hT3.cel (trAt_lt _ _ _) (fits_of_lt hir)).mono ?_⟩
   rintro _ w4 ⟨rfl,hc4,hk4⟩
   have hb4:w4.heap[W.heap.size+1]?=some (Rec .busy none):=by
    rw [hk4.block _ (Array.getElem?_eq_some_iff.1 hb3).1 (λ e=>hcgne e.symm)]
    exact hb3
   refine ⟨_,rfl,⟨_,_,hb4⟩,?_⟩
   have hp5:=Keep.put (w:=w4) (l:=W.heap.size+1) (x:=Rec .done (some (.exit 0)))
   refine ⟨put_get (Array.getElem?_eq_some_iff.1 hb4).1,hc4.keep hp5 (λ e=>htl _ (.inr (.inr (.inl rfl))) e) λ e=>hcgne e,?_⟩
   refine (((hk2.no hk23).mono λ x _ e=>.inl e).trans hk4 λ x _ e=>.inr e).trans hp5 λ x _ e=>.inl e
  ·have hv1:v≠-1:=by simpa using hc
   refine ⟨⟨_,_,hb3⟩,put_get (Array.getElem?_eq_some_iff.1 hb3).1,λ j hj=>?_,(hk2.no hk3).trans Keep.put λ x _ e=>e⟩
   by_cases hjn:j=n
   ·subst hjn;rw [hv];simpa using hv1
   ·exact hA1 j (by omega)
 refine ⟨callFunc360 _ _ _ _,?_⟩
 refine (C360 h.cel.lg (hkd.nblk hA) (hkd.nblk hB) (λ n w1=>w1.heap[W.heap.size+1]?=some (Rec .ready none)/\Ahead T.cells T.log e.hash n/\Keep (λ x=>x=W.heap.size+1) W' w1)
  (λ w2=>w2.heap[W.heap.size+1]?=some (Rec .done (some (.exit 0)))/\CellsOk w2 R T.c T.cg T.log (T.cells.set (trAt T.log (u64 e.hash) k) i)/\Keep (λ x=>x=W.heap.size+1\/x=T.cg) W' w2)
  ⟨hl,λ j hj=>by omega,Keep.refl _ _⟩ hstep).mono ?_
 rintro _ w4 ⟨rfl,hd | hi'⟩
 ·obtain ⟨hd1,hd2,hd3⟩:=hd
  obtain ⟨_,f2,f3,f4⟩:=hfin w4 (Rec .exhausted (some (.exit 0))) _ hd2 hd3
  exact ⟨⟨_,rfl⟩,.inr (.inl ⟨hd1,f2,rfl,f3,f4⟩)⟩
 ·exact absurd hemp (hi'.2.1 k hk)
end
end Go.Fw
