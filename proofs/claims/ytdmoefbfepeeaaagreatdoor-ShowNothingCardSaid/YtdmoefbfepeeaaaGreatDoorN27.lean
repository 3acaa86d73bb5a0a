/- Part of a proof over the given program: texts of lemmas (conditions: none beyond each lemma as stated). -/
import Derived.Test.YtdmoefbfepeeaaaGreatDoorN26
set_option linter.unnecessarySimpa false
set_option linter.unusedVariables false
set_option linter.unusedSimpArgs false

namespace Go.Fw
open Go.Proofs Go.RowKit
section
variable {w w':World} {R t mc:Nat} {T:RTb} {fp:Nat->Prop}
theorem RTabAt.set {T':RTb} {i:Nat} {v:Value} (h:RTabAt w R t mc T) (hb:Blk w' t 420 ((T.all mc).set i v)) (hk:Keep (λ k=>k=t) w w') (he:T'.all mc=(T.all mc).set i v) (h1:T'.ev=T.ev) (h3:T'.cg=T.cg) (h4:T'.log=T.log) (h5:T'.es=T.es) (h6:T'.cells=T.cells):RTabAt w' R t mc T':=by
 obtain ⟨n1,n2,n3⟩:=h.ne
 refine ⟨he ▸ hb,?_,?_,by rw [h6,h4];exact h.clen,by rw [h4];exact h.lg,by rw [h3];exact h.ge,by rw [h4,h5];exact h.len⟩
 ·rw [h1,h5];exact hk.row h.row λ g' hg' e=>n1 (by rw [hg',e])
 ·rw [h3,h6];exact hk.blk h.cel n2
theorem radd_tail {hash key value:Int} {Q:Value->World->Prop} (h:RTabAt w R t mc T) (ho:RTbOk T) (hlt:T.es.length<room T.log) (hR:R<=w.heap.size) (hn:T.births<1000000000000/\T.turns<1000000000000)
  (hQ:∀ev cs w',RTabAt w' R t mc { T with ev:=ev,es:=T.es ++ [⟨true,hash,key,value,T.births⟩],cells:=cs,live:=T.live+1,births:=T.births+1,turns:=T.turns+1 }->
   IdxOk (T.es ++ [⟨true,hash,key,value,T.births⟩]) T.log cs->(∀k,ev.ownBlock=some k->T.ev.ownBlock=some k\/w.heap.size<=k)->Keep (T.own t) w w'->Q (.tuple #[.int .i64 T.es.length,.int .i64 0]) w') :
  V351J2 Q (some ⟨t,0,none⟩) hash key value w:=by
 have hroom:=room_bound h.lg.2
 obtain ⟨sa,cap,hev⟩:=row_slice h.row
 have hfld:∀{w1:World},RTabAt w1 R t mc T->w1.cell? ((⟨t,0,none⟩:Addr).add 0)=some (.slice sa T.es.length cap):=λ h1=>h1.blk.add 0 (by rw [RTb.all,hev];rfl)
 have hnum:=ho.num
 have hcnt:=ho.cnt
 unfold V351J2
 have hd:=Keep.drawn w
 have h1:=h.no hd
 simp only [nilK_some]
 refine ⟨_,_,_,hfld h,_,_,_,hfld h1,_,h1.blk.add 4 rfl,newK_of λ b w2 hs2 hb2 hk2=>?_⟩
 have h2:=h1.no hk2
 have hk02:=hd.no hk2
 refine ⟨hfld h2,?_⟩
 obtain ⟨ii,zz,q1,q2,q3,q4,q5⟩:=ents_info
 have hrow2:=h2.row
 rw [hev] at hrow2
 refine appendN (m:=1) ents_und q1 q2 q3 q4 q5 (by decide) hrow2 hb2 rfl (five_one _ _ _ _ _) (by decide) (by omega) (by decide) (by have:=hk02.size;omega) λ g cap' w3 hrow3 hk3 hat=>?_
 obtain ⟨n1,n2,n3⟩:=h2.ne
 rw [hev] at n1 n3
 have hblk3:=hk3.blk h2.blk λ e=>n1 e
 have hcel3:=hk3.blk h2.cel λ e=>n3 e
 refine stK_add hblk3 (by simp [RTb.all]) λ w4 hb4 hk4=>?_
 have ht4:g≠t:=λ e=>ownsRow_ne hrow3 hblk3 (by decide) (by rw [e];rfl)
 generalize hT4:({ T with ev:=.slice (some ⟨g,0,none⟩) (T.es.length+1) cap',es:=T.es ++ [⟨true,hash,key,value,T.births⟩] }:RTb)=T4
 have h4:RTabAt w4 R t mc T4:=by
  subst hT4
  refine ⟨hb4,?_,hk4.blk hcel3 n2,h.clen,h.lg,h.ge,by simp;omega⟩
  have:=hk4.row hrow3 λ g' hg' e=>by cases hg';exact ht4 e
  simpa [Ent.cells] using this
 have hev4:∀k,T4.ev.ownBlock=some k->T.ev.ownBlock=some k\/w.heap.size<=k:=by
  subst hT4
  intro k hk
  cases hk
  rcases hat with hat | hat
  ·exact .inl (by rw [hev];exact hat)
  ·exact .inr (by have:=hk02.size;show w.heap.size<=g;omega)
 have hk04:Keep (T.own t) w w4:=(hk02.of_no.trans hk3 λ k _ e=>.inr (.inl (by rw [hev];exact e))).trans hk4 λ k _ e=>.inl e
 have hes:T4.es=T.es ++ [⟨true,hash,key,value,T.births⟩]:=by subst hT4;rfl
 have hcs4:T4.cells=T.cells/\T4.log=T.log/\T4.cg=T.cg/\T4.births=T.births/\T4.live=T.live/\T4.turns=T.turns:=by subst hT4;exact ⟨rfl,rfl,rfl,rfl,rfl,rfl⟩
 unfold V351J1
 simp only [nilK_some]
 have ew5:IntKind.wrap .i64 (T4.births+1)=T4.births+1:=wrap_i64 (by rw [hcs4.2.2.2.1];omega)
 have ew6:IntKind.wrap .i64 (T4.live+1)=T4.live+1:=wrap_i64 (by rw [hcs4.2.2.2.2.1];omega)
 have ew7:IntKind.wrap .i64 (T4.turns+1)=T4.turns+1:=wrap_i64 (by rw [hcs4.2.2.2.2.2];omega)
 refine ⟨T4.births,h4.blk.add 4 rfl,stK_add h4.blk (by simp [RTb.all]) λ w5 hb5 hk5=>?_⟩
 rw [ew5] at hb5
 have h5:=h4.set (T':={ T4 with births:=T4.births+1 }) hb5 hk5 rfl rfl rfl rfl rfl rfl
 refine ⟨T4.live,h5.blk.add 3 rfl,stK_add h5.blk (by simp [RTb.all]) λ w6 hb6 hk6=>?_⟩
 rw [ew6] at hb6
 have h6:=h5.set (T':={ T4 with births:=T4.births+1,live:=T4.live+1 }) hb6 hk6 rfl rfl rfl rfl rfl rfl
 refine ⟨T4.turns,h6.blk.add 6 rfl,stK_add h6.blk (by simp [RTb.all]) λ w7 hb7 hk7=>?_⟩
 rw [ew7] at hb7
 have h7:=h6.set (T':={ T4 with births:=T4.births+1,live:=T4.live+1,turns:=T4.turns+1 }) hb7 hk7 rfl rfl rfl rfl rfl rfl
 have hk07:Keep (T.own t) w w7:=((hk04.trans hk5 λ k _ e=>.inl e).trans hk6 λ k _ e=>.inl e).trans hk7 λ k _ e=>.inl e
 obtain ⟨k,hk,hemp,hah⟩:=ho.idx.empty h.len hash
 refine (C368 (n:=T.es.length) h7 (hash:=hash) (k:=k) (by simp only;rw [hcs4.2.1];exact hk) (by simp only;rw [hcs4.1,hcs4.2.1];exact hemp) (by simp only;rw [hcs4.1,hcs4.2.1];exact hah)).mono ?_
 rintro _ w8 ⟨rfl,h8,hk8⟩
 refine ⟨_,rfl,?_⟩
 have hidx:=ho.idx.lay h.len ⟨true,hash,key,value,T.births⟩ rfl
 refine hQ _ _ _ ?_ hidx hev4 (hk07.trans hk8 λ x _ e=>.inr (.inr (by rw [e];exact hcs4.2.2.1)))
 subst hT4
 exact h8
theorem RTb.own_mono {T T':RTb} {B t k:Nat} (h:T'.own t k) (h1:∀k,T'.ev.ownBlock=some k->T.ev.ownBlock=some k\/B<=k) (h3:T'.cg=T.cg\/B<=T'.cg):T.own t k\/B<=k:=by
 rcases h with rfl | h | rfl
 ·exact .inl (.inl rfl)
 ·rcases h1 k h with h | h
  ·exact .inl (.inr (.inl h))
  ·exact .inr h
 ·rcases h3 with h | h
  ·exact .inl (.inr (.inr h))
  ·exact .inr h
theorem C351 {hash key value:Int} (h:RTabAt w R t mc T) (ho:RTbOk T) (hc:CntAt w mc) (hR:R<=w.heap.size) (hl:3*T.es.length<=1048576) (hn:T.births<1000000000000/\T.turns<1000000000000/\T.made<1000000000000) :
  Calls Tryz.prog 351 #[.pointer (some ⟨t,0,none⟩),.int .i64 hash,.int .i64 key,.int .i64 value] w λ r w'=>r=.returned (.tuple #[.int .i64 T.es.length,.int .i64 0])/\
   ∃T',RTabAt w' R t mc T'/\RTbOk T'/\CntAt w' mc/\T'.es=T.es ++ [⟨true,hash,key,value,T.births⟩]/\T'.births=T.births+1/\T'.turns=T.turns+1/\T'.made<=T.made+1/\(∀k,T'.own t k->T.own t k\/w.heap.size<=k)/\Keep (λ k=>T.own t k\/k=mc) w w':=by
 refine ret_mono (V351_sound _ hash key value w (λ r w'=>r=.tuple #[.int .i64 T.es.length,.int .i64 0]/\
   ∃T',RTabAt w' R t mc T'/\RTbOk T'/\CntAt w' mc/\T'.es=T.es ++ [⟨true,hash,key,value,T.births⟩]/\T'.births=T.births+1/\T'.turns=T.turns+1/\T'.made<=T.made+1/\(∀k,T'.own t k->T.own t k\/w.heap.size<=k)/\Keep (λ k=>T.own t k\/k=mc) w w') ?_) (by rintro _ _ ⟨rfl,h⟩;exact ⟨rfl,h⟩)
 have hnum:=ho.num
 have hcnt:=ho.cnt
 have hroom:=room_bound h.lg.2
 have hlen:=h.len
 have hmo:∀{w1:World} {T1:RTb},RTabAt w1 R t mc T1->CntAt w1 mc->¬T1.own t mc:=λ q1 q2=>q1.not_own q2.etype (by rintro _ ⟨⟩;decide)
 unfold V351
 obtain ⟨sa,cap,hev⟩:=row_slice h.row
 have hfld:∀{w1:World},RTabAt w1 R t mc T->w1.cell? ((⟨t,0,none⟩:Addr).add 0)=some (.slice sa T.es.length cap):=λ h1=>h1.blk.add 0 (by rw [RTb.all,hev];rfl)
 have hkd:=Keep.drawn w
 have h1:=h.no hkd
 have hc1:=hc.no hkd
 have hsd:=hkd.size
 simp only [nilK_some,add_add]
 refine ⟨_,_,_,hfld h1,_,h1.blk.add 1 rfl,(C366 h.lg _).mono ?_⟩
 rintro _ w2 ⟨rfl,rfl⟩
 refine ⟨_,rfl,hfld h1,bsel_split (λ hfull=>?_) λ hfull=>?_⟩
 ·have hfull:T.es.length=room T.log:=by
   have:(room T.log:Int)<=T.es.length:=by simpa using hfull
   omega
  have hrp:=room_pos h.lg.1
  refine ⟨λ i w'=>3<=i/\i<=20/\Keep No w w',λ i _=>(21-i).toNat,⟨by omega,by omega,hkd⟩,?_⟩
  rintro _ i w3 ⟨h3,h20,hk3⟩
  obtain ⟨log,rfl⟩:=Int.eq_ofNat_of_zero_le (show 0<=i by omega)
  have hk3d:=hk3.no (Keep.drawn w3)
  have h3':=h.no hk3d
  refine ⟨by omega,_,h3'.blk.add 3 rfl,bsel_split (λ hlt=>?_) λ hge=>?_⟩
  ·have hlt:((2 ^ log:Nat):Int)<3*T.live:=by
    rw [shl_i64 (show log<=20 by omega),wrap_i64 (n:=3*T.live) (by omega)] at hlt
    exact of_decide_eq_true hlt
   have:log≠20:=by
    rintro rfl
    have:(2 ^ 20:Nat)=1048576:=rfl
    omega
   rw [wrap_i64 (n:=(log:Int)+1) (by omega)]
   exact ⟨⟨by omega,by omega,hk3d⟩,by simp only;omega⟩
  ·have hge:3*T.live<=((2 ^ log:Nat):Int):=by
    rw [shl_i64 (show log<=20 by omega),wrap_i64 (n:=3*T.live) (by omega)] at hge
    have:=of_decide_eq_false hge
    omega
   have hgrow:T.es.length<room log:=by
    unfold room
    generalize 2 ^ log=a at *
    omega
   refine bsel_neg (by simp;omega) ((C367 h3' ho (hc.no hk3d) (log:=log) ⟨by omega,by omega⟩ (by omega) (by have:=hk3d.size;omega) hn.2.2).mono ?_)
   rintro _ w4 ⟨rfl,ev,g,cs,h4,hidx,hc4,hevn,hgn,hk4⟩
   have hs3:=hk3d.size
   have hs4:=hk4.size
   have hk04:Keep (λ k=>k=t\/k=mc) w w4:=(Keep.of_no hk3d).trans hk4 λ _ _ e=>e
   have hs04:=hk04.size
   refine ⟨_,rfl,radd_tail h4 ⟨hidx,ho.live,hcnt,⟨hnum.1,by simp only;omega,hnum.2.2⟩⟩ hgrow (by omega) ⟨hn.1,hn.2.1⟩ λ ev2 cs2 w5 h5 hidx5 hev5 hk5=>?_⟩
   have hc5:=hc4.keep hk5 (hmo h4 hc4)
   refine ⟨rfl,_,h5,⟨hidx5,?_,?_,?_⟩,hc5,rfl,rfl,rfl,Int.le_refl _,λ k hk=>?_,?_⟩
   ·intro e he
    simp at he
    rcases he with he | rfl
    ·exact ho.live e he
    ·rfl
   ·simp;omega
   ·simp only;omega
   ·refine RTb.own_mono hk (λ k hk=>?_) (.inr (by simp only;omega))
    rcases hev5 k hk with q | q
    ·exact .inr (by have:=hevn k q;omega)
    ·exact .inr (by omega)
   ·refine (hk04.mono λ k _ e=>?_).trans hk5 λ k hk e=>?_
    ·rcases e with e | e
     ·exact .inl (.inl e)
     ·exact .inr e
    ·rcases e with e | e | e
     ·exact .inl (.inl e)
     ·have:=hevn k e;omega
     ·simp only at e;omega
 ·have hfull:T.es.length<room T.log:=by
   have:¬(room T.log:Int)<=T.es.length:=by simpa using hfull
   omega
  refine radd_tail h1 ho hfull (by omega) ⟨hn.1,hn.2.1⟩ λ ev cs w5 h5 hidx5 hev5 hk5=>?_
  refine ⟨rfl,_,h5,⟨hidx5,?_,?_,?_⟩,hc1.keep hk5 (hmo h1 hc1),rfl,rfl,rfl,by simp only;omega,λ k hk=>?_,?_⟩
  ·intro e he
   simp at he
   rcases he with he | rfl
   ·exact ho.live e he
   ·rfl
  ·simp;omega
  ·simp only;omega
  ·refine RTb.own_mono hk (λ k hk=>?_) (.inl rfl)
   rcases hev5 k hk with q | q
   ·exact .inl q
   ·exact .inr (by omega)
  ·exact (Keep.of_no hkd).trans hk5 λ k _ e=>.inl e
theorem C365 (h:RTabAt w R t mc T) {i:Nat} {e:Ent} (he:T.es[i]?=some e) (hl:e.live=true):Calls Tryz.prog 365 #[.pointer (some ⟨t,0,none⟩),.int .i64 i] w λ r w'=>r=.returned (.bool true)/\w'=w:=by
 refine ret_mono (V365_sound _ _ w (λ r w'=>r=.bool true/\w'=w) ?_) (by rintro _ _ ⟨rfl,h⟩;exact ⟨rfl,h⟩)
 unfold V365
 obtain ⟨g,cap,hev,hi,hent⟩:=ents_at h.row he
 have hf:w.cell? ((⟨t,0,none⟩:Addr).add 0)=some (.slice (some ⟨g,0,none⟩) T.es.length cap):=h.blk.add 0 (by rw [RTb.all,hev];rfl)
 simp only [nilK_some]
 refine bsel_pos (by simp) ⟨_,_,_,hf,bsel_pos (by simpa using hi) ⟨_,_,_,hf,idxK_of hi ⟨_,hent.get 0 rfl,by rw [hl],by trivial⟩⟩⟩
def RTb.put (T:RTb) (i:Nat) (e:Ent) (v:Int):RTb:={ T with es:=T.es.set i (e.put v) }
theorem RTbOk.put (h:RTbOk T) {i:Nat} {e:Ent} (he:T.es[i]?=some e) (v:Int):RTbOk (T.put i e v):=by
 refine ⟨h.idx.put he v,λ x hx=>?_,by simp [RTb.put,h.cnt],h.num⟩
 rcases List.mem_or_eq_of_mem_set hx with hx | hx
 ·exact h.live x hx
 ·subst hx;exact h.live e (List.mem_of_getElem? he)
theorem C346 (h:RTabAt w R t mc T) {i:Nat} {e:Ent} (he:T.es[i]?=some e) (hl:e.live=true) (v:Int):Calls Tryz.prog 346 #[.pointer (some ⟨t,0,none⟩),.int .i64 i,.int .i64 v] w λ r w'=>r=.returned (.int .i64 0)/\RTabAt w' R t mc (T.put i e v)/\Keep (λ k=>T.ev.ownBlock=some k) w w':=by
 refine ret_mono (V346_sound _ _ _ w (λ r w'=>r=.int .i64 0/\RTabAt w' R t mc (T.put i e v)/\Keep (λ k=>T.ev.ownBlock=some k) w w') ?_) (by rintro _ _ ⟨rfl,h⟩;exact ⟨rfl,h⟩)
 unfold V346
 refine (C365 h he hl).mono ?_
 rintro _ w1 ⟨rfl,rfl⟩
 obtain ⟨g,cap,hev,hi,hent⟩:=ents_at h.row he
 refine ⟨_,rfl,bsel_neg rfl ?_⟩
 rw [nilK_some]
 refine ⟨_,_,_,h.blk.add 0 (by rw [RTb.all,hev];rfl),idxK_of hi ?_⟩
 rw [add_mk,add_mk,Nat.zero_add]
 have hrow:=h.row
 rw [hev] at hrow
 have hx:(T.es.flatMap Ent.cells)[i*5+3]?=some (.int .i64 e.value):=(flat_get ent_len (by decide) _ _ _ he).trans rfl
 refine stRow hrow hx λ w2 hr2 hk2=>⟨rfl,?_,hk2.mono λ k _ e=>by rw [hev,e];rfl⟩
 obtain ⟨n1,n2,n3⟩:=h.ne
 rw [hev] at n1 n3
 refine ⟨hk2.blk h.blk (λ e=>n1 (by rw [<-e];rfl)),?_,hk2.blk h.cel (λ e=>n3 (by rw [<-e];rfl)),h.clen,h.lg,h.ge,by simp [RTb.put];exact h.len⟩
 rw [flat_set5 (e':=e.put v) (by decide) he rfl] at hr2
 simp only [RTb.put,List.length_set]
 rw [hev]
 exact hr2
def RSeekAt (w:World) (s t:Nat) (hash:Int) (x:Nat × Nat) (turns told:Int) (over:Bool):Prop:=∃vis,Blk w s 447 [.pointer (some ⟨t,0,none⟩),.int .i64 hash,.int .i64 turns,.int .i64 x.1,.int .u64 x.2,.bool over,.int .i64 vis,.int .i64 told]
theorem RSeekAt.keep {s:Nat} {hash:Int} {x:Nat × Nat} {turns told:Int} {o:Bool} (h:RSeekAt w s t hash x turns told o) (hk:Keep fp w w') (hn:¬fp s):RSeekAt w' s t hash x turns told o:=by
 obtain ⟨v,h⟩:=h
 exact ⟨v,hk.blk h hn⟩
theorem RSeekAt.etype {s:Nat} {hash:Int} {x:Nat × Nat} {turns told:Int} {o:Bool} (h:RSeekAt w s t hash x turns told o):Fw.etype w s=some 447:=by
 obtain ⟨v,h⟩:=h
 exact h.etype
theorem C307 (h:RTabAt w R t mc T) (hash:Int):Calls Tryz.prog 307 #[.pointer (some ⟨t,0,none⟩),.int .i64 hash] w λ e w'=>∃s,e=.returned (.pointer (some ⟨s,0,none⟩))/\RSeekAt w' s t hash (trStart T.log hash) T.turns (-1) false/\w.heap.size<=s/\Keep No w w':=by
 refine ret_mono (V307_sound _ hash w (λ r w'=>∃s,r=.pointer (some ⟨s,0,none⟩)/\RSeekAt w' s t hash (trStart T.log hash) T.turns (-1) false/\w.heap.size<=s/\Keep No w w') ?_) (by rintro _ _ ⟨s,rfl,h⟩;exact ⟨s,rfl,h⟩)
 unfold V307
 have hd:=Keep.drawn w
 have h1:=h.no hd
 simp only [nilK_some,add_add]
 refine ⟨_,h1.blk.add 6 rfl,_,h1.blk.add 1 rfl,(C345 h.lg.2 hash _).mono ?_⟩
 rintro _ w2 ⟨rfl,rfl⟩
 refine ⟨_,rfl,h1.blk.add 6 rfl,newK_of λ s w2 hs hb hk=>⟨s,rfl,⟨0,?_⟩,by have:=hd.size;omega,hd.no hk⟩⟩
 rw [wrap_hash] at hb
 exact hb
theorem C309 {s:Nat} (h:RTabAt w R t mc T) (hI:IdxOk T.es T.log T.cells) (hc:CntAt w mc) {hash told:Int} {x:Nat × Nat} (hx:x.1<2 ^ T.log/\x.2<18446744073709551616) (hs:RSeekAt w s t hash x T.turns told false) (ht:-1<=told) {m:Nat} {l:List Nat} (hsc:Scan T.es T.log T.cells hash m x told l) :
  Calls Tryz.prog 309 #[.pointer (some ⟨s,0,none⟩)] w λ e w'=>Keep (λ k=>k=s\/k=mc) w w'/\CntAt w' mc/\((l=[]/\e=.returned (.tuple #[.int .i64 (-1),.bool false]))\/
   ∃i l' x' m',l=i :: l'/\e=.returned (.tuple #[.int .i64 (i:Nat),.bool true])/\(x'.1<2 ^ T.log/\x'.2<18446744073709551616)/\RSeekAt w' s t hash x' T.turns i false/\Scan T.es T.log T.cells hash m' x' i l'):=by
 refine ret_mono (V309_sound _ w (λ r w'=>Keep (λ k=>k=s\/k=mc) w w'/\CntAt w' mc/\((l=[]/\r=.tuple #[.int .i64 (-1),.bool false])\/
   ∃i l' x' m',l=i :: l'/\r=.tuple #[.int .i64 (i:Nat),.bool true]/\(x'.1<2 ^ T.log/\x'.2<18446744073709551616)/\RSeekAt w' s t hash x' T.turns i false/\Scan T.es T.log T.cells hash m' x' i l')) ?_)
   (by rintro _ _ ⟨hk,hc,⟨h1,rfl⟩ | ⟨i,l',x',m',h1,rfl,h2⟩⟩;exact ⟨hk,hc,.inl ⟨h1,rfl⟩⟩;exact ⟨hk,hc,.inr ⟨i,l',x',m',h1,rfl,h2⟩⟩)
 have hns:¬T.own t s:=h.not_own hs.etype (by rintro _ ⟨⟩;decide)
 have hnm:¬T.own t mc:=h.not_own hc.etype (by rintro _ ⟨⟩;decide)
 have hsm:mc≠s:=λ e=>by have:=hc.etype;rw [e,hs.etype] at this;cases this
 have hT:∀{w1:World},Keep (λ k=>k=s\/k=mc) w w1->RTabAt w1 R t mc T:=λ hk1=>h.keep hk1 λ k hk e=>by
  rcases e with e | e
  ·exact hns (by rw [<-e];exact hk)
  ·exact hnm (by rw [<-e];exact hk)
 unfold V309
 let J:Nat->World->Prop:=λ m w1=>Keep (λ k=>k=s\/k=mc) w w1/\CntAt w1 mc/\((∃m' x,m=m'+1/\RSeekAt w1 s t hash x T.turns told false/\Scan T.es T.log T.cells hash m' x told l/\(x.1<2 ^ T.log/\x.2<18446744073709551616))\/(m=0/\l=[]/\∃x,RSeekAt w1 s t hash x T.turns told true))
 have hJu:∀m m' w1,J m w1->J m' w1->m=m':=by
  rintro m m' w1 ⟨_,_,h1⟩ ⟨_,_,h2⟩
  rcases h1 with ⟨a,x,rfl,⟨v,hb⟩,hsc1,_⟩ | ⟨rfl,_,x,v,hb⟩ <;> rcases h2 with ⟨a',x',rfl,⟨v',hb'⟩,hsc2,_⟩ | ⟨rfl,_,x',v',hb'⟩
  ·have:=(hb.uniq hb').2
   simp at this
   have e1:x.1=x'.1:=Int.ofNat_inj.1 this.1
   have e2:x.2=x'.2:=Int.ofNat_inj.1 this.2.1
   obtain rfl:x=x':=Prod.ext e1 e2
   rw [(hsc1.uniq hsc2).1]
  ·have:=(hb.uniq hb').2
   simp at this
  ·have:=(hb.uniq hb').2
   simp at this
  ·rfl
 refine ⟨λ w1=>∃m,J m w1,ghost J,⟨m+1,Keep.refl _ _,hc,.inl ⟨m,x,rfl,hs,hsc,hx⟩⟩,?_⟩
 clear hs hsc hx
 rintro j w2 ⟨m,hJ⟩
 have hg2:=ghost_eq hJu hJ
 obtain ⟨hk2,hc2,hcase⟩:=hJ
 have hk2d:=hk2.no (Keep.drawn w2)
 have hc2d:=hc2.no (Keep.drawn w2)
 have h2:=hT hk2d
 simp only [nilK_some]
 have hend:∀{w3:World} {cs:List Value},Blk w3 s 447 cs->5<cs.length->Keep (λ k=>k=s\/k=mc) w w3->CntAt w3 mc->l=[]->stK w3 ((⟨s,0,none⟩:Addr).add 5) (.bool true) λ w90=>(Keep (λ k=>k=s\/k=mc) w w90/\CntAt w90 mc/\((l=[]/\Value.tuple #[.int .i64 (-1),.bool false]=.tuple #[.int .i64 (-1),.bool false])\/
   ∃i l' x' m',l=i :: l'/\Value.tuple #[.int .i64 (-1),.bool false]=.tuple #[.int .i64 (i:Nat),.bool true]/\(x'.1<2 ^ T.log/\x'.2<18446744073709551616)/\RSeekAt w90 s t hash x' T.turns i false/\Scan T.es T.log T.cells hash m' x' i l')):=by
  intro w3 cs hb hl hk hc3 hln
  refine stK_add hb hl λ w4 hb4 hk4=>⟨hk.trans hk4 λ k _ e=>.inl e,hc3.keep hk4 hsm,.inl ⟨hln,rfl⟩⟩
 rcases hcase with ⟨m',x,rfl,⟨vis,hb⟩,hsc,hx⟩ | ⟨rfl,hl,x,vis,hb⟩
 ·have hbd:=hb.drew
  refine ⟨_,hbd.add 5 rfl,bsel_pos rfl ⟨_,hbd.add 2 rfl,_,hbd.add 0 rfl,?_⟩⟩
  simp only [nilK_some]
  refine ⟨_,h2.blk.add 6 rfl,?_⟩
  unfold V309J3
  refine bsel_pos (by simp) ?_
  have hkdd:=hk2d.no (Keep.drawn w2.drew)
  have h3:=hT hkdd
  have hbdd:=hbd.drew
  have hcdd:=hc2d.no (Keep.drawn w2.drew)
  simp only [nilK_some,add_add]
  obtain ⟨v,hv⟩:∃v,T.cells[x.1]?=some v:=⟨_,List.getElem?_eq_getElem (by rw [h.clen];exact hx.1)⟩
  refine ⟨_,hbdd.add 0 rfl,?_⟩
  simp only [nilK_some,add_add]
  refine ⟨_,_,_,h3.blk.add 2 rfl,_,hbdd.add 3 rfl,idxK_of hx.1 ⟨v,by rw [Nat.mul_one,add_mk,Nat.zero_add];exact h3.cel.cell (icells_get hv),_,hbdd.add 6 rfl,stK_add hbdd (by simp) λ w4 hb4 hk4=>?_⟩⟩
  have hk4':=hkdd.trans hk4 λ k _ e=>.inl e
  have h4:=hT hk4'
  have hc4:=hcdd.keep hk4 hsm
  refine ⟨_,hb4.add 0 rfl,?_⟩
  simp only [nilK_some]
  refine ⟨_,h4.blk.add 7 rfl,bsel_pos rfl ⟨_,hb4.add 0 rfl,?_⟩⟩
  simp only [nilK_some]
  refine ⟨_,h4.blk.add 7 rfl,?_⟩
  obtain ⟨c0,c1,rest,hcc⟩:=hc4
  simp only [nilK_some,add_add]
  refine ⟨_,hcc.add 1 rfl,stK_add hcc (by simp) λ w5 hcc5 hk5=>?_⟩
  have hc5:CntAt w5 mc:=⟨_,_,_,hcc5⟩
  have hk5':=hk4'.trans hk5 λ k _ e=>.inr e
  have hb5:=hk5.blk hb4 (λ e=>hsm e.symm)
  unfold V309J2
  have hk5d:=hk5'.no (Keep.drawn w5)
  have h5:=hT hk5d
  have hb5d:=hb5.drew
  have hc5d:=hc5.no (Keep.drawn w5)
  simp only [nilK_some]
  refine ⟨_,hb5d.add 3 rfl,_,hb5d.add 4 rfl,_,hb5d.add 0 rfl,?_⟩
  simp only [nilK_some,add_add]
  refine ⟨_,h5.blk.add 1 rfl,(C349 h.lg.2 hx _).mono ?_⟩
  rintro _ w6 ⟨rfl,rfl⟩
  have hnx:(trNext T.log x).1<2 ^ T.log/\(trNext T.log x).2<18446744073709551616:=⟨trNext_fst x,trNext_snd x hx.2⟩
  refine ⟨_,_,rfl,stK_add hb5d (by simp) λ w7 hb7 hk7=>stK_add hb7 (by simp) λ w8 hb8 hk8=>?_⟩
  have hk8':=(hk5d.trans hk7 λ k _ e=>.inl e).trans hk8 λ k _ e=>.inl e
  have hc8:=(hc5d.keep hk7 hsm).keep hk8 hsm
  unfold V309J1
  refine bsel_split (λ he=>?_) λ he=>?_
  ·have hv1:v=-1:=by simpa using he
   subst hv1
   have hl:l=[]/\m'=0:=by
    cases hsc with
    | stop=>exact ⟨rfl,rfl⟩
    | skip q1 q2=>rw [hv] at q1;simp at q1;exact absurd q1.symm q2
    | hit q1=>rw [hv] at q1;simp at q1
   simp only [nilK_some]
   refine stK_add hb8 (by simp) λ w9 hb9 hk9=>?_
   have hJ9:J 0 w9:=⟨hk8'.trans hk9 λ k _ e=>.inl e,hc8.keep hk9 hsm,.inr ⟨rfl,hl.1,trNext T.log x,_,hb9⟩⟩
   refine ⟨⟨0,hJ9⟩,?_⟩
   rw [ghost_eq hJu hJ9,hg2]
   omega
  ·have hv1:v≠-1:=by simpa using he
   have hk8d:=hk8'.no (Keep.drawn w8)
   have hb8d:=hb8.drew
   have hc8d:=hc8.no (Keep.drawn w8)
   have h8:=hT hk8d
   have hskip:∀{n:Nat},m'=n+1->Scan T.es T.log T.cells hash n (trNext T.log x) told l->(∃m,J m w8.drew)/\ghost J w8.drew<ghost J w2:=by
    rintro n rfl hs2
    have hJ9:J (n+1) w8.drew:=⟨hk8d,hc8d,.inl ⟨n,_,rfl,⟨_,hb8d⟩,hs2,hnx⟩⟩
    refine ⟨⟨_,hJ9⟩,?_⟩
    rw [ghost_eq hJu hJ9,hg2]
    omega
   simp only [nilK_some]
   refine ⟨_,hb8d.add 7 rfl,bsel_split (λ hgt=>?_) λ hle=>?_⟩
   ·have hgt:told<v:=by simpa using hgt
    refine ⟨_,hb8d.add 0 rfl,?_⟩
    simp only [nilK_some]
    obtain ⟨i,e,rfl,hie,hil⟩:∃(i:Nat) (e:Ent),v=(i:Int)/\T.es[i]?=some e/\e.live=true:=by
     rcases hI.ent x.1 v hv with q | q | ⟨i,e,q⟩
     ·exact absurd q hv1
     ·omega
     ·exact ⟨i,e,q⟩
    obtain ⟨g,cap,hev,hi,hent⟩:=ents_at h8.row hie
    refine ⟨_,_,_,h8.blk.add 0 (by rw [RTb.all,hev];rfl),idxK_of hi ⟨_,hent.get 1 rfl,_,hb8d.add 1 rfl,bsel_split (λ hh=>?_) λ hh=>?_⟩⟩
    ·have hh:e.hash=hash:=by simpa using hh
     refine stK_add hb8d (by simp) λ w9 hb9 hk9=>?_
     refine ⟨hk8d.trans hk9 λ k _ e=>.inl e,hc8d.keep hk9 hsm,.inr ?_⟩
     cases hsc with
     | stop q1=>rw [hv] at q1;simp at q1
     | skip q1 q2 q3 q4=>
      rw [hv] at q1;cases q1
      exact absurd ⟨e,by simpa using hie,hh⟩ (q3 hgt)
     | hit q1 q2 q3 q4=>
      rw [hv] at q1
      have:=Int.ofNat_inj.1 (Option.some.inj q1)
      subst this
      exact ⟨_,_,_,_,rfl,rfl,hnx,⟨_,hb9⟩,q4⟩
    ·have hh:e.hash≠hash:=by simpa using hh
     cases hsc with
     | stop q1=>rw [hv] at q1;simp at q1
     | skip q1 q2 q3 q4=>exact hskip rfl q4
     | hit q1 q2 q3 q4=>
      rw [hv] at q1
      have:=Int.ofNat_inj.1 (Option.some.inj q1)
      subst this
      obtain ⟨e',q5,q6⟩:=q3
      rw [show ((i:Int)).toNat=i by simp,hie] at q5
      cases q5
      exact absurd q6 hh
   ·have hle:¬told<v:=by simpa using hle
    cases hsc with
    | stop q1=>rw [hv] at q1;cases q1;exact absurd rfl hv1
    | skip q1 q2 q3 q4=>exact hskip rfl q4
    | hit q1 q2 q3 q4=>
     rw [hv] at q1;cases q1
     exact absurd q2 hle
 ·have hbd:=hb.drew
  refine ⟨_,hbd.add 5 rfl,bsel_neg rfl ?_⟩
  unfold V309J3
  refine bsel_neg rfl ?_
  rw [nilK_some]
  exact hend hbd (by simp) hk2d hc2d hl
end
end Go.Fw

namespace Go.Fw
open Go.Proofs Go.RowKit
structure RDc where
 most:Int
 ver:Int
 t:Nat
 T:RTb
def RDc.own (D:RDc) (d:Nat):Nat->Prop:=λ k=>k=d\/D.T.own D.t k
structure RDictAt (w:World) (R d mc:Nat) (D:RDc):Prop where
 blk:Blk w d 405 [.int .i64 D.most,.int .i64 D.ver,.pointer (some ⟨D.t,0,none⟩)]
 tab:RTabAt w R D.t mc D.T
 ge:R<=d
def rdictTy:List TypeId:=[405,420,295,3]
structure RMc where
 d:Nat
 hash:Int
 key:Int
 value:Int
 s:Option Nat
 kept:Int
 at_:Int
 waits:Bool
 same:Bool
 over:Bool
 turn:Trn
 scans:Int
def RMc.cells (M:RMc):List Value:=[.pointer (some ⟨M.d,0,none⟩),.int .i64 2,.int .i64 M.hash,.int .i64 M.key,.int .i64 M.value,.pointer (M.s.map λ s=>⟨s,0,none⟩),.int .i64 M.kept,.int .i64 M.at_,.bool M.waits,.bool M.same,.bool M.over,.int .i64 M.turn.kind,.int .i64 M.turn.key,.bool M.turn.found,.int .i64 M.turn.value,.int .i64 M.turn.entry,.int .i64 M.scans]
def RMachAt (w:World) (m:Nat) (M:RMc):Prop:=Blk w m 415 M.cells
def RPf (D:RDc) (d mc B0:Nat):Nat->Prop:=λ k=>D.own d k\/k=mc\/B0<=k
section
variable {w w':World} {R d mc m:Nat} {D:RDc} {M:RMc} {fp:Nat->Prop}
theorem RDictAt.keep (h:RDictAt w R d mc D) (hk:Keep fp w w') (hn:∀k,D.own d k->¬fp k):RDictAt w' R d mc D:=
 ⟨hk.blk h.blk (hn d (.inl rfl)),h.tab.keep hk λ k hk=>hn k (.inr hk),h.ge⟩
theorem RDictAt.no (h:RDictAt w R d mc D) (hk:Keep No w w'):RDictAt w' R d mc D:=h.keep hk λ _ _=>id
theorem RDictAt.ty (h:RDictAt w R d mc D) {k:Nat} (hk:D.own d k):R<=k/\k<w.heap.size/\∃e,etype w k=some e/\e ∈ rdictTy:=by
 rcases hk with rfl | hk
 ·exact ⟨h.ge,h.blk.lt,_,h.blk.etype,by decide⟩
 ·obtain ⟨h1,h2,e,h3,h4⟩:=h.tab.ty hk
  exact ⟨h1,h2,e,h3,List.mem_cons_of_mem _ h4⟩
theorem RDictAt.not_own (h:RDictAt w R d mc D) {b:Nat} {x:Option TypeId} (hb:etype w b=x) (hx:∀e,x=some e->e ∉ rdictTy):¬D.own d b:=λ hk=>by
 obtain ⟨_,_,e,he,hm⟩:=h.ty hk
 rw [hb] at he
 exact hx e he hm
theorem RDictAt.not_tab (h:RDictAt w R d mc D):¬D.T.own D.t d:=h.tab.not_own h.blk.etype (by rintro _ ⟨⟩;decide)
theorem RDictAt.mono {R':Nat} (h:RDictAt w R d mc D) (hR:R'<=R):RDictAt w R' d mc D:=⟨h.blk,h.tab.mono hR,by have:=h.ge;omega⟩
theorem RMachAt.keep (h:RMachAt w m M) (hk:Keep fp w w') (hn:¬fp m):RMachAt w' m M:=hk.blk h hn
theorem C350 (h:RDictAt w R d mc D):Calls Tryz.prog 350 #[.pointer (some ⟨d,0,none⟩)] w λ r w'=>r=.returned (.int .i64 D.T.live)/\w'=w:=by
 refine ret_mono (V350_sound _ w (λ r w'=>r=.int .i64 D.T.live/\w'=w) ?_) (by rintro _ _ ⟨rfl,h⟩;exact ⟨rfl,h⟩)
 unfold V350
 rw [nilK_some]
 refine ⟨_,h.blk.add 2 rfl,?_⟩
 rw [nilK_some]
 exact ⟨_,h.tab.blk.add 3 rfl,rfl,rfl⟩
theorem C246 {most:Int} (hm:0<=most/\most<=65536) (hc:CntAt w mc):Calls Tryz.prog 246 #[.int .i64 most,.pointer (some ⟨mc,0,none⟩)] w λ r w'=>∃d D,r=.returned (.tuple #[.pointer (some ⟨d,0,none⟩),.int .i64 0])/\RDictAt w' w.heap.size d mc D/\RTbOk D.T/\D.T.es=[]/\D.most=most/\D.T.births=0/\D.T.turns=0/\D.T.made=1/\CntAt w' mc/\Keep (λ k=>k=mc) w w':=by
 refine (V246_sound _ _ w (λ r w'=>∃d D,r=.tuple #[.pointer (some ⟨d,0,none⟩),.int .i64 0]/\RDictAt w' w.heap.size d mc D/\RTbOk D.T/\D.T.es=[]/\D.most=most/\D.T.births=0/\D.T.turns=0/\D.T.made=1/\CntAt w' mc/\Keep (λ k=>k=mc) w w') ?_).mono (by rintro _ _ ⟨_,rfl,d,D,rfl,h⟩;exact ⟨d,D,rfl,h⟩)
 unfold V246
 refine bsel_neg (by simp;omega) ?_
 unfold V246J1
 refine bsel_neg (by simp;omega) ((C304 hc).mono ?_)
 rintro _ w1 ⟨t,g,rfl,ht,hc1,hk1⟩
 refine ⟨_,rfl,newK_of λ d w2 hs hb hk=>⟨d,⟨most,0,t,_⟩,rfl,⟨hb,ht.no hk,by have:=hk1.size;omega⟩,⟨IdxOk.fresh (by simp),by simp,rfl,by simp⟩,rfl,rfl,rfl,rfl,rfl,hc1.no hk,hk1.no hk⟩⟩
theorem C254 (d:Nat) (hash key value:Int) (w:World):Calls Tryz.prog 254 #[.pointer (some ⟨d,0,none⟩),.int .i64 2,.int .i64 hash,.int .i64 key,.int .i64 value] w λ e w'=>∃m,e=.returned (.pointer (some ⟨m,0,none⟩))/\RMachAt w' m ⟨d,hash,key,value,none,0,0,false,false,false,⟨0,0,false,0,0⟩,0⟩/\m=w.heap.size/\Keep No w w':=by
 refine (V254_sound _ _ _ _ _ w (λ r w'=>∃m,r=.pointer (some ⟨m,0,none⟩)/\RMachAt w' m ⟨d,hash,key,value,none,0,0,false,false,false,⟨0,0,false,0,0⟩,0⟩/\m=w.heap.size/\Keep No w w') ?_).mono (by rintro _ _ ⟨_,rfl,m,rfl,h⟩;exact ⟨m,rfl,h⟩)
 unfold V254
 refine bsel_neg (by decide) ?_
 unfold V254J1
 exact bsel_neg (by decide) (newK_of λ m w1 hs hb hk=>⟨m,rfl,hb,hs,hk⟩)
theorem C348 (hm:RMachAt w m M) (t:Trn):Calls Tryz.prog 348 #[.pointer (some ⟨m,0,none⟩),t.val] w λ e w'=>e=.returned t.val/\Keep (λ k=>k=m) w w':=by
 refine ret_mono (V348_sound _ t.kind t.key t.found t.value t.entry w (λ r w'=>r=t.val/\Keep (λ k=>k=m) w w') ?_) (by rintro _ _ ⟨rfl,h⟩;exact ⟨rfl,h⟩)
 unfold V348
 refine newK_of λ a w1 hs1 ha hk1=>newK_of λ b w2 hs2 hb hk2=>?_
 have hm2:RMachAt w2 m M:=(hm.keep hk1 id).keep hk2 id
 have ha2:=hk2.nblk ha
 have ham:a≠m:=λ e=>by have:=ha2.etype;rw [e,hm2.etype] at this;cases this
 have hbm:b≠m:=λ e=>by have:=hb.etype;rw [e,hm2.etype] at this;cases this
 simp only [nilK_some,add_add]
 refine stK_add hm2 (by simp [RMc.cells]) λ w3 hm3 hk3=>?_
 have ha3:=hk3.blk ha2 ham
 refine ⟨_,_,_,_,_,ha3.cells0,stK_add hm3 (by simp [RMc.cells]) λ w4 hm4 hk4=>stK_add hm4 (by simp [RMc.cells]) λ w5 hm5 hk5=>stK_add hm5 (by simp [RMc.cells]) λ w6 hm6 hk6=>stK_add hm6 (by simp [RMc.cells]) λ w7 hm7 hk7=>stK_add hm7 (by simp [RMc.cells]) λ w8 hm8 hk8=>?_⟩
 have hk38:Keep (λ k=>k=m) w2 w8:=((((hk3.trans hk4 λ _ _ e=>e).trans hk5 λ _ _ e=>e).trans hk6 λ _ _ e=>e).trans hk7 λ _ _ e=>e).trans hk8 λ _ _ e=>e
 have ha8:=hk38.blk ha2 ham
 have hb8:=hk38.blk hb hbm
 refine ⟨_,_,_,_,_,ha8.cells0,set5 hb8 λ w9 hb9 hk9=>⟨_,_,_,_,_,hb9.cells0,rfl,?_⟩⟩
 exact ((Keep.of_no (hk1.no hk2)).trans hk38 λ _ _ e=>e).news hk9 (by rintro k rfl;have:=hk1.size;omega)
theorem outT {b:Nat} {e:TypeId} {z0 z1 z2 z3 z4:Value} {t:Trn} {Q:Value->World->Prop} (hb:Blk w b e [z0,z1,z2,z3,z4]) (h:∀w',Keep (λ k=>k=b) w w'->Q t.val w') :
  stK w ((⟨b,0,none⟩:Addr).add 0) (.int .i64 t.kind) λ w2=>stK w2 ((⟨b,0,none⟩:Addr).add 1) (.int .i64 t.key) λ w3=>stK w3 ((⟨b,0,none⟩:Addr).add 2) (.bool t.found) λ w4=>stK w4 ((⟨b,0,none⟩:Addr).add 3) (.int .i64 t.value) λ w5=>stK w5 ((⟨b,0,none⟩:Addr).add 4) (.int .i64 t.entry) λ w6=>
   ∃t0:Int,∃t1:Int,∃t2:Bool,∃t3:Int,∃t4:Int,CellsAt w6 ⟨b,0,none⟩ [.int .i64 t0,.int .i64 t1,.bool t2,.int .i64 t3,.int .i64 t4]/\Q (.agg #[.int .i64 t0,.int .i64 t1,.bool t2,.int .i64 t3,.int .i64 t4]) w6:=
 set5 hb λ w' hb' hk=>⟨_,_,_,_,_,hb'.cells0,h w' hk⟩
def RDc.put (D:RDc) (i:Nat) (e:Ent) (v:Int):RDc:={ D with T:=D.T.put i e v,ver:=IntKind.wrap .i64 (D.ver+1) }
theorem C308 (h:RDictAt w R M.d mc D) (hm:RMachAt w m M) {i:Nat} {e:Ent} (he:D.T.es[i]?=some e) (hl:e.live=true) (hat:M.at_=i) :
  Calls Tryz.prog 308 #[.pointer (some ⟨m,0,none⟩)] w λ r w'=>r=.returned (foundT i e).val/\RDictAt w' R M.d mc (D.put i e M.value)/\Keep (λ k=>D.own M.d k\/k=m) w w':=by
 refine ret_mono (V308_sound _ w (λ r w'=>r=(foundT i e).val/\RDictAt w' R M.d mc (D.put i e M.value)/\Keep (λ k=>D.own M.d k\/k=m) w w') ?_) (by rintro _ _ ⟨rfl,h⟩;exact ⟨rfl,h⟩)
 unfold V308
 refine newK_of λ a w1 hs1 ha hk1=>?_
 have hkd:=hk1.no (Keep.drawn w1)
 have h1:=h.no hkd
 have hm1:RMachAt w1.drew m M:=hm.keep hkd id
 have had:=ha.drew
 simp only [nilK_some]
 refine ⟨_,hm1.add 0 rfl,?_⟩
 simp only [nilK_some]
 refine ⟨_,h1.blk.add 2 rfl,?_⟩
 simp only [nilK_some]
 obtain ⟨g,cap,hev,hi,hent⟩:=ents_at h1.tab.row he
 have hfe:∀{w2:World},RTabAt w2 R D.t mc D.T->w2.cell? ((⟨D.t,0,none⟩:Addr).add 0)=some (.slice (some ⟨g,0,none⟩) D.T.es.length cap):=λ q=>q.blk.add 0 (by rw [RTb.all,hev];rfl)
 refine ⟨_,_,_,hfe h1.tab,M.at_,hm1.add 7 rfl,?_⟩
 rw [hat]
 refine idxK_of hi ⟨_,_,_,_,_,hent,newK_of λ b w2 hs2 hb hk2=>?_⟩
 have h2:=h1.no hk2
 have hm2:RMachAt w2 m M:=hm1.keep hk2 id
 have ha2:=hk2.nblk had
 obtain ⟨g2,cap2,hev2,hi2,hent2⟩:=ents_at h2.tab.row he
 rw [hev] at hev2
 cases hev2
 have hma:m≠a:=λ e=>by have:=ha2.etype;rw [<-e,hm2.etype] at this;cases this
 have hmb:m≠b:=λ e=>by have:=hb.etype;rw [<-e,hm2.etype] at this;cases this
 have hab:a≠b:=λ e=>by have:=ha2.etype;rw [e,hb.etype] at this;cases this
 refine ⟨hent2,by rw [hm2.add 7 rfl,hat],hfe h2.tab,h2.blk.add 2 rfl,hm2.add 0 rfl,set5 hb λ w3 hb3 hk3=>?_⟩
 have hk02:Keep No w w2:=hkd.no hk2
 have hs3:w.heap.size<=b:=by have:=hkd.size;omega
 have hsa:w.heap.size<=a:=by omega
 have hk03:Keep No w w3:=hk02.news hk3 (by rintro k rfl;exact hs3)
 have h3:=h.no hk03
 have hm3:RMachAt w3 m M:=hm.keep hk03 id
 have ha3:=hk3.blk ha2 hab
 unfold V308J4
 simp only [nilK_some]
 refine ⟨_,hm3.add 1 rfl,bsel_pos rfl ?_⟩
 have hk3d:=hk03.no (Keep.drawn w3)
 have h3d:=h.no hk3d
 have hm3d:RMachAt w3.drew m M:=hm.keep hk3d id
 refine ⟨_,hm3d.add 0 rfl,?_⟩
 simp only [nilK_some]
 refine ⟨_,h3d.blk.add 2 rfl,M.at_,hm3d.add 7 rfl,_,hm3d.add 4 rfl,?_⟩
 rw [hat]
 refine (C346 h3d.tab he hl M.value).mono ?_
 rintro _ w4 ⟨rfl,ht4,hk4⟩
 have hdt:D.T.ev.ownBlock≠some M.d:=λ e=>h3d.not_tab (.inr (.inl e))
 have hmo:∀{w2:World},RDictAt w2 R M.d mc D->RMachAt w2 m M->¬D.own M.d m:=λ q1 q2=>q1.not_own q2.etype (by rintro _ ⟨⟩;decide)
 have hbo:∀{w2:World} {x:Nat} {cs:List Value} {e:TypeId},RDictAt w2 R M.d mc D->Blk w2 x e cs->e ∉ rdictTy->¬D.own M.d x:=λ q1 q2 q3=>q1.not_own q2.etype (by rintro _ ⟨⟩;exact q3)
 have hmn:=hmo h3d hm3d
 have hm4:RMachAt w4 m M:=hm3d.keep hk4 λ e=>hmn (.inr (.inr (.inl e)))
 have hd4:=hk4.blk h3d.blk λ e=>hdt e
 have ha4:=hk4.blk ha3.drew λ e=>hbo h3d ha3.drew (by decide) (.inr (.inr (.inl e)))
 have hlb:D.T.ev.ownBlock≠some b:=λ e=>by have:=(h.tab.row.lt b e).2;omega
 have hb4:=hk4.blk hb3.drew λ e=>hlb e
 refine ⟨_,rfl,_,hm4.add 0 rfl,?_⟩
 simp only [nilK_some]
 refine ⟨_,hd4.add 1 rfl,stK_add hd4 (by simp) λ w5 hd5 hk5=>?_⟩
 have hmd:m≠M.d:=λ e=>hmn (.inl e)
 have hm5:RMachAt w5 m M:=hm4.keep hk5 hmd
 have had':a≠M.d:=λ e=>by have:=ha4.etype;rw [e,hd4.etype] at this;cases this
 have hbd':b≠M.d:=λ e=>by have:=hb4.etype;rw [e,hd4.etype] at this;cases this
 have ha5:=hk5.blk ha4 had'
 have hb5:=hk5.blk hb4 hbd'
 have h5:RDictAt w5 R M.d mc (D.put i e M.value):=⟨hd5,ht4.keep hk5 λ k hk hx=>by
  subst hx
  rcases hk with q | q | q
  ·exact h3d.not_tab (.inl q)
  ·exact h3d.not_tab (.inr (.inl q))
  ·exact h3d.not_tab (.inr (.inr q)),h.ge⟩
 unfold V308J3
 simp only [nilK_some]
 refine ⟨_,hm5.add 1 rfl,bsel_neg rfl ?_⟩
 unfold V308J2
 simp only [nilK_some]
 have hm5d:RMachAt w5.drew m M:=hm5.keep (Keep.drawn w5) id
 refine ⟨_,hb5.drew.add 3 rfl,M.at_,hm5d.add 7 rfl,?_⟩
 rw [hat]
 refine (C348 hm5d (foundT i e)).mono ?_
 rintro _ w6 ⟨rfl,hk6⟩
 have h6:RDictAt w6 R M.d mc (D.put i e M.value):=(h5.no (Keep.drawn w5)).keep hk6 λ k hk hx=>by
  subst hx
  rcases hk with q | q | q | q
  ·exact hmn (.inl q)
  ·exact hmn (.inr (.inl q))
  ·exact hmn (.inr (.inr (.inl q)))
  ·exact hmn (.inr (.inr (.inr q)))
 have ha6:=hk6.blk ha5.drew (λ e=>hma e.symm)
 refine ⟨_,_,_,_,_,rfl,?_⟩
 unfold V308J1
 refine outT (t:=foundT i e) (Q:=λ r w'=>r=(foundT i e).val/\RDictAt w' R M.d mc (D.put i e M.value)/\Keep (λ k=>D.own M.d k\/k=m) w w') ha6 λ w7 hk7=>⟨rfl,?_,?_⟩
 ·refine h6.keep hk7 λ k hk hx=>?_
  subst hx
  have hna:=hbo h3d ha3.drew (by decide)
  rcases hk with q | q | q | q
  ·exact hna (.inl q)
  ·exact hna (.inr (.inl q))
  ·exact hna (.inr (.inr (.inl q)))
  ·exact hna (.inr (.inr (.inr q)))
 ·have e1:Keep (λ k=>D.own M.d k\/k=m) w w6:=(((Keep.of_no hk3d).trans hk4 λ k _ e=>.inl (.inr (.inr (.inl e)))).trans hk5 λ k _ e=>.inl (.inl e)).no (Keep.drawn w5) |>.trans hk6 λ k _ e=>.inr e
  exact e1.news hk7 (by rintro k rfl;exact hsa)
def RAddOut (D:RDc) (hash key value:Int) (D':RDc):Prop:=
 (D.most<=D.T.es.length/\D'=D)\/
 ((D.T.es.length:Int)<D.most/\RTbOk D'.T/\D'.T.es=D.T.es ++ [⟨true,hash,key,value,D.T.births⟩]/\D'.most=D.most/\D'.T.births=D.T.births+1/\D'.T.turns=D.T.turns+1/\D'.T.made<=D.T.made+1)
theorem RDc.own_mono {D D':RDc} {B0 k:Nat} (h:D'.own d k) (ht:D'.t=D.t) (h1:∀k,D'.T.own D.t k->D.T.own D.t k\/B0<=k):D.own d k\/B0<=k:=by
 rcases h with rfl | h
 ·exact .inl (.inl rfl)
 ·rw [ht] at h
  rcases h1 k h with q | q
  ·exact .inl (.inr q)
  ·exact .inr q
theorem C310 (h:RDictAt w R M.d mc D) (hm:RMachAt w m M) (hc:CntAt w mc) (ho:RTbOk D.T) (hR:R<=w.heap.size) (hl:3*D.T.es.length<=1048576) (hn:D.T.births<1000000000000/\D.T.turns<1000000000000/\D.T.made<1000000000000) :
  Calls Tryz.prog 310 #[.pointer (some ⟨m,0,none⟩)] w λ r w'=>∃(t:Trn) (D':RDc),r=.returned t.val/\t.kind≠1/\RAddOut D M.hash M.key M.value D'/\RDictAt w' R M.d mc D'/\CntAt w' mc/\(∀k,D'.own M.d k->D.own M.d k\/w.heap.size<=k)/\Keep (λ k=>D.own M.d k\/k=mc\/k=m) w w':=by
 refine (V310_sound _ w (λ r w'=>∃(t:Trn) (D':RDc),r=t.val/\t.kind≠1/\RAddOut D M.hash M.key M.value D'/\RDictAt w' R M.d mc D'/\CntAt w' mc/\(∀k,D'.own M.d k->D.own M.d k\/w.heap.size<=k)/\Keep (λ k=>D.own M.d k\/k=mc\/k=m) w w') ?_).mono (by rintro _ _ ⟨_,rfl,t,D',rfl,h⟩;exact ⟨t,D',rfl,h⟩)
 unfold V310
 refine newK_of λ a w1 hs1 ha hk1=>?_
 have hm1:RMachAt w1 m M:=hm.keep hk1 id
 simp only [nilK_some]
 refine ⟨_,hm1.add 1 rfl,bsel_neg rfl ⟨_,hm1.add 1 rfl,?_⟩⟩
 unfold V310J1
 have hkd:=hk1.no (Keep.drawn w1)
 have h1:=h.no hkd
 have hm1d:RMachAt w1.drew m M:=hm.keep hkd id
 simp only [nilK_some]
 refine bsel_neg rfl ⟨_,hm1d.add 0 rfl,_,hm1d.add 0 rfl,?_⟩
 simp only [nilK_some]
 refine ⟨_,h1.blk.add 0 rfl,(C350 h1).mono ?_⟩
 rintro _ w2 ⟨rfl,rfl⟩
 have had:=ha.drew
 have hsa:w.heap.size<=a:=by omega
 have hma:a≠m:=λ e=>by have:=had.etype;rw [e,hm1d.etype] at this;cases this
 have hao:∀{w2:World} {D1:RDc} {x:Nat} {cs:List Value} {e:TypeId},RDictAt w2 R M.d mc D1->Blk w2 x e cs->e ∉ rdictTy->¬D1.own M.d x:=λ q1 q2 q3=>q1.not_own q2.etype (by rintro _ ⟨⟩;exact q3)
 have hcd:=hc.no hkd
 have hcm:mc≠m:=λ e=>by have:=hcd.etype;rw [e,hm1d.etype] at this;cases this
 have hca:mc≠a:=λ e=>by have:=hcd.etype;rw [e,had.etype] at this;cases this
 refine ⟨_,rfl,h1.blk.add 0 rfl,hm1d.add 0 rfl,?_⟩
 rw [ho.cnt]
 refine bsel_split (λ hge=>?_) λ hlt=>?_
 ·have hge:D.most<=D.T.es.length:=by simpa using hge
  refine (C348 hm1d ⟨3,0,false,0,0⟩).mono ?_
  rintro _ w3 ⟨rfl,hk3⟩
  have ha3:=hk3.blk had hma
  refine ⟨_,_,_,_,_,rfl,outT (t:=⟨3,0,false,0,0⟩) (Q:=λ r w'=>∃(t:Trn) (D':RDc),r=t.val/\t.kind≠1/\RAddOut D M.hash M.key M.value D'/\RDictAt w' R M.d mc D'/\CntAt w' mc/\(∀k,D'.own M.d k->D.own M.d k\/w.heap.size<=k)/\Keep (λ k=>D.own M.d k\/k=mc\/k=m) w w') ha3 λ w4 hk4=>⟨_,D,rfl,by decide,.inl ⟨hge,rfl⟩,?_,(hcd.keep hk3 hcm).keep hk4 hca,λ k hk=>.inl hk,?_⟩⟩
  ·refine (h1.keep hk3 λ k hk hx=>?_).keep hk4 λ k hk hx=>?_
   ·subst hx;exact hao h1 hm1d (by decide) hk
   ·subst hx;exact hao h1 had (by decide) hk
  ·exact ((Keep.of_no hkd).trans hk3 λ k _ e=>.inr (.inr e)).news hk4 (by rintro k rfl;exact hsa)
 ·have hlt:(D.T.es.length:Int)<D.most:=by simpa using hlt
  have hkdd:=hkd.no (Keep.drawn w1.drew)
  have h2:=h.no hkdd
  have hm2:RMachAt w1.drew.drew m M:=hm.keep hkdd id
  refine ⟨_,hm2.add 0 rfl,?_⟩
  simp only [nilK_some]
  refine ⟨_,h2.blk.add 2 rfl,_,hm2.add 2 rfl,_,hm2.add 3 rfl,_,hm2.add 4 rfl,(C351 h2.tab ho (hc.no hkdd) (by have:=hkdd.size;omega) hl hn).mono ?_⟩
  rintro _ w3 ⟨rfl,T',hT',hoT,hc3,q1,q2,q3,q4,q5,hk3⟩
  have hmo:=hao h2 hm2 (by decide)
  have hmc:m≠mc:=λ e=>hcm e.symm
  have hm3:RMachAt w3 m M:=hm2.keep hk3 λ e=>by
   rcases e with e | e
   ·exact hmo (.inr e)
   ·exact hmc e
  have hd3:=hk3.blk h2.blk λ e=>by
   rcases e with e | e
   ·exact h2.not_tab e
   ·have:=h2.blk.etype;rw [e,(hc.no hkdd).etype] at this;cases this
  have ha3:=hk3.blk had.drew λ e=>by
   rcases e with e | e
   ·exact hao h2 had.drew (by decide) (.inr e)
   ·exact hca e.symm
  refine ⟨_,_,rfl,_,hm3.add 0 rfl,?_⟩
  simp only [nilK_some]
  refine ⟨_,hd3.add 1 rfl,stK_add hd3 (by simp) λ w4 hd4 hk4=>?_⟩
  have hsd:=hkdd.size
  have hdl:M.d<w1.drew.drew.heap.size:=h2.blk.lt
  have hTd:¬T'.own D.t M.d:=λ q=>by
   rcases q5 _ q with q | q
   ·exact h2.not_tab q
   ·omega
  have h4:RDictAt w4 R M.d mc ⟨D.most,IntKind.wrap .i64 (D.ver+1),D.t,T'⟩:=⟨hd4,hT'.keep hk4 λ k hk hx=>hTd (by rw [<-hx];exact hk),h.ge⟩
  have hm4:RMachAt w4 m M:=hm3.keep hk4 λ e=>hmo (.inl e)
  have had3:a≠M.d:=λ e=>by have:=ha3.etype;rw [e,hd3.etype] at this;cases this
  have ha4:=hk4.blk ha3 had3
  have hc4:=hc3.keep hk4 λ e=>by have:=hc3.etype;rw [e,hd3.etype] at this;cases this
  refine ⟨_,hm4.add 4 rfl,(C348 hm4 ⟨2,0,false,M.value,D.T.es.length⟩).mono ?_⟩
  rintro _ w5 ⟨rfl,hk5⟩
  have ha5:=hk5.blk ha4 hma
  refine ⟨_,_,_,_,_,rfl,outT (t:=⟨2,0,false,M.value,D.T.es.length⟩) (Q:=λ r w'=>∃(t:Trn) (D':RDc),r=t.val/\t.kind≠1/\RAddOut D M.hash M.key M.value D'/\RDictAt w' R M.d mc D'/\CntAt w' mc/\(∀k,D'.own M.d k->D.own M.d k\/w.heap.size<=k)/\Keep (λ k=>D.own M.d k\/k=mc\/k=m) w w') ha5 λ w6 hk6=>⟨⟨2,0,false,M.value,D.T.es.length⟩,⟨D.most,IntKind.wrap .i64 (D.ver+1),D.t,T'⟩,rfl,(show (2:Int)≠1 by decide),.inr ⟨hlt,hoT,q1,rfl,q2,q3,q4⟩,?_,(hc4.keep hk5 hcm).keep hk6 hca,λ k hk=>RDc.own_mono hk rfl λ k hk=>?_,?_⟩⟩
  ·refine (h4.keep hk5 λ k hk hx=>?_).keep hk6 λ k hk hx=>?_
   ·subst hx;exact hao h4 hm4 (by decide) hk
   ·subst hx;exact hao h4 ha4 (by decide) hk
  ·rcases q5 k hk with q | q
   ·exact .inl q
   ·exact .inr (by omega)
  ·have e1:Keep (λ k=>D.own M.d k\/k=mc\/k=m) w w5:=(((Keep.of_no hkdd).trans hk3 λ k _ e=>by
    rcases e with e | e
    ·exact .inl (.inr e)
    ·exact .inr (.inl e)).trans hk4 λ k _ e=>.inl (.inl e)).trans hk5 λ k _ e=>.inr (.inr e)
   exact e1.news hk6 (by rintro k rfl;exact hsa)
end
end Go.Fw

namespace Go.Fw
open Go.Proofs Go.RowKit
section
variable {w w':World} {R mc m:Nat} {D:RDc} {M:RMc} {fp:Nat->Prop}
theorem rsk_ne {sk t:Nat} {hash:Int} {x:Nat × Nat} {tu tol:Int} {o:Bool} {b:Nat} {e:TypeId} {cs:List Value} (h:RSeekAt w sk t hash x tu tol o) (hb:Blk w b e cs) (he:e≠447):sk≠b:=λ q=>by
 have:=h.etype
 rw [q,hb.etype] at this
 cases this
 exact he rfl
theorem cnt_ne {b:Nat} {e:TypeId} {cs:List Value} (h:CntAt w mc) (hb:Blk w b e cs) (he:e≠217):mc≠b:=λ q=>by
 have:=h.etype
 rw [q,hb.etype] at this
 cases this
 exact he rfl
theorem RDictAt.nb (h:RDictAt w R M.d mc D) {b:Nat} {e:TypeId} {cs:List Value} (hb:Blk w b e cs) (he:e ∉ rdictTy):¬D.own M.d b:=h.not_own hb.etype (by rintro _ ⟨⟩;exact he)
theorem rJ1 {a sk B0:Nat} {x:Nat × Nat} {told:Int} {mm:Nat} {l:List Nat} {Q:Value->World->Prop} (h:RDictAt w R M.d mc D) (hm:RMachAt w m M) (hc:CntAt w mc) (ho:RTbOk D.T) (hR:R<=w.heap.size) (hl3:3*D.T.es.length<=1048576) (hn:D.T.births<1000000000000/\D.T.turns<1000000000000/\D.T.made<1000000000000)
  (ha:Blk w a 272 [.int .i64 0,.int .i64 0,.bool false,.int .i64 0,.int .i64 0]) (hsame:M.same=false) (hs:M.s=some sk) (hsk:RSeekAt w sk D.t M.hash x D.T.turns told false) (hx:x.1<2 ^ D.T.log/\x.2<18446744073709551616) (ht:-1<=told) (hsc:Scan D.T.es D.T.log D.T.cells M.hash mm x told l) (hle:∀i ∈ l,∃e,D.T.es[i]?=some e) (hB:B0<=m/\B0<=sk/\B0<=a/\B0<=w.heap.size)
  (hmiss:l=[]->∀(t:Trn) (D':RDc) w',t.kind≠1->RAddOut D M.hash M.key M.value D'->RDictAt w' R M.d mc D'->CntAt w' mc->(∀k,D'.own M.d k->D.own M.d k\/B0<=k)->Keep (RPf D M.d mc B0) w w'->Q t.val w')
  (hhit:∀(i:Nat) (l':List Nat) (e:Ent) w',l=i :: l'->D.T.es[i]?=some e->e.key=M.key->RDictAt w' R M.d mc (D.put i e M.value)->CntAt w' mc->Keep (RPf D M.d mc B0) w w'->Q (foundT i e).val w')
  (hask:∀(i:Nat) (l':List Nat) (e:Ent) (x':Nat × Nat) (m':Nat) w',l=i :: l'->D.T.es[i]?=some e->e.key≠M.key->RDictAt w' R M.d mc D->CntAt w' mc->RMachAt w' m { M with at_:=i,waits:=true,turn:=askT e.key }->RSeekAt w' sk D.t M.hash x' D.T.turns i false->(x'.1<2 ^ D.T.log/\x'.2<18446744073709551616)->Scan D.T.es D.T.log D.T.cells M.hash m' x' i l'->Keep (RPf D M.d mc B0) w w'->Q (askT e.key).val w') :
  V255J1 Q (some ⟨m,0,none⟩) ⟨a,0,none⟩ w:=by
 unfold V255J1
 simp only [nilK_some]
 have hcs:∀{w2:World},RMachAt w2 m M->w2.cell? ((⟨m,0,none⟩:Addr).add 9)=some (.bool false):=λ q=>by rw [<-hsame];exact q.add 9 rfl
 have hcp:∀{w2:World},RMachAt w2 m M->w2.cell? ((⟨m,0,none⟩:Addr).add 5)=some (.pointer (some ⟨sk,0,none⟩)):=λ q=>by
  have:=q.add 5 rfl
  rw [hs] at this
  exact this
 refine ⟨_,hcs hm,bsel_neg rfl ⟨_,hcp hm,(C309 h.tab ho.idx hc hx hsk ht hsc).mono ?_⟩⟩
 have hmsk:sk≠m:=rsk_ne hsk hm (by decide)
 have hmmc:mc≠m:=cnt_ne hc hm (by decide)
 have hska:sk≠a:=rsk_ne hsk ha (by decide)
 have hmca:mc≠a:=cnt_ne hc ha (by decide)
 have hma:a≠m:=ha.ne hm (by decide)
 have hno:∀{w2:World},RDictAt w2 R M.d mc D->RSeekAt w2 sk D.t M.hash x D.T.turns told false->¬D.own M.d sk:=λ q1 q2=>q1.not_own q2.etype (by rintro _ ⟨⟩;decide)
 have hnc:¬D.own M.d mc:=h.not_own hc.etype (by rintro _ ⟨⟩;decide)
 have hns:=hno h hsk
 have hnm:=h.nb hm (by decide)
 have hna:=h.nb ha (by decide)
 rintro _ w1 ⟨hk1,hc1,hcase⟩
 have h1:=h.keep hk1 λ k hk e=>by
  rcases e with e | e
  ·exact hns (e ▸ hk)
  ·exact hnc (e ▸ hk)
 have hm1:RMachAt w1 m M:=hm.keep hk1 λ e=>by
  rcases e with e | e
  ·exact hmsk e.symm
  ·exact hmmc e.symm
 have ha1:=hk1.blk ha λ e=>by
  rcases e with e | e
  ·exact hska e.symm
  ·exact hmca e.symm
 have hk1':Keep (RPf D M.d mc B0) w w1:=hk1.mono λ k _ e=>by
  rcases e with rfl | e
  ·exact .inr (.inr hB.2.1)
  ·exact .inr (.inl e)
 have hs1:=hk1.size
 rcases hcase with ⟨hl,rfl⟩ | ⟨i,l',x',m',hl,rfl,hx',hsk',hsc'⟩
 ·refine ⟨_,_,rfl,bsel_pos rfl ((C310 h1 hm1 hc1 ho (by omega) hl3 hn).mono ?_)⟩
  rintro _ w2 ⟨t,D',rfl,hk,hadd,h2,hc2,hown,hk2⟩
  have hmc2:∀k,D'.own M.d k->k≠a:=λ k hk e=>by
   subst e
   rcases hown _ hk with q | q
   ·exact hna q
   ·have:=ha1.lt;omega
  have ha2:=hk2.blk ha1 λ e=>by
   rcases e with e | e | e
   ·exact hna e
   ·exact hmca e.symm
   ·exact hma e
  refine ⟨_,_,_,_,_,rfl,outT (t:=t) (Q:=Q) ha2 λ w3 hk3=>hmiss hl t D' w3 hk hadd (h2.keep hk3 λ k hk e=>hmc2 k hk e) (hc2.keep hk3 hmca) (λ k hk=>?_) ?_⟩
  ·rcases hown k hk with q | q
   ·exact .inl q
   ·exact .inr (by omega)
  ·refine (hk1'.trans hk2 λ k _ e=>?_).trans hk3 λ k _ e=>.inr (.inr (by subst e;exact hB.2.2.1))
   rcases e with e | e | e
   ·exact .inl e
   ·exact .inr (.inl e)
   ·exact .inr (.inr (by subst e;exact hB.1))
 ·obtain ⟨e,he⟩:=hle i (by rw [hl];simp)
  have hel:=ho.live e (List.mem_of_getElem? he)
  refine ⟨_,_,rfl,bsel_neg rfl (stK_add hm1 (by simp [RMc.cells]) λ w2 hm2 hk2=>?_)⟩
  have hm2:RMachAt w2 m { M with at_:=i }:=hm2
  have hk2d:=hk2.no (Keep.drawn w2)
  have h2:=h1.keep hk2d λ k hk e=>hnm (e ▸ hk)
  have hm2d:RMachAt w2.drew m { M with at_:=i }:=hm2.keep (Keep.drawn w2) id
  have hc2:=hc1.keep hk2d hmmc
  have ha2:=hk2d.blk ha1 hma
  have hsk2:=hsk'.keep hk2d hmsk
  have hk2':Keep (RPf D M.d mc B0) w w2.drew:=hk1'.trans hk2d λ k _ e=>.inr (.inr (by subst e;exact hB.1))
  refine ⟨_,hm2d.add 0 rfl,?_⟩
  simp only [nilK_some]
  refine ⟨_,h2.blk.add 2 rfl,?_⟩
  simp only [nilK_some]
  obtain ⟨g,cap,hev,hi,hent⟩:=ents_at h2.tab.row he
  have hfe:∀{w2:World},RTabAt w2 R D.t mc D.T->w2.cell? ((⟨D.t,0,none⟩:Addr).add 0)=some (.slice (some ⟨g,0,none⟩) D.T.es.length cap):=λ q=>q.blk.add 0 (by rw [RTb.all,hev];rfl)
  refine ⟨_,_,_,hfe h2.tab,idxK_of hi ⟨_,hent.get 2 rfl,_,hm2d.add 3 rfl,bsel_split (λ hkey=>?_) λ hkey=>?_⟩⟩
  ·have hkey:e.key=M.key:=by simpa using hkey
   refine (C308 (M:={ M with at_:=i }) h2 hm2d he hel rfl).mono ?_
   rintro _ w3 ⟨rfl,h3,hk3⟩
   have ha3:=hk3.blk ha2 λ q=>by
    rcases q with q | q
    ·exact hna q
    ·exact hma q
   have hc3:=hc2.keep hk3 λ q=>by
    rcases q with q | q
    ·exact hnc q
    ·exact hmmc q
   have hpo:∀k,(D.put i e M.value).own M.d k->D.own M.d k:=λ k hk=>hk
   refine ⟨_,_,_,_,_,rfl,outT (t:=foundT i e) (Q:=Q) ha3 λ w4 hk4=>hhit i l' e w4 hl he hkey (h3.keep hk4 λ k hk q=>hna (q ▸ hpo k hk)) (hc3.keep hk4 hmca) ?_⟩
   refine (hk2'.trans hk3 λ k _ q=>?_).trans hk4 λ k _ q=>.inr (.inr (by subst q;exact hB.2.2.1))
   rcases q with q | q
   ·exact .inl q
   ·exact .inr (.inr (by subst q;exact hB.1))
  ·have hkey:e.key≠M.key:=by simpa using hkey
   refine stK_add hm2d (by simp [RMc.cells]) λ w3 hm3 hk3=>?_
   have hm3:RMachAt w3 m { M with at_:=i,waits:=true }:=hm3
   have h3:=h2.keep hk3 λ k hk e=>hnm (e ▸ hk)
   refine ⟨_,hm3.add 0 rfl,?_⟩
   simp only [nilK_some]
   refine ⟨_,h3.blk.add 2 rfl,?_⟩
   simp only [nilK_some,add_add]
   obtain ⟨g2,cap2,hev2,hi2,hent2⟩:=ents_at h3.tab.row he
   rw [hev] at hev2
   cases hev2
   refine ⟨_,_,_,hfe h3.tab,idxK_of hi ⟨_,hent2.get 2 rfl,stK_add hm3 (by simp [RMc.cells]) λ w4 hm4 hk4=>stK_add hm4 (by simp [RMc.cells]) λ w5 hm5 hk5=>stK_add hm5 (by simp [RMc.cells]) λ w6 hm6 hk6=>stK_add hm6 (by simp [RMc.cells]) λ w7 hm7 hk7=>stK_add hm7 (by simp [RMc.cells]) λ w8 hm8 hk8=>?_⟩⟩
   have hm8:RMachAt w8 m { M with at_:=i,waits:=true,turn:=askT e.key }:=hm8
   have hk38:Keep (λ k=>k=m) w2.drew w8:=((((hk3.trans hk4 λ _ _ e=>e).trans hk5 λ _ _ e=>e).trans hk6 λ _ _ e=>e).trans hk7 λ _ _ e=>e).trans hk8 λ _ _ e=>e
   refine ⟨_,_,_,_,_,hm8.cellsAdd 11 rfl,?_⟩
   have ha8:=hk38.blk ha2 hma
   refine outT (t:=askT e.key) (Q:=Q) ha8 λ w9 hk9=>hask i l' e x' m' w9 hl he hkey ?_ ?_ (hm8.keep hk9 λ q=>hma q.symm) ?_ hx' hsc' ?_
   ·exact (h2.keep hk38 λ k hk e=>hnm (e ▸ hk)).keep hk9 λ k hk q=>hna (q ▸ hk)
   ·exact (hc2.keep hk38 hmmc).keep hk9 hmca
   ·exact (hsk2.keep hk38 hmsk).keep hk9 hska
   ·exact (hk2'.trans hk38 λ k _ q=>.inr (.inr (by subst q;exact hB.1))).trans hk9 λ k _ q=>.inr (.inr (by subst q;exact hB.2.2.1))
structure RStepK (R mc m B0:Nat) (D:RDc) (M:RMc) (l:List Nat) (w:World) (Q:Value->World->Prop):Prop where
 miss:l=[]->∀(t:Trn) (D':RDc) w',t.kind≠1->RAddOut D M.hash M.key M.value D'->RDictAt w' R M.d mc D'->CntAt w' mc->(∀k,D'.own M.d k->D.own M.d k\/B0<=k)->Keep (RPf D M.d mc B0) w w'->Q t.val w'
 hit:∀(i:Nat) (l':List Nat) (e:Ent) w',l=i :: l'->D.T.es[i]?=some e->e.key=M.key->RDictAt w' R M.d mc (D.put i e M.value)->CntAt w' mc->Keep (RPf D M.d mc B0) w w'->Q (foundT i e).val w'
 ask:∀(i:Nat) (l':List Nat) (e:Ent) (x':Nat × Nat) (m' sk:Nat) (M':RMc) w',l=i :: l'->D.T.es[i]?=some e->e.key≠M.key->RDictAt w' R M.d mc D->CntAt w' mc->RMachAt w' m M'->M'={ M with s:=some sk,at_:=i,waits:=true,same:=false,turn:=askT e.key,kept:=D.ver,scans:=M'.scans }->RSeekAt w' sk D.t M.hash x' D.T.turns i false->B0<=sk->(x'.1<2 ^ D.T.log/\x'.2<18446744073709551616)->Scan D.T.es D.T.log D.T.cells M.hash m' x' i l'->Keep (RPf D M.d mc B0) w w'->Q (askT e.key).val w'
theorem RPf.of {k B0:Nat} (h:B0<=k):RPf D M.d mc B0 k:=.inr (.inr h)
theorem C255_start {B0:Nat} {Q:Value->World->Prop} (h:RDictAt w R M.d mc D) (hm:RMachAt w m M) (hM:M.s=none/\M.waits=false/\M.over=false/\M.same=false) (hc:CntAt w mc) (ho:RTbOk D.T) (hR:R<=w.heap.size) (hl3:3*D.T.es.length<=1048576) (hn:D.T.births<1000000000000/\D.T.turns<1000000000000/\D.T.made<1000000000000) (hB:B0<=m/\B0<=w.heap.size)
  (K:RStepK R mc m B0 D M (hits D.T.es M.hash) w Q):Calls Tryz.prog 255 #[.pointer (some ⟨m,0,none⟩)] w λ e w'=>∃v,e=.returned v/\Q v w':=by
 refine V255_sound _ w Q ?_
 unfold V255
 refine newK_of λ a w1 hs1 ha hk1=>?_
 have hm1:RMachAt w1 m M:=hm.keep hk1 id
 simp only [nilK_some]
 have hfl:∀{i:Nat} {b:Bool} {w2:World},RMachAt w2 m M->M.cells[i]?=some (.bool b)->w2.cell? ((⟨m,0,none⟩:Addr).add i)=some (.bool b):=λ q1 q2=>q1.add _ q2
 refine ⟨false,hm1.add 10 (by simp [RMc.cells,hM.2.2.1]),bsel_neg rfl ⟨false,hm1.add 8 (by simp [RMc.cells,hM.2.1]),?_⟩⟩
 unfold V255J4
 have hm1d:RMachAt w1.drew m M:=hm1.keep (Keep.drawn w1) id
 refine bsel_neg rfl ?_
 simp only [nilK_some]
 refine ⟨none,hm1d.add 5 (by simp [RMc.cells,hM.1]),bsel_pos rfl ?_⟩
 unfold V255J3
 have hkd:=(hk1.no (Keep.drawn w1)).no (Keep.drawn w1.drew)
 have h2:=h.no hkd
 have hm2:RMachAt w1.drew.drew m M:=hm.keep hkd id
 refine bsel_pos rfl ?_
 simp only [nilK_some]
 refine ⟨_,hm2.add 0 rfl,?_⟩
 simp only [nilK_some]
 refine ⟨_,h2.blk.add 2 rfl,_,hm2.add 2 rfl,(C307 h2.tab M.hash).mono ?_⟩
 rintro _ w3 ⟨sk,rfl,hsk,hskl,hk3⟩
 have hk03:=hkd.no hk3
 have hm3:RMachAt w3 m M:=hm2.keep hk3 id
 have h3:=h2.no hk3
 have hsd:=hkd.size
 refine ⟨_,rfl,stK_add hm3 (by simp [RMc.cells]) λ w4 hm4 hk4=>?_⟩
 have hm4:RMachAt w4 m { M with s:=some sk }:=hm4
 have hnm:=h3.nb hm3 (by decide)
 have h4:=h3.keep hk4 λ k hk e=>hnm (e ▸ hk)
 unfold V255J2
 simp only [nilK_some]
 refine ⟨_,hm4.add 0 rfl,?_⟩
 simp only [nilK_some]
 refine ⟨_,h4.blk.add 1 rfl,stK_add hm4 (by simp [RMc.cells]) λ w5 hm5 hk5=>?_⟩
 have hm5:RMachAt w5 m { M with s:=some sk,kept:=D.ver }:=hm5
 refine ⟨_,hm5.add 16 rfl,stK_add hm5 (by simp [RMc.cells]) λ w6 hm6 hk6=>?_⟩
 have hm6:RMachAt w6 m { M with s:=some sk,kept:=D.ver,scans:=IntKind.wrap .i64 (M.scans+1) }:=hm6
 refine stK_add hm6 (by simp [RMc.cells]) λ w7 hm7 hk7=>?_
 have hm7:RMachAt w7 m { M with s:=some sk,kept:=D.ver,scans:=IntKind.wrap .i64 (M.scans+1),same:=false }:=hm7
 have hk37:Keep (λ k=>k=m) w3 w7:=((hk4.trans hk5 λ _ _ e=>e).trans hk6 λ _ _ e=>e).trans hk7 λ _ _ e=>e
 have hk07:Keep (RPf D M.d mc B0) w w7:=(Keep.of_no hk03).trans hk37 λ k _ e=>RPf.of (by subst e;exact hB.1)
 have h7:=h3.keep hk37 λ k hk e=>hnm (e ▸ hk)
 have hmsk:sk≠m:=rsk_ne hsk hm3 (by decide)
 have hma:a≠m:=ha.ne hm1 (by decide)
 have hs7:=hk07.size
 have hc7:=(hc.no hk03).keep hk37 (cnt_ne (hc.no hk03) hm3 (by decide))
 have ha7:=hk37.blk (hk3.nblk ha.drew.drew) hma
 obtain ⟨nn,_,hsc⟩:=ho.idx.scan_hits h.tab.len M.hash
 refine rJ1 (M:={ M with s:=some sk,kept:=D.ver,scans:=IntKind.wrap .i64 (M.scans+1),same:=false }) (B0:=B0) (l:=hits D.T.es M.hash) h7 hm7 hc7 ho (by omega) hl3 hn ha7 rfl rfl (hsk.keep hk37 hmsk) ⟨trFrom_fst M.hash 0,trFrom_snd M.hash 0⟩ (by omega) hsc (λ i hi=>hits_get hi) ⟨hB.1,by omega,by omega,by omega⟩ ?_ ?_ ?_
 ·intro hl t D' w' q1 q2 q3 q4 q5 q6
  exact K.miss hl t D' w' q1 q2 q3 q4 q5 (hk07.trans q6 λ _ _ e=>e)
 ·intro i l' e w' q1 q2 q3 q4 q5 q6
  exact K.hit i l' e w' q1 q2 q3 q4 q5 (hk07.trans q6 λ _ _ e=>e)
 ·intro i l' e x' m' w' q1 q2 q3 q4 q5 q6 q7 q8 q9 q10
  exact K.ask i l' e x' m' sk _ w' q1 q2 q3 q4 q5 q6 rfl q7 (by omega) q8 q9 (hk07.trans q10 λ _ _ e=>e)
theorem C255_go {B0 sk:Nat} {x:Nat × Nat} {told:Int} {mm:Nat} {l:List Nat} {Q:Value->World->Prop} (h:RDictAt w R M.d mc D) (hm:RMachAt w m M) (hM:M.s=some sk/\M.waits=false/\M.over=false/\M.same=false/\M.kept=D.ver) (hsk:RSeekAt w sk D.t M.hash x D.T.turns told false) (hx:x.1<2 ^ D.T.log/\x.2<18446744073709551616) (ht:-1<=told) (hsc:Scan D.T.es D.T.log D.T.cells M.hash mm x told l) (hle:∀i ∈ l,∃e,D.T.es[i]?=some e)
  (hc:CntAt w mc) (ho:RTbOk D.T) (hR:R<=w.heap.size) (hl3:3*D.T.es.length<=1048576) (hn:D.T.births<1000000000000/\D.T.turns<1000000000000/\D.T.made<1000000000000) (hB:B0<=m/\B0<=w.heap.size/\B0<=sk)
  (K:RStepK R mc m B0 D M l w Q):Calls Tryz.prog 255 #[.pointer (some ⟨m,0,none⟩)] w λ e w'=>∃v,e=.returned v/\Q v w':=by
 refine V255_sound _ w Q ?_
 unfold V255
 refine newK_of λ a w1 hs1 ha hk1=>?_
 have hm1:RMachAt w1 m M:=hm.keep hk1 id
 simp only [nilK_some]
 refine ⟨false,hm1.add 10 (by simp [RMc.cells,hM.2.2.1]),bsel_neg rfl ⟨false,hm1.add 8 (by simp [RMc.cells,hM.2.1]),?_⟩⟩
 unfold V255J4
 have hk2:=hk1.no (Keep.drawn w1)
 have hm1d:RMachAt w1.drew m M:=hm.keep hk2 id
 have h1:=h.no hk2
 refine bsel_neg rfl ?_
 simp only [nilK_some]
 refine ⟨some ⟨sk,0,none⟩,hm1d.add 5 (by simp [RMc.cells,hM.1]),bsel_neg rfl ⟨_,hm1d.add 0 rfl,?_⟩⟩
 simp only [nilK_some]
 refine ⟨_,h1.blk.add 1 rfl,_,hm1d.add 6 rfl,?_⟩
 unfold V255J3
 refine bsel_neg (by rw [hM.2.2.2.2];simp) ?_
 have hsd:=hk2.size
 refine rJ1 (B0:=B0) h1 hm1d (hc.no hk2) ho (by omega) hl3 hn ha.drew hM.2.2.2.1 hM.1 (hsk.keep hk2 id) hx ht hsc hle ⟨hB.1,hB.2.2,by omega,by omega⟩ ?_ ?_ ?_
 ·intro hl t D' w' q1 q2 q3 q4 q5 q6
  exact K.miss hl t D' w' q1 q2 q3 q4 q5 ((Keep.of_no hk2).trans q6 λ _ _ e=>e)
 ·intro i l' e w' q1 q2 q3 q4 q5 q6
  exact K.hit i l' e w' q1 q2 q3 q4 q5 ((Keep.of_no hk2).trans q6 λ _ _ e=>e)
 ·intro i l' e x' m' w' q1 q2 q3 q4 q5 q6 q7 q8 q9 q10
  refine K.ask i l' e x' m' sk _ w' q1 q2 q3 q4 q5 q6 ?_ q7 hB.2.2 q8 q9 ((Keep.of_no hk2).trans q10 λ _ _ e=>e)
  rw [<-hM.1,<-hM.2.2.2.2,<-hM.2.2.2.1]
theorem C255_same {B0 sk i:Nat} {e:Ent} {Q:Value->World->Prop} (h:RDictAt w R M.d mc D) (hm:RMachAt w m M) (hM:M.s=some sk/\M.waits=false/\M.over=false/\M.same=true/\M.kept=D.ver/\M.at_=i) (he:D.T.es[i]?=some e) (hl:e.live=true) (hc:CntAt w mc) (hB:B0<=m/\B0<=w.heap.size)
  (K:∀w',RDictAt w' R M.d mc (D.put i e M.value)->CntAt w' mc->Keep (RPf D M.d mc B0) w w'->Q (foundT i e).val w'):Calls Tryz.prog 255 #[.pointer (some ⟨m,0,none⟩)] w λ e w'=>∃v,e=.returned v/\Q v w':=by
 refine V255_sound _ w Q ?_
 unfold V255
 refine newK_of λ a w1 hs1 ha hk1=>?_
 have hm1:RMachAt w1 m M:=hm.keep hk1 id
 simp only [nilK_some]
 refine ⟨false,hm1.add 10 (by simp [RMc.cells,hM.2.2.1]),bsel_neg rfl ⟨false,hm1.add 8 (by simp [RMc.cells,hM.2.1]),?_⟩⟩
 unfold V255J4
 have hk2:=hk1.no (Keep.drawn w1)
 have hm1d:RMachAt w1.drew m M:=hm.keep hk2 id
 have h1:=h.no hk2
 refine bsel_neg rfl ?_
 simp only [nilK_some]
 refine ⟨some ⟨sk,0,none⟩,hm1d.add 5 (by simp [RMc.cells,hM.1]),bsel_neg rfl ⟨_,hm1d.add 0 rfl,?_⟩⟩
 simp only [nilK_some]
 refine ⟨_,h1.blk.add 1 rfl,_,hm1d.add 6 rfl,?_⟩
 unfold V255J3
 refine bsel_neg (by rw [hM.2.2.2.2.1];simp) ?_
 unfold V255J1
 simp only [nilK_some]
 refine ⟨true,hm1d.add 9 (by simp [RMc.cells,hM.2.2.2.1]),bsel_pos rfl ((C308 h1 hm1d he hl hM.2.2.2.2.2).mono ?_)⟩
 rintro _ w3 ⟨rfl,h3,hk3⟩
 have hna:=h1.nb ha.drew (by decide)
 have hma:a≠m:=ha.ne hm1 (by decide)
 have hc1:=hc.no hk2
 have hnc:¬D.own M.d mc:=h1.not_own hc1.etype (by rintro _ ⟨⟩;decide)
 have hmca:mc≠a:=cnt_ne hc1 ha.drew (by decide)
 have hmmc:mc≠m:=cnt_ne hc1 hm1d (by decide)
 have ha3:=hk3.blk ha.drew λ q=>by
  rcases q with q | q
  ·exact hna q
  ·exact hma q
 have hc3:=hc1.keep hk3 λ q=>by
  rcases q with q | q
  ·exact hnc q
  ·exact hmmc q
 have hsd:=hk2.size
 refine ⟨_,_,_,_,_,rfl,outT (t:=foundT i e) (Q:=Q) ha3 λ w4 hk4=>K w4 (h3.keep hk4 λ k hk q=>hna (q ▸ hk)) (hc3.keep hk4 hmca) ?_⟩
 refine ((Keep.of_no hk2).trans hk3 λ k _ q=>?_).trans hk4 λ k _ q=>RPf.of (by subst q;omega)
 rcases q with q | q
 ·exact .inl q
 ·exact RPf.of (by subst q;exact hB.1)
theorem C256 (hm:RMachAt w m M) (hM:M.waits=true/\M.over=false) (b:Bool):Calls Tryz.prog 256 #[.pointer (some ⟨m,0,none⟩),.bool b] w λ e w'=>e=.returned (.int .i64 0)/\RMachAt w' m { M with waits:=false,same:=b }/\Keep (λ k=>k=m) w w':=by
 refine ret_mono (V256_sound _ b w (λ r w'=>r=.int .i64 0/\RMachAt w' m { M with waits:=false,same:=b }/\Keep (λ k=>k=m) w w') ?_) (by rintro _ _ ⟨rfl,h⟩;exact ⟨rfl,h⟩)
 unfold V256
 simp only [nilK_some]
 refine ⟨false,hm.add 10 (by simp [RMc.cells,hM.2]),bsel_neg rfl ⟨true,hm.add 8 (by simp [RMc.cells,hM.1]),?_⟩⟩
 unfold V256J1
 refine bsel_neg rfl ?_
 simp only [nilK_some]
 exact stK_add hm (by simp [RMc.cells]) λ w2 hm2 hk2=>stK_add hm2 (by simp [RMc.cells]) λ w3 hm3 hk3=>⟨by trivial,hm3,hk2.trans hk3 λ _ _ e=>e⟩
end
end Go.Fw
