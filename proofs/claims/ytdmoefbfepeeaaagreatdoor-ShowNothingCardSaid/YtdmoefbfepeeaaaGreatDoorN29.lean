/- Part of a proof over the given program: texts of lemmas (conditions: none beyond each lemma as stated). -/
import Derived.Test.YtdmoefbfepeeaaaGreatDoorN28
set_option linter.unnecessarySimpa false
set_option linter.unusedVariables false
set_option linter.unusedSimpArgs false

namespace Go.Fw
open Go.Proofs Go.RowKit
section
variable {w w':World} {r B:Nat} {P:GP} {A:Nat->Prop} {ts:List Tm} {mss kss:Nat->List Int} {m:Nat} {L:List GV} {last:Int} {t:Tm}
theorem GSt.stField (h:GSt w r B P L last) {i k:Nat} {u u':GV} {val:Value} (hi:L[i]?=some u) (hk:k<22) (he:u'.cells=u.cells.set k val):∃g cap,w.cell? ((⟨r,0,none⟩:Addr).add 0)=some (.slice (some ⟨g,0,none⟩) L.length cap)/\i<L.length/\Fw.etype w g=some 226/\B<=g/\
  ∀K:World->Prop,(∀w',GSt w' r B P (L.set i u') last->Keep (λ k=>k=g) w w'->K w')->stK w (((⟨g,0,none⟩:Addr).add (i*22)).add k) val K:=by
 obtain ⟨⟨lv,h1,h2⟩,h3,h4,h5⟩:=h
 have hx:(L.flatMap GV.cells)[i*22+k]?=u.cells[k]?:=flat_get GV.cells_len hk _ _ _ hi
 have hx2:u.cells[k]?=some (u.cells[k]'(by rw [GV.cells_len];exact hk)):=List.getElem?_eq_getElem _
 obtain ⟨g,cap,hv,hl,_⟩:=row_cells GV.cells_len (by decide) h2 hi
 subst hv
 refine ⟨g,cap,h1.add 0 rfl,hl,ownsRow_etype h2 rfl,(h2.lt g rfl).1,λ K hK=>?_⟩
 rw [add_mk,add_mk,Nat.zero_add]
 refine stRow h2 (hx.trans hx2) λ w2 hr2 hk2=>hK w2 ?_ hk2
 have hgr:g≠r:=λ e=>by have:=ownsRow_etype h2 (g:=g) rfl;rw [e,h1.etype] at this;cases this
 have hgm:P.mc≠g:=λ e=>by have:=h5.etype;rw [e,ownsRow_etype h2 (g:=g) rfl] at this;cases this
 refine ⟨⟨_,hk2.blk h1 λ e=>hgr e.symm,?_⟩,by simpa using h3,h4,h5.keep hk2 hgm⟩
 rw [flat_set GV.cells_len hk L i u u' hi he] at hr2
 rw [List.length_set]
 exact hr2
end
section
variable {w w':World} {r B:Nat} {P:GP} {A:Nat->Prop} {ts:List Tm} {mss kss:Nat->List Int} {m:Nat} {L:List GV} {last:Int} {t:Tm}
theorem GFc.ge (h:GM w r B P A ts mss kss m L last) {k:Nat} (hf:GFc r B P.mc w k):B<=k:=by
 rcases hf with (rfl | ⟨hf,_⟩) | rfl
 ·exact h.st.ge
 ·exact hf
 ·exact h.mcge
theorem gfc_no (hk:Keep No w w') {mc:Nat} {w'':World} (h:Keep (GFc r B mc w') w' w''):Keep (GFc r B mc w) w w'':=
 (Keep.of_no hk).trans h λ k hk' hf=>by
  rcases hf with (e | ⟨q,e⟩) | e
  ·exact .inl (.inl e)
  ·refine .inl (.inr ⟨q,?_⟩)
   rw [<-hk.ett hk' id];exact e
  ·exact .inr e
theorem C257_later (h:GM w r B P A ts mss kss m L last) (hk:Keep (GFc r B P.mc w) w w') {L':List GV} {last':Int} (hS:GSt w' r B P L' last') (hL:∀(n:Nat) (y:GV),L[n]?=some y->L'[n]?=some y) {x y:Nat} {u s:Tm} (hu:ts[x]?=some u) (hx:x<m) (hs:ts[y]?=some s) (hy:y<m):Calls Tryz.prog 257 #[.pointer (some ⟨r,0,none⟩),.int .i64 (gref ts y),.int .i64 (gref ts x)] w' λ e w''=>e=.returned (.bool (alikeR ts mss x (gref ts y)))/\Keep No w' w'':=by
 have hq:=gfc_quiet h.st
 obtain ⟨v1,q1,q2⟩:=h.val x u hu hx
 obtain ⟨v2,q3,q4⟩:=h.val y s hs hy
 refine (C257 hS (hL _ _ q3) (hL _ _ q1) q4.gone q2.gone (q4.keep hk hq).vd (q2.keep hk hq).vd).mono ?_
 rintro _ w' ⟨b,rfl,hb,hk⟩
 rw [alikeR_of hs hb]
 exact ⟨rfl,hk⟩
theorem GM.lens (h:GM w r B P A ts mss kss m L last) (hlen:ts.length<1000000):L.length<5000000/\0<=last/\last<1000000000000:=by
 have h1:=cV_le ts m
 have h2:=cO_le ts m
 have:=h.len
 have:=h.last
 refine ⟨by omega,by omega,by omega⟩
theorem kid_of (t:Tm) (ks:List Int) {n:Nat} {k:Int} (h:(keysL t ks)[n]?=some k):ks[if t.kind=7 then 2*n else n]?=some k/\k ∈ ks:=by
 have h1:ks[if t.kind=7 then 2*n else n]?=some k:=by
  unfold keysL at h
  split at h
  ·rw [if_neg (by omega)];exact h
  ·split at h
   ·rename_i h7
    rw [if_pos h7]
    unfold evens at h
    simp only [List.getElem?_map,Option.map_eq_some_iff] at h
    obtain ⟨j,hj,rfl⟩:=h
    have hn:n<(ks.length+1) / 2/\j=n:=by
     obtain ⟨a,b⟩:=List.getElem?_eq_some_iff.1 hj
     simp at a b
     exact ⟨a,b.symm⟩
    obtain ⟨hn,rfl⟩:=hn
    have hm3:2*j<ks.length:=by omega
    rw [List.getD_eq_getElem?_getD,List.getElem?_eq_getElem hm3]
    rfl
   ·simp at h
 exact ⟨h1,List.mem_of_getElem? h1⟩
theorem rview (h:GM w r B P A ts mss kss m L last) (ht:ts[m]?=some t) (hks:KidsAt w t (kss m)) (hk15:15<=t.kind) (hlen:ts.length<1000000) (hB:B<=w.heap.size) {k:Nat} (hk0:(kss m)[0]?=some (k:Int)) (hkm:k<m)
  {N:Nat} {oa:Option Addr} {oc:Nat} (ho:w.ownsRow N 3 1 (.slice oa m oc) m (ints ((List.range m).map λ x=>(gref ts x:Int)))) {c:Nat} (hc:Blk w c 42 t.cells) {Q:Value->World->Prop} {ta:Option Addr} {tl tc:Nat}
  (hQ:∀L' last' w',GM w' r B P A ts mss kss (m+1) L' last'->Keep (GFc r B P.mc w) w w'->Q (.int .i64 (gref ts m)) w'):V117J3 Q (some ⟨r,0,none⟩) ta tl tc oa m oc ⟨c,0,none⟩ false w:=by
 have hd:=Keep.drawn w
 obtain ⟨q,hq,hqc⟩:=(hks.no hd).2 0 _ hk0
 obtain ⟨g,rc,hv,hcg⟩:=row_get (hd.nrow ho) hkm
 have hkl:0<t.kl:=by have:=(List.getElem?_eq_some_iff.1 hk0).1;have:=hks.1;omega
 obtain ⟨hl,hla⟩:=h.lens hlen
 have hno:nO t=1:=by unfold nO;rw [if_neg (by omega),if_neg (by omega)]
 have hnv:nV t=1:=by unfold nV;rw [if_neg (by omega),if_neg (by omega)]
 have hlL:=h.len
 have hlast:=h.last
 have e1:gref ts m=L.length:=by rw [gref_of ht];unfold refT;rw [if_neg (by omega),if_neg (by omega),if_neg (by omega)];omega
 have hco:=cO_succ ht
 cases hv
 unfold V117J3
 refine bsel_neg rfl ⟨_,hc.drew.add 0 rfl,_,_,_,hc.drew.add 5 rfl,?_⟩
 rw [hq]
 refine idxK_of (i:=0) hkl ⟨_,by rw [Nat.zero_mul];exact hqc,idxK_of hkm ⟨_,by rw [add_mk,Nat.mul_one,Nat.zero_add];exact hcg,?_⟩⟩
 refine (C185g (h.st.no hd) { gz with kind:=t.kind,of_:=gref ts k } hl (by have:=hd.size;omega) hla).mono ?_
 rintro _ w2 ⟨rfl,h2,hk2⟩
 have hk02:Keep (GFc r B P.mc w) w w2:=gfc_no hd (hk2.mono λ k _ hf=>.inl hf)
 refine ⟨_,rfl,?_⟩
 rw [<-e1]
 refine hQ _ _ _ (h.more hk02 ht h2 ⟨?_,rfl,rfl,λ hc=>by omega,λ hc=>by omega,λ hc=>by omega,λ _=>⟨k,hk0,rfl⟩,λ hc=>by omega⟩ hnv (by omega) e1 (by omega)) hk02
 rw [gdesc_of ht]
 unfold descT
 rw [if_neg (by omega),if_neg (by omega),if_neg (by omega),if_neg (by omega)]
 refine ⟨rfl,by omega,by omega,?_⟩
 show last+1=_
 unfold numT
 rw [if_neg (by omega),hlast]
theorem rtable (h:GM w r B P A ts mss kss m L last) {ta:Option Addr} {tc:Nat} (hL:LowAt w B ta ts mss) (ht:ts[m]?=some t) (hks:KidsAt w t (kss m)) (hkb:∀p,t.ka=some p->0<t.kl->p.block<B) (hF:FineT ts m t (kss m)) (h789:t.kind=7\/t.kind=8\/t.kind=9) (hlen:ts.length<1000000) (hms:∀x u,ts[x]?=some u->(mss x).length<1000000000/\∀m ∈ mss x,0<=m/\m<4294967296)
  (hp:0<=P.pairs/\P.pairs<=65536) (hB:B<=w.heap.size) (hA:∀k,A k->k<w.heap.size) {N:Nat} {oa:Option Addr} {oc:Nat} (ho:w.ownsRow N 3 1 (.slice oa m oc) m (ints ((List.range m).map λ x=>(gref ts x:Int)))) {c:Nat} (hc:Blk w c 42 t.cells) {Q:Value->World->Prop}
  (hQ:∀L' last' w',GM w' r B P A ts mss kss (m+1) L' last'->Keep (GFc r B P.mc w) w w'->Q (.int .i64 (gref ts m)) w'):V117J3 Q (some ⟨r,0,none⟩) ta ts.length tc oa m oc ⟨c,0,none⟩ true w:=by
 have hq:=gfc_quiet h.st
 obtain ⟨hl,hla⟩:=h.lens hlen
 have hno:nO t=1:=by unfold nO;rw [if_neg (by omega),if_neg (by omega)]
 have hnv:nV t=1:=by unfold nV;rw [if_neg (by omega),if_neg (by omega)]
 have hlL:=h.len
 have hlast:=h.last
 have e1:gref ts m=L.length:=by rw [gref_of ht];unfold refT;rw [if_neg (by omega),if_neg (by omega),if_neg (by omega)];omega
 have hco:=cO_succ ht
 have hil:m<ts.length:=(List.getElem?_eq_some_iff.1 ht).1
 have hklen:=hks.1
 have hkl:=hF.kl
 have hgeB:∀k,GFc r B P.mc w k->B<=k:=λ k hf=>GFc.ge h hf
 have hcq:∀{w':World},Keep (GFc r B P.mc w) w w'->Blk w' c 42 t.cells:=λ hk=>hk.blk hc λ hf=>absurd (hq _ hc.lt hf _ hc.etype) (by decide)
 have hkL:(keysL t (kss m)).length*(if t.kind=7 then 2 else 1)=(kss m).length:=by
  unfold keysL
  split
  ·rw [if_neg (by omega)];omega
  ·have h7:t.kind=7:=by omega
   have:=hF.even h7
   rw [if_pos h7,if_pos h7,evens_len];omega
 obtain ⟨st,hst⟩:∃st:Nat,st=if t.kind=7 then 2 else 1:=⟨_,rfl⟩
 have hst2:st=1\/st=2:=by rw [hst];split <;> omega
 rw [<-hst] at hkL
 have hkLl:(keysL t (kss m)).length<=t.kl:=by rcases hst2 with e | e <;> rw [e] at hkL <;> omega
 unfold V117J3
 refine bsel_pos rfl ⟨_,hc.add 0 rfl,(C188 h.st t.kind hp hl hB hla).mono ?_⟩
 rintro _ w1 ⟨rfl,d,D0,hS1,hD0,hok0,hes0,hmost0,hbi0,htu0,hma0,hk1⟩
 refine ⟨_,rfl,_,(hcq hk1).add 0 rfl,?_⟩
 obtain ⟨v,hv⟩:∃v:GV,v={ gz with kind:=t.kind,number:=last+1,d:=some ⟨d,0,none⟩ }:=⟨_,rfl⟩
 rw [<-hv] at hS1
 have hvd:v.d=some ⟨d,0,none⟩:=by rw [hv]
 have hgrow:∀(n:Nat) (y:GV),L[n]?=some y->(L ++ [v])[n]?=some y:=λ n y hn=>by rw [List.getElem?_append_left (List.getElem?_eq_some_iff.1 hn).1];exact hn
 have hgetv:(L ++ [v])[L.length]?=some v:=by simp
 have hend:∀(D:RDc) (w':World),GSt w' r B P (L ++ [v]) (last+1)->RDictAt w' w.heap.size d P.mc D->RDcOk D->D.most=P.pairs->D.T.es=tabEs ts mss P.pairs t (kss m) (keysL t (kss m)).length->Keep (GFc r B P.mc w) w w'->Q (.int .i64 L.length) w':=by
  intro D w' h2 hD hok hmost hes hk02
  rw [<-e1]
  refine hQ _ _ _ (h.more hk02 ht h2 ⟨?_,by rw [hv];rfl,by rw [hv],λ _=>⟨d,D,hvd,hD.mono hB,hok,hmost,hes,λ k hk ha=>by have:=(hD.ty hk).1;have:=hA k ha;omega⟩,λ hc=>by omega,λ hc=>by omega,λ hc=>by omega,λ hc=>by omega⟩ hnv (by omega) e1 (by omega)) hk02
  rw [gdesc_of ht]
  unfold descT
  rw [if_neg (by omega),if_neg (by omega),if_neg (by omega),if_neg (by omega),hv]
  refine ⟨rfl,by omega,by omega,?_⟩
  show last+1=_
  unfold numT
  rw [if_neg (by omega),hlast]
 have hI:∀sti:Int,sti=st->V117J2 Q (some ⟨r,0,none⟩) ta ts.length tc oa m oc ⟨c,0,none⟩ L.length sti w1:=by
  rintro _ rfl
  unfold V117J2
  refine ⟨λ i w'=>∃n:Nat,i=(st*n:Nat)/\n<=(keysL t (kss m)).length/\∃D,RDictAt w' w.heap.size d P.mc D/\RDcOk D/\D.most=P.pairs/\D.T.es=tabEs ts mss P.pairs t (kss m) n/\D.T.turns<=n/\D.T.made<=n+1/\(∀e ∈ D.T.es,∃y,y<m/\e.key=gref ts y)/\GSt w' r B P (L ++ [v]) (last+1)/\Keep (GFc r B P.mc w) w w',
   λ i _=>(t.kl-i).toNat,⟨0,by simp,by omega,D0,hD0,⟨hok0,by rw [hbi0,hes0];rfl,by rw [hes0,hmost0];simp;omega⟩,hmost0,by rw [hes0];rfl,by omega,by omega,by rw [hes0];simp,hS1,hk1⟩,?_⟩
  rintro j i w2 ⟨n,rfl,hn,D,hD,hok,hmost,hes,htu,hma,hkeys,hS,hk2⟩
  have hc2:=hcq hk2
  refine ⟨_,_,_,hc2.add 5 rfl,bsel_split (λ hlt=>?_) λ hge=>?_⟩
  ·have hltk:st*n<t.kl:=by simp at hlt;omega
   have hnl:n<(keysL t (kss m)).length:=by
    apply Classical.byContradiction
    intro hc
    have:n=(keysL t (kss m)).length:=by omega
    rw [this,Nat.mul_comm] at hltk
    omega
   obtain ⟨k,hkn⟩:∃k,(keysL t (kss m))[n]?=some k:=⟨_,List.getElem?_eq_getElem hnl⟩
   obtain ⟨hkk,hkmem⟩:=kid_of t (kss m) hkn
   have hki:(kss m)[st*n]?=some k:=by
    rw [<-hkk,hst]
    congr 1
    split <;> omega
   have hlim:limit ts.length m t=m:=by unfold limit;rw [if_neg (by omega)]
   have hkid:∀(j:Nat) (k:Int),(kss m)[j]?=some k->0<=k/\k<m:=λ j k hj=>by have:=hF.kids j k hj;rw [hlim] at this;exact this
   obtain ⟨x,rfl⟩:=Int.eq_ofNat_of_zero_le (hkid _ _ hki).1
   have hx:x<m:=by have:=(hkid _ _ hki).2;omega
   obtain ⟨u,hu⟩:∃u,ts[x]?=some u:=⟨_,List.getElem?_eq_getElem (by omega)⟩
   have huk:isKeyK u:=hF.keys n x hkn u (by simpa using hu)
   have hks2:KidsAt w2 t (kss m):=hks.keep0 hk2 λ p hp h0 hx=>by have:=hkb p hp h0;have:=hgeB _ hx;omega
   have hL2:LowAt w2 B ta ts mss:=hL.keep hk2 hgeB
   have ho2:=hk2.row ho λ g hg hf=>absurd (hq g (ho.lt g hg).2 hf _ (ownsRow_etype ho hg)) (by decide)
   have hgetD:(keysL t (kss m)).getD n 0=(x:Int):=by rw [List.getD_eq_getElem?_getD,hkn];rfl
   have hstep:∀val:Int,val=(if t.kind=7 then gref ts ((kss m).getD (2*n+1) 0).toNat else 0:Nat)->
     V117J1 (λ i w'=>∃n:Nat,i=(st*n:Nat)/\n<=(keysL t (kss m)).length/\∃D,RDictAt w' w.heap.size d P.mc D/\RDcOk D/\D.most=P.pairs/\D.T.es=tabEs ts mss P.pairs t (kss m) n/\D.T.turns<=n/\D.T.made<=n+1/\(∀e ∈ D.T.es,∃y,y<m/\e.key=gref ts y)/\GSt w' r B P (L ++ [v]) (last+1)/\Keep (GFc r B P.mc w) w w')
      (λ i _=>(t.kl-i).toNat) (st*n:Nat) w2 (some ⟨r,0,none⟩) ta ts.length tc oa m oc ⟨c,0,none⟩ L.length st (st*n:Nat) val w2:=by
    intro val hval
    unfold V117J1
    have hd:=Keep.drawn w2
    have hks3:=hks2.no hd
    have hL3:=hL2.no hd
    have ho3:=hd.nrow ho2
    have hS3:=hS.no hd
    have hk3:=hk2.no hd
    have hc3:=hc2.drew
    obtain ⟨q,hqe,hqc⟩:=hks3.2 _ _ hki
    obtain ⟨g,rc,hvg,hcg⟩:=row_get ho3 hx
    cases hvg
    obtain ⟨v1,q1,q2⟩:=h.val x u hu hx
    have hvd1:=(q2.keep hk3 hq).vd
    obtain ⟨⟨⟨i1,i2,i3,i4⟩,i5⟩,i6⟩:=hL3.inp x u hu
    obtain ⟨hm1,hm2⟩:=hms x u hu
    obtain ⟨p,rfl,hcu⟩:=hL3.tm x u hu
    refine ⟨_,_,_,hc3.add 5 rfl,?_⟩
    rw [hqe]
    refine idxK_of hltk ⟨x,by rw [Nat.mul_one];exact hqc,idxK_of (by omega) ⟨_,_,_,_,_,_,_,_,_,_,_,_,hcu,_,_,_,hc3.add 5 rfl,?_⟩⟩
    rw [hqe]
    refine idxK_of hltk ⟨x,by rw [Nat.mul_one];exact hqc,idxK_of hx ⟨_,by rw [add_mk,Nat.mul_one,Nat.zero_add];exact hcg,?_⟩⟩
    refine (C189 hS3 hu (hgrow _ _ q1) hvd1 huk i1 i2 i3 hm1 hm2 i5).mono ?_
    rintro _ w4 ⟨bb,rfl,hk4⟩
    have hc4:=hk4.nblk hc3
    obtain ⟨q',hqe',hqc'⟩:=(hks3.no hk4).2 _ _ hki
    refine ⟨_,_,rfl,_,_,_,hc4.add 5 rfl,?_⟩
    rw [hqe']
    obtain ⟨g',rc',hvg',hcg'⟩:=row_get (hk4.nrow ho3) hx
    cases hvg'
    refine idxK_of hltk ⟨x,by rw [Nat.mul_one];exact hqc',idxK_of hx ⟨_,by rw [add_mk,Nat.mul_one,Nat.zero_add];exact hcg',?_⟩⟩
    have hk04:=hk3.no hk4
    have hS4:=hS3.no hk4
    have hD4:=(hD.no hd).no hk4
    have hs4:=hk04.size
    have hRP:∀{w5:World},Keep (RPf D d P.mc w4.heap.size) w4 w5->Keep (GFc r B P.mc w) w w5:=λ hk5=>hk04.trans hk5 λ k hk hf=>by
     rcases hf with hf | hf | hf
     ·have:=(hD4.ty hf).1;omega
     ·exact .inr hf
     ·omega
    have hSP:∀{w5:World},Keep (RPf D d P.mc w4.heap.size) w4 w5->CntAt w5 P.mc->GSt w5 r B P (L ++ [v]) (last+1):=λ hk5 hc5=>hS4.keep2 hk5 hc5 λ k hk hf e he=>by
     rcases hf with hf | hf | hf
     ·obtain ⟨_,_,e',he',hm⟩:=hD4.ty hf
      rw [he] at he'
      cases he'
      have:∀e ∈ rdictTy,e≠220/\e≠226:=by decide
      exact this e hm
     ·subst hf
      rw [hS4.cnt.etype] at he
      cases he
      decide
     ·omega
    refine (C190 (alike:=alikeR ts mss x) (hash:=hashT ts mss x) (key:=gref ts x) (value:=val) hS4 hgetv hvd hD4 hok (by omega) ⟨by omega,by omega⟩ hs4 λ w5 k' hk5 hc5 hk'=>?_).mono ?_
    ·obtain ⟨e,he,rfl⟩:=hk'
     obtain ⟨y,hy,hye⟩:=hkeys e he
     obtain ⟨s,hs⟩:∃s,ts[y]?=some s:=⟨_,List.getElem?_eq_getElem (by omega)⟩
     rw [hye]
     exact C257_later h (hRP hk5) (hSP hk5 hc5) hgrow hu hx hs hy
    ·rintro _ w5 ⟨rfl,D',hD',hok',hes',hmost',htu',hma',hc5,hown',hk5⟩
     have en:IntKind.wrap .i64 (((st*n:Nat):Int)+(st:Int))=((st*(n+1):Nat):Int):=by
      rw [Nat.mul_add]
      rw [wrap_i64 (by omega)]
      omega
     refine ⟨_,rfl,?_⟩
     rw [en]
     refine ⟨⟨n+1,rfl,by omega,D',hD',hok',by rw [hmost',hmost],?_,by omega,by omega,?_,hSP hk5 hc5,hRP hk5⟩,?_⟩
     ·rw [hes',tabEs_succ,hes,hmost]
      unfold tabStep
      rw [hgetD,hval]
      simp only [Int.toNat_natCast]
      congr 1
      split <;> rfl
     ·rw [hes']
      exact putEs_keys (P:=λ k=>∃y,y<m/\k=(gref ts y:Int)) hkeys ⟨x,hx,rfl⟩
     ·simp only
      rw [Nat.mul_add]
      omega
   refine bsel_split (λ h2=>?_) λ h2=>?_
   ·have h2:st=2:=by simp at h2;omega
    have h7:t.kind=7:=by
     apply Classical.byContradiction
     intro hc
     rw [if_neg hc] at hst
     omega
    have hev:=hF.even h7
    have h2n:2*n+1<(kss m).length:=by rw [h2] at hltk;omega
    obtain ⟨kv,hkv⟩:∃kv,(kss m)[2*n+1]?=some kv:=⟨_,List.getElem?_eq_getElem h2n⟩
    obtain ⟨q2,hq2,hq2c⟩:=hks2.2 _ _ hkv
    obtain ⟨y,rfl⟩:=Int.eq_ofNat_of_zero_le (hkid _ _ hkv).1
    have hy:y<m:=by have:=(hkid _ _ hkv).2;omega
    obtain ⟨g,rc,hvg,hcg⟩:=row_get ho2 hy
    cases hvg
    have ei:IntKind.wrap .i64 (((st*n:Nat):Int)+1)=((2*n+1:Nat):Int):=by
     rw [h2,wrap_i64 (by omega)];omega
    refine ⟨_,_,_,hc2.add 5 rfl,?_⟩
    rw [hq2,ei]
    refine idxK_of (by omega) ⟨y,by rw [Nat.mul_one];exact hq2c,idxK_of hy ⟨_,by rw [add_mk,Nat.mul_one,Nat.zero_add];exact hcg,hstep _ ?_⟩⟩
    rw [if_pos h7,List.getD_eq_getElem?_getD,hkv]
    rfl
   ·have h7:t.kind≠7:=by
     intro hc
     rw [if_pos hc] at hst
     subst hst
     simp at h2
    exact hstep 0 (by rw [if_neg h7];rfl)
  ·have hge:t.kl<=st*n:=by simp at hge;omega
   have hnl:n=(keysL t (kss m)).length:=by
    rcases hst2 with e | e <;> rw [e] at hge hkL <;> omega
   rw [hnl] at hes
   exact hend D w2 hS hD hok hmost hes hk2
 refine bsel_split (λ h7=>hI 2 ?_) λ h7=>hI 1 ?_
 ·have h7:t.kind=7:=by simpa using h7
  rw [hst,if_pos h7];rfl
 ·have h7:t.kind≠7:=by simpa using h7
  rw [hst,if_neg h7];rfl
theorem C117g (h:GM w r B P A ts mss kss m L last) {ta:Option Addr} {tc:Nat} (hL:LowAt w B ta ts mss) (ht:ts[m]?=some t) (hks:KidsAt w t (kss m)) (hkb:∀p,t.ka=some p->0<t.kl->p.block<B) (hF:FineT ts m t (kss m)) (hlen:ts.length<1000000) (hms:∀x u,ts[x]?=some u->(mss x).length<1000000000/\∀m ∈ mss x,0<=m/\m<4294967296)
  (hp:0<=P.pairs/\P.pairs<=65536) (hsh:0<=P.shared/\P.shared<=256) (hB:B<=w.heap.size) (hA:∀k,A k->k<w.heap.size) {N:Nat} {ov:Value} (ho:w.ownsRow N 3 1 ov m (ints ((List.range m).map λ x=>(gref ts x:Int)))) :
  Calls Tryz.prog 117 #[.pointer (some ⟨r,0,none⟩),.slice ta ts.length tc,ov,.int .i64 m] w λ e w'=>e=.returned (.int .i64 (gref ts m))/\∃L' last',GM w' r B P A ts mss kss (m+1) L' last'/\Keep (GFc r B P.mc w) w w':=by
 obtain ⟨oa,oc,rfl⟩:=ownsRow_slice ho
 refine ret_mono (V117_sound _ ta ts.length tc oa m oc m w (λ x w'=>x=.int .i64 (gref ts m)/\∃L' last',GM w' r B P A ts mss kss (m+1) L' last'/\Keep (GFc r B P.mc w) w w') ?_) (by rintro _ _ ⟨rfl,h⟩;exact ⟨rfl,h⟩)
 have hm:m<ts.length:=(List.getElem?_eq_some_iff.1 ht).1
 obtain ⟨p,rfl,hct⟩:=hL.tm _ t ht
 unfold V117
 refine idxK_of hm ⟨_,_,_,_,_,_,_,_,_,_,_,_,hct,termCopy λ c w1 hc hk1 hcs=>⟨_,hc.add 0 rfl,?_⟩⟩
 have h1:=h.no hk1
 have hs1:=hk1.size
 have hL1:=hL.no hk1
 have hks1:=hks.no hk1
 have ho1:=hk1.nrow ho
 obtain ⟨hl,hla⟩:=h.lens hlen
 have hlL:=h.len
 have hlast:=h.last
 have hco:=cO_succ ht
 have hB1:B<=w1.heap.size:=by omega
 have hQ:∀L' last' w',GM w' r B P A ts mss kss (m+1) L' last'->Keep (GFc r B P.mc w1) w1 w'->(λ x w'=>x=Value.int .i64 (gref ts m)/\∃L' last',GM w' r B P A ts mss kss (m+1) L' last'/\Keep (GFc r B P.mc w) w w') (.int .i64 (gref ts m)) w':=λ L' last' w' hg hk=>⟨rfl,L',last',hg,gfc_no hk1 hk⟩
 have hkd:=hF.kind
 have hno1:∀{w2:World},Keep No w1 w2->Keep (GFc r B P.mc w) w w2:=λ hk=>Keep.of_no (hk1.no hk)
 refine bsel_split (λ q1=>?_) λ q1=>?_
 ·have q1:t.kind=1:=by simpa using q1
  refine ⟨?_,L,last,h.same hk1 ht (.inl q1),Keep.of_no hk1⟩
  rw [gref_of ht];unfold refT;rw [if_pos q1];rfl
 have q1:t.kind≠1:=by simpa using q1
 refine bsel_split (λ q2=>?_) λ q2=>?_
 ·have q2:t.kind=2:=by simpa using q2
  refine ⟨_,hc.add 1 rfl,(C182 t.b w1).mono ?_⟩
  rintro _ w2 ⟨rfl,rfl⟩
  refine ⟨_,rfl,?_,L,last,h.same hk1 ht (.inr q2),Keep.of_no hk1⟩
  rw [gref_of ht];unfold refT;rw [if_neg q1,if_pos q2];cases t.b <;> rfl
 have q2:t.kind≠2:=by simpa using q2
 by_cases q14:t.kind=14
 ·rw [show (t.kind == 3)=false by simp [q14],show (t.kind == 4)=false by simp [q14],show (t.kind == 5)=false by simp [q14],show (t.kind == 6)=false by simp [q14]]
  refine bsel_neg rfl (bsel_neg rfl (bsel_neg rfl (bsel_neg rfl (bsel_pos (by simp [q14]) ?_))))
  refine (C186 h1.st (⟨#[67]⟩:ByteArray) (-1) hp hsh hl hB1 hla).mono ?_
  rintro _ w2 ⟨rfl,d,D,f,h2,hD,hDe,hf,hk2⟩
  obtain ⟨u,hu⟩:∃u:GV,u={ gz with kind:=13,number:=last+1,text:=(⟨#[67]⟩:ByteArray),d:=some ⟨d,0,none⟩,base:=-1,f:=some ⟨f,0,none⟩ }:=⟨_,rfl⟩
  rw [<-hu] at h2
  have hgetu:(L ++ [u])[L.length]?=some u:=by simp
  have hq1:=gfc_quiet h1.st
  have hcq:∀{w':World},Keep (GFc r B P.mc w1) w1 w'->Blk w' c 42 t.cells:=λ hk=>hk.blk hc λ hf=>absurd (hq1 _ hc.lt hf _ hc.etype) (by decide)
  have hd2:=Keep.drawn w2
  have hk2d:Keep (GFc r B P.mc w1) w1 w2.drew:=hk2.no hd2
  obtain ⟨g,cap,s1,s2,s3,s4,s5⟩:=(h2.no hd2).stField (k:=20) (u':={ u with hash:=t.hash }) (val:=.bool t.hash) hgetu (by decide) rfl
  refine ⟨_,rfl,?_⟩
  simp only [nilK_some]
  refine ⟨_,_,_,s1,_,(hcq hk2d).add 6 rfl,idxK_of s2 (s5 _ λ w3 h3 hk3=>?_)⟩
  have hset1:(L ++ [u]).set L.length { u with hash:=t.hash }=L ++ [{ u with hash:=t.hash }]:=by simp
  rw [hset1] at h3
  have hgk:∀{wa wb:World} {g:Nat},etype wa g=some 226->B<=g->Keep (GFc r B P.mc w1) w1 wa->Keep (λ k=>k=g) wa wb->Keep (GFc r B P.mc w1) w1 wb:=λ he hB hk hk'=>hk.trans hk' λ k hk0 hf=>by
   subst hf
   by_cases hx:GFc r B P.mc w1 k
   ·exact hx
   ·refine .inl (.inr ⟨hB,?_⟩)
    rw [<-hk.ett hk0 hx];exact he
  have hk3':Keep (GFc r B P.mc w1) w1 w3:=hgk s3 s4 hk2d hk3
  have hd3:=Keep.drawn w3
  have hk3d:=hk3'.no hd3
  have hgetu3:(L ++ [{ u with hash:=t.hash }])[L.length]?=some { u with hash:=t.hash }:=by simp
  obtain ⟨g',cap',z1,z2,z3,z4,z5⟩:=(h3.no hd3).stField (k:=21) (u':={ u with hash:=t.hash,same:=t.same }) (val:=.bool t.same) hgetu3 (by decide) rfl
  have e2:(L ++ [{ u with hash:=t.hash }]).length=(L ++ [u]).length:=by simp
  refine ⟨_,_,_,z1,_,(hcq hk3d).add 7 rfl,idxK_of z2 (z5 _ λ w4 h4 hk4=>?_)⟩
  have hset2:(L ++ [{ u with hash:=t.hash }]).set L.length { u with hash:=t.hash,same:=t.same }=L ++ [{ u with hash:=t.hash,same:=t.same }]:=by simp
  rw [hset2] at h4
  have hk4':=hgk z3 z4 hk3d hk4
  obtain ⟨u2,hu2⟩:∃u2:GV,u2={ u with hash:=t.hash,same:=t.same }:=⟨_,rfl⟩
  rw [<-hu2] at h4
  have hgetu4:(L ++ [u2])[L.length]?=some u2:=by simp
  have hs4:=hk4'.size
  refine (C187 h4 hgetu4 (f:=f) (by rw [hu2,hu]) (by simp;have:=cV_le ts m;omega) (by omega) (by have:=cO_le ts m;omega)).mono ?_
  rintro _ w5 ⟨rfl,h5,hsp,hk5⟩
  have hk5':Keep (GFc r B P.mc w1) w1 w5:=hk4'.trans hk5 λ k hk0 hf=>by
   rcases hf with e | ⟨q,e⟩
   ·exact .inl (.inl e)
   ·by_cases hx:GFc r B P.mc w1 k
    ·exact hx
    ·refine .inl (.inr ⟨q,?_⟩)
     rw [<-hk4'.ett hk0 hx];exact e
  have hk05:=gfc_no hk1 hk5'
  have e1:gref ts m=L.length+1:=by rw [gref_of ht];unfold refT;rw [if_neg (by omega),if_neg (by omega),if_pos q14];omega
  have hno:nO t=2:=by unfold nO;rw [if_neg (by omega),if_pos q14]
  have hq4:Keep (GFc r B P.mc w1) w1 w4:=hk4'
  have hk25:∀{k:Nat},k<w2.heap.size->(∀e',e' ∈ gTy->etype w2 k≠some e')->¬(k=g\/k=g'\/GFp r B w4 k):=by
   intro k hlt hne hf
   have h23:=hd2.ett hlt id
   have hl2:k<w2.drew.heap.size:=by have:=hd2.size;omega
   have hl3:k<w3.heap.size:=by have:=hk3.size;omega
   have hl3d:k<w3.drew.heap.size:=by have:=hd3.size;omega
   by_cases c1:k=g
   ·subst c1
    rw [s3] at h23
    exact hne 226 (by decide) h23.symm
   ·have h33:=hk3.ett hl2 c1
    have h3d:=hd3.ett hl3 id
    by_cases c2:k=g'
    ·subst c2
     rw [z3,h33,h23] at h3d
     exact hne 226 (by decide) h3d.symm
    ·have h44:=hk4.ett hl3d c2
     rcases hf with hf | hf | hf | ⟨_,hf⟩
     ·exact c1 hf
     ·exact c2 hf
     ·subst hf
      rw [h4.etype,h3d,h33,h23] at h44
      exact hne 220 (by decide) h44.symm
     ·rw [hf,h3d,h33,h23] at h44
      exact hne 226 (by decide) h44.symm
  have hkall:Keep (λ k=>k=g\/k=g'\/GFp r B w4 k) w2 w5:=((((Keep.of_no hd2).trans hk3 λ k _ e=>.inl e).no hd3).trans hk4 λ k _ e=>.inr (.inl e)).trans hk5 λ k _ e=>.inr (.inr e)
  have hD5:RDictAt w5 w1.heap.size d P.mc D:=hD.keep hkall λ k hk=>by
   obtain ⟨a1,a2,e,a3,a4⟩:=hD.ty hk
   exact hk25 a2 λ e' he' hx=>by
    have:∀e ∈ rdictTy,e ∉ gTy:=by decide
    rw [a3] at hx
    cases hx
    exact this e a4 he'
  have hf5:FamR w5 w1.heap.size f P:=hf.keep hkall λ k a1 a2 a3 hx=>by
   refine hk25 a2 (λ e he hy=>?_) hx
   rcases a3 e hy with rfl | q
   ·revert he;decide
   ·have:∀e ∈ rtabTy,e ∉ gTy:=by decide
    exact this e q he
  have e5:(L ++ [u2]).length=L.length+1:=by simp
  refine ⟨_,rfl,by rw [e1,e5],_,_,h.inst hk05 ht q14 h5 ?_ ?_ (by rw [hco,hno,hlast];push_cast;omega),hk05⟩
  ·refine ⟨?_,rfl,q14.symm,λ hc=>by omega,λ hc=>by omega,λ hc=>by omega,λ hc=>by omega,λ _=>⟨w4.heap.size,f,rfl,?_,hsp,hf5.famN hB1 λ k hk=>by have:=hA k hk;omega⟩⟩
   ·rw [gdesc_of ht]
    unfold descT
    rw [if_neg (by omega),if_neg (by omega),if_neg (by omega),if_neg (by omega)]
    refine ⟨q14.symm,by omega,by omega,?_⟩
    show last+1+1=_
    unfold numT
    rw [if_pos q14,hlast];omega
   ·show ((L.length:Nat):Int)+1=_
    rw [e1];rfl
  ·refine ⟨by rw [hu2,hu],by rw [hu2,hu];rfl,by rw [hu2],by rw [hu2],?_,by rw [hu2,hu],d,D,by rw [hu2,hu],hD5.mono (by omega),hDe,λ k hk ha=>by have:=(hD5.ty hk).1;have:=hA k ha;omega⟩
   rw [hu2,hu]
   show last+1=_
   unfold numT
   rw [if_pos q14,hlast];omega
 have hnv:nV t=1:=by unfold nV;rw [if_neg (by omega),if_neg (by omega)]
 have e1:gref ts m=L.length:=by rw [gref_of ht];unfold refT;rw [if_neg (by omega),if_neg (by omega),if_neg (by omega)];omega
 refine bsel_split (λ q3=>?_) λ q3=>?_
 ·have q3:t.kind=3:=by simpa using q3
  obtain ⟨⟨⟨i1,i2,i3,i4⟩,i5⟩,i6⟩:=hL1.inp m t ht
  obtain ⟨m1,m2⟩:=hms m t ht
  have hno:nO t=0:=by unfold nO;rw [if_pos (by omega)]
  refine ⟨_,_,_,_,hc.cellsAdd 2 rfl,?_⟩
  rw [i2]
  refine (C183 h1.st i1 i3 m1 hl hB1).mono ?_
  rintro _ w2 ⟨rfl,ng,va,vl,vc,h2,hy,hk2⟩
  have hk2':Keep (GFc r B P.mc w1) w1 w2:=hk2.mono λ k _ hf=>.inl hf
  refine ⟨_,rfl,?_⟩
  rw [<-e1]
  refine hQ _ _ _ (h1.more hk2' ht h2 ⟨?_,rfl,q3.symm,λ hc=>by omega,λ hc=>by omega,λ hc=>by omega,λ hc=>by omega,λ hc=>by omega⟩ hnv q14 e1 (by omega)) hk2'
  rw [gdesc_of ht]
  unfold descT
  rw [if_neg (by omega),if_neg (by omega),if_pos q3]
  exact ⟨rfl,m1,hy.mono hB1,m2⟩
 have q3:t.kind≠3:=by simpa using q3
 refine bsel_split (λ q4=>?_) λ q4=>?_
 ·have q4:t.kind=4:=by simpa using q4
  have hno:nO t=0:=by unfold nO;rw [if_pos (by omega)]
  refine ⟨_,hc.add 4 rfl,(C184g h1.st t.text hl hB1).mono ?_⟩
  rintro _ w2 ⟨rfl,h2,hk2⟩
  have hk2':Keep (GFc r B P.mc w1) w1 w2:=hk2.mono λ k _ hf=>.inl hf
  refine ⟨_,rfl,?_⟩
  rw [<-e1]
  refine hQ _ _ _ (h1.more hk2' ht h2 ⟨?_,rfl,q4.symm,λ hc=>by omega,λ hc=>by omega,λ hc=>by omega,λ hc=>by omega,λ hc=>by omega⟩ hnv q14 e1 (by omega)) hk2'
  rw [gdesc_of ht]
  unfold descT
  rw [if_neg (by omega),if_neg (by omega),if_neg (by omega),if_pos q4]
  exact ⟨rfl,rfl⟩
 have q4:t.kind≠4:=by simpa using q4
 have hno:nO t=1:=by unfold nO;rw [if_neg (by omega),if_neg (by omega)]
 have hdesc:∀{w':World} {v:GV},v.kind=t.kind->v.number=last+1->GVD w' B v (gdesc ts mss m):=by
  intro w' v hvk hvn
  rw [gdesc_of ht]
  unfold descT
  rw [if_neg (by omega),if_neg (by omega),if_neg (by omega),if_neg (by omega)]
  refine ⟨hvk,by omega,by omega,?_⟩
  rw [hvn]
  unfold numT
  rw [if_neg (by omega),hlast]
 have hkl:=hF.kl
 have hklen:=hks.1
 refine bsel_split (λ q5=>?_) λ q5=>?_
 ·have q5:t.kind=5:=by simpa using q5
  have hlim:limit ts.length m t=m:=by unfold limit;rw [if_neg (by omega)]
  refine ⟨λ a l cc i w'=>∃n:Nat,i=n/\l=n/\n<=t.kl/\w'.ownsRow w1.heap.size 3 1 (.slice a l cc) n (ints (((kss m).take n).map λ k=>(gref ts k.toNat:Int)))/\Keep No w1 w',λ _ _ _ i _=>(t.kl-i).toNat,⟨0,rfl,rfl,by omega,World.ownsRow_nil _ _ _ _,Keep.refl _ _⟩,?_⟩
  rintro j a l cc i w2 ⟨n,rfl,rfl,hn,hrow,hk2⟩
  have hc2:=hk2.nblk hc
  refine ⟨_,_,_,hc2.add 5 rfl,bsel_split (λ hlt=>?_) λ hge=>?_⟩
  ·have hlt:l<t.kl:=by simp at hlt;omega
   obtain ⟨k,hkm⟩:∃k,(kss m)[l]?=some k:=⟨_,List.getElem?_eq_getElem (by omega)⟩
   obtain ⟨q,hq,hqc⟩:=(hks1.no hk2).2 l k hkm
   have hkr:=hF.kids l k hkm
   rw [hlim] at hkr
   obtain ⟨x,rfl⟩:=Int.eq_ofNat_of_zero_le hkr.1
   have hx:x<m:=by omega
   obtain ⟨g,rc,hvg,hcg⟩:=row_get (hk2.nrow ho1) hx
   cases hvg
   refine ⟨_,_,_,hc2.add 5 rfl,?_⟩
   rw [hq]
   refine idxK_of hlt ⟨x,by rw [Nat.mul_one];exact hqc,idxK_of hx ⟨_,by rw [Nat.mul_one,add_mk,Nat.zero_add];exact hcg,newK_of λ b w3 hs3 hb3 hk3=>?_⟩⟩
   refine appendRow rowInts (hk3.nrow hrow) hb3 rfl (by omega) (by have:=(hk2.no hk3).size;omega) λ g' cap' w4 hrow4 hk4 hat=>?_
   rw [wrap_i64 (by omega)]
   refine ⟨⟨l+1,by omega,rfl,by omega,?_,(hk2.no hk3).news hk4 λ k e=>((hk3.nrow hrow).lt k e).1⟩,by simp only;omega⟩
   rw [List.take_add_one,hkm]
   simpa [ints] using hrow4
  ·have hnl:l=t.kl:=by simp at hge;omega
   subst hnl
   have hs2:=hk2.size
   refine ⟨_,hc2.add 0 rfl,(C185g (h1.st.no hk2) { gz with kind:=t.kind,ia:=a,il:=t.kl,ic:=cc } hl (by omega) hla).mono ?_⟩
   rintro _ w3 ⟨rfl,h3,hk3⟩
   have hk3':Keep (GFc r B P.mc w1) w1 w3:=gfc_no hk2 (hk3.mono λ k _ hf=>.inl hf)
   refine ⟨_,rfl,?_⟩
   rw [<-e1]
   refine hQ _ _ _ (h1.more hk3' ht h3 ⟨hdesc rfl rfl,rfl,rfl,λ hc=>by omega,λ _=>⟨rfl,?_,λ g hg ha=>by have:=(hrow.lt g hg).1;have:=hA g ha;omega⟩,λ hc=>by omega,λ hc=>by omega,λ hc=>by omega⟩ hnv q14 e1 (by omega)) hk3'
   rw [List.take_of_length_le (by omega)] at hrow
   refine ownsRow_mono (hk3.row hrow λ g hg hf=>?_) hB1
   rcases hf with e | ⟨_,e⟩
   ·have:=ownsRow_etype hrow hg
    rw [e,(h1.st.no hk2).etype] at this
    cases this
   ·rw [ownsRow_etype hrow hg] at e;cases e
 have q5:t.kind≠5:=by simpa using q5
 refine bsel_split (λ q6=>?_) λ q6=>?_
 ·have q6:t.kind=6:=by simpa using q6
  refine ⟨_,hc.add 0 rfl,(C185g h1.st { gz with kind:=t.kind } hl hB1 hla).mono ?_⟩
  rintro _ w3 ⟨rfl,h3,hk3⟩
  have hk3':Keep (GFc r B P.mc w1) w1 w3:=hk3.mono λ k _ hf=>.inl hf
  refine ⟨_,rfl,?_⟩
  rw [<-e1]
  exact hQ _ _ _ (h1.more hk3' ht h3 ⟨hdesc rfl rfl,rfl,rfl,λ hc=>by omega,λ hc=>by omega,λ _=>⟨rfl,rfl,rfl⟩,λ hc=>by omega,λ hc=>by omega⟩ hnv q14 e1 (by omega)) hk3'
 have q6:t.kind≠6:=by simpa using q6
 refine bsel_neg (by simp [q14]) ?_
 have htab:t.kind=7\/t.kind=8\/t.kind=9->V117J3 (λ x w'=>x=.int .i64 (gref ts m)/\∃L' last',GM w' r B P A ts mss kss (m+1) L' last'/\Keep (GFc r B P.mc w) w w') (some ⟨r,0,none⟩) (some p) ts.length tc oa m oc ⟨c,0,none⟩ true w1:=λ h789=>rtable h1 hL1 ht hks1 hkb hF h789 hlen hms hp hB1 (λ k hk=>by have:=hA k hk;omega) ho1 hc hQ
 refine bsel_split (λ q7=>htab (by simp at q7;omega)) λ q7=>bsel_split (λ q8=>htab (by simp at q8;omega)) λ q8=>?_
 by_cases q9:t.kind=9
 ·rw [show (t.kind == 9)=true by simp [q9]]
  exact htab (by omega)
 ·rw [show (t.kind == 9)=false by simp [q9]]
  simp at q7 q8
  obtain ⟨k,k1,k2⟩:=hF.view (by omega)
  exact rview h1 ht hks1 (by omega) hlen hB1 k1 k2 ho1 hc hQ
end
end Go.Fw

namespace Go.Fw
open Go.Proofs Go.RowKit
def shapeR (t:Tm):Bool:=decide ((0<t.kl/\t.kind≠7/\¬(t.kind=8\/t.kind=9)/\¬(t.kind=5\/t.kind=6)/\¬(15<=t.kind/\t.kind<=17))\/(t.kind=7/\t.kl % 2≠0)\/((15<=t.kind/\t.kind<=17)/\t.kl≠1))
theorem tmod2 (n:Nat):Int.tmod (n:Int) 2=((n % 2:Nat):Int):=rfl
def kidR (ts:List Tm) (n:Nat) (t:Tm) (j:Nat) (k:Int):Prop:=
 k<0\/(ts.length:Int)<=k\/((n:Int)<=k/\t.kind≠6)\/((15<=t.kind/\t.kind<=17)/\∀u,ts[k.toNat]?=some u->u.kind≠7)\/(((t.kind=8\/t.kind=9)\/(t.kind=7/\j % 2=0))/\∀u,ts[k.toNat]?=some u->isKeyB u=false)
theorem kid_place (t:Tm) (ks:List Int) {j:Nat} {k:Int} (hk:ks[j]?=some k) (h:(t.kind=8\/t.kind=9)\/(t.kind=7/\j % 2=0)):k ∈ keysL t ks:=by
 unfold keysL
 rcases h with h | ⟨h7,hj⟩
 ·rw [if_pos h];exact List.mem_of_getElem? hk
 ·rw [if_neg (by omega),if_pos h7]
  have hlt:=(List.getElem?_eq_some_iff.1 hk).1
  unfold evens
  rw [List.mem_map]
  refine ⟨j / 2,List.mem_range.2 (by omega),?_⟩
  rw [show 2*(j / 2)=j by omega,List.getD_eq_getElem?_getD,hk]
  rfl
theorem badK_of_kid {ts:List Tm} {n:Nat} {t:Tm} {ks:List Int} (hn:n<ts.length) (hlen:ks.length=t.kl) (hs:shapeR t=false) {j:Nat} {k:Int} (hk:ks[j]?=some k) (h:kidR ts n t j k):badK ts n t ks=true:=by
 have hmem:=List.mem_of_getElem? hk
 have hjl:=(List.getElem?_eq_some_iff.1 hk).1
 unfold badK
 unfold shapeR at hs
 have hs:=of_decide_eq_false hs
 have hkid:kidBad ts n t k=true->(ks.any (kidBad ts n t) || ((keysL t ks).any (keyBad ts) || shapeBad ts t ks))=true:=λ h=>by
  rw [List.any_eq_true.2 ⟨k,hmem,h⟩];rfl
 rcases h with h | h | ⟨h,h6⟩ | ⟨hv,h⟩ | ⟨hp,h⟩
 ·exact hkid (by unfold kidBad;simp [h])
 ·refine hkid ?_
  unfold kidBad limit
  simp
  right
  split <;> omega
 ·refine hkid ?_
  unfold kidBad limit
  simp
  right
  rw [if_neg h6];omega
 ·have e1:ks.length=1:=by omega
  have hj0:j=0:=by omega
  subst hj0
  have e2:ks.getD 0 0=k:=by rw [List.getD_eq_getElem?_getD,hk];rfl
  have:shapeBad ts t ks=true:=by
   unfold shapeBad
   rw [if_neg (by omega),if_neg (by omega),if_pos (by omega),e1,e2]
   cases hu:ts[k.toNat]? with
   | none=>rfl
   | some u=>simp [h u hu]
  rw [this]
  simp
 ·have hm:=kid_place t ks hk hp
  have:keyBad ts k=true:=by
   unfold keyBad
   cases hu:ts[k.toNat]? with
   | none=>rfl
   | some u=>simp [h u hu]
  rw [List.any_eq_true.2 ⟨k,hm,this⟩]
  simp
theorem badK_of_shape {ts:List Tm} {n:Nat} {t:Tm} {ks:List Int} (hlen:ks.length=t.kl) (hkd:kindB t.kind=true) (hs:shapeR t=true):badK ts n t ks=true:=by
 have hs:=of_decide_eq_true hs
 have hkd:=of_decide_eq_true hkd
 have:shapeBad ts t ks=true:=by
  unfold shapeBad
  by_cases h7:t.kind=7
  ·rw [if_neg (by omega),if_pos h7]
   simp
   omega
  ·by_cases hv:t.kind=15\/t.kind=16\/t.kind=17
   ·rw [if_neg (by omega),if_neg h7,if_pos hv]
    have:ks.length≠1:=by omega
    simp [this]
   ·rw [if_neg (by omega),if_neg h7,if_neg hv]
    simp
    omega
 unfold badK
 rw [this]
 simp
theorem badK_none {ts:List Tm} {n:Nat} {t:Tm} {ks:List Int} (hlen:ks.length=t.kl) (hkd:kindB t.kind=true) (hs:shapeR t=false) (hall:∀(j:Nat) (k:Int),ks[j]?=some k->¬kidR ts n t j k) (hn:n<ts.length):badK ts n t ks=false:=by
 have hs:=of_decide_eq_false hs
 have hkd:=of_decide_eq_true hkd
 have hr:∀(j:Nat) (k:Int),ks[j]?=some k->0<=k/\k<ts.length/\(t.kind≠6->k<n):=λ j k hj=>by
  have:=hall j k hj
  unfold kidR at this
  simp only [not_or,not_and] at this
  obtain ⟨a,b,c,_⟩:=this
  refine ⟨by omega,by omega,λ h6=>?_⟩
  apply Classical.byContradiction
  intro hc
  exact c (by omega) h6
 have h1:ks.any (kidBad ts n t)=false:=by
  rw [List.any_eq_false]
  intro k hk
  obtain ⟨j,hj⟩:=List.getElem?_of_mem hk
  obtain ⟨a,b,c⟩:=hr j k hj
  unfold kidBad limit
  simp
  refine ⟨a,?_⟩
  split
  ·omega
  ·rename_i h6;have:=c h6;omega
 have h2:(keysL t ks).any (keyBad ts)=false:=by
  rw [List.any_eq_false]
  intro k hk
  obtain ⟨j,hj⟩:=List.getElem?_of_mem hk
  obtain ⟨hq,_⟩:=kid_of t ks hj
  obtain ⟨a,b,_⟩:=hr _ k hq
  have:=hall _ k hq
  unfold kidR at this
  simp only [not_or] at this
  obtain ⟨_,_,_,_,this⟩:=this
  obtain ⟨u,hu⟩:∃u,ts[k.toNat]?=some u:=⟨_,List.getElem?_eq_getElem (by omega)⟩
  have hk789:(t.kind=8\/t.kind=9)\/(t.kind=7/\(if t.kind=7 then 2*j else j) % 2=0):=by
   by_cases h7:t.kind=7
   ·right;rw [if_pos h7];omega
   ·left
    apply Classical.byContradiction
    intro hc
    unfold keysL at hj
    rw [if_neg hc,if_neg h7] at hj
    simp at hj
  unfold keyBad
  rw [hu]
  simp only [Option.any_some]
  cases hb:isKeyB u with
  | true=>simp
  | false=>exact absurd ⟨hk789,λ u' hu'=>by rw [hu] at hu';cases hu';exact hb⟩ this
 have h3:shapeBad ts t ks=false:=by
  unfold shapeBad
  by_cases h5:t.kind=5\/t.kind=6\/t.kind=8\/t.kind=9
  ·rw [if_pos h5]
  ·by_cases h7:t.kind=7
   ·rw [if_neg h5,if_pos h7]
    simp
    omega
   ·by_cases hv:t.kind=15\/t.kind=16\/t.kind=17
    ·rw [if_neg h5,if_neg h7,if_pos hv]
     have e1:ks.length=1:=by omega
     obtain ⟨k,hk⟩:∃k,ks[0]?=some k:=⟨_,List.getElem?_eq_getElem (by omega)⟩
     have e2:ks.getD 0 0=k:=by rw [List.getD_eq_getElem?_getD,hk];rfl
     obtain ⟨a,b,_⟩:=hr _ k hk
     have:=hall _ k hk
     unfold kidR at this
     simp only [not_or] at this
     obtain ⟨_,_,_,this,_⟩:=this
     obtain ⟨u,hu⟩:∃u,ts[k.toNat]?=some u:=⟨_,List.getElem?_eq_getElem (by omega)⟩
     rw [e1,e2,hu]
     simp
     apply Classical.byContradiction
     intro hc
     exact this ⟨by omega,λ u' hu'=>by rw [hu] at hu';cases hu';exact hc⟩
    ·rw [if_neg h5,if_neg h7,if_neg hv]
     exact decide_eq_false (by omega)
 unfold badK
 rw [h1,h2,h3]
 rfl
section
variable {w:World} {B:Nat} {ta:Option Addr} {tc:Nat} {ts:List Tm} {mss:Nat->List Int} {its:Nat->ByteArray} {pairs:Int}
theorem C116_gen (hL:LowAt w B ta ts mss) {n:Nat} {t:Tm} (ht:ts[n]?=some t) {ks:List Int} (hks:KidsAt w t ks) (hkl:t.kl<100000000000) (htx:t.text.size<9000000000000) (hlen:ts.length<1000000) (hpairs:(ts.length:Int)<=pairs) :
  Calls Tryz.prog 116 #[.slice ta ts.length tc,.int .i64 n,.int .i64 pairs] w λ e w'=>e=.returned (.int .i64 (errT ts mss its pairs n t ks))/\Keep No w w':=by
 refine ret_mono (V116_sound ta ts.length tc n pairs w (λ r w'=>r=.int .i64 (errT ts mss its pairs n t ks)/\Keep No w w') ?_) (by rintro _ _ ⟨rfl,h⟩;exact ⟨rfl,h⟩)
 have hn:n<ts.length:=(List.getElem?_eq_some_iff.1 ht).1
 have hklen:=hks.1
 obtain ⟨p,rfl,hct⟩:=hL.tm _ t ht
 unfold V116
 refine idxK_of hn ⟨_,_,_,_,_,_,_,_,_,_,_,_,hct,termCopy λ c w1 hc1 hk1 hcs=>⟨_,hc1.add 0 rfl,?_⟩⟩
 have hL1:=hL.no hk1
 have hks1:=hks.no hk1
 obtain ⟨Q,hQ⟩:∃Q:Value->World->Prop,Q=(λ r w'=>r=.int .i64 (errT ts mss its pairs n t ks)/\Keep No w w'):=⟨_,rfl⟩
 have hQi:∀(e:Int) (w':World),errT ts mss its pairs n t ks=e->Keep No w w'->Q (.int .i64 e) w':=λ e w' he hk=>by rw [hQ];exact ⟨by rw [he],hk⟩
 rw [<-hQ]
 clear hQ
 have hbig:∀(w2:World) (vw:Bool),Keep No w1 w2->kindB t.kind=true->badK ts n t ks=false->¬(t.kind=4/\Lib.validD t.text.data.toList=false)->
   ∃R280:Bool->World->Prop,(
∃t281:Int,w2.cell? ((⟨c,0,none⟩:Addr).add 0)=some (.int .i64 t281)/\
bsel (t281 == 4) (
∃t282:ByteArray,w2.cell? ((⟨c,0,none⟩:Addr).add 4)=some (.string t282)/\
Calls Tryz.prog 179 #[.string t282] w2 λ e283 w284=>∃t285:Int,e283=.returned (.int .i64 t285)/\
bsel (decide (t285>65536)) (
R280 true w284) (
∃t295:Int,w284.cell? ((⟨c,0,none⟩:Addr).add 0)=some (.int .i64 t295)/\
bsel (t295 == 3) (
∃t296:Bool,∃t297:Option Addr,∃t298:Nat,∃t299:Nat,CellsAt w284 ((⟨c,0,none⟩:Addr).add 2) [.bool t296,.slice t297 t298 t299]/\
Calls Tryz.prog 180 #[.agg #[.bool t296,.slice t297 t298 t299]] w284 λ e300 w301=>∃t302:Bool,∃t303:Option Addr,∃t304:Nat,∃t305:Nat,e300=.returned (.agg #[.bool t302,.slice t303 t304 t305])/\
bsel (decide ((t304:Int)>256)) (
R280 true w301) (
bsel (decide (t.kind=5\/t.kind=6)) (
∃t306:Option Addr,∃t307:Nat,∃t308:Nat,w301.cell? ((⟨c,0,none⟩:Addr).add 5)=some (.slice t306 t307 t308)/\
R280 (decide ((t307:Int)>65536)) w301) (
R280 false w301))) (
bsel (decide (t.kind=5\/t.kind=6)) (
∃t309:Option Addr,∃t310:Nat,∃t311:Nat,w284.cell? ((⟨c,0,none⟩:Addr).add 5)=some (.slice t309 t310 t311)/\
R280 (decide ((t310:Int)>65536)) w284) (
R280 false w284)))) (
∃t312:Int,w2.cell? ((⟨c,0,none⟩:Addr).add 0)=some (.int .i64 t312)/\
bsel (t312 == 3) (
∃t313:Bool,∃t314:Option Addr,∃t315:Nat,∃t316:Nat,CellsAt w2 ((⟨c,0,none⟩:Addr).add 2) [.bool t313,.slice t314 t315 t316]/\
Calls Tryz.prog 180 #[.agg #[.bool t313,.slice t314 t315 t316]] w2 λ e317 w318=>∃t319:Bool,∃t320:Option Addr,∃t321:Nat,∃t322:Nat,e317=.returned (.agg #[.bool t319,.slice t320 t321 t322])/\
bsel (decide ((t321:Int)>256)) (
R280 true w318) (
bsel (decide (t.kind=5\/t.kind=6)) (
∃t323:Option Addr,∃t324:Nat,∃t325:Nat,w318.cell? ((⟨c,0,none⟩:Addr).add 5)=some (.slice t323 t324 t325)/\
R280 (decide ((t324:Int)>65536)) w318) (
R280 false w318))) (
bsel (decide (t.kind=5\/t.kind=6)) (
∃t326:Option Addr,∃t327:Nat,∃t328:Nat,w2.cell? ((⟨c,0,none⟩:Addr).add 5)=some (.slice t326 t327 t328)/\
R280 (decide ((t327:Int)>65536)) w2) (
R280 false w2))))/\∀(j331:Fr) (r329:Bool) (w330:World),R280 r329 w330->
bsel r329 (
Q (.int .i64 3) w330) (
∃R332:Bool->World->Prop,(
bsel (t.kind == 7) (
∃t333:Int,∃t334:Bool,∃t335:Bool,∃t336:Option Addr,∃t337:Nat,∃t338:Nat,∃t339:ByteArray,∃t340:Option Addr,∃t341:Nat,∃t342:Nat,∃t343:Bool,∃t344:Bool,CellsAt w330 (⟨c,0,none⟩:Addr) [.int .i64 t333,.bool t334,.bool t335,.slice t336 t337 t338,.string t339,.slice t340 t341 t342,.bool t343,.bool t344]/\
Calls Tryz.prog 181 #[.slice (some p) ts.length tc,.agg #[.int .i64 t333,.bool t334,.bool t335,.slice t336 t337 t338,.string t339,.slice t340 t341 t342,.bool t343,.bool t344]] w330 λ e345 w346=>∃t347:Int,e345=.returned (.int .i64 t347)/\
R332 (decide (t347>pairs)) w346) (
bsel vw (
∃t350:Int,∃t351:Bool,∃t352:Bool,∃t353:Option Addr,∃t354:Nat,∃t355:Nat,∃t356:ByteArray,∃t357:Option Addr,∃t358:Nat,∃t359:Nat,∃t360:Bool,∃t361:Bool,CellsAt w330 (⟨c,0,none⟩:Addr) [.int .i64 t350,.bool t351,.bool t352,.slice t353 t354 t355,.string t356,.slice t357 t358 t359,.bool t360,.bool t361]/\
Calls Tryz.prog 181 #[.slice (some p) ts.length tc,.agg #[.int .i64 t350,.bool t351,.bool t352,.slice t353 t354 t355,.string t356,.slice t357 t358 t359,.bool t360,.bool t361]] w330 λ e362 w363=>∃t364:Int,e362=.returned (.int .i64 t364)/\
R332 (decide (t364>pairs)) w363) (
R332 false w330)))/\∀(j367:Fr) (r365:Bool) (w366:World),R332 r365 w366->
bsel r365 (
Q (.int .i64 3) w366) (
Q (.int .i64 0) w366)):=by
  intro w2 vw hk2 hkd hbk hnv
  have hkids:∀(j:Nat) (k:Int),ks[j]?=some k->0<=k/\k<ts.length:=λ j k hj=>by
   unfold badK at hbk
   simp only [Bool.or_eq_false_iff] at hbk
   have h1:=List.any_eq_false.1 hbk.1 k (List.mem_of_getElem? hj)
   have:=kidBad_false (n:=0) (by simpa using h1)
   have hle:limit ts.length n t<=ts.length:=by unfold limit;split <;> omega
   exact ⟨this.1,by omega⟩
  have herr:errT ts mss its pairs n t ks=if bigB ts mss its pairs n t ks then 3 else 0:=by
   unfold errT
   rw [if_neg (by rw [hkd];decide),if_neg (by rw [hbk];decide),if_neg hnv]
  have hkeysmall:∀k ∈ keysL t ks,0<=k/\k<ts.length:=λ k hk=>by
   obtain ⟨j,hj⟩:=List.getElem?_of_mem hk
   exact hkids _ k (kid_of t ks hj).1
  have hsz:¬((Maps.size (seenD (keyTexts ts mss its (keysL t ks))):Int)>pairs):=by
   have h:Maps.size (seenD (keyTexts ts mss its (keysL t ks)))<=ts.length:=seen_small _ (keysL t ks) hkeysmall
   omega
  have hk02:=hk1.no hk2
  have hc2:=hk2.nblk hc1
  obtain ⟨⟨i1,i2,i3,i4⟩,i5⟩:=(hL.inp n t ht).1
  refine ⟨λ r w'=>r=bigB ts mss its pairs n t ks/\Keep No w1 w',⟨_,hc2.add 0 rfl,bsel_split (λ h4=>?_) λ h4=>⟨_,hc2.add 0 rfl,bsel_split (λ h3=>?_) λ h3=>?_⟩⟩,?_⟩
  ·have h4:t.kind=4:=by simpa using h4
   refine ⟨_,hc2.add 4 rfl,(C179_gen t.text htx w2).mono ?_⟩
   rintro _ w3 ⟨rfl,hk3⟩
   have e:bigB ts mss its pairs n t ks=decide ((Lib.runeCount t.text:Int)>65536):=by unfold bigB;rw [if_pos h4]
   refine ⟨_,rfl,bsel_split (λ h=>⟨by rw [e,h],hk2.no hk3⟩) λ h=>⟨_,(hk3.nblk hc2).add 0 rfl,bsel_neg (by simp [h4]) (bsel_neg (by simp [h4]) ⟨by rw [e,h],hk2.no hk3⟩)⟩⟩
  ·have h3:t.kind=3:=by simpa using h3
   refine ⟨_,_,_,_,hc2.cellsAdd 2 rfl,?_⟩
   rw [i2]
   refine (C180 (i1.no hk02) i3 i4).mono ?_
   rintro _ w3 ⟨y,rfl,hy,hk3⟩
   obtain ⟨va,vc,hya,_⟩:=hy.cells
   have e:bigB ts mss its pairs n t ks=decide (((trimmed (mss n)).length:Int)>256):=by unfold bigB;rw [if_neg (by omega),if_pos h3]
   refine ⟨_,_,_,_,by rw [hya],bsel_split (λ h=>⟨by rw [e,h],hk2.no hk3⟩) λ h=>bsel_neg (by simp [h3]) ⟨by rw [e,h],hk2.no hk3⟩⟩
  ·have h4:t.kind≠4:=by simpa using h4
   have h3:t.kind≠3:=by simpa using h3
   refine bsel_split (λ h5=>?_) λ h5=>?_
   ·have h5:=of_decide_eq_true h5
    refine ⟨_,_,_,hc2.add 5 rfl,?_,hk2⟩
    unfold bigB
    rw [if_neg h4,if_neg h3,if_pos h5]
   ·have h5:=of_decide_eq_false h5
    refine ⟨?_,hk2⟩
    unfold bigB
    rw [if_neg h4,if_neg h3,if_neg h5]
    exact (decide_eq_false hsz).symm
  ·rintro _ r w3 ⟨rfl,hk3⟩
   have hk03:=hk1.no hk3
   refine bsel_split (λ hb=>hQi _ _ (by rw [herr,if_pos hb]) hk03) λ hb=>?_
   have hend:∀w',Keep No w w'->Q (.int .i64 0) w':=λ w' hk=>hQi _ _ (by rw [herr,if_neg (by rw [hb];decide)]) hk
   have hc3:=hk3.nblk hc1
   have hpc:∀{K:Int->World->Prop},(∀n w',n<=pairs->Keep No w w'->K n w')->∃t333:Int,∃t334:Bool,∃t335:Bool,∃t336:Option Addr,∃t337:Nat,∃t338:Nat,∃t339:ByteArray,∃t340:Option Addr,∃t341:Nat,∃t342:Nat,∃t343:Bool,∃t344:Bool,CellsAt w3 (⟨c,0,none⟩:Addr) [.int .i64 t333,.bool t334,.bool t335,.slice t336 t337 t338,.string t339,.slice t340 t341 t342,.bool t343,.bool t344]/\
     Calls Tryz.prog 181 #[.slice (some p) ts.length tc,.agg #[.int .i64 t333,.bool t334,.bool t335,.slice t336 t337 t338,.string t339,.slice t340 t341 t342,.bool t343,.bool t344]] w3 λ e345 w346=>∃t347:Int,e345=.returned (.int .i64 t347)/\K t347 w346:=by
    intro K hK
    refine ⟨_,_,_,_,_,_,_,_,_,_,_,_,hc3.cells0,(C181_gen (hL1.no hk3) (hks1.no hk3) hkl hkids hlen).mono ?_⟩
    rintro _ w4 ⟨m,rfl,hm,hk4⟩
    exact ⟨_,rfl,hK _ _ (by omega) (hk03.no hk4)⟩
   refine ⟨λ r w'=>r=false/\Keep No w w',bsel_split (λ _=>hpc λ m w' hm hk=>⟨by simp;omega,hk⟩) λ _=>bsel_split (λ _=>hpc λ m w' hm hk=>⟨by simp;omega,hk⟩) λ _=>⟨rfl,hk03⟩,?_⟩
   rintro _ r w4 ⟨rfl,hk4⟩
   exact bsel_neg rfl (hend w4 hk4)
 have hJ1:∀(w2:World) (g:Bool),Keep No w1 w2->kindB t.kind=true->shapeR t=false->g=decide (t.kind=4/\Lib.validD t.text.data.toList=false)->
   V116J1 Q (some p) ts.length tc n pairs ⟨c,0,none⟩ (decide (15<=t.kind/\t.kind<=17)) (t.kind == 7) (decide (t.kind=8\/t.kind=9)) (decide (t.kind=5\/t.kind=6)) g w2:=by
  intro w2 g hk2 hkd hsh hg
  unfold V116J1
  have hbad:badK ts n t ks=true->∀w',Keep No w w'->Q (.int .i64 1) w':=λ hb w' hk=>hQi _ _ (by unfold errT;rw [if_neg (by rw [hkd];decide),if_pos hb]) hk
  refine bsel_split (λ hg1=>?_) λ hg1=>?_
  ·have hg2:=of_decide_eq_true (hg.symm.trans hg1)
   refine hQi _ _ ?_ (hk1.no hk2)
   unfold errT
   rw [if_neg (by rw [hkd];decide)]
   by_cases hb:badK ts n t ks=true
   ·rw [if_pos hb]
   ·rw [if_neg hb,if_pos hg2]
  have hnv:=of_decide_eq_false (hg.symm.trans hg1)
  refine ⟨λ i w'=>0<=i/\i<=t.kl/\(∀(j:Nat) (k:Int),(j:Int)<i->ks[j]?=some k->¬kidR ts n t j k)/\Keep No w2 w',λ i _=>(t.kl-i).toNat,⟨by omega,by omega,λ j k hj=>by omega,Keep.refl _ _⟩,?_⟩
  rintro jj i w3 ⟨hi0,hil,hall,hk3⟩
  have hk13:=hk2.no hk3
  have hk03:=hk1.no hk13
  have hc3:=hk13.nblk hc1
  refine ⟨_,_,_,hc3.add 5 rfl,bsel_split (λ hlt=>?_) λ hge=>?_⟩
  ·have hlt:i<t.kl:=by simpa using hlt
   obtain ⟨m,rfl⟩:=Int.eq_ofNat_of_zero_le hi0
   obtain ⟨k,hkm⟩:∃k,ks[m]?=some k:=⟨_,List.getElem?_eq_getElem (by omega)⟩
   obtain ⟨q,hq,hqc⟩:=(hks1.no hk13).2 m k hkm
   have hts3:=(hL1.no hk13).tm
   refine ⟨_,_,_,hc3.add 5 rfl,?_⟩
   rw [hq]
   refine idxK_of (by omega) ⟨k,by rw [Nat.mul_one];exact hqc,λ r w'=>w'=w3/\(r=true->kidR ts n t m k)/\(r=false->0<=k/\k<ts.length/\((n:Int)<=k->t.kind=6)/\(15<=t.kind/\t.kind<=17->∃u,ts[k.toNat]?=some u/\u.kind=7)),?_,?_⟩
   ·have hview:0<=k->k<ts.length->((n:Int)<=k->t.kind=6)->bsel (decide (15<=t.kind/\t.kind<=17)) (
      idxK (some p) ts.length k 8 λ a195=>
      ∃t196:Int,w3.cell? (a195.add 0)=some (.int .i64 t196)/\
      (w3=w3/\((t196 != 7)=true->kidR ts n t m k)/\((t196 != 7)=false->0<=k/\k<ts.length/\((n:Int)<=k->t.kind=6)/\(15<=t.kind/\t.kind<=17->∃u,ts[k.toNat]?=some u/\u.kind=7)))) (
      w3=w3/\(false=true->kidR ts n t m k)/\(false=false->0<=k/\k<ts.length/\((n:Int)<=k->t.kind=6)/\(15<=t.kind/\t.kind<=17->∃u,ts[k.toNat]?=some u/\u.kind=7))):=by
     intro h0 h1 h2
     refine bsel_split (λ hv=>?_) λ hv=>⟨rfl,λ h=>(by cases h),λ _=>⟨h0,h1,h2,λ h=>absurd h (of_decide_eq_false hv)⟩⟩
     have hv:=of_decide_eq_true hv
     obtain ⟨x,rfl⟩:=Int.eq_ofNat_of_zero_le h0
     have hx:x<ts.length:=by omega
     obtain ⟨u,hu⟩:∃u,ts[x]?=some u:=⟨_,List.getElem?_eq_getElem hx⟩
     obtain ⟨p',hp',hcu⟩:=hts3 _ u hu
     cases hp'
     refine idxK_of hx ⟨u.kind,(cellsFrom_cons.1 hcu).1,rfl,λ h=>?_,λ h=>⟨h0,h1,h2,λ _=>⟨u,by simpa using hu,by simpa using h⟩⟩⟩
     refine .inr (.inr (.inr (.inl ⟨hv,λ u' hu'=>?_⟩)))
     simp only [Int.toNat_natCast] at hu'
     rw [hu] at hu'
     cases hu'
     simpa using h
    refine bsel_split (λ h=>⟨rfl,λ _=>.inl (by simpa using h),λ h=>by cases h⟩) λ h=>bsel_split (λ h2=>⟨rfl,λ _=>.inr (.inl (by simpa using h2)),λ h=>by cases h⟩) λ h2=>?_
    have h:0<=k:=by simp at h;omega
    have h2:k<ts.length:=by simp at h2;omega
    refine bsel_split (λ h3=>⟨_,hc3.add 0 rfl,bsel_split (λ h6=>⟨rfl,λ _=>.inr (.inr (.inl ⟨by simpa using h3,by simpa using h6⟩)),λ h=>by cases h⟩) λ h6=>hview h h2 λ _=>by simpa using h6⟩) λ h3=>hview h h2 λ hc=>by simp at h3;omega
   rintro _ r w4 ⟨rfl,hr1,hr2⟩
   refine bsel_split (λ hr=>hbad (badK_of_kid hn hklen hsh hkm (hr1 hr)) _ hk03) λ hr=>?_
   obtain ⟨f1,f2,f3,f4⟩:=hr2 hr
   obtain ⟨x,rfl⟩:=Int.eq_ofNat_of_zero_le f1
   have hx:x<ts.length:=by omega
   obtain ⟨u,hu⟩:∃u,ts[x]?=some u:=⟨_,List.getElem?_eq_getElem hx⟩
   have hnext:∀w',Keep No w4 w'->(((t.kind=8\/t.kind=9)\/(t.kind=7/\m % 2=0))->isKeyB u=true)->
     ((0<=IntKind.wrap .i64 ((m:Int)+1)/\IntKind.wrap .i64 ((m:Int)+1)<=t.kl/\(∀(j:Nat) (k:Int),(j:Int)<IntKind.wrap .i64 ((m:Int)+1)->ks[j]?=some k->¬kidR ts n t j k)/\Keep No w2 w')/\(t.kl-IntKind.wrap .i64 ((m:Int)+1)).toNat<((t.kl:Int)-(m:Int)).toNat):=by
    intro w' hk hkey
    rw [wrap_i64 (by omega)]
    refine ⟨⟨by omega,by omega,λ j k' hj hk'=>?_,hk3.no hk⟩,by omega⟩
    by_cases hjm:(j:Int)<m
    ·exact hall j k' hjm hk'
    ·have:j=m:=by omega
     subst this
     rw [hkm] at hk'
     cases hk'
     rintro (h | h | ⟨h,h6⟩ | ⟨hv,h⟩ | ⟨hp,h⟩)
     ·omega
     ·omega
     ·exact h6 (f3 h)
     ·obtain ⟨u',hu',hk7⟩:=f4 hv
      exact h u' hu' hk7
     ·have:=h u (by simpa using hu)
      rw [hkey hp] at this
      cases this
   refine ⟨λ r w'=>r=decide ((t.kind=8\/t.kind=9)\/(t.kind=7/\m % 2=0))/\w'=w4,?_,?_⟩
   ·refine bsel_split (λ hs=>⟨(decide_eq_true (.inl (of_decide_eq_true hs))).symm,rfl⟩) λ hs=>bsel_split (λ h7=>⟨by decide,?_,rfl⟩) λ h7=>⟨(decide_eq_false ?_).symm,rfl⟩
    ·have h7:t.kind=7:=by simpa using h7
     rw [tmod2,Bool.eq_iff_iff,decide_eq_true_iff]
     simp [h7]
     omega
    ·have hs:=of_decide_eq_false hs
     have h7:t.kind≠7:=by simpa using h7
     omega
   rintro _ r w5 ⟨rfl,rfl⟩
   refine bsel_split (λ hp=>?_) λ hp=>hnext _ (Keep.refl _ _) λ h=>absurd h (of_decide_eq_false hp)
   have hp:=of_decide_eq_true hp
   obtain ⟨p',hp',hcu⟩:=hts3 _ u hu
   cases hp'
   refine idxK_of hx ⟨_,_,_,_,_,_,_,_,_,_,_,_,hcu,termCopy λ d w6 hd hk6 hds=>⟨λ r w'=>r=!isKeyB u/\w'=w6,?_,?_⟩⟩
   ·have h14:¬(1<=u.kind/\u.kind<=4)->∃t259:Int,w6.cell? ((⟨d,0,none⟩:Addr).add 0)=some (.int .i64 t259)/\
      bsel (t259 == 14) (
      ∃t260:Bool,w6.cell? ((⟨d,0,none⟩:Addr).add 6)=some (.bool t260)/\
      bsel t260 (false=(!isKeyB u)/\w6=w6) (
      ∃t261:Bool,w6.cell? ((⟨d,0,none⟩:Addr).add 7)=some (.bool t261)/\
      ((!(!t261))=(!isKeyB u)/\w6=w6))) (
      true=(!isKeyB u)/\w6=w6):=by
     intro h14
     have e1:(decide (1<=u.kind) && decide (u.kind<=4))=false:=by rw [Bool.and_eq_false_iff];simp;omega
     refine ⟨_,hd.add 0 rfl,bsel_split (λ h=>⟨_,hd.add 6 rfl,bsel_split (λ hh=>⟨?_,rfl⟩) λ hh=>⟨_,hd.add 7 rfl,?_,rfl⟩⟩) λ h=>⟨?_,rfl⟩⟩
     ·unfold isKeyB;rw [e1,h,hh];rfl
     ·unfold isKeyB;rw [e1,h,hh];simp
     ·unfold isKeyB;rw [e1,h];rfl
    refine ⟨_,hd.add 0 rfl,bsel_split (λ ha=>⟨_,hd.add 0 rfl,bsel_split (λ hb=>⟨?_,rfl⟩) λ hb=>h14 (by simp at ha hb;omega)⟩) λ ha=>h14 (by simp at ha;omega)⟩
    unfold isKeyB
    simp at ha hb
    simp [ha,hb]
   rintro _ r w7 ⟨rfl,rfl⟩
   refine bsel_split (λ hb=>?_) λ hb=>hnext _ hk6 λ _=>by simpa using hb
   have hb:isKeyB u=false:=by simpa using hb
   refine hbad (badK_of_kid hn hklen hsh hkm ?_) _ (hk03.no hk6)
   refine .inr (.inr (.inr (.inr ⟨hp,λ u' hu'=>?_⟩)))
   simp only [Int.toNat_natCast] at hu'
   rw [hu] at hu'
   cases hu'
   exact hb
  ·have hil:i=t.kl:=by simp at hge;omega
   subst hil
   have hbk:=badK_none hklen hkd hsh (λ j k hj=>hall j k (by have:=(List.getElem?_eq_some_iff.1 hj).1;omega) hj) hn
   exact hbig w3 _ hk13 hkd hbk hnv
 have hJ2:kindB t.kind=true->V116J2 Q (some p) ts.length tc n pairs ⟨c,0,none⟩ (decide (15<=t.kind/\t.kind<=17)) (t.kind == 7) (decide (t.kind=8\/t.kind=9)) w1:=by
  intro hkd
  unfold V116J2
  refine ⟨λ r w'=>r=decide (t.kind=5\/t.kind=6)/\w'=w1,⟨_,hc1.add 0 rfl,bsel_split (λ h5=>⟨?_,rfl⟩) λ h5=>⟨_,hc1.add 0 rfl,?_,rfl⟩⟩,?_⟩
  ·have h5:t.kind=5:=by simpa using h5
   simp [h5]
  ·have h5:¬t.kind=5:=by simpa using h5
   by_cases h6:t.kind=6 <;> simp [h5,h6]
  rintro _ r w2 ⟨rfl,rfl⟩
  refine ⟨λ r w'=>r=shapeR t/\w'=w2,?_,?_⟩
  ·refine ⟨_,_,_,hc1.add 5 rfl,?_⟩
   rw [show (!(t.kind == 7))=decide (t.kind≠7) by by_cases h:t.kind=7 <;> simp [h],show (!decide (t.kind=8\/t.kind=9))=decide (¬(t.kind=8\/t.kind=9)) by rw [decide_not],show (!decide (t.kind=5\/t.kind=6))=decide (¬(t.kind=5\/t.kind=6)) by rw [decide_not],show (!decide (15<=t.kind/\t.kind<=17))=decide (¬(15<=t.kind/\t.kind<=17)) by rw [decide_not],show (t.kind == 7)=decide (t.kind=7) by by_cases h:t.kind=7 <;> simp [h]]
   have hview:t.kind≠7->(0<t.kl->t.kind=8\/t.kind=9\/t.kind=5\/t.kind=6\/(15<=t.kind/\t.kind<=17))->bsel (decide (15<=t.kind/\t.kind<=17)) (∃t104:Option Addr,∃t105:Nat,∃t106:Nat,w2.cell? ((⟨c,0,none⟩:Addr).add 5)=some (.slice t104 t105 t106)/\(((t105:Int) != 1)=shapeR t/\w2=w2)) (false=shapeR t/\w2=w2):=by
    intro h7 h0
    refine bsel_split (λ hv=>⟨_,_,_,hc1.add 5 rfl,?_,rfl⟩) λ hv=>⟨?_,rfl⟩
    ·have hv:=of_decide_eq_true hv
     unfold shapeR
     rw [Bool.eq_iff_iff,decide_eq_true_iff]
     simp only [bne_iff_ne]
     omega
    ·have hv:=of_decide_eq_false hv
     unfold shapeR
     symm
     exact decide_eq_false (by omega)
   have hd:(0<t.kl->t.kind=7\/t.kind=8\/t.kind=9\/t.kind=5\/t.kind=6\/(15<=t.kind/\t.kind<=17))->bsel (decide (t.kind=7)) (∃t101:Option Addr,∃t102:Nat,∃t103:Nat,w2.cell? ((⟨c,0,none⟩:Addr).add 5)=some (.slice t101 t102 t103)/\
     ((2:Int)≠0)/\bsel (Int.tmod (t102:Int) 2 != 0) (true=shapeR t/\w2=w2) (bsel (decide (15<=t.kind/\t.kind<=17)) (∃t104:Option Addr,∃t105:Nat,∃t106:Nat,w2.cell? ((⟨c,0,none⟩:Addr).add 5)=some (.slice t104 t105 t106)/\(((t105:Int) != 1)=shapeR t/\w2=w2)) (false=shapeR t/\w2=w2))) (bsel (decide (15<=t.kind/\t.kind<=17)) (∃t104:Option Addr,∃t105:Nat,∃t106:Nat,w2.cell? ((⟨c,0,none⟩:Addr).add 5)=some (.slice t104 t105 t106)/\(((t105:Int) != 1)=shapeR t/\w2=w2)) (false=shapeR t/\w2=w2)):=by
    intro h0
    refine bsel_split (λ h7=>⟨_,_,_,hc1.add 5 rfl,by decide,bsel_split (λ ho=>⟨?_,rfl⟩) λ ho=>bsel_neg (decide_eq_false ?_) ⟨?_,rfl⟩⟩) λ h7=>hview (of_decide_eq_false h7) λ h=>by have:=h0 h;have:=of_decide_eq_false h7;omega
    ·have h7:=of_decide_eq_true h7
     rw [tmod2] at ho
     simp only [bne_iff_ne] at ho
     unfold shapeR
     symm
     exact decide_eq_true (by omega)
    ·have h7:=of_decide_eq_true h7
     omega
    ·have h7:=of_decide_eq_true h7
     rw [tmod2] at ho
     have ho:((t.kl % 2:Nat):Int)=0:=by simpa using ho
     unfold shapeR
     symm
     exact decide_eq_false (by omega)
   refine bsel_split (λ h0=>bsel_split (λ a=>bsel_split (λ b=>bsel_split (λ d=>bsel_split (λ v=>⟨?_,rfl⟩) λ v=>hd λ _=>?_) λ d=>hd λ _=>?_) λ b=>hd λ _=>?_) λ a=>hd λ _=>?_) λ h0=>hd λ h=>by simp at h0;omega
   ·have h0:(0:Int)<t.kl:=of_decide_eq_true h0
    have a:=of_decide_eq_true a
    have b:=of_decide_eq_true b
    have d:=of_decide_eq_true d
    have v:=of_decide_eq_true v
    unfold shapeR
    symm
    exact decide_eq_true (.inl ⟨by omega,a,b,d,v⟩)
   ·have v:=of_decide_eq_false v;omega
   ·have d:=of_decide_eq_false d;omega
   ·have b:=of_decide_eq_false b;omega
   ·have a:=of_decide_eq_false a;omega
  rintro _ r w3 ⟨rfl,rfl⟩
  refine bsel_split (λ hs=>hQi _ _ (by unfold errT;rw [if_neg (by rw [hkd];decide),if_pos (badK_of_shape hklen hkd hs)]) hk1) λ hs=>⟨_,hc1.add 0 rfl,bsel_split (λ h4=>?_) λ h4=>?_⟩
  ·have h4:t.kind=4:=by simpa using h4
   refine ⟨_,hc1.add 4 rfl,(C178_gen t.text htx w3).mono ?_⟩
   rintro _ w4 ⟨rfl,hk4⟩
   refine ⟨_,rfl,hJ1 w4 _ hk4 hkd hs ?_⟩
   cases hv:Lib.validD t.text.data.toList <;> simp [h4]
  ·have h4:t.kind≠4:=by simpa using h4
   exact hJ1 w3 _ (Keep.refl _ _) hkd hs (by simp [h4])
 have hJ3:V116J3 Q (some p) ts.length tc n pairs ⟨c,0,none⟩ (decide (15<=t.kind/\t.kind<=17)) w1:=by
  unfold V116J3
  refine ⟨λ r w'=>r=!kindB t.kind/\w'=w1,?_,?_⟩
  ·have h14:¬(1<=t.kind/\t.kind<=9)->∃t51:Int,w1.cell? ((⟨c,0,none⟩:Addr).add 0)=some (.int .i64 t51)/\bsel (t51 == 14) (false=(!kindB t.kind)/\w1=w1) ((!decide (15<=t.kind/\t.kind<=17))=(!kindB t.kind)/\w1=w1):=by
    intro h
    refine ⟨_,hc1.add 0 rfl,bsel_split (λ h14=>⟨?_,rfl⟩) λ h14=>⟨?_,rfl⟩⟩
    ·have h14:t.kind=14:=by simpa using h14
     unfold kindB
     simp [h14]
    ·have h14:t.kind≠14:=by simpa using h14
     unfold kindB
     congr 1
     rw [Bool.eq_iff_iff,decide_eq_true_iff,decide_eq_true_iff]
     omega
   refine ⟨_,hc1.add 0 rfl,bsel_split (λ ha=>⟨_,hc1.add 0 rfl,bsel_split (λ hb=>⟨?_,rfl⟩) λ hb=>h14 (by simp at ha hb;omega)⟩) λ ha=>h14 (by simp at ha;omega)⟩
   have ha:=of_decide_eq_true ha
   have hb:=of_decide_eq_true hb
   have:kindB t.kind=true:=decide_eq_true (.inl ⟨ha,hb⟩)
   rw [this];rfl
  rintro _ r w2 ⟨rfl,rfl⟩
  refine bsel_split (λ hk=>hQi _ _ ?_ hk1) λ hk=>?_
  ·unfold errT
   rw [if_pos (by simpa using hk)]
  ·have hkd:kindB t.kind=true:=by simpa using hk
   refine ⟨_,hc1.add 0 rfl,_,hc1.add 0 rfl,bsel_split (λ h8=>?_) λ h8=>⟨_,hc1.add 0 rfl,?_⟩⟩
   ·have h8:t.kind=8:=by simpa using h8
    have:=hJ2 hkd
    rwa [show decide (t.kind=8\/t.kind=9)=true by simp [h8]] at this
   ·have h8:t.kind≠8:=by simpa using h8
    have:=hJ2 hkd
    rwa [show decide (t.kind=8\/t.kind=9)=(t.kind == 9) by by_cases h9:t.kind=9 <;> simp [h8,h9]] at this
 refine bsel_split (λ h=>⟨_,hc1.add 0 rfl,?_⟩) λ h=>?_
 ·have h:=of_decide_eq_true h
  rwa [show decide (15<=t.kind/\t.kind<=17)=decide (t.kind<=17) by rw [Bool.eq_iff_iff,decide_eq_true_iff,decide_eq_true_iff];omega] at hJ3
 ·have h:=of_decide_eq_false h
  rwa [show decide (15<=t.kind/\t.kind<=17)=false by exact decide_eq_false (by omega)] at hJ3
end
end Go.Fw

namespace Go.Fw
open Go.Proofs Go.RowKit
end Go.Fw

namespace Go.Fw
open Go.Proofs Go.RowKit
section
variable {w:World} {r B:Nat} {R:RR} {L:List RV} {last:Int} {ta:Option Addr} {tc:Nat} {ts:List Tm}
end
end Go.Fw

namespace Go.Fw
open Go.Proofs Go.RowKit
theorem C65g {pa sh:Int} (h1:0<=pa/\pa<=65536) (h2:0<=sh/\sh<=256) (w:World) :
  Calls Tryz.prog 65 #[.agg #[.int .i64 0,.int .i64 pa,.int .i64 sh,.slice none 0 0,.slice none 0 0]] w λ e w'=>∃r m,e=.returned (.tuple #[.pointer (some ⟨r,0,none⟩),.int .i64 0])/\GSt w' r w.heap.size ⟨pa,sh,m⟩ g0 0/\w.heap.size<=m/\Keep No w w':=by
 refine ret_mono (V65_sound 0 pa sh none 0 0 none 0 0 w (λ x w'=>∃r m,x=.tuple #[.pointer (some ⟨r,0,none⟩),.int .i64 0]/\GSt w' r w.heap.size ⟨pa,sh,m⟩ g0 0/\w.heap.size<=m/\Keep No w w') ?_) (by rintro _ _ ⟨r,m,rfl,h⟩;exact ⟨r,m,rfl,h⟩)
 unfold V65
 refine newK_of λ b w1 hs1 hb1 hk1=>⟨_,hb1.add 0 rfl,bsel_neg (by decide) ⟨_,hb1.add 0 rfl,bsel_neg (by decide) ⟨_,hb1.add 1 rfl,bsel_neg (by simp;omega) ⟨_,hb1.add 1 rfl,bsel_neg (by simp;omega) ⟨_,hb1.add 2 rfl,bsel_neg (by simp;omega) ⟨_,hb1.add 2 rfl,?_⟩⟩⟩⟩⟩⟩
 rw [show decide (sh>256)=false by simp;omega]
 unfold V65J1
 refine bsel_neg rfl ⟨_,_,_,_,_,_,_,_,_,hb1.cells0,newK_of λ m w2 hs2 hb2 hk2=>newK_of λ r w3 hs3 hb3 hk3=>⟨_,_,_,hb3.add 0 rfl,newK_of λ b4 w4 hs4 hb4 hk4=>?_⟩⟩
 have hk04:=((hk1.no hk2).no hk3).no hk4
 have hr4:=hk4.nblk hb3
 have hm4:=hk4.nblk (hk3.nblk hb2)
 obtain ⟨i,z,hi,hz,hsz,hzs,hb0,hb9⟩:=infoVal
 refine appendN (P:=Tryz.prog) (t:=218) (e:=226) Tryz.underlying218 hi hz hsz rfl hzs (by decide) (base:=w.heap.size) (World.ownsRow_nil _ _ _ _) (m:=3) hb4 rfl ?_ (by decide) (by omega) hb0 hk04.size λ g cap w5 hrow hk5 hat=>?_
 ·intro u hu
  have:∀l:List Value,l.all (λ v=>v.oneCell')=true->∀u ∈ l,u.oneCell'=true:=λ l h=>List.all_eq_true.1 h
  exact this _ (by decide) u hu
 have hk45:Keep No w4 w5:=hk5.mono λ k _ e=>by simp [Value.ownBlock] at e
 have hr5:=hk45.nblk hr4
 have hm5:=hk45.nblk hm4
 have s1:=hk1.size
 have s2:=hk2.size
 refine stK_add hr5 (by simp) λ w6 hr6 hk6=>⟨r,m,rfl,⟨⟨_,hr6,?_⟩,by decide,by omega,⟨0,0,_,hk6.blk hm5 ?_⟩⟩,by omega,(hk04.no hk45).news hk6 (by rintro k rfl;omega)⟩
 ·have:=hk6.row hrow λ g' hg' e=>ownsRow_ne hrow hr5 (by decide) (e ▸ hg')
  exact this
 ·intro e
  have:=hr5.etype
  have h9:=hm5.etype
  rw [show m=r from e,this] at h9
  cases h9
theorem GM.start {w:World} {r B:Nat} {P:GP} {A:Nat->Prop} (ts:List Tm) (mss kss:Nat->List Int) (h:GSt w r B P g0 0) (hm:B<=P.mc):GM w r B P A ts mss kss 0 g0 0:=
 ⟨by omega,h,rfl,rfl,⟨[],by simp⟩,hm,λ x t _ hx=>by omega,λ x t _ hx=>by omega⟩
structure GFin (w:World) (r B:Nat) (P:GP) (A:Nat->Prop) (ts:List Tm) (mss kss:Nat->List Int) (L:List GV) (last:Int):Prop where
 st:GSt w r B P L last
 len:L.length=3+cV ts ts.length
 last:last=cO ts ts.length
 pre:∃l,L=g0 ++ l
 mcge:B<=P.mc
 val:∀x t,ts[x]?=some t->∃v v',L[gref ts x]?=some v'/\GIs w B P A ts mss (kss x) x t v/\(t.kind≠6->v'=v)/\(t.kind=6->∃a l c,v'={ v with ia:=a,il:=l,ic:=c }/\w.ownsRow B 3 1 (.slice a l c) t.kl (ints ((kss x).map λ k=>(gref ts k.toNat:Int))))
 cls:∀x t,ts[x]?=some t->t.kind=14->∃u,L[gref ts x-1]?=some u/\GCls w B P A ts x t u
def cnt3 (i j x kl:Nat):Nat:=if x<i then kl else if x=i then j else 0
structure GFill (w0 w:World) (r B:Nat) (P:GP) (ts:List Tm) (kss:Nat->List Int) (L:List GV) (last:Int) (g:Nat) (i j:Nat) (L':List GV):Prop where
 st:GSt w r B P L' last
 keep:Keep (λ k=>k=g) w0 w
 len:L'.length=L.length
 other:∀(n:Nat) (v:GV),L[n]?=some v->v.kind≠6->L'[n]?=some v
 lists:∀(n:Nat) (v:GV),L[n]?=some v->v.kind=6->∃a l c,L'[n]?=some { v with ia:=a,il:=l,ic:=c }
 rows:∀x t,ts[x]?=some t->t.kind=6->∃v,L'[gref ts x]?=some v/\v.il=cnt3 i j x t.kl/\w.ownsRow w0.heap.size 3 1 (.slice v.ia v.il v.ic) (cnt3 i j x t.kl) (ints (((kss x).take (cnt3 i j x t.kl)).map λ k=>(gref ts k.toNat:Int)))
 apart:∀x y t u v v',ts[x]?=some t->ts[y]?=some u->x≠y->t.kind=6->u.kind=6->L'[gref ts x]?=some v->L'[gref ts y]?=some v'->∀b,(Value.slice v.ia v.il v.ic).ownBlock=some b->(Value.slice v'.ia v'.il v'.ic).ownBlock≠some b
section
variable {w0 w:World} {r B:Nat} {P:GP} {A:Nat->Prop} {ts:List Tm} {mss kss:Nat->List Int} {L L':List GV} {last:Int} {g i j:Nat}
theorem GFill.next (h:GFill w0 w r B P ts kss L last g i j L') (hj:∀t,ts[i]?=some t->t.kind=6->j=t.kl):GFill w0 w r B P ts kss L last g (i+1) 0 L':=by
 refine ⟨h.st,h.keep,h.len,h.other,h.lists,λ x t ht h6=>?_,h.apart⟩
 have:cnt3 (i+1) 0 x t.kl=cnt3 i j x t.kl:=by
  unfold cnt3
  by_cases h1:x<i
  ·rw [if_pos (by omega),if_pos h1]
  ·by_cases h2:x=i
   ·subst h2
    rw [if_pos (by omega),if_neg h1,if_pos rfl,hj t ht h6]
   ·rw [if_neg (by omega),if_neg h1,if_neg h2];split <;> rfl
 rw [this]
 exact h.rows x t ht h6
theorem gref_inj {x y:Nat} {t u:Tm} (ht:ts[x]?=some t) (hu:ts[y]?=some u) (h1:¬(t.kind=1\/t.kind=2)) (h2:¬(u.kind=1\/u.kind=2)) (h:gref ts x=gref ts y):x=y:=by
 rcases Nat.lt_trichotomy x y with hc | hc | hc
 ·have:=gref_lt ht hu hc h1 h2;omega
 ·exact hc
 ·have:=gref_lt hu ht hc h2 h1;omega
theorem cnt3_self (i j kl:Nat):cnt3 i j i kl=j:=by unfold cnt3;rw [if_neg (by omega),if_pos rfl]
theorem cnt3_ne {i j x kl:Nat} (h:x≠i) (j':Nat):cnt3 i j x kl=cnt3 i j' x kl:=by unfold cnt3;rw [if_neg h,if_neg h]
theorem GFill.step {W:World} (hM:GM W r B P A ts mss kss ts.length L last) {g:Nat} {gcap:Nat} (hg:W.cell? ((⟨r,0,none⟩:Addr).add 0)=some (.slice (some ⟨g,0,none⟩) L.length gcap)) (hgt:etype W g=some 226) (h:GFill W w r B P ts kss L last g i j L') {t:Tm} (ht:ts[i]?=some t) (h6:t.kind=6) (hj:j<t.kl) (hkl:t.kl<100000000000) {k:Int} (hk:(kss i)[j]?=some k) :
  ∃(v:GV),w.cell? ((⟨r,0,none⟩:Addr).add 0)=some (.slice (some ⟨g,0,none⟩) L.length gcap)/\gref ts i<L.length/\w.cell? (((⟨g,0,none⟩:Addr).add (gref ts i*22)).add 7)=some (.slice v.ia v.il v.ic)/\v.il=j/\
   ∀(w3:World) (b:Nat),Keep No w w3->Blk w3 b 3 [.int .i64 (gref ts k.toNat)]->∀(K:World->Option Addr->Nat->Nat->Prop),
    (∀w4 a l c,(∀(q:Value) (x:Addr),etype W x.block≠some 226->x.block<W.heap.size->w3.cell? x=some q->w4.cell? x=some q)->
     ((∀K':World->Prop,(∀w5 L'',GFill W w5 r B P ts kss L last g i (j+1) L''->K' w5)->stK w4 (((⟨g,0,none⟩:Addr).add (gref ts i*22)).add 7) (.slice a l c) K'))->K w4 a l c)->
    ∃w4:World,∃a:Option Addr,∃l:Nat,∃c:Nat,(vcEff.bltV .append #[30,30] 30 #[.slice v.ia v.il v.ic,.slice (some ⟨b,0,none⟩) 1 1]).run Tryz.prog w3=.ok (.slice a l c) w4/\K w4 a l c:=by
 have hrg:r≠g:=by
  intro e
  rw [<-e,hM.st.etype] at hgt
  cases hgt
 have hgB:∀{x:Nat},etype W x≠some 226->x<W.heap.size->x≠g:=λ he _ e=>he (e ▸ hgt)
 obtain ⟨v0,q0,qI⟩:=hM.val i t ht (List.getElem?_eq_some_iff.1 ht).1
 obtain ⟨v,hv,hvl,hrow⟩:=h.rows i t ht h6
 rw [cnt3_self] at hvl hrow
 subst hvl
 obtain ⟨⟨lv0,hb0,_⟩,_⟩:=id hM.st
 have hc0:w.cell? ((⟨r,0,none⟩:Addr).add 0)=some (.slice (some ⟨g,0,none⟩) L.length gcap):=h.keep.cell hg λ e=>hrg (by rw [add_block] at e;exact e)
 obtain ⟨g',cap',z1,z2,z3⟩:=h.st.at hv
 rw [h.len] at z1 z2
 rw [hc0] at z1
 cases z1
 refine ⟨v,hc0,z2,z3.get 7 rfl,rfl,λ w3 b hk3 hb3 K hK=>?_⟩
 have hs:=h.keep.size
 have hs3:=hk3.size
 have hrow3:=hk3.nrow hrow
 have hst3:=h.st.no hk3
 refine appendRow rowInts hrow3 hb3 rfl (by omega) (by omega) λ gn capn w4 hrow4 hk4 hat=>?_
 have hown:∀{x:Nat},(Value.slice v.ia v.il v.ic).ownBlock=some x->W.heap.size<=x/\x<w3.heap.size/\etype w3 x=some 3:=λ e=>by
  exact ⟨(hrow3.lt _ e).1,(hrow3.lt _ e).2,ownsRow_etype hrow3 e⟩
 have hst4:GSt w4 r B P L' last:=hst3.keep hk4 λ k hf e he hm=>by
  rw [(hown hf).2.2] at he
  cases he
  revert hm
  decide
 have hgn:W.heap.size<=gn:=by
  rcases hat with e | e
  ·exact (hown e).1
  ·omega
 refine hK w4 (some ⟨gn,0,none⟩) (v.il+1) capn (λ q x hx hlt hc=>hk4.cell hc λ e=>by have:=(hown e).1;omega) λ K' hK'=>?_
 obtain ⟨v',hv'⟩:∃v':GV,v'={ v with ia:=some ⟨gn,0,none⟩,il:=v.il+1,ic:=capn }:=⟨_,rfl⟩
 obtain ⟨g',cap',y1,y2,y3,y4,y5⟩:=hst4.stField (k:=7) (u':=v') (val:=.slice (some ⟨gn,0,none⟩) (v.il+1) capn) hv (by decide) (by rw [hv'];rfl)
 have hc4:w4.cell? ((⟨r,0,none⟩:Addr).add 0)=some (.slice (some ⟨g,0,none⟩) L.length gcap):=hk4.cell (hk3.cell hc0 id) λ e=>by
  rw [add_block] at e
  have:=(hown e).2.2
  rw [hst3.etype] at this
  cases this
 rw [hc4,h.len] at y1
 cases y1
 refine y5 K' λ w5 h5 hk5=>hK' w5 (L'.set (gref ts i) v') ?_
 have hgn5:gn≠g:=by
  intro e
  have:=ownsRow_etype hrow4 (g:=gn) rfl
  rw [e,y3] at this
  cases this
 have hgx:g<W.heap.size:=by
  unfold etype at hgt
  rcases Nat.lt_or_ge g W.heap.size with hh | hh
  ·exact hh
  ·rw [Array.getElem?_eq_none hh] at hgt;cases hgt
 have hrow5:w5.ownsRow W.heap.size 3 1 (.slice (some ⟨gn,0,none⟩) (v.il+1) capn) (v.il+1) (ints (((kss i).take v.il).map λ k=>(gref ts k.toNat:Int)) ++ [.int .i64 (gref ts k.toNat)]):=hk5.row hrow4 λ x hx e=>by
  have:gn=x:=by simpa [Value.ownBlock] using hx
  omega
 have hother:∀x u v2,x≠i->ts[x]?=some u->u.kind=6->L'[gref ts x]?=some v2->(L'.set (gref ts i) v')[gref ts x]?=some v2:=by
  intro x u v2 hx hu hu6 hv2
  rw [List.getElem?_set]
  rw [if_neg]
  ·exact hv2
  ·intro e
   exact hx (gref_inj ht hu (by omega) (by omega) e).symm
 have hself:(L'.set (gref ts i) v')[gref ts i]?=some v':=by
  rw [List.getElem?_set,if_pos rfl,if_pos (by omega)]
 have hv0k:v0.kind=6:=by rw [qI.kind,h6]
 refine ⟨h5,?_,by simp [h.len],λ n u hu hn6=>?_,λ n u hu hn6=>?_,λ x u hu hu6=>?_,?_⟩
 ·refine ((h.keep.no hk3).trans hk4 λ k hk hf=>by have:=(hown hf).1;omega).trans hk5 λ k _ e=>e
 ·have hne:gref ts i≠n:=λ e=>by
   rw [e,hu] at q0
   cases q0
   exact hn6 hv0k
  rw [List.getElem?_set,if_neg hne]
  exact h.other n u hu hn6
 ·by_cases hne:gref ts i=n
  ·subst hne
   obtain ⟨a,l,c,hx⟩:=h.lists _ u hu hn6
   rw [hv] at hx
   cases hx
   exact ⟨_,_,_,by rw [hself,hv']⟩
  ·rw [List.getElem?_set,if_neg hne]
   exact h.lists n u hu hn6
 ·by_cases hx:x=i
  ·subst hx
   rw [ht] at hu
   cases hu
   refine ⟨v',hself,by rw [cnt3_self,hv'],?_⟩
   rw [cnt3_self,List.take_add_one,hk,hv']
   simpa [ints] using hrow5
  ·obtain ⟨v2,r1,r2,r3⟩:=h.rows x u hu hu6
   rw [cnt3_ne hx (v.il+1)] at r2 r3
   refine ⟨v2,hother x u v2 hx hu hu6 r1,r2,?_⟩
   refine hk5.row (hk4.row (hk3.nrow r3) λ b hb e=>?_) λ b hb e=>?_
   ·exact h.apart i x t u v v2 ht hu (Ne.symm hx) h6 hu6 hv r1 b e hb
   ·have h1:=(r3.lt b hb).1
    omega
 ·have hnew:∀x u v2,x≠i->ts[x]?=some u->u.kind=6->L'[gref ts x]?=some v2->∀b,(Value.slice v'.ia v'.il v'.ic).ownBlock=some b->(Value.slice v2.ia v2.il v2.ic).ownBlock≠some b:=by
   intro x u v2 hx hu hu6 hv2 b hb hb2
   have hbg:gn=b:=by rw [hv'] at hb;simpa [Value.ownBlock] using hb
   subst hbg
   rcases hat with e | e
   ·exact h.apart i x t u v v2 ht hu (Ne.symm hx) h6 hu6 hv hv2 gn e hb2
   ·obtain ⟨v3,r1,r2,r3⟩:=h.rows x u hu hu6
    rw [hv2] at r1
    cases r1
    have:=(r3.lt gn hb2).2
    omega
  intro x y u u' v1 v2 hu hu' hxy hu6 hu6' hv1 hv2 b hb hb2
  by_cases hx:x=i
  ·subst hx
   rw [hself] at hv1
   cases hv1
   have h2:L'[gref ts y]?=some v2:=by
    rw [List.getElem?_set,if_neg (λ e=>hxy (gref_inj ht hu' (by omega) (by omega) e))] at hv2
    exact hv2
   exact hnew y u' v2 (Ne.symm hxy) hu' hu6' h2 b hb hb2
  ·have h1:L'[gref ts x]?=some v1:=by
    rw [List.getElem?_set,if_neg (λ e=>hx (gref_inj ht hu (by omega) (by omega) e).symm)] at hv1
    exact hv1
   by_cases hy:y=i
   ·subst hy
    rw [hself] at hv2
    cases hv2
    exact hnew x u v1 hx hu hu6 h1 b hb2 hb
   ·have h2:L'[gref ts y]?=some v2:=by
     rw [List.getElem?_set,if_neg (λ e=>hy (gref_inj ht hu' (by omega) (by omega) e).symm)] at hv2
     exact hv2
    exact h.apart x y u u' v1 v2 hu hu' hxy hu6 hu6' h1 h2 b hb hb2
end
end Go.Fw

namespace Go.Fw
open Go.Proofs Go.RowKit
section
variable {w0 w w' w'':World} {r B:Nat} {P:GP} {A:Nat->Prop} {ts:List Tm} {mss kss:Nat->List Int} {its:Nat->ByteArray} {L L':List GV} {last:Int} {g i j:Nat} {ta:Option Addr} {tc:Nat}
theorem gfc_trans {mc:Nat} (h:Keep (GFc r B mc w) w w') (h':Keep (GFc r B mc w') w' w''):Keep (GFc r B mc w) w w'':=
 h.trans h' λ k hk hf=>by
  by_cases hx:GFc r B mc w k
  ·exact hx
  ·rcases hf with (e | ⟨q,e⟩) | e
   ·exact .inl (.inl e)
   ·refine .inl (.inr ⟨q,?_⟩)
    rw [<-h.ett hk hx];exact e
   ·exact .inr e
theorem GFill.no (h:GFill w0 w r B P ts kss L last g i j L') (hk:Keep No w w'):GFill w0 w' r B P ts kss L last g i j L':=
 ⟨h.st.no hk,h.keep.no hk,h.len,h.other,h.lists,λ x t ht h6=>by obtain ⟨v,a,b,c⟩:=h.rows x t ht h6;exact ⟨v,a,b,hk.nrow c⟩,h.apart⟩
theorem GFill.start {W:World} (hM:GM W r B P A ts mss kss ts.length L last) {g:Nat}:GFill W W r B P ts kss L last g 0 0 L:=by
 have hk0:∀x kl,cnt3 0 0 x kl=0:=λ x kl=>by unfold cnt3;rw [if_neg (by omega)];split <;> rfl
 have h6:∀x t,ts[x]?=some t->t.kind=6->∃v,L[gref ts x]?=some v/\v.ia=none/\v.il=0/\v.ic=0:=λ x t ht h6=>by
  obtain ⟨v,q1,q2⟩:=hM.val x t ht (List.getElem?_eq_some_iff.1 ht).1
  exact ⟨v,q1,q2.list h6⟩
 refine ⟨hM.st,Keep.refl _ _,rfl,λ _ _ h _=>h,λ n v h _=>⟨v.ia,v.il,v.ic,h⟩,λ x t ht hk6=>?_,λ x y t u v v' ht hu hxy ht6 hu6 hv hv' b hb=>?_⟩
 ·obtain ⟨v,q1,q2,q3,q4⟩:=h6 x t ht hk6
  refine ⟨v,q1,by rw [hk0,q3],?_⟩
  rw [hk0,q2,q3,q4]
  exact World.ownsRow_nil _ _ _ _
 ·obtain ⟨v2,q1,q2,q3,q4⟩:=h6 x t ht ht6
  rw [hv] at q1
  cases q1
  rw [q2] at hb
  simp [Value.ownBlock] at hb
theorem GFill.fin {W:World} (hM:GM W r B P A ts mss kss ts.length L last) {g:Nat} (hgt:etype W g=some 226) (hB:B<=W.heap.size) (hkls:∀x t,ts[x]?=some t->(kss x).length=t.kl) (h:GFill W w r B P ts kss L last g ts.length 0 L'):GFin w r B P A ts mss kss L' last:=by
 have hq:GQuiet W (λ k=>k=g):=λ k _ hf e he=>by
  subst hf
  rw [hgt] at he
  cases he
  decide
 refine ⟨h.st,by rw [h.len,hM.len],hM.last,?_,hM.mcge,λ x t ht=>?_,λ x t ht h14=>?_⟩
 ·obtain ⟨l,hl⟩:=hM.pre
  refine ⟨L'.drop 3,?_⟩
  have h3:∀n,n<3->L'[n]?=g0[n]?:=by
   intro n hn
   have h1:L[n]?=g0[n]?:=by rw [hl,List.getElem?_append_left (by show n<3;exact hn)]
   have h2:∃v,g0[n]?=some v/\v.kind≠6:=by
    rcases n with _ | _ | _ | n
    ·exact ⟨_,rfl,by decide⟩
    ·exact ⟨_,rfl,by decide⟩
    ·exact ⟨_,rfl,by decide⟩
    ·omega
   obtain ⟨v,h2,h4⟩:=h2
   rw [h2]
   exact h.other n v (h1.trans h2) h4
  have hlen:3<=L'.length:=by rw [h.len,hl];simp [g0]
  have:L'.take 3=g0:=by
   apply List.ext_getElem?
   intro n
   by_cases hn:n<3
   ·rw [List.getElem?_take,if_pos hn,h3 n hn]
   ·rw [List.getElem?_take,if_neg hn,List.getElem?_eq_none (by show 3<=n;omega)]
  rw [<-this,List.take_append_drop]
 ·obtain ⟨v,q1,q2⟩:=hM.val x t ht (List.getElem?_eq_some_iff.1 ht).1
  by_cases h6:t.kind=6
  ·obtain ⟨v2,r1,r2,r3⟩:=h.rows x t ht h6
   obtain ⟨a,l,c,r4⟩:=h.lists _ v q1 (by rw [q2.kind,h6])
   rw [r1] at r4
   cases r4
   have e:cnt3 ts.length 0 x t.kl=t.kl:=by unfold cnt3;rw [if_pos (List.getElem?_eq_some_iff.1 ht).1]
   rw [e] at r2 r3
   refine ⟨v,_,r1,q2.keep h.keep hq,λ hc=>absurd h6 hc,λ _=>⟨a,l,c,rfl,?_⟩⟩
   rw [List.take_of_length_le (by rw [hkls x t ht];omega)] at r3
   exact ownsRow_mono r3 hB
  ·exact ⟨v,v,h.other _ v q1 (by rw [q2.kind];exact h6),q2.keep h.keep hq,λ _=>rfl,λ hc=>absurd hc h6⟩
 ·obtain ⟨u,q1,q2⟩:=hM.cls x t ht (List.getElem?_eq_some_iff.1 ht).1 h14
  exact ⟨u,h.other _ u q1 (by rw [q2.kind];decide),q2.keep h.keep hq⟩
def GoodR (w0:World) (r B:Nat) (P:GP) (ts:List Tm) (mss kss:Nat->List Int) (err:Nat->Int) (x:Value) (w':World):Prop:=
 (∀j,j<ts.length->err j=0)/\∃v L last,x=.tuple #[v,.int .i64 0]/\GFin w' r B P (λ k=>v.ownBlock=some k) ts mss kss L last/\w'.ownsRow w0.heap.size 3 1 v ts.length (ints ((List.range ts.length).map λ x=>(gref ts x:Int)))/\Keep (GFc r B P.mc w0) w0 w'
theorem C66_gen (hst:GSt w0 r B P g0 0) (hmc:B<=P.mc) (hB:B<=w0.heap.size) (hin:SmallIn w0 B ta ts kss mss) (hn:ts.length<1000000) (hpairs:(ts.length:Int)<=P.pairs) (hp:0<=P.pairs/\P.pairs<=65536) (hsh:0<=P.shared/\P.shared<=256) :
  Calls Tryz.prog 66 #[.pointer (some ⟨r,0,none⟩),.slice ta ts.length tc] w0 λ e w'=>∃x,e=.returned x/\(BadEnd w0 ts (errN ts mss kss its P.pairs) x w'\/GoodR w0 r B P ts mss kss (errN ts mss kss its P.pairs) x w'):=by
 refine V66_sound _ ta ts.length tc w0 (λ x w'=>BadEnd w0 ts (errN ts mss kss its P.pairs) x w'\/GoodR w0 r B P ts mss kss (errN ts mss kss its P.pairs) x w') ?_
 have hlow:=hin.lowAt
 unfold V66
 refine ⟨λ i w=>0<=i/\i<=ts.length/\(∀j:Nat,(j:Int)<i->errN ts mss kss its P.pairs j=0)/\Keep No w0 w,λ i _=>(ts.length-i).toNat,⟨by omega,by omega,λ j hj=>by omega,Keep.refl _ _⟩,?_⟩
 rintro j0 i w ⟨hi0,hil,herr,hk⟩
 refine bsel_split (λ hlt=>?_) λ hge=>?_
 ·have hlt:i<ts.length:=by simpa using hlt
  obtain ⟨n,rfl⟩:=Int.eq_ofNat_of_zero_le hi0
  obtain ⟨t,ht⟩:∃t,ts[n]?=some t:=⟨_,List.getElem?_eq_getElem (by omega)⟩
  have gi:=hin.inp n t ht
  have gz:=hin.sz n t ht
  obtain ⟨⟨lv,hr,_⟩,_⟩:=hst.no hk
  rw [nilK_some]
  refine ⟨P.pairs,by simpa [add_mk] using hr.cell (o:=3) rfl,(C116_gen (its:=its) (mss:=mss) (hlow.no hk) ht (gi.kids.no hk) (by omega) (by omega) hn hpairs).mono ?_⟩
  rintro _ w' ⟨rfl,hk'⟩
  have hen:=errN_of (mss:=mss) (kss:=kss) (its:=its) (pairs:=P.pairs) ht
  refine ⟨_,rfl,bsel_split (λ hne=>?_) λ heq=>?_⟩
  ·have hne:errT ts mss its P.pairs n t (kss n)≠0:=by simpa using hne
   exact .inl ⟨n,by omega,λ j hj=>herr j (by omega),by rw [hen];exact hne,by rw [hen],hk.no hk'⟩
  ·have heq:errT ts mss its P.pairs n t (kss n)=0:=by simpa using heq
   rw [wrap_i64 (by omega)]
   refine ⟨⟨by omega,by omega,λ j hj=>?_,hk.no hk'⟩,by simp only;omega⟩
   by_cases hjn:(j:Int)<n
   ·exact herr j hjn
   ·have:j=n:=by omega
    subst this
    rw [hen];exact heq
 have hge:(ts.length:Int)<=i:=by simpa using hge
 have herr0:∀j,j<ts.length->errN ts mss kss its P.pairs j=0:=λ j hj=>herr j (by omega)
 have hfine:∀i t,ts[i]?=some t->FineT ts i t (kss i):=λ i t ht=>by
  have h0:=herr0 i (List.getElem?_eq_some_iff.1 ht).1
  rw [errN_of ht] at h0
  exact fine_of_err (by have:=hin.sz i t ht;omega) h0
 refine ⟨λ a n c i w=>∃(m:Nat) (L:List GV) (last:Int),i=m/\n=m/\m<=ts.length/\GM w r B P (λ k=>(Value.slice a n c).ownBlock=some k) ts mss kss m L last/\w.ownsRow w0.heap.size 3 1 (.slice a n c) m (ints ((List.range m).map λ x=>(gref ts x:Int)))/\Keep (GFc r B P.mc w0) w0 w,
  λ _ _ _ i _=>(ts.length-i).toNat,⟨0,g0,0,rfl,rfl,by omega,GM.start ts mss kss (hst.no hk) hmc,World.ownsRow_nil _ _ _ _,Keep.of_no hk⟩,?_⟩
 rintro j0 oa on oc i w ⟨m,L,last,rfl,rfl,hml,hM,hrow,hk⟩
 have hgeB:∀{k:Nat},GFc r B P.mc w0 k->B<=k:=λ hf=>by
  rcases hf with (rfl | ⟨hf,_⟩) | rfl
  ·exact hst.ge
  ·exact hf
  ·exact hmc
 have hq0:=gfc_quiet hst
 have hfar:∀{w:World} {fp:Nat->Prop},Keep fp w0 w->(∀k,fp k->B<=k)->LowAt w B ta ts mss/\∀i t,ts[i]?=some t->KidsAt w t (kss i):=λ hk hf=>by
  refine ⟨hlow.keep hk hf,λ i t ht=>?_⟩
  have gi:=hin.inp i t ht
  exact gi.kids.keep0 hk λ p hp h0 hx=>by have:=gi.kb p hp h0;have:=hf _ hx;omega
 have hsz:=hk.size
 refine bsel_split (λ hlt=>?_) λ hge=>?_
 ·have hlt:on<ts.length:=by simp at hlt;omega
  obtain ⟨t,ht⟩:∃t,ts[on]?=some t:=⟨_,List.getElem?_eq_getElem (by omega)⟩
  have gi:=hin.inp on t ht
  obtain ⟨hL,hks⟩:=hfar hk λ k=>hgeB
  refine (C117g hM hL ht (hks on t ht) gi.kb (hfine on t ht) hn (λ x u hu=>?_) hp hsh (by omega) (λ k hk=>(hrow.lt k hk).2) hrow).mono ?_
  ·have g2:=hin.inp x u hu
   have z2:=hin.sz x u hu
   have:=g2.ml
   exact ⟨by omega,g2.mr⟩
  rintro _ w2 ⟨rfl,L',last',hM2,hk2⟩
  have hrow2:=hk2.row hrow λ g hg hf=>absurd (gfc_quiet hM.st g (hrow.lt g hg).2 hf _ (ownsRow_etype hrow hg)) (by decide)
  refine ⟨_,rfl,newK_of λ b w3 hs3 hb3 hk3=>?_⟩
  have hs2:=hk2.size
  have hs3':=hk3.size
  have hrow3:=hk3.nrow hrow2
  have hM3:=hM2.no hk3
  refine appendRow rowInts hrow3 hb3 rfl (by omega) (by omega) λ g cap w4 hrow4 hk4 hat=>?_
  have hM3':GM w3 r B P (λ k=>(Value.slice oa on oc).ownBlock=some k\/k=g) ts mss kss (on+1) L' last':=hM3.apart λ k hk ha=>by
   rcases ha with ha | rfl
   ·exact ha
   ·rcases hat with e | e
    ·exact e
    ·omega
  have hM4:=(hM3'.keepA (hk4.mono λ k _ e=>.inl e) λ k hk ha=>by
   rcases ha with ha | rfl
   ·exact ownsRow_etype hrow3 ha
   ·rcases hat with e | e
    ·exact ownsRow_etype hrow3 e
    ·omega).apart (A':=λ k=>(Value.slice (some ⟨g,0,none⟩) (on+1) cap).ownBlock=some k) λ k hk ha=>.inr (by simpa [Value.ownBlock] using ha.symm)
  rw [wrap_i64 (by omega)]
  refine ⟨⟨on+1,L',last',by omega,rfl,by omega,hM4,?_,?_⟩,by simp only;omega⟩
  ·rw [List.range_succ,List.map_append]
   simpa [ints] using hrow4
  ·refine ((gfc_trans hk hk2).no hk3).trans hk4 λ k hk' e=>?_
   have:=(hrow.lt k e).1
   omega
 have hon:on=ts.length:=by simp at hge;omega
 subst hon
 obtain ⟨lv,hr0,hrw0⟩:=hM.st.ex
 obtain ⟨lpre,hpre⟩:=hM.pre
 obtain ⟨g,gcap,hlv,_,_⟩:=row_cells GV.cells_len (by decide) hrw0 (i:=0) (x:={ gz with kind:=1 }) (by rw [hpre];rfl)
 subst hlv
 have hgt:=ownsRow_etype hrw0 (g:=g) rfl
 have hgl:=hrw0.lt g rfl
 have hg0:w.cell? ((⟨r,0,none⟩:Addr).add 0)=some (.slice (some ⟨g,0,none⟩) L.length gcap):=hr0.add 0 rfl
 have hgk:∀{w':World},Keep (λ k=>k=g) w w'->Keep (GFc r B P.mc w0) w0 w':=λ hk'=>gfc_trans hk (hk'.mono λ k _ e=>.inl (.inr ⟨by omega,by rw [e];exact hgt⟩))
 have hrowW:∀{w':World},Keep (λ k=>k=g) w w'->w'.ownsRow w0.heap.size 3 1 (.slice oa ts.length oc) ts.length (ints ((List.range ts.length).map λ x=>(gref ts x:Int))):=λ hk'=>hk'.row hrow λ x hx e=>by
  have:=ownsRow_etype hrow hx
  rw [e,hgt] at this
  cases this
 refine ⟨λ i w'=>∃n:Nat,i=n/\n<=ts.length/\∃L',GFill w w' r B P ts kss L last g n 0 L',λ i _=>(ts.length-i).toNat,⟨0,rfl,by omega,L,GFill.start hM⟩,?_⟩
 rintro j0 i w1 ⟨n,rfl,hnl,L1,hF⟩
 refine bsel_split (λ hlt=>?_) λ hge=>?_
 ·have hnl:n<ts.length:=by simp at hlt;omega
  obtain ⟨t,ht⟩:∃t,ts[n]?=some t:=⟨_,List.getElem?_eq_getElem hnl⟩
  obtain ⟨hL1,_⟩:=hfar (hgk hF.keep) λ k=>hgeB
  obtain ⟨p,hp',hc⟩:=hL1.tm n t ht
  subst hp'
  have ew:IntKind.wrap .i64 ((n:Int)+1)=((n+1:Nat):Int):=by rw [wrap_i64 (by omega)];omega
  rw [ew]
  refine idxK_of hnl ⟨_,hc.get 0 rfl,bsel_split (λ h6=>?_) λ h6=>?_⟩
  ·have h6:t.kind=6:=by simpa using h6
   have hkl:=(hin.sz n t ht).1
   refine ⟨λ j w'=>∃m:Nat,j=m/\m<=t.kl/\∃L',GFill w w' r B P ts kss L last g n m L',λ j _=>(t.kl-j).toNat,⟨0,rfl,by omega,L1,hF⟩,?_⟩
   rintro j1 j w1 ⟨m,rfl,hml,L1,hF⟩
   obtain ⟨hL1,_⟩:=hfar (hgk hF.keep) λ k=>hgeB
   obtain ⟨_,hp',hc⟩:=hL1.tm n t ht
   cases hp'
   refine idxK_of hnl ⟨_,_,_,hc.get 5 rfl,bsel_split (λ hlt2=>?_) λ hge2=>?_⟩
   ·have hmk:m<t.kl:=by simp at hlt2;omega
    have hdr:=Keep.drawn w1
    have hFd:=hF.no hdr
    obtain ⟨hLd,hksd⟩:=hfar (hgk hFd.keep) λ k=>hgeB
    have hks:=hksd n t ht
    obtain ⟨_,hp',hcd⟩:=hLd.tm n t ht
    cases hp'
    obtain ⟨k,hkm⟩:∃k,(kss n)[m]?=some k:=⟨_,List.getElem?_eq_getElem (by have:=hks.1;omega)⟩
    obtain ⟨q,hqe,hqc⟩:=hks.2 m k hkm
    have hkr:=(hfine n t ht).kids m k hkm
    have hlim:limit ts.length n t=ts.length:=by unfold limit;rw [if_pos h6]
    rw [hlim] at hkr
    obtain ⟨x,rfl⟩:=Int.eq_ofNat_of_zero_le hkr.1
    have hx:x<ts.length:=by omega
    have hrd:=hrowW hFd.keep
    obtain ⟨go,co,hvo,hcn⟩:=row_get hrd hnl
    cases hvo
    obtain ⟨go',co',hvo',hcx⟩:=row_get hrd hx
    cases hvo'
    obtain ⟨v,hc0,hgl2,hc7,hvl,happ⟩:=hFd.step hM hg0 hgt ht h6 hmk (by omega) hkm
    rw [nilK_some]
    have hcn':w1.drew.cell? (((⟨go,0,none⟩:Addr)).add (n*1))=some (.int .i64 (gref ts n)):=by rw [Nat.mul_one,add_mk,Nat.zero_add];exact hcn
    have hcx':w1.drew.cell? (((⟨go,0,none⟩:Addr)).add (x*1))=some (.int .i64 (gref ts x)):=by rw [Nat.mul_one,add_mk,Nat.zero_add];exact hcx
    refine ⟨_,_,_,hc0,idxK_of hnl ⟨_,hcn',?_⟩⟩
    rw [nilK_some]
    refine ⟨_,_,_,hc0,idxK_of hnl ⟨_,hcn',idxK_of hgl2 ⟨_,_,_,hc7,idxK_of hnl ⟨_,_,_,hcd.get 5 rfl,?_⟩⟩⟩⟩
    rw [hqe]
    refine idxK_of hmk ⟨x,by rw [Nat.mul_one];exact hqc,idxK_of hx ⟨_,hcx',newK_of λ b w3 hs3 hb3 hk3=>?_⟩⟩
    refine ⟨hk3.cell hc7 id,hk3.cell hcn' id,hk3.cell hc0 id,hk3.cell hcn' id,hk3.cell hc0 id,?_⟩
    have hgoW:=hrow.lt go rfl
    have hgot:=ownsRow_etype hrow (g:=go) rfl
    refine happ w3 b hk3 hb3 _ λ w4 a l c hcl hend=>⟨hcl _ _ (by rw [add_block];show etype w go≠_;rw [hgot];decide) (by rw [add_block];exact hgoW.2) (hk3.cell hcn' id),hcl _ _ (by rw [add_block];show etype w r≠_;rw [hM.st.etype];decide) (by rw [add_block];exact hr0.lt) (hk3.cell hc0 id),idxK_of hgl2 (hend _ λ w5 L'' hF5=>?_)⟩
    rw [wrap_i64 (by omega)]
    exact ⟨⟨m+1,by omega,by omega,L'',hF5⟩,by simp only;omega⟩
   ·have hmk:m=t.kl:=by simp at hge2;omega
    exact ⟨⟨n+1,rfl,by omega,L1,hF.next λ t' ht' _=>by rw [ht] at ht';cases ht';exact hmk⟩,by simp only;omega⟩
  ·have h6:t.kind≠6:=by simpa using h6
   exact ⟨⟨n+1,rfl,by omega,L1,hF.next λ t' ht' h=>by rw [ht] at ht';cases ht';exact absurd h h6⟩,by simp only;omega⟩
 ·have hnl:n=ts.length:=by simp at hge;omega
  subst hnl
  exact .inr ⟨herr0,_,L1,last,rfl,hF.fin hM hgt (by omega) (λ x t ht=>(hin.inp x t ht).kids.1),hrowW hF.keep,hgk hF.keep⟩
end
end Go.Fw
