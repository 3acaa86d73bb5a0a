/- Part of a proof over the given program: texts of lemmas (conditions: none beyond each lemma as stated). -/
import Derived.Test.YtdmoefbfepeeaaaGreatDoorN18
set_option linter.unnecessarySimpa false
set_option linter.unusedVariables false
set_option linter.unusedSimpArgs false

namespace Go.Fw
open Go.Proofs Go.RowKit
theorem DictAt.mono {w:World} {R R' d:Nat} {D:Dc} (h:DictAt w R d D) (hR:R'<=R):DictAt w R' d D:=
 ⟨h.blk,⟨h.tab.blk,ownsRow_mono h.tab.row hR,⟨h.tab.cel.lg,h.tab.cel.blk,h.tab.cel.row,h.tab.cel.len,h.tab.cel.rng,by have:=h.tab.cel.ge;omega⟩,by have:=h.tab.ge;omega,h.tab.len⟩,by have:=h.ge;omega⟩
theorem GVal.store {s B:Nat} {S S':St} {ts:List Tm} {mss:Nat->List Int} {i:Nat} {w w':World} {l:List Value} (h:GVal s B S ts mss i w) (hk:Keep (Ty B storeTy w) w w') (hs:StAt w' s B S') (hv:S'.vals=S.vals ++ l):GVal s B S' ts mss i w':=by
 refine ⟨hs,λ x t hx hi=>?_⟩
 obtain ⟨v,h1,h2⟩:=h.vd x t hx hi
 refine ⟨v,by rw [hv,List.getElem?_append_left (List.getElem?_eq_some_iff.1 h1).1];exact h1,h2.keep hk λ k e hB he hm hf=>?_⟩
 obtain ⟨_,e',he',hm'⟩:=hf
 rw [he] at he'
 cases he'
 have:∀e ∈ objE,e ∉ storeTy:=by decide
 exact this e hm hm'
structure LowAt (w:World) (B:Nat) (ta:Option Addr) (ts:List Tm) (mss:Nat->List Int):Prop where
 tm:TermsAt w ta ts
 low:∀p,ta=some p->p.block<B
 inp:∀(x:Nat) (u:Tm),ts[x]?=some u->InAt w u (mss x)/\∀p,u.ma=some p->0<u.ml->p.block<B
theorem LowAt.keep {w w':World} {B:Nat} {ta:Option Addr} {ts:List Tm} {mss:Nat->List Int} {fp:Nat->Prop} (h:LowAt w B ta ts mss) (hk:Keep fp w w') (hf:∀k,fp k->B<=k):LowAt w' B ta ts mss:=by
 refine ⟨h.tm.keep hk λ p hp hx=>?_,h.low,λ x u hu=>?_⟩
 ·have:=h.low p hp;have:=hf _ hx;omega
 ·obtain ⟨⟨⟨q1,q2⟩,q3⟩,q4⟩:=h.inp x u hu
  refine ⟨⟨⟨λ i m hm=>?_,q2⟩,q3⟩,q4⟩
  obtain ⟨p,hp,hc⟩:=q1 i m hm
  refine ⟨p,hp,hk.cell hc λ hx=>?_⟩
  rw [add_block] at hx
  have:=q4 p hp (by have:=(List.getElem?_eq_some_iff.1 hm).1;have:=q2.1;omega);have:=hf _ hx;omega
theorem LowAt.no {w w':World} {B:Nat} {ta:Option Addr} {ts:List Tm} {mss:Nat->List Int} (h:LowAt w B ta ts mss) (hk:Keep No w w'):LowAt w' B ta ts mss:=h.keep hk λ _ hf=>hf.elim
theorem KeysAt.keep {w w':World} {B:Nat} {a:Option Addr} {l:List Int} {fp:Nat->Prop} (h:KeysAt w B a l) (hk:Keep fp w w') (hf:∀k,k<w.heap.size->fp k->B<=k/\etype w k≠some 3):KeysAt w' B a l:=by
 intro j k hj
 obtain ⟨p,hp,hc,hx⟩:=h j k hj
 have hlt:p.block<w.heap.size:=by have:=World.block_lt_of_cell? w _ hc;rwa [add_block] at this
 have hn:¬fp p.block:=λ hq=>by
  obtain ⟨q1,q2⟩:=hf _ hlt hq
  rcases hx with hx | hx
  ·omega
  ·exact q2 hx
 refine ⟨p,hp,hk.cell hc (by rw [add_block];exact hn),?_⟩
 rcases hx with hx | hx
 ·exact .inl hx
 ·exact .inr (by rw [hk.ett hlt hn];exact hx)
section
variable {w:World} {s B b:Nat} {S:St} {ts:List Tm} {mss:Nat->List Int} {i:Nat} {ta:Option Addr} {tc:Nat} {v:Value} {R:Nat} {t:Tm} {ks:List Int}
theorem C88_gen (hG:GVal s B S ts mss i w) (hb:Blk w b 92 [.pointer (some ⟨s,0,none⟩),.slice ta ts.length tc,v]) (hL:LowAt w B ta ts mss) (hrow:w.ownsRow R 3 1 v i (ints ((List.range i).map λ x=>(gref ts x:Int)))) (hi:i<=ts.length) (hB:B<=w.heap.size)
  (hm:S.m=none) (hp:0<=S.pairs/\S.pairs<=65536) (hl:S.vals.length<100000000000) (h1:0<=S.last/\S.last<1000000000000) (h2:-1000000000000<S.live/\S.live<1000000000000)
  (hk789:t.kind=7\/t.kind=8\/t.kind=9) (hks:KidsAt w t ks) (hty:∀p,t.ka=some p->0<t.kl->p.block<B) (hkl:t.kl<100000000000) (hev:t.kind=7->ks.length % 2=0) (hkid:∀(j:Nat) (k:Int),ks[j]?=some k->0<=k/\k<i)
  (hkeyk:∀(j:Nat) (k:Int),(keysL t ks)[j]?=some k->∀u,ts[k.toNat]?=some u->isKeyK u) :
  Calls Tryz.prog 88 #[.pointer (some ⟨b,0,none⟩),.agg t.cells.toArray] w λ e w'=>e=.returned (.int .i64 S.vals.length)/\∃du p d D,w.heap.size<=p/\Blk w' p 120 [.int .i64 (S.last+1),.pointer (some ⟨d,0,none⟩),.int .i64 t.kind]/\DictAt w' w.heap.size d D/\DcOk D/\D.most=S.pairs/\
   D.T.es=tabEs ts mss S.pairs t ks (keysL t ks).length/\StAt w' s B { S with due:=du,last:=S.last+1,live:=S.live+1,vals:=S.vals ++ [.iface 111 (.pointer (some ⟨p,0,none⟩))] }/\Keep (Ty B storeTy w) w w':=by
 refine ret_mono (V88_sound (some ⟨b,0,none⟩) t.kind t.b t.neg t.ma t.ml t.mc t.text t.ka t.kl t.kc t.hash t.same w (λ r w'=>r=.int .i64 S.vals.length/\∃du p d D,w.heap.size<=p/\Blk w' p 120 [.int .i64 (S.last+1),.pointer (some ⟨d,0,none⟩),.int .i64 t.kind]/\DictAt w' w.heap.size d D/\DcOk D/\D.most=S.pairs/\
   D.T.es=tabEs ts mss S.pairs t ks (keysL t ks).length/\StAt w' s B { S with due:=du,last:=S.last+1,live:=S.live+1,vals:=S.vals ++ [.iface 111 (.pointer (some ⟨p,0,none⟩))] }/\Keep (Ty B storeTy w) w w') ?_) (by rintro _ _ ⟨rfl,h⟩;exact ⟨rfl,h⟩)
 have hklen:=hks.1
 have hkL:(keysL t ks).length<=t.kl:=by
  unfold keysL
  split
  ·omega
  ·split
   ·rw [evens_len];omega
   ·simp
 unfold V88
 refine newK_of λ a w1 hs1 ha hk1=>?_
 have hk1d:=hk1.no (Keep.drawn w1)
 have hG1:=hG.no hk1d
 have hb1:=hk1d.nblk hb
 simp only [nilK_some]
 refine ⟨_,hb1.add 0 rfl,_,ha.drew.add 0 rfl,(C141 (kind:=t.kind) hG1.st hm hp hl (by have:=hk1d.size;omega) h1 h2).mono ?_⟩
 rintro _ w2 ⟨rfl,du,p,d,D0,hpB,hbp,hD0,hok0,hes0,hmost0,hbi0,htu0,hma0,hS2,hk2⟩
 have hs1':=hk1d.size
 have hkT:Keep (Ty B storeTy w) w w2:=(Keep.of_no hk1d).ty hk2
 have hlowT:∀k,Ty B storeTy w k->B<=k:=λ k hk=>hk.1
 have hlowT1:∀k,Ty B storeTy w1.drew k->B<=k:=λ k hk=>hk.1
 have hG2:GVal s B { S with due:=du,last:=S.last+1,live:=S.live+1,vals:=S.vals ++ [.iface 111 (.pointer (some ⟨p,0,none⟩))] } ts mss i w2:=hG1.store hk2 hS2 rfl
 have hb2:=hk2.tblk hb1 (by decide)
 have ha2:=hk2.tblk ha.drew (by decide)
 have hrow2:=hk2.trow (hk1d.nrow hrow) (by decide)
 have hL2:=(hL.no hk1d).keep hk2 hlowT1
 have hks2:KidsAt w2 t ks:=(hks.no hk1d).keep0 hk2 λ p hp h0 hx=>by have:=hty p hp h0;have:=hlowT1 _ hx;omega
 have hget:(S.vals ++ [.iface 111 (.pointer (some ⟨p,0,none⟩))])[S.vals.length]?=some (.iface 111 (.pointer (some ⟨p,0,none⟩))):=by simp
 refine ⟨_,rfl,_,hb2.add 0 rfl,(C41_in hS2 hget).mono ?_⟩
 rintro _ w2' ⟨rfl,rfl⟩
 refine ⟨_,rfl,_,_,yes98 _ _,bsel_neg rfl ⟨_,_,_,_,_,_,_,_,_,_,_,_,ha2.cells0,(C134_gen (B:=B) hks2 hty (by omega)).mono ?_⟩⟩
 rintro _ W ⟨ka,kc,rfl,hkeys,hkW⟩
 have hGW:=hG2.no hkW
 have hbW:=hkW.nblk hb2
 have haW:=hkW.nblk ha2
 have hrowW:=hkW.nrow hrow2
 have hLW:=hL2.no hkW
 have hksW:=hks2.no hkW
 have hbpW:=hkW.nblk hbp
 have hDW:DictAt W w.heap.size d D0:=(hD0.no hkW).mono hs1'
 have hkTW:=hkT.no hkW
 have hsW:=hkTW.size
 have hownT:∀{k:Nat} {e:TypeId},etype W k=some e->e ∉ dictTy->¬D0.own d k:=λ he hn=>hDW.not_own he (by rintro _ ⟨⟩;exact hn)
 have hownB:∀k,D0.own d k->B<=k:=λ k hk=>by have:=(hDW.ty hk).1;omega
 refine ⟨_,_,_,rfl,λ n w'=>0<=n/\n<=(keysL t ks).length/\∃D,DictAt w' w.heap.size d D/\DcOk D/\D.most=S.pairs/\D.T.es=tabEs ts mss S.pairs t ks n.toNat/\D.T.turns<=n/\D.T.made<=n+1/\(∀e ∈ D.T.es,∃y,y<i/\e.key=gref ts y)/\(∀k,D.own d k->D0.own d k\/W.heap.size<=k)/\Keep (D0.own d) W w',λ n _=>((keysL t ks).length-n).toNat,
  ⟨by omega,by omega,D0,hDW,⟨hok0,by rw [hbi0,hes0];rfl,by rw [hes0,hmost0];simp;omega⟩,hmost0,by rw [hes0];rfl,by omega,by omega,by rw [hes0];simp,λ k hk=>.inl hk,Keep.refl _ _⟩,?_⟩
 rintro j n w3 ⟨hn0,hnl,D,hD,hok,hmost,hes,htu,hma,hkk,hown,hk3⟩
 have ha3:=hk3.blk haW (hownT haW.etype (by decide))
 refine bsel_split (λ hlt=>?_) λ hge=>?_
 ·obtain ⟨n,rfl⟩:=Int.eq_ofNat_of_zero_le hn0
  have hlt:n<(keysL t ks).length:=by simp at hlt;omega
  simp only [Int.toNat_natCast] at hes
  have hG3:=hGW.keep hk3 λ k _ hf=>by
   obtain ⟨_,_,e,he,hm⟩:=hDW.ty hf
   have:∀e ∈ dictTy,e ∉ storeTy/\e ∉ objE:=by decide
   exact ⟨e,he,this e hm⟩
  have hb3:=hk3.blk hbW (hownT hbW.etype (by decide))
  have hrow3:=hk3.row hrowW λ g hg=>hownT (ownsRow_etype hrowW hg) (by decide)
  have hL3:=hLW.keep hk3 hownB
  have hp3:=hk3.blk hbpW (hownT hbpW.etype (by decide))
  have hkeys3:=hkeys.keep hk3 λ k _ hf=>⟨hownB k hf,λ he=>hownT he (by decide) hf⟩
  obtain ⟨k,hkn⟩:∃k,(keysL t ks)[n]?=some k:=⟨_,List.getElem?_eq_getElem hlt⟩
  obtain ⟨q,hq,hqc,_⟩:=hkeys3 n k hkn
  have hkr:0<=k/\k<i:=by
   have hmem:k ∈ ks:=by
    have h0:=List.mem_of_getElem? hkn
    unfold keysL at h0
    split at h0
    ·exact h0
    ·split at h0
     ·unfold evens at h0
      rw [List.mem_map] at h0
      obtain ⟨m,hm1,hm2⟩:=h0
      rw [List.mem_range] at hm1
      have hm3:2*m<ks.length:=by omega
      rw [<-hm2,List.getD_eq_getElem?_getD,List.getElem?_eq_getElem hm3]
      exact List.getElem_mem hm3
     ·simp at h0
   obtain ⟨m,hm⟩:=List.getElem?_of_mem hmem
   exact hkid m k hm
  obtain ⟨x,rfl⟩:=Int.eq_ofNat_of_zero_le hkr.1
  have hx:x<i:=by omega
  obtain ⟨u,hu⟩:∃u,ts[x]?=some u:=⟨_,List.getElem?_eq_getElem (by omega)⟩
  have huk:isKeyK u:=hkeyk n x hkn u (by simpa using hu)
  rw [hq]
  refine idxK_of hlt ⟨x,by rw [Nat.mul_one];exact hqc,_,ha3.add 0 rfl,?_⟩
  have hgetD:(keysL t ks).getD n 0=(x:Int):=by rw [List.getD_eq_getElem?_getD,hkn];rfl
  have hgo:∀{wv:World} {val:Int},Keep No w3 wv->val=(if t.kind=7 then gref ts (ks.getD (2*n+1) 0).toNat else 0:Nat)->
    V88J1 (λ n w'=>0<=n/\n<=(keysL t ks).length/\∃D,DictAt w' w.heap.size d D/\DcOk D/\D.most=S.pairs/\D.T.es=tabEs ts mss S.pairs t ks n.toNat/\D.T.turns<=n/\D.T.made<=n+1/\(∀e ∈ D.T.es,∃y,y<i/\e.key=gref ts y)/\(∀k,D.own d k->D0.own d k\/W.heap.size<=k)/\Keep (D0.own d) W w') (λ n _=>((keysL t ks).length-n).toNat) n w3 (some ⟨b,0,none⟩) ⟨a,0,none⟩ S.vals.length (some ⟨p,0,none⟩) x val (some q) (keysL t ks).length kc (keysL t ks).length n wv:=by
   intro wv val hkv hval
   unfold V88J1
   refine (C142_gen (hG3.no hkv) (hkv.nblk hb3) (hL3.no hkv).tm (hkv.nrow hrow3) hu hx ((hL3.no hkv).inp x u hu).1 huk (hkv.nblk hp3) (hD.no hkv) hok (by omega) ⟨by omega,by omega⟩ hi hkk val (by have:=hk3.size;have:=hkv.size;omega)).mono ?_
   rintro _ w4 ⟨rfl,D',hD',hok',hes',hmost',htu',hma',hown',hk4⟩
   refine ⟨_,rfl,?_⟩
   rw [wrap_i64 (by omega)]
   have e1:((n:Int)+1).toNat=n+1:=by omega
   have hs3:=hk3.size
   have hsv:=hkv.size
   refine ⟨⟨by omega,by omega,D',hD',hok',by rw [hmost',hmost],?_,by omega,by omega,?_,λ k hk=>?_,?_⟩,by simp only;omega⟩
   ·rw [hes',e1,tabEs_succ,hes,hmost]
    unfold tabStep
    rw [hgetD,hval]
    simp only [Int.toNat_natCast]
    congr 1
    split <;> rfl
   ·rw [hes']
    exact putEs_keys (P:=λ k=>∃y,y<i/\k=(gref ts y:Int)) hkk ⟨x,hx,rfl⟩
   ·rcases hown' k hk with q | q
    ·exact hown k q
    ·exact .inr (by omega)
   ·refine (hk3.no hkv).trans hk4 λ k hk hf=>?_
    rcases hown k hf with q | q
    ·exact q
    ·omega
  refine bsel_split (λ h7=>?_) λ h7=>?_
  ·have h7:t.kind=7:=by simpa using h7
   have hd:=Keep.drawn w3
   have hklen2:(keysL t ks).length=(ks.length+1) / 2:=by unfold keysL;rw [if_neg (by omega),if_pos h7,evens_len]
   have hev7:=hev h7
   have h2n:2*n+1<ks.length:=by omega
   obtain ⟨kv,hkv⟩:∃kv,ks[2*n+1]?=some kv:=⟨_,List.getElem?_eq_getElem h2n⟩
   have hks3:KidsAt w3 t ks:=hksW.keep0 hk3 λ p hp h0 hx=>by have:=hty p hp h0;have:=hownB _ hx;omega
   obtain ⟨q2,hq2,hq2c⟩:=hks3.2 _ _ hkv
   obtain ⟨y,rfl⟩:=Int.eq_ofNat_of_zero_le (hkid _ _ hkv).1
   have hy:y<i:=by have:=(hkid _ _ hkv).2;omega
   obtain ⟨g,rc,hvg,hcg⟩:=row_get hrow3 hy
   subst hvg
   refine ⟨_,_,_,hb3.drew.add 2 rfl,_,_,_,ha3.drew.add 5 rfl,?_⟩
   rw [hq2]
   have ei:IntKind.wrap .i64 (IntKind.wrap .i64 (2*(n:Int))+1)=((2*n+1:Nat):Int):=by
    rw [wrap_i64 (n:=2*(n:Int)) (by omega),wrap_i64 (by omega)];omega
   rw [ei]
   refine idxK_of (by omega) ⟨y,by rw [Nat.mul_one];exact hq2c,idxK_of hy ⟨_,by rw [add_mk,Nat.mul_one,Nat.zero_add];exact hcg,hgo hd ?_⟩⟩
   rw [if_pos h7,List.getD_eq_getElem?_getD,hkv]
   rfl
  ·have h7:t.kind≠7:=by simpa using h7
   exact hgo (Keep.refl _ _) (by rw [if_neg h7];rfl)
 ·have hnl':n=(keysL t ks).length:=by simp at hge;omega
  subst hnl'
  rw [Int.toNat_natCast] at hes
  have hk03:Keep (Ty B storeTy w) w w3:=hkTW.trans hk3 λ k hk hf=>by
   have:=(hDW.ty hf).1
   omega
  refine ⟨rfl,du,p,d,D,by omega,hk3.blk hbpW (hownT hbpW.etype (by decide)),hD,hok,hmost,hes,?_,hk03⟩
  exact (hGW.keep hk3 λ k _ hf=>by
   obtain ⟨_,_,e,he,hm⟩:=hDW.ty hf
   have:∀e ∈ dictTy,e ∉ storeTy/\e ∉ objE:=by decide
   exact ⟨e,he,this e hm⟩).st
end
end Go.Fw

namespace Go.Fw
open Go.Proofs Go.RowKit
theorem FormAt.low {B B':Nat} {w:World} {y:Value} {neg:Bool} {ms:List Int} (h:FormAt B w y neg ms) (hB:B'<=B):FormAt B' w y neg ms:=h.mono hB
structure Made (s B:Nat) (S:St) (ts:List Tm) (mss:Nat->List Int) (i:Nat) (w w':World) (S':St):Prop where
 val:GVal s B S' ts mss (i+1) w'
 last:S'.last=cO ts (i+1)/\S'.live=cO ts (i+1)
 len:S'.vals.length=3+cV ts (i+1)
 fix:S'.pairs=S.pairs/\S'.shared=S.shared/\S'.m=S.m
 pre:∃l,S'.vals=S.vals ++ l
 keep:Keep (Ty B storeTy w) w w'
theorem made_of {s B:Nat} {S S':St} {ts:List Tm} {mss:Nat->List Int} {i:Nat} {w w':World} {t:Tm} (ht:ts[i]?=some t) {l:List Value} (hG:GVal s B S ts mss i w) (hk:Keep (Ty B storeTy w) w w') (hs:StAt w' s B S') (hv:S'.vals=S.vals ++ l) (hl:S.vals.length=3+cV ts i) (hll:l.length=nV t) (hlast:S.last=cO ts i/\S.live=cO ts i) (hlast':S'.last=S.last+nO t/\S'.live=S.live+nO t)
  (hfix:S'.pairs=S.pairs/\S'.shared=S.shared/\S'.m=S.m) {v:Value} (hnew:S'.vals[refT t (cV ts i)]?=some v) (hd:VDAt w' B v (descT t (mss i) (cO ts i))):Made s B S ts mss i w w' S':=by
 have h1:=hG.store hk hs hv
 refine ⟨⟨hs,λ x u hx hlt=>?_⟩,?_,?_,hfix,⟨l,hv⟩,hk⟩
 ·by_cases hxi:x<i
  ·exact h1.vd x u hx hxi
  ·have:x=i:=by omega
   subst this
   rw [ht] at hx
   cases hx
   exact ⟨v,by rw [gref_of ht];exact hnew,by rw [gdesc_of ht];exact hd⟩
 ·rw [cO_succ ht,hlast'.1,hlast'.2,hlast.1,hlast.2]
  exact ⟨by omega,by omega⟩
 ·rw [hv,List.length_append,hl,hll,cV_succ ht];omega
section
variable {w:World} {s B b:Nat} {S:St} {ts:List Tm} {mss:Nat->List Int} {i:Nat} {rest:List Value} {t:Tm}
theorem C40_plain (ht:ts[i]?=some t) (hG:GVal s B S ts mss i w) (hk:t.kind=1\/t.kind=2) (hl:S.vals.length=3+cV ts i) (hlast:S.last=cO ts i/\S.live=cO ts i) (hv0:∃l,S.vals=val0 ++ l) :
  Calls Tryz.prog 40 #[.pointer (some ⟨b,0,none⟩),.agg t.cells.toArray] w λ e w'=>e=.returned (.int .i64 (gref ts i))/\Made s B S ts mss i w w' S:=by
 have hnv:nV t=0:=by unfold nV;rw [if_pos hk]
 have hno:nO t=0:=by unfold nO;rw [if_pos (by omega)]
 obtain ⟨l0,hl0⟩:=hv0
 have hmade:∀{w':World},Keep No w w'->Made s B S ts mss i w w' S:=by
  intro w' hk'
  have hst:=hG.st.no hk'
  rcases hk with hk | hk
  ·refine made_of (l:=[]) ht hG hk'.of_no hst (by simp) hl (by simp [hnv]) hlast ⟨by omega,by omega⟩ ⟨rfl,rfl,rfl⟩ (v:=.iface 85 (.agg #[])) ?_ ?_
   ·unfold refT;rw [if_pos hk,hl0];rfl
   ·unfold descT;rw [if_pos hk];exact rfl
  ·refine made_of (l:=[]) ht hG hk'.of_no hst (by simp) hl (by simp [hnv]) hlast ⟨by omega,by omega⟩ ⟨rfl,rfl,rfl⟩ (v:=.iface 87 (.agg #[.bool t.b])) ?_ ?_
   ·unfold refT;rw [if_neg (by omega),if_pos hk,hl0];cases t.b <;> rfl
   ·unfold descT;rw [if_neg (by omega),if_pos hk];exact rfl
 refine ret_mono (V40_sound _ t.kind t.b t.neg t.ma t.ml t.mc t.text t.ka t.kl t.kc t.hash t.same w (λ r w'=>r=.int .i64 (gref ts i)/\Made s B S ts mss i w w' S) ?_) (by rintro _ _ ⟨rfl,h⟩;exact ⟨rfl,h⟩)
 unfold V40
 refine newK_of λ c w1 hs hc hk1=>⟨_,hc.add 0 rfl,bsel_split (λ h1=>?_) λ h1=>?_⟩
 ·have h1:t.kind=1:=by simpa using h1
  exact ⟨by rw [gref_of ht];unfold refT;rw [if_pos h1];rfl,hmade hk1⟩
 ·have h1:t.kind≠1:=by simpa using h1
  have h2:t.kind=2:=by omega
  refine bsel_pos (by simp [h2]) ⟨_,hc.add 1 rfl,(V83_sound t.b w1 (λ r w'=>r=.int .i64 (if t.b then 2 else 1)/\w'=w1) ?_).mono ?_⟩
  ·unfold V83
   cases t.b <;> exact ⟨rfl,rfl⟩
  ·rintro _ w2 ⟨_,rfl,rfl,rfl⟩
   refine ⟨_,rfl,?_,hmade hk1⟩
   rw [gref_of ht]
   unfold refT
   rw [if_neg h1,if_pos h2]
   cases t.b <;> rfl
theorem C40_int (ht:ts[i]?=some t) (hG:GVal s B S ts mss i w) (hb:Blk w b 92 (.pointer (some ⟨s,0,none⟩) :: rest)) (hk:t.kind=3) (hin:InAt w t (mss i)) (hB:B<=w.heap.size) (hl:S.vals.length=3+cV ts i) (hlt:S.vals.length<100000000000) (hlast:S.last=cO ts i/\S.live=cO ts i) :
  Calls Tryz.prog 40 #[.pointer (some ⟨b,0,none⟩),.agg t.cells.toArray] w λ e w'=>e=.returned (.int .i64 (gref ts i))/\∃S',Made s B S ts mss i w w' S':=by
 refine ret_mono (V40_sound _ t.kind t.b t.neg t.ma t.ml t.mc t.text t.ka t.kl t.kc t.hash t.same w (λ r w'=>r=.int .i64 (gref ts i)/\∃S',Made s B S ts mss i w w' S') ?_) (by rintro _ _ ⟨rfl,h⟩;exact ⟨rfl,h⟩)
 obtain ⟨⟨m1,m2,m3,m4⟩,_⟩:=hin
 unfold V40
 refine newK_of λ c w1 hs hc hk1=>⟨_,hc.add 0 rfl,bsel_neg (by simp [hk]) (bsel_neg (by simp [hk]) (bsel_pos (by simp [hk]) ?_))⟩
 have hk1d:=hk1.no (Keep.drawn w1)
 have hbd:=hk1d.nblk hb
 rw [nilK_some]
 refine ⟨_,hbd.add 0 rfl,_,_,_,_,hc.drew.cellsAdd 2 rfl,?_⟩
 rw [m2]
 refine (C85 (m1.no hk1d) m3 m4).mono ?_
 rintro _ w2 ⟨y,rfl,hy,hk2⟩
 have hk02:=hk1d.no hk2
 obtain ⟨x,a,l,cc,hya,hcall⟩:=C84 (hG.st.no hk02) hlt (by have:=hk02.size;omega) hy
 refine ⟨_,_,_,_,by rw [hya],(hk2.nblk hbd).add 0 rfl,hcall.mono ?_⟩
 rintro _ w3 ⟨rfl,du,hS3,hk3⟩
 have hk03:Keep (Ty B storeTy w) w w3:=(Keep.of_no hk02).ty hk3
 have e1:refT t (cV ts i)=S.vals.length:=by unfold refT;rw [if_neg (by omega),if_neg (by omega),if_neg (by omega)];omega
 refine ⟨_,rfl,by rw [gref_of ht,e1],_,made_of (l:=[.iface 172 y]) ht hG hk03 hS3 rfl hl (by unfold nV;rw [if_neg (by omega),if_neg (by omega)];rfl) hlast (by unfold nO;rw [if_pos (by omega)];exact ⟨by simp,by simp⟩) ⟨rfl,rfl,rfl⟩ (v:=.iface 172 y) ?_ ?_⟩
 ·rw [e1];simp
 ·unfold descT
  rw [if_neg (by omega),if_neg (by omega),if_pos hk]
  refine ⟨m4,y,rfl,?_⟩
  have hyB:FormAt B w2 y t.neg (mss i):=hy.low (by have:=hk1d.size;omega)
  exact hyB.keepT hk3 λ k hB' he hf=>by
   obtain ⟨_,e,he',hm⟩:=hf
   rw [he] at he'
   cases he'
   revert hm
   decide
theorem C40_strs (ht:ts[i]?=some t) (hG:GVal s B S ts mss i w) (hb:Blk w b 92 (.pointer (some ⟨s,0,none⟩) :: rest)) (hk:t.kind=4) (hB:B<=w.heap.size) (hl:S.vals.length=3+cV ts i) (hlt:S.vals.length<100000000000) (hlast:S.last=cO ts i/\S.live=cO ts i) :
  Calls Tryz.prog 40 #[.pointer (some ⟨b,0,none⟩),.agg t.cells.toArray] w λ e w'=>e=.returned (.int .i64 (gref ts i))/\∃S',Made s B S ts mss i w w' S':=by
 refine ret_mono (V40_sound _ t.kind t.b t.neg t.ma t.ml t.mc t.text t.ka t.kl t.kc t.hash t.same w (λ r w'=>r=.int .i64 (gref ts i)/\∃S',Made s B S ts mss i w w' S') ?_) (by rintro _ _ ⟨rfl,h⟩;exact ⟨rfl,h⟩)
 unfold V40
 refine newK_of λ c w1 hs hc hk1=>⟨_,hc.add 0 rfl,bsel_neg (by simp [hk]) (bsel_neg (by simp [hk]) (bsel_neg (by simp [hk]) (bsel_pos (by simp [hk]) ?_)))⟩
 have hk1d:=hk1.no (Keep.drawn w1)
 have hbd:=hk1d.nblk hb
 rw [nilK_some]
 refine ⟨_,hbd.add 0 rfl,_,hc.drew.add 4 rfl,(C86 (t:=t.text) (hG.st.no hk1d) hlt (by have:=hk1d.size;omega)).mono ?_⟩
 rintro _ w3 ⟨rfl,du,hS3,hk3⟩
 have hk03:Keep (Ty B storeTy w) w w3:=(Keep.of_no hk1d).ty hk3
 have e1:refT t (cV ts i)=S.vals.length:=by unfold refT;rw [if_neg (by omega),if_neg (by omega),if_neg (by omega)];omega
 refine ⟨_,rfl,by rw [gref_of ht,e1],_,made_of (l:=[.iface 160 (.agg #[.string t.text])]) ht hG hk03 hS3 rfl hl (by unfold nV;rw [if_neg (by omega),if_neg (by omega)];rfl) hlast (by unfold nO;rw [if_pos (by omega)];exact ⟨by simp,by simp⟩) ⟨rfl,rfl,rfl⟩ (v:=.iface 160 (.agg #[.string t.text])) ?_ ?_⟩
 ·rw [e1];simp
 ·unfold descT
  rw [if_neg (by omega),if_neg (by omega),if_neg (by omega),if_pos hk]
  exact rfl
theorem C40_rows (ht:ts[i]?=some t) (hG:GVal s B S ts mss i w) (hb:Blk w b 92 (.pointer (some ⟨s,0,none⟩) :: rest)) (hk:t.kind=5\/t.kind=6) (hkl:t.kl<1000000000000) (hB:B<=w.heap.size) (hl:S.vals.length=3+cV ts i) (hlt:S.vals.length<100000000000) (hlast:S.last=cO ts i/\S.live=cO ts i) (hlo:S.last<1000000000000) :
  Calls Tryz.prog 40 #[.pointer (some ⟨b,0,none⟩),.agg t.cells.toArray] w λ e w'=>e=.returned (.int .i64 (gref ts i))/\∃S' r g,Made s B S ts mss i w w' S'/\S'.vals[gref ts i]?=some (.iface 94 (.pointer (some ⟨r,0,none⟩)))/\w.heap.size<=r/\w.heap.size<=g/\
   Blk w' r 100 [.int .i64 (S.last+1),.slice (some ⟨g,0,none⟩) t.kl t.kl,.int .i64 t.kind]/\Blk w' g 3 (List.replicate t.kl (.int .i64 0)):=by
 have hno:nO t=1:=by unfold nO;rw [if_neg (by omega),if_neg (by omega)]
 have hnv:nV t=1:=by unfold nV;rw [if_neg (by omega),if_neg (by omega)]
 refine (C40_row hG.st hb hlt hB hk hkl ⟨by omega,hlo⟩ ⟨by omega,by omega⟩).mono ?_
 rintro _ w' ⟨rfl,du,r,g,hr,hg,hbr,hbg,hS',hk'⟩
 have e1:refT t (cV ts i)=S.vals.length:=by unfold refT;rw [if_neg (by omega),if_neg (by omega),if_neg (by omega)];omega
 refine ⟨by rw [gref_of ht,e1],_,r,g,made_of (l:=[.iface 94 (.pointer (some ⟨r,0,none⟩))]) ht hG hk' hS' rfl hl (by rw [hnv];rfl) hlast (by rw [hno];exact ⟨by simp,by simp⟩) ⟨rfl,rfl,rfl⟩ (v:=.iface 94 (.pointer (some ⟨r,0,none⟩))) ?_ ?_,?_,hr,hg,hbr,hbg⟩
 ·rw [e1];simp
 ·unfold descT
  rw [if_neg (by omega),if_neg (by omega),if_neg (by omega),if_neg (by omega)]
  refine ⟨by omega,94,r,100,[.slice (some ⟨g,0,none⟩) t.kl t.kl,.int .i64 t.kind],rfl,by omega,?_,.inl ⟨rfl,rfl,rfl⟩⟩
  have e2:numT t (cO ts i)=S.last+1:=by unfold numT;rw [if_neg (by omega),hlast.1]
  rw [e2];exact hbr
 ·rw [gref_of ht,e1];simp
theorem J3_enter (hk:7<=t.kind) {Q:Value->World->Prop} {c:Nat} {w1:World} (h:V40J3 w Q (some ⟨b,0,none⟩) ⟨c,0,none⟩ t.kind (t.kind == 7 || t.kind == 8 || t.kind == 9) w1):V40J4 w Q (some ⟨b,0,none⟩) ⟨c,0,none⟩ t.kind (t.kind == 6) w1:=by
 unfold V40J4
 refine bsel_neg (by simp;omega) (bsel_split (λ h7=>?_) λ h7=>bsel_split (λ h8=>?_) λ h8=>?_)
 ·simpa [h7] using h
 ·simpa [h8] using h
 ·simpa [h7,h8] using h
theorem V40_enter (hk:7<=t.kind) {Q:Value->World->Prop} (h:∀c w1,Blk w1 c 42 t.cells->Keep No w w1->V40J3 w Q (some ⟨b,0,none⟩) ⟨c,0,none⟩ t.kind (t.kind == 7 || t.kind == 8 || t.kind == 9) w1) :
  V40 (some ⟨b,0,none⟩) t.kind t.b t.neg t.ma t.ml t.mc t.text t.ka t.kl t.kc t.hash t.same w Q:=by
 unfold V40
 exact newK_of λ c w1 hs hc hk1=>⟨_,hc.add 0 rfl,bsel_neg (by simp;omega) (bsel_neg (by simp;omega) (bsel_neg (by simp;omega) (bsel_neg (by simp;omega) (bsel_neg (by simp;omega) (J3_enter hk (h c w1 hc hk1))))))⟩
variable {ta:Option Addr} {tc:Nat} {v:Value} {R:Nat} {ks:List Int}
theorem C40_table (ht:ts[i]?=some t) (hG:GVal s B S ts mss i w) (hb:Blk w b 92 [.pointer (some ⟨s,0,none⟩),.slice ta ts.length tc,v]) (hL:LowAt w B ta ts mss) (hrow:w.ownsRow R 3 1 v i (ints ((List.range i).map λ x=>(gref ts x:Int)))) (hk789:t.kind=7\/t.kind=8\/t.kind=9) (hB:B<=w.heap.size) (hl:S.vals.length=3+cV ts i) (hlt:S.vals.length<100000000000) (hlast:S.last=cO ts i/\S.live=cO ts i) (hlo:S.last<1000000000000)
  (hm:S.m=none) (hp:0<=S.pairs/\S.pairs<=65536) (hks:KidsAt w t ks) (hty:∀p,t.ka=some p->0<t.kl->p.block<B) (hkl:t.kl<100000000000) (hev:t.kind=7->ks.length % 2=0) (hkid:∀(j:Nat) (k:Int),ks[j]?=some k->0<=k/\k<i)
  (hkeyk:∀(j:Nat) (k:Int),(keysL t ks)[j]?=some k->∀u,ts[k.toNat]?=some u->isKeyK u) :
  Calls Tryz.prog 40 #[.pointer (some ⟨b,0,none⟩),.agg t.cells.toArray] w λ e w'=>e=.returned (.int .i64 (gref ts i))/\∃S' p d D,Made s B S ts mss i w w' S'/\S'.vals[gref ts i]?=some (.iface 111 (.pointer (some ⟨p,0,none⟩)))/\w.heap.size<=p/\
   Blk w' p 120 [.int .i64 (S.last+1),.pointer (some ⟨d,0,none⟩),.int .i64 t.kind]/\DictAt w' w.heap.size d D/\DcOk D/\D.most=S.pairs/\D.T.es=tabEs ts mss S.pairs t ks (keysL t ks).length:=by
 have hil:i<ts.length:=(List.getElem?_eq_some_iff.1 ht).1
 refine ret_mono (V40_sound _ t.kind t.b t.neg t.ma t.ml t.mc t.text t.ka t.kl t.kc t.hash t.same w (λ r w'=>r=.int .i64 (gref ts i)/\∃S' p d D,Made s B S ts mss i w w' S'/\S'.vals[gref ts i]?=some (.iface 111 (.pointer (some ⟨p,0,none⟩)))/\w.heap.size<=p/\
   Blk w' p 120 [.int .i64 (S.last+1),.pointer (some ⟨d,0,none⟩),.int .i64 t.kind]/\DictAt w' w.heap.size d D/\DcOk D/\D.most=S.pairs/\D.T.es=tabEs ts mss S.pairs t ks (keysL t ks).length) (V40_enter (by omega) λ c w1 hc hk1=>?_)) (by rintro _ _ ⟨rfl,h⟩;exact ⟨rfl,h⟩)
 unfold V40J3
 refine bsel_pos (by rcases hk789 with h | h | h <;> simp [h]) ⟨_,_,_,_,_,_,_,_,_,_,_,_,hc.cells0,?_⟩
 refine (C88_gen (hG.no hk1) (hk1.nblk hb) (hL.no hk1) (hk1.nrow hrow) (by omega) (by have:=hk1.size;omega) hm hp hlt ⟨by omega,hlo⟩ ⟨by omega,by omega⟩ hk789 (hks.no hk1) hty hkl hev hkid hkeyk).mono ?_
 rintro _ w' ⟨rfl,du,p,d,D,hpB,hbp,hD,hok,hmost,hes,hS',hk'⟩
 have hs1:=hk1.size
 have hk0:Keep (Ty B storeTy w) w w':=(Keep.of_no hk1).ty hk'
 have hno:nO t=1:=by unfold nO;rw [if_neg (by omega),if_neg (by omega)]
 have hnv:nV t=1:=by unfold nV;rw [if_neg (by omega),if_neg (by omega)]
 have e1:refT t (cV ts i)=S.vals.length:=by unfold refT;rw [if_neg (by omega),if_neg (by omega),if_neg (by omega)];omega
 refine ⟨_,rfl,by rw [gref_of ht,e1],_,p,d,D,made_of (l:=[.iface 111 (.pointer (some ⟨p,0,none⟩))]) ht hG hk0 hS' rfl hl (by rw [hnv];rfl) hlast (by rw [hno];exact ⟨by simp,by simp⟩) ⟨rfl,rfl,rfl⟩ (v:=.iface 111 (.pointer (some ⟨p,0,none⟩))) ?_ ?_,?_,by omega,hbp,hD.mono hs1,hok,hmost,hes⟩
 ·rw [e1];simp
 ·unfold descT
  rw [if_neg (by omega),if_neg (by omega),if_neg (by omega),if_neg (by omega)]
  refine ⟨by omega,111,p,120,[.pointer (some ⟨d,0,none⟩),.int .i64 t.kind],rfl,by omega,?_,.inr (.inl ⟨rfl,rfl,rfl⟩)⟩
  have e2:numT t (cO ts i)=S.last+1:=by unfold numT;rw [if_neg (by omega),hlast.1]
  rw [e2];exact hbp
 ·rw [gref_of ht,e1];simp
theorem C40_view (ht:ts[i]?=some t) (hG:GVal s B S ts mss i w) (hb:Blk w b 92 [.pointer (some ⟨s,0,none⟩),.slice ta ts.length tc,v]) (hrow:w.ownsRow R 3 1 v i (ints ((List.range i).map λ x=>(gref ts x:Int)))) (hk:15<=t.kind) (hB:B<=w.heap.size) (hl:S.vals.length=3+cV ts i) (hlt:S.vals.length<100000000000) (hlast:S.last=cO ts i/\S.live=cO ts i) (hlo:S.last<1000000000000)
  (hks:KidsAt w t ks) {k:Nat} (hk0:ks[0]?=some (k:Int)) (hki:k<i) :
  Calls Tryz.prog 40 #[.pointer (some ⟨b,0,none⟩),.agg t.cells.toArray] w λ e w'=>e=.returned (.int .i64 (gref ts i))/\∃S' p,Made s B S ts mss i w w' S'/\S'.vals[gref ts i]?=some (.iface 162 (.pointer (some ⟨p,0,none⟩)))/\w.heap.size<=p/\Blk w' p 166 [.int .i64 (S.last+1),.int .i64 (gref ts k),.int .i64 t.kind]:=by
 refine ret_mono (V40_sound _ t.kind t.b t.neg t.ma t.ml t.mc t.text t.ka t.kl t.kc t.hash t.same w (λ r w'=>r=.int .i64 (gref ts i)/\∃S' p,Made s B S ts mss i w w' S'/\S'.vals[gref ts i]?=some (.iface 162 (.pointer (some ⟨p,0,none⟩)))/\w.heap.size<=p/\Blk w' p 166 [.int .i64 (S.last+1),.int .i64 (gref ts k),.int .i64 t.kind]) (V40_enter (by omega) λ c w1 hc hk1=>?_)) (by rintro _ _ ⟨rfl,h⟩;exact ⟨rfl,h⟩)
 have hk1d:=hk1.no (Keep.drawn w1)
 have hbd:=hk1d.nblk hb
 obtain ⟨q,hq,hqc⟩:=(hks.no hk1d).2 0 _ hk0
 obtain ⟨g,rc,rfl,hcg⟩:=row_get (hk1d.nrow hrow) hki
 have hkl:0<t.kl:=by have:=(List.getElem?_eq_some_iff.1 hk0).1;have:=hks.1;omega
 unfold V40J3
 refine bsel_neg (by simp;omega) (bsel_neg (by simp;omega) ?_)
 simp only [nilK_some]
 refine ⟨_,hbd.add 0 rfl,_,hc.drew.add 0 rfl,_,_,_,hbd.add 2 rfl,_,_,_,hc.drew.add 5 rfl,?_⟩
 rw [hq]
 refine idxK_of (i:=0) hkl ⟨_,by rw [Nat.zero_mul];exact hqc,idxK_of hki ⟨_,by rw [add_mk,Nat.mul_one,Nat.zero_add];exact hcg,?_⟩⟩
 refine (C91 (hG.st.no hk1d) hlt (by have:=hk1d.size;omega) ⟨by omega,hlo⟩ ⟨by omega,by omega⟩).mono ?_
 rintro _ w' ⟨rfl,du,p,hpB,hbp,hS',hk'⟩
 have hs1:=hk1d.size
 have hk00:Keep (Ty B storeTy w) w w':=(Keep.of_no hk1d).ty hk'
 have hno:nO t=1:=by unfold nO;rw [if_neg (by omega),if_neg (by omega)]
 have hnv:nV t=1:=by unfold nV;rw [if_neg (by omega),if_neg (by omega)]
 have e1:refT t (cV ts i)=S.vals.length:=by unfold refT;rw [if_neg (by omega),if_neg (by omega),if_neg (by omega)];omega
 refine ⟨_,rfl,by rw [gref_of ht,e1],_,p,made_of (l:=[.iface 162 (.pointer (some ⟨p,0,none⟩))]) ht hG hk00 hS' rfl hl (by rw [hnv];rfl) hlast (by rw [hno];exact ⟨by simp,by simp⟩) ⟨rfl,rfl,rfl⟩ (v:=.iface 162 (.pointer (some ⟨p,0,none⟩))) ?_ ?_,?_,by omega,hbp⟩
 ·rw [e1];simp
 ·unfold descT
  rw [if_neg (by omega),if_neg (by omega),if_neg (by omega),if_neg (by omega)]
  refine ⟨by omega,162,p,166,[.int .i64 (gref ts k),.int .i64 t.kind],rfl,by omega,?_,.inr (.inr (.inl ⟨rfl,rfl,rfl⟩))⟩
  have e2:numT t (cO ts i)=S.last+1:=by unfold numT;rw [if_neg (by omega),hlast.1]
  rw [e2];exact hbp
 ·rw [gref_of ht,e1];simp
theorem C40_inst (ht:ts[i]?=some t) (hG:GVal s B S ts mss i w) (hb:Blk w b 92 (.pointer (some ⟨s,0,none⟩) :: rest)) (hk:t.kind=14) (hB:B<=w.heap.size) (hl:S.vals.length=3+cV ts i) (hlt:S.vals.length<10000000000) (hlast:S.last=cO ts i/\S.live=cO ts i) (hlo:S.last<100000000000) (hm:S.m=none) (hp:0<=S.pairs/\S.pairs<=65536) (hsh:0<=S.shared/\S.shared<=256) :
  Calls Tryz.prog 40 #[.pointer (some ⟨b,0,none⟩),.agg t.cells.toArray] w λ e w'=>e=.returned (.int .i64 (gref ts i))/\∃S' p sp ro c d D f,Made s B S ts mss i w w' S'/\S'.vals[gref ts i]?=some (.iface 163 (.pointer (some ⟨p,0,none⟩)))/\S'.vals[S.vals.length]?=some (.iface 190 (.pointer (some ⟨c,0,none⟩)))/\gref ts i=S.vals.length+1/\w.heap.size<=p/\w.heap.size<=c/\
   Blk w' p 169 [.int .i64 (S.last+2),.pointer (some ⟨sp,0,none⟩),.int .i64 S.vals.length]/\Blk w' sp 239 [.pointer (some ⟨f,0,none⟩),.iface 336 (.pointer (some ⟨ro,0,none⟩)),.int .u64 0]/\Blk w' ro 338 [.slice none 0 0]/\
   Blk w' c 194 [.int .i64 (S.last+1),.pointer (some ⟨d,0,none⟩),.string ⟨#[67]⟩,.int .i64 (-1),.pointer (some ⟨f,0,none⟩),.bool t.hash,.bool t.same]/\DictAt w' w.heap.size d D/\TbOk D.T/\D.T.es=[]/\D.most=S.pairs/\FamAt w' w.heap.size f S.shared S.pairs:=by
 refine ret_mono (V40_sound _ t.kind t.b t.neg t.ma t.ml t.mc t.text t.ka t.kl t.kc t.hash t.same w (λ r w'=>r=.int .i64 (gref ts i)/\∃S' p sp ro c d D f,Made s B S ts mss i w w' S'/\S'.vals[gref ts i]?=some (.iface 163 (.pointer (some ⟨p,0,none⟩)))/\S'.vals[S.vals.length]?=some (.iface 190 (.pointer (some ⟨c,0,none⟩)))/\gref ts i=S.vals.length+1/\w.heap.size<=p/\w.heap.size<=c/\
   Blk w' p 169 [.int .i64 (S.last+2),.pointer (some ⟨sp,0,none⟩),.int .i64 S.vals.length]/\Blk w' sp 239 [.pointer (some ⟨f,0,none⟩),.iface 336 (.pointer (some ⟨ro,0,none⟩)),.int .u64 0]/\Blk w' ro 338 [.slice none 0 0]/\
   Blk w' c 194 [.int .i64 (S.last+1),.pointer (some ⟨d,0,none⟩),.string ⟨#[67]⟩,.int .i64 (-1),.pointer (some ⟨f,0,none⟩),.bool t.hash,.bool t.same]/\DictAt w' w.heap.size d D/\TbOk D.T/\D.T.es=[]/\D.most=S.pairs/\FamAt w' w.heap.size f S.shared S.pairs) (V40_enter (by omega) λ c0 w1 hc hk1=>?_)) (by rintro _ _ ⟨rfl,h⟩;exact ⟨rfl,h⟩)
 have hs1:=hk1.size
 unfold V40J3
 refine bsel_neg (by simp [hk]) (bsel_pos (by simp [hk]) ?_)
 simp only [nilK_some]
 refine ⟨_,(hk1.nblk hb).add 0 rfl,(C89 (name:=⟨#[67]⟩) (base:=-1) (hG.st.no hk1) hm hp hsh (by omega) (by omega) ⟨by omega,by omega⟩ ⟨by omega,by omega⟩).mono ?_⟩
 rintro _ w2 ⟨rfl,du,c,d,D,f,hcB,hbc,hD,hok,hes,hmost,hf,hS2,hk2⟩
 have hb2:=hk2.tblk (hk1.nblk hb) (by decide)
 have hc2:=hk2.tblk hc (by decide)
 have hget:(S.vals ++ [.iface 190 (.pointer (some ⟨c,0,none⟩))])[S.vals.length]?=some (.iface 190 (.pointer (some ⟨c,0,none⟩))):=by simp
 refine ⟨_,rfl,_,hb2.add 0 rfl,(C41_in hS2 hget).mono ?_⟩
 rintro _ w2' ⟨rfl,rfl⟩
 refine ⟨_,rfl,_,_,yes117 _ _,bsel_pos rfl ⟨_,hc2.drew.add 6 rfl,_,hc2.drew.add 7 rfl,?_⟩⟩
 simp only [nilK_some]
 refine stK_add hbc.drew (by simp) λ w3 hbc3 hk3=>⟨(hk3.blk hc2.drew (hc2.ne hbc (by decide))).add 7 rfl,?_⟩
 refine stK_add hbc3 (by simp) λ w4 hbc4 hk4=>?_
 have hkc:Keep (λ k=>k=c) w2' w4:=((Keep.drawn w2').of_no.trans hk3 λ _ _ e=>e).trans hk4 λ _ _ e=>e
 have hs2:=hk2.size
 have hS4:=hS2.keep hkc λ k _ e=>by subst e;exact ⟨194,hbc.etype,by decide⟩
 have hD4:=hD.keep hkc λ k hk e=>by subst e;exact hD.not_own hbc.etype (by rintro _ ⟨⟩;decide) hk
 have hf4:=hf.keep hkc λ k _ _ hx e=>by
  subst e
  rcases hx _ hbc.etype with q | q
  ·cases q
  ·revert q;decide
 have hb4:=hkc.blk hb2 (hb2.ne hbc (by decide))
 have hk14:Keep (Ty B storeTy w1) w1 w4:=hk2.trans hkc λ k hk e=>by omega
 unfold V40J2 V40J1
 simp only [nilK_some]
 refine ⟨_,hb4.add 0 rfl,(C90 (cref:=S.vals.length) hS4 hget hbc4 hf4 (by simp;omega) (by have:=hkc.size;omega) ⟨by simp only;omega,by simp only;omega⟩ ⟨by simp only;omega,by simp only;omega⟩).mono ?_⟩
 rintro _ w5 ⟨rfl,du5,p,sp,ro,hpB,hbp,hbsp,hbro,hS5,hk5⟩
 have hk05:Keep (Ty B storeTy w) w w5:=(Keep.of_no hk1).ty (hk14.ty hk5)
 have hkcs:=hkc.size
 have hno:nO t=2:=by unfold nO;rw [if_neg (by omega),if_pos hk]
 have hnv:nV t=2:=by unfold nV;rw [if_neg (by omega),if_pos hk]
 have e1:refT t (cV ts i)=S.vals.length+1:=by unfold refT;rw [if_neg (by omega),if_neg (by omega),if_pos hk];omega
 have e3:S.last+1+1=S.last+2:=by omega
 simp only [e3] at hbp
 have hD5:=hD4.keep hk5 λ k hk hx=>by
  obtain ⟨_,_,e,he,hm⟩:=hD4.ty hk
  obtain ⟨_,e',he',hm'⟩:=hx
  rw [he] at he'
  cases he'
  have:∀e ∈ dictTy,e ∉ storeTy:=by decide
  exact this e hm hm'
 have hf5:=hf4.keep hk5 λ k _ _ hx hy=>by
  obtain ⟨_,e,he,hm⟩:=hy
  rcases hx e he with rfl | q
  ·revert hm;decide
  ·have:∀e ∈ tabTy,e ∉ storeTy:=by decide
   exact this e q hm
 refine ⟨_,rfl,by rw [gref_of ht,e1];simp,_,p,sp,ro,c,d,D,f,made_of (l:=[.iface 190 (.pointer (some ⟨c,0,none⟩)),.iface 163 (.pointer (some ⟨p,0,none⟩))]) ht hG hk05 hS5 (by simp) hl (by rw [hnv];rfl) hlast (by rw [hno];exact ⟨by simp only;omega,by simp only;omega⟩) ⟨rfl,rfl,rfl⟩ (v:=.iface 163 (.pointer (some ⟨p,0,none⟩))) ?_ ?_,?_,?_,by rw [gref_of ht,e1],by omega,by omega,hbp,hbsp,hbro,hk5.tblk hbc4 (by decide),hD5.mono (by omega),hok,hes,hmost,hf5.mono (by omega)⟩
 ·rw [e1];simp
 ·unfold descT
  rw [if_neg (by omega),if_neg (by omega),if_neg (by omega),if_neg (by omega)]
  refine ⟨by omega,163,p,169,[.pointer (some ⟨sp,0,none⟩),.int .i64 S.vals.length],rfl,by omega,?_,.inr (.inr (.inr (.inl ⟨rfl,rfl,hk⟩)))⟩
  have e2:numT t (cO ts i)=S.last+2:=by unfold numT;rw [if_pos hk,hlast.1]
  rw [e2];exact hbp
 ·rw [gref_of ht,e1];simp
 ·simp
end
end Go.Fw

namespace Go.Fw
open Go.Proofs Go.RowKit
structure FineT (ts:List Tm) (i:Nat) (t:Tm) (ks:List Int):Prop where
 kind:(1<=t.kind/\t.kind<=9)\/t.kind=14\/(15<=t.kind/\t.kind<=17)
 kl:t.kl<100000000000
 kids:∀(j:Nat) (k:Int),ks[j]?=some k->0<=k/\k<limit ts.length i t
 even:t.kind=7->ks.length % 2=0
 keys:∀(j:Nat) (k:Int),(keysL t ks)[j]?=some k->∀u,ts[k.toNat]?=some u->isKeyK u
 view:15<=t.kind->∃k:Nat,ks[0]?=some (k:Int)/\k<i
structure GX (w:World) (B:Nat) (pairs shared:Int) (ts:List Tm) (mss:Nat->List Int) (ks:List Int) (vals:List Value) (x:Nat) (t:Tm):Prop where
 tab:t.kind=7\/t.kind=8\/t.kind=9->∃p d D,vals[gref ts x]?=some (.iface 111 (.pointer (some ⟨p,0,none⟩)))/\Blk w p 120 [.int .i64 (numT t (cO ts x)),.pointer (some ⟨d,0,none⟩),.int .i64 t.kind]/\DictAt w B d D/\DcOk D/\D.most=pairs/\D.T.es=tabEs ts mss pairs t ks (keysL t ks).length
 view:15<=t.kind->∃p k,vals[gref ts x]?=some (.iface 162 (.pointer (some ⟨p,0,none⟩)))/\ks[0]?=some ((k:Nat):Int)/\Blk w p 166 [.int .i64 (numT t (cO ts x)),.int .i64 (gref ts k),.int .i64 t.kind]
 inst:t.kind=14->∃p sp ro c d D f,vals[gref ts x]?=some (.iface 163 (.pointer (some ⟨p,0,none⟩)))/\vals[gref ts x-1]?=some (.iface 190 (.pointer (some ⟨c,0,none⟩)))/\
  Blk w p 169 [.int .i64 (numT t (cO ts x)),.pointer (some ⟨sp,0,none⟩),.int .i64 (gref ts x-1:Nat)]/\Blk w sp 239 [.pointer (some ⟨f,0,none⟩),.iface 336 (.pointer (some ⟨ro,0,none⟩)),.int .u64 0]/\Blk w ro 338 [.slice none 0 0]/\
  Blk w c 194 [.int .i64 (numT t (cO ts x)-1),.pointer (some ⟨d,0,none⟩),.string ⟨#[67]⟩,.int .i64 (-1),.pointer (some ⟨f,0,none⟩),.bool t.hash,.bool t.same]/\DictAt w B d D/\TbOk D.T/\D.T.es=[]/\D.most=pairs/\FamAt w B f shared pairs
def gxTy:List TypeId:=[120,166,169,239,338,194,334,235,315,295,440,505,506,21]
theorem GX.keep {fp:Nat->Prop} {w w':World} {B:Nat} {pairs shared:Int} {ts:List Tm} {mss:Nat->List Int} {ks:List Int} {vals vals':List Value} {x:Nat} {t:Tm} (h:GX w B pairs shared ts mss ks vals x t) (hk:Keep fp w w') (hn:∀k,k<w.heap.size->fp k->∃e,etype w k=some e/\e ∉ gxTy) (hv:∀(n:Nat) (y:Value),vals[n]?=some y->vals'[n]?=some y):GX w' B pairs shared ts mss ks vals' x t:=by
 have hb:∀{b:Nat} {e:TypeId} {cs:List Value},Blk w b e cs->e ∈ gxTy->Blk w' b e cs:=λ hb he=>hk.blk hb λ hf=>by
  obtain ⟨e',h1,h2⟩:=hn _ hb.lt hf
  rw [hb.etype] at h1
  cases h1
  exact h2 he
 have hd:∀{d:Nat} {D:Dc},DictAt w B d D->DictAt w' B d D:=λ hd=>hd.keep hk λ k hk' hf=>by
  obtain ⟨_,hlt,e,he,hm⟩:=hd.ty hk'
  obtain ⟨e',h1,h2⟩:=hn _ hlt hf
  rw [he] at h1
  cases h1
  have:∀e ∈ dictTy,e ∈ gxTy:=by decide
  exact h2 (this e hm)
 refine ⟨λ ht=>?_,λ ht=>?_,λ ht=>?_⟩
 ·obtain ⟨p,d,D,h1,h2,h3,h4⟩:=h.tab ht
  exact ⟨p,d,D,hv _ _ h1,hb h2 (by decide),hd h3,h4⟩
 ·obtain ⟨p,k,h1,h2,h3⟩:=h.view ht
  exact ⟨p,k,hv _ _ h1,h2,hb h3 (by decide)⟩
 ·obtain ⟨p,sp,ro,c,d,D,f,h1,h2,h3,h4,h5,h6,h7,h8,h9,h10,h11⟩:=h.inst ht
  refine ⟨p,sp,ro,c,d,D,f,hv _ _ h1,hv _ _ h2,hb h3 (by decide),hb h4 (by decide),hb h5 (by decide),hb h6 (by decide),hd h7,h8,h9,h10,h11.keep hk λ k _ hlt hx hf=>?_⟩
  obtain ⟨e',q1,q2⟩:=hn _ hlt hf
  rcases hx e' q1 with rfl | q
  ·exact q2 (by decide)
  ·have:∀e ∈ tabTy,e ∈ gxTy:=by decide
   exact q2 (this e' q)
theorem StAt.vals_eq {w:World} {s B B':Nat} {S S':St} (h:StAt w s B S) (h':StAt w s B' S') {i:Nat} {x y:Value} (hx:S.vals[i]?=some x) (hy:S'.vals[i]?=some y):x=y:=by
 obtain ⟨q1,q2,q3,q4,c1,c2,c3,c4,c5⟩:=h.slots.at hx
 obtain ⟨q1',q2',q3',q4',c1',c2',c3',c4',c5'⟩:=h'.slots.at hy
 have hcells:=(h.blk.uniq h'.blk).2
 simp only [St.cells,List.cons.injEq,Value.pointer.injEq,Option.some.injEq,Addr.mk.injEq] at hcells
 have ha:S.a=S'.a:=by simp at hcells;exact hcells.2.2.2.2.2.2.1
 rw [ha,c1'] at c1
 simp at c1
 have hq:q1'=q1:=c1.1
 subst hq
 rw [c4'] at c4
 exact (Option.some.inj c4).symm
section
variable (w0:World) (s B:Nat) (S:St) (ts:List Tm) (mss kss:Nat->List Int)
structure GI (m i j:Nat) (gs:Nat->Nat) (S':St) (own:Nat->Prop) (w:World):Prop where
 le:m<=ts.length
 val:GVal s B S' ts mss m w
 last:S'.last=cO ts m/\S'.live=cO ts m
 len:S'.vals.length=3+cV ts m
 fix:S'.pairs=S.pairs/\S'.shared=S.shared/\S'.m=S.m
 pre:∃l,S'.vals=val0 ++ l
 row:∀x t,ts[x]?=some t->x<m->isRow t->∃r cs,S'.vals[gref ts x]?=some (.iface 94 (.pointer (some ⟨r,0,none⟩)))/\Blk w r 100 [.int .i64 (numT t (cO ts x)),.slice (some ⟨gs x,0,none⟩) t.kl t.kl,.int .i64 t.kind]/\Blk w (gs x) 3 cs/\cs.length=t.kl/\own (gs x)/\w0.heap.size<=gs x/\
  ∀(pos:Nat) (kid:Int),(kss x)[pos]?=some kid->(x<i\/x=i/\pos<j)->cs[pos]?=some (.int .i64 (gref ts kid.toNat))
 one:∀(x x':Nat) (t t':Tm),ts[x]?=some t->ts[x']?=some t'->isRow t->isRow t'->x<m->x'<m->gs x=gs x'->x=x'
 mem:∀k,own k->∃(x:Nat) (t:Tm),ts[x]?=some t/\isRow t/\x<m/\k=gs x
 more:∀x t,ts[x]?=some t->x<m->GX w B S.pairs S.shared ts mss (kss x) S'.vals x t
def GInv (m i j:Nat) (refs:List Int) (own:Nat->Prop) (w:World):Prop:=refs=(List.range m).map (λ x=>(gref ts x:Int))/\∃gs S',GI w0 s B S ts mss kss m i j gs S' own w
theorem ginv_stab (m i j:Nat) (refs:List Int) (own:Nat->Prop) (w w':World) (X:Nat->Prop) (h:GInv w0 s B S ts mss kss m i j refs own w) (hk:Keep X w w') (hX:∀k,X k->k<w.heap.size->(etype w k=some 3\/etype w k=some 92)/\¬own k):GInv w0 s B S ts mss kss m i j refs own w':=by
 have hX':∀k,k<w.heap.size->X k->∃e,etype w k=some e/\(e=3\/e=92):=λ k h1 h2=>by
  rcases (hX k h2 h1).1 with h | h
  ·exact ⟨3,h,.inl rfl⟩
  ·exact ⟨92,h,.inr rfl⟩
 obtain ⟨hr,gs,S',h1,h2,h3,h4,h5,h6,h7,h8,h9,h10⟩:=h
 refine ⟨hr,gs,S',h1,h2.keep hk λ k hl hx=>?_,h3,h4,h5,h6,λ x t hx hm ht=>?_,h8,h9,λ x t hx hm=>(h10 x t hx hm).keep hk (λ k hl hx=>?_) λ _ _ h=>h⟩
 ·obtain ⟨e,q1,q2⟩:=hX' k hl hx
  rcases q2 with rfl | rfl
  ·exact ⟨_,q1,by decide,by decide⟩
  ·exact ⟨_,q1,by decide,by decide⟩
 ·obtain ⟨r,cs,g1,g2,g3,g4,g5,g6,g7⟩:=h7 x t hx hm ht
  refine ⟨r,cs,g1,hk.xblk g2 λ hl hx=>?_,hk.xblk g3 λ hl hx=>(hX _ hx hl).2 g5,g4,g5,g6,g7⟩
  rcases (hX r hx hl).1 with h | h <;> rw [g2.etype] at h <;> cases h
 ·obtain ⟨e,q1,q2⟩:=hX' k hl hx
  rcases q2 with rfl | rfl
  ·exact ⟨_,q1,by decide⟩
  ·exact ⟨_,q1,by decide⟩
end
section
variable {w0:World} {s B b:Nat} {S:St} {ts:List Tm} {mss kss:Nat->List Int}
theorem GInv.next {m i j i' j':Nat} {refs:List Int} {own:Nat->Prop} {w:World} (h:GInv w0 s B S ts mss kss m i j refs own w) (hh:∀x t,ts[x]?=some t->isRow t->∀pos,pos<(kss x).length->(x<i'\/x=i'/\pos<j')->(x<i\/x=i/\pos<j)):GInv w0 s B S ts mss kss m i' j' refs own w:=by
 obtain ⟨hr,gs,S',h1,h2,h3,h4,h5,h6,h7,h8,h9,h10⟩:=h
 refine ⟨hr,gs,S',h1,h2,h3,h4,h5,h6,λ x t hx hm ht=>?_,h8,h9,h10⟩
 obtain ⟨r,cs,g1,g2,g3,g4,g5,g6,g7⟩:=h7 x t hx hm ht
 exact ⟨r,cs,g1,g2,g3,g4,g5,g6,λ pos kid hp hc=>g7 pos kid hp (hh x t hx ht pos (List.getElem?_eq_some_iff.1 hp).1 hc)⟩
theorem GI.more1 {m:Nat} {gs:Nat->Nat} {S' S2:St} {own:Nat->Prop} {w w':World} {t:Tm} (h:GI w0 s B S ts mss kss m 0 0 gs S' own w) (ht:ts[m]?=some t) (hM:Made s B S' ts mss m w w' S2) (hr:¬isRow t) (hx:GX w' B S.pairs S.shared ts mss (kss m) S2.vals m t):GI w0 s B S ts mss kss (m+1) 0 0 gs S2 own w':=by
 obtain ⟨h1,h2,h3,h4,h5,h6,h7,h8,h9,h10⟩:=h
 obtain ⟨l,hl⟩:=hM.pre
 obtain ⟨l0,hl0⟩:=h6
 have hgrow:∀(n:Nat) (y:Value),S'.vals[n]?=some y->S2.vals[n]?=some y:=λ n y hn=>by
  rw [hl,List.getElem?_append_left (List.getElem?_eq_some_iff.1 hn).1];exact hn
 have hlt:=(List.getElem?_eq_some_iff.1 ht).1
 have old:∀{x:Nat} {u:Tm},ts[x]?=some u->isRow u->x<m+1->x<m:=λ {x u} hu hru hx=>by
  by_cases hc:x=m
  ·subst hc;rw [ht] at hu;cases hu;exact absurd hru hr
  ·omega
 refine ⟨by omega,hM.val,hM.last,hM.len,⟨hM.fix.1.trans h5.1,hM.fix.2.1.trans h5.2.1,hM.fix.2.2.trans h5.2.2⟩,⟨l0 ++ l,by rw [hl,hl0,List.append_assoc]⟩,λ x u hu hlt hru=>?_,λ x x' u u' hu hu' hru hru' hx1 hx2 he=>h8 x x' u u' hu hu' hru hru' (old hu hru hx1) (old hu' hru' hx2) he,λ k hk=>?_,λ x u hu hlt=>?_⟩
 ·obtain ⟨r,cs,g1,g2,g3,g4,g5,g6,g7⟩:=h7 x u hu (old hu hru hlt) hru
  exact ⟨r,cs,hgrow _ _ g1,hM.keep.tblk g2 (by decide),hM.keep.tblk g3 (by decide),g4,g5,g6,g7⟩
 ·obtain ⟨x,u,a1,a2,a3,a4⟩:=h9 k hk
  exact ⟨x,u,a1,a2,by omega,a4⟩
 ·by_cases hc:x=m
  ·subst hc;rw [ht] at hu;cases hu;exact hx
  ·exact (h10 x u hu (by omega)).keep hM.keep (λ k _ hf=>by
    obtain ⟨_,e,he,hm⟩:=hf
    have:∀e ∈ storeTy,e ∉ gxTy:=by decide
    exact ⟨e,he,this e hm⟩) hgrow
theorem GX.of_plain {w:World} {pairs shared:Int} {ks:List Int} {vals:List Value} {x:Nat} {t:Tm} (h:t.kind<=6):GX w B pairs shared ts mss ks vals x t:=⟨λ h'=>by omega,λ h'=>by omega,λ h'=>by omega⟩
theorem GI.moreR {m:Nat} {gs:Nat->Nat} {S' S2:St} {own:Nat->Prop} {w w':World} {t:Tm} {r g:Nat} (h:GI w0 s B S ts mss kss m 0 0 gs S' own w) (hw:w0.heap.size<=w.heap.size) (ht:ts[m]?=some t) (hM:Made s B S' ts mss m w w' S2) (hr:isRow t) (hv:S2.vals[gref ts m]?=some (.iface 94 (.pointer (some ⟨r,0,none⟩)))) (hg:w.heap.size<=g)
  (hb:Blk w' r 100 [.int .i64 (numT t (cO ts m)),.slice (some ⟨g,0,none⟩) t.kl t.kl,.int .i64 t.kind]) (hbg:Blk w' g 3 (List.replicate t.kl (.int .i64 0))) :
  GI w0 s B S ts mss kss (m+1) 0 0 (λ x=>if x=m then g else gs x) S2 (λ k=>own k\/k=g) w':=by
 obtain ⟨h1,h2,h3,h4,h5,h6,h7,h8,h9,h10⟩:=h
 obtain ⟨l,hl⟩:=hM.pre
 obtain ⟨l0,hl0⟩:=h6
 have hgrow:∀(n:Nat) (y:Value),S'.vals[n]?=some y->S2.vals[n]?=some y:=λ n y hn=>by
  rw [hl,List.getElem?_append_left (List.getElem?_eq_some_iff.1 hn).1];exact hn
 have hlt:=(List.getElem?_eq_some_iff.1 ht).1
 have holdg:∀{x:Nat} {u:Tm},ts[x]?=some u->isRow u->x<m->gs x<w.heap.size:=λ {x u} hu hru hx=>by
  obtain ⟨r,cs,g1,g2,g3,_⟩:=h7 x u hu hx hru
  exact g3.lt
 refine ⟨by omega,hM.val,hM.last,hM.len,⟨hM.fix.1.trans h5.1,hM.fix.2.1.trans h5.2.1,hM.fix.2.2.trans h5.2.2⟩,⟨l0 ++ l,by rw [hl,hl0,List.append_assoc]⟩,λ x u hu hlt' hru=>?_,λ x x' u u' hu hu' hru hru' hx1 hx2 he=>?_,λ k hk=>?_,λ x u hu hlt'=>?_⟩
 ·by_cases hc:x=m
  ·subst hc
   rw [ht] at hu;cases hu
   simp only [if_true]
   refine ⟨r,_,hv,hb,hbg,by simp,.inr trivial,by omega,λ pos kid _ hc=>?_⟩
   rcases hc with hc | hc <;> omega
  ·simp only [if_neg hc]
   obtain ⟨r',cs,g1,g2,g3,g4,g5,g6,g7⟩:=h7 x u hu (by omega) hru
   exact ⟨r',cs,hgrow _ _ g1,hM.keep.tblk g2 (by decide),hM.keep.tblk g3 (by decide),g4,.inl g5,g6,g7⟩
 ·by_cases hc:x=m <;> by_cases hc':x'=m
  ·omega
  ·simp only [if_pos hc,if_neg hc'] at he
   have:=holdg hu' hru' (by omega);omega
  ·simp only [if_neg hc,if_pos hc'] at he
   have:=holdg hu hru (by omega);omega
  ·simp only [if_neg hc,if_neg hc'] at he
   exact h8 x x' u u' hu hu' hru hru' (by omega) (by omega) he
 ·rcases hk with hk | rfl
  ·obtain ⟨x,u,a1,a2,a3,a4⟩:=h9 k hk
   exact ⟨x,u,a1,a2,by omega,by rw [if_neg (by omega)];exact a4⟩
  ·exact ⟨m,t,ht,hr,by omega,by rw [if_pos rfl]⟩
 ·by_cases hc:x=m
  ·subst hc
   rw [ht] at hu;cases hu
   exact GX.of_plain (by unfold isRow at hr;omega)
  ·exact (h10 x u hu (by omega)).keep hM.keep (λ k _ hf=>by
    obtain ⟨_,e,he,hm⟩:=hf
    have:∀e ∈ storeTy,e ∉ gxTy:=by decide
    exact ⟨e,he,this e hm⟩) hgrow
end
end Go.Fw

namespace Go.Fw
open Go.Proofs Go.RowKit
theorem ginv_start {w0:World} {s B:Nat} {S:St} {ts:List Tm} {mss kss:Nat->List Int} (h0:∃d,StAt w0 s B { S with due:=d,last:=0,live:=0 }) (hS:S.vals=val0):GInv w0 s B S ts mss kss 0 0 0 [] No w0:=by
 obtain ⟨d,h0⟩:=h0
 refine ⟨rfl,λ _=>0,_,⟨by omega,⟨h0,λ x t _ h=>by omega⟩,⟨rfl,rfl⟩,by simp [hS,val0,cV],⟨rfl,rfl,rfl⟩,⟨[],by simp [hS]⟩,λ x t _ h=>by omega,λ x x' _ _ _ _ _ _ h=>by omega,λ k h=>h.elim,λ x t _ h=>by omega⟩⟩
theorem gen_laws {w0:World} {s B b:Nat} {S:St} {ts:List Tm} {mss kss:Nat->List Int} {ta:Option Addr} {tc:Nat} {err:Nat->Int} (hb:b=w0.heap.size) (hB:B<=w0.heap.size) (hm:S.m=none) (hp:0<=S.pairs/\S.pairs<=65536) (hsh:0<=S.shared/\S.shared<=256)
  (hL:LowAt w0 B ta ts mss) (hn:ts.length<1000000) (hkids:∀i t,ts[i]?=some t->KidsAt w0 t (kss i)/\(∀p,t.ka=some p->0<t.kl->p.block<B))
  (hwrong:∀i w,i<ts.length->Keep No w0 w->Blk w b 92 [.pointer (some ⟨s,0,none⟩),.slice ta ts.length tc,.slice none 0 0]->Calls Tryz.prog 39 #[.pointer (some ⟨b,0,none⟩),.int .i64 i] w λ e w'=>e=.returned (.int .i64 (err i))/\Keep No w w')
  (hfine:(∀j,j<ts.length->err j=0)->∀i t,ts[i]?=some t->FineT ts i t (kss i)) :
  Laws w0 s b ta tc ts (λ k=>Ty B storeTy w0 k) err (λ i=>GInv w0 s B S ts mss kss i 0 0) (λ i j=>GInv w0 s B S ts mss kss ts.length i j):=by
 have hTy:∀{w:World} {k:Nat},Keep (λ k=>Ty B storeTy w0 k) w0 w->Ty B storeTy w k->k<w0.heap.size->Ty B storeTy w0 k:=by
  intro w k hk ht hlt
  by_cases hc:Ty B storeTy w0 k
  ·exact hc
  ·obtain ⟨h1,e,h2,h3⟩:=ht
   refine ⟨h1,e,?_,h3⟩
   rw [<-h2]
   unfold etype
   rw [hk.block k hlt hc]
 refine ⟨hwrong,λ m=>ginv_stab w0 s B S ts mss kss m 0 0,?_,λ refs own w _ _ h=>h,λ i j=>ginv_stab w0 s B S ts mss kss ts.length i j,?_⟩
 ·intro i t refs own w v herr ht hrl hInv hk htsw hbb hrow hown
  have hil:=(List.getElem?_eq_some_iff.1 ht).1
  obtain ⟨hrefs,gs,S',hGI⟩:=hInv
  have hF:=hfine herr i t ht
  have hsz:=hk.size
  have hfoot:∀k,Ty B storeTy w k->k≠b/\v.ownBlock≠some k/\(k<w0.heap.size->Ty B storeTy w0 k):=by
   intro k hT
   have hT':=hT
   obtain ⟨_,e,he,hm⟩:=hT
   refine ⟨λ h=>?_,λ h=>?_,hTy hk hT'⟩
   ·subst h;rw [hbb.etype] at he;cases he;exact absurd hm (by decide)
   ·rw [ownsRow_etype hrow h] at he;cases he;exact absurd hm (by decide)
  have hLw:LowAt w B ta ts mss:=hL.keep hk λ k hk=>hk.1
  obtain ⟨hks0,hkb⟩:=hkids i t ht
  have hks:KidsAt w t (kss i):=hks0.keep0 hk λ p hp h0 hx=>by have:=hkb p hp h0;have:=hx.1;omega
  have hrefs':refs ++ [(gref ts i:Int)]=(List.range (i+1)).map (λ x=>(gref ts x:Int)):=by
   rw [List.range_succ,List.map_append,hrefs];rfl
  have hcv:=cV_le ts i
  have hco:=cO_le ts i
  have hvl:=hGI.len
  have hlast:=hGI.last
  have hlt1:S'.vals.length<10000000000:=by omega
  have hlo:S'.last<100000000000:=by omega
  have hfix:=hGI.fix
  have hm':S'.m=none:=hfix.2.2.trans hm
  have hp':0<=S'.pairs/\S'.pairs<=65536:=by rw [hfix.1];exact hp
  have hsh':0<=S'.shared/\S'.shared<=256:=by rw [hfix.2.1];exact hsh
  have hrow':w.ownsRow w0.heap.size 3 1 v i (ints ((List.range i).map λ x=>(gref ts x:Int))):=by rw [<-hrefs];exact hrow
  have hplainEnd:∀{w':World} {S2:St},¬isRow t->Made s B S' ts mss i w w' S2->GX w' B S.pairs S.shared ts mss (kss i) S2.vals i t->GInv w0 s B S ts mss kss (i+1) 0 0 (refs ++ [(gref ts i:Int)]) own w'/\Keep (λ k=>k≠b/\v.ownBlock≠some k/\(k<w0.heap.size->Ty B storeTy w0 k)) w w':=by
   intro w' S2 hr hM hx
   exact ⟨⟨hrefs',gs,S2,hGI.more1 ht hM hr hx⟩,hM.keep.mono λ k _ h=>hfoot k h⟩
  have hnum1:t.kind≠14->numT t (cO ts i)=S'.last+1:=λ h=>by unfold numT;rw [if_neg h,hlast.1]
  by_cases h12:t.kind=1\/t.kind=2
  ·refine (C40_plain (b:=b) ht hGI.val h12 hvl hlast hGI.pre).mono ?_
   rintro _ w' ⟨rfl,hM⟩
   obtain ⟨q1,q2⟩:=hplainEnd (by unfold isRow;omega) hM (GX.of_plain (by omega))
   exact ⟨_,own,rfl,q1,q2,λ k h=>.inl h⟩
  by_cases h3:t.kind=3
  ·refine (C40_int ht hGI.val hbb h3 (hLw.inp i t ht).1 (by omega) hvl (by omega) hlast).mono ?_
   rintro _ w' ⟨rfl,S2,hM⟩
   obtain ⟨q1,q2⟩:=hplainEnd (by unfold isRow;omega) hM (GX.of_plain (by omega))
   exact ⟨_,own,rfl,q1,q2,λ k h=>.inl h⟩
  by_cases h4:t.kind=4
  ·refine (C40_strs ht hGI.val hbb h4 (by omega) hvl (by omega) hlast).mono ?_
   rintro _ w' ⟨rfl,S2,hM⟩
   obtain ⟨q1,q2⟩:=hplainEnd (by unfold isRow;omega) hM (GX.of_plain (by omega))
   exact ⟨_,own,rfl,q1,q2,λ k h=>.inl h⟩
  by_cases h56:t.kind=5\/t.kind=6
  ·refine (C40_rows ht hGI.val hbb h56 (by have:=hF.kl;omega) (by omega) hvl (by omega) hlast (by omega)).mono ?_
   rintro _ w' ⟨rfl,S2,r,g,hM,hv,hr1,hg1,hbr,hbg⟩
   rw [<-hnum1 (by omega)] at hbr
   exact ⟨_,λ k=>own k\/k=g,rfl,⟨hrefs',_,S2,hGI.moreR hsz ht hM h56 hv hg1 hbr hbg⟩,hM.keep.mono λ k _ h=>hfoot k h,λ k h=>by
    rcases h with h | rfl
    ·exact .inl h
    ·exact .inr ⟨hg1,hbg.lt⟩⟩
  by_cases h789:t.kind=7\/t.kind=8\/t.kind=9
  ·refine (C40_table ht hGI.val hbb hLw hrow' h789 (by omega) hvl (by omega) hlast (by omega) hm' hp' hks hkb hF.kl hF.even (λ j k hj=>by
    have:=hF.kids j k hj
    unfold limit at this
    rw [if_neg (by omega)] at this
    exact this) hF.keys).mono ?_
   rintro _ w' ⟨rfl,S2,p,d,D,hM,hv,hpB,hbp,hD,hok,hmost,hes⟩
   rw [<-hnum1 (by omega)] at hbp
   obtain ⟨q1,q2⟩:=hplainEnd (by unfold isRow;omega) hM ⟨λ _=>⟨p,d,D,hv,hbp,hD.mono (by omega),hok,hmost.trans hfix.1,by rw [hes,hfix.1]⟩,λ h=>by omega,λ h=>by omega⟩
   exact ⟨_,own,rfl,q1,q2,λ k h=>.inl h⟩
  by_cases h14:t.kind=14
  ·refine (C40_inst ht hGI.val hbb h14 (by omega) hvl hlt1 hlast hlo hm' hp' hsh').mono ?_
   rintro _ w' ⟨rfl,S2,p,sp,ro,c,d,D,f,hM,hv,hvc,hgr,hpB,hcB,hbp,hbsp,hbro,hbc,hD,hok,hes,hmost,hf⟩
   have e2:numT t (cO ts i)=S'.last+2:=by unfold numT;rw [if_pos h14,hlast.1]
   have e3:gref ts i-1=S'.vals.length:=by omega
   obtain ⟨q1,q2⟩:=hplainEnd (by unfold isRow;omega) hM ⟨λ h=>by omega,λ h=>by omega,λ _=>⟨p,sp,ro,c,d,D,f,hv,by rw [e3];exact hvc,by rw [e2,e3];exact hbp,hbsp,hbro,by
    have e4:numT t (cO ts i)-1=S'.last+1:=by omega
    rw [e4];exact hbc,hD.mono (by omega),hok,hes,hmost.trans hfix.1,by rw [<-hfix.1,<-hfix.2.1];exact hf.mono (by omega)⟩⟩
   exact ⟨_,own,rfl,q1,q2,λ k h=>.inl h⟩
  ·have h15:15<=t.kind:=by have:=hF.kind;omega
   obtain ⟨k,hk0,hki⟩:=hF.view h15
   refine (C40_view ht hGI.val hbb hrow' h15 (by omega) hvl (by omega) hlast (by omega) hks hk0 hki).mono ?_
   rintro _ w' ⟨rfl,S2,p,hM,hv,hpB,hbp⟩
   rw [<-hnum1 h14] at hbp
   obtain ⟨q1,q2⟩:=hplainEnd (by unfold isRow;omega) hM ⟨λ h=>by omega,λ _=>⟨p,k,hv,hk0,hbp⟩,λ h=>by omega⟩
   exact ⟨_,own,rfl,q1,q2,λ k h=>.inl h⟩
 ·intro i t refs own w ref herr ht href hrl hk hFil
  have hil:=(List.getElem?_eq_some_iff.1 ht).1
  have hFil0:=hFil
  have hF:=hfine herr i t ht
  obtain ⟨hrefs,gs,S',hGI⟩:=hFil
  have hrefv:ref=(gref ts i:Int):=by
   rw [hrefs] at href
   simp [hil] at href
   exact href.symm
  subst hrefv
  obtain ⟨vv,hv1,hv2⟩:=hGI.val.vd i t ht hil
  refine ⟨vv,C41_in hGI.val.st hv1,?_⟩
  by_cases hr:isRow t
  ·right
   obtain ⟨r,cs,g1,g2,g3,g4,g5,g6,g7⟩:=hGI.row i t ht hil hr
   rw [hv1] at g1
   cases g1
   refine ⟨r,rfl,λ w1 hF1=>hF1.next λ x u hx hu pos hpos hc=>?_,?_⟩
   ·rcases hc with hc | hc
    ·by_cases hxi:x=i
     ·subst hxi
      rw [ht] at hx;cases hx
      have:=(hkids x t ht).1.1
      exact .inr ⟨rfl,by omega⟩
     ·exact .inl (by omega)
    ·omega
   ·intro j w1 hj hkk hko hF1
    obtain ⟨_,gs1,S1,hG1⟩:=id hF1
    obtain ⟨r',cs',f1,f2,f3,f4,f5,f6,f7⟩:=hG1.row i t ht hil hr
    have hownT:∀k,own k->k<w.heap.size->etype w k=some 3:=λ k hk1 _=>by
     obtain ⟨x,u,a1,a2,a3,rfl⟩:=hGI.mem k hk1
     obtain ⟨r2,cs2,b1,b2,b3,_⟩:=hGI.row x u a1 a3 a2
     exact b3.etype
    have hrw:Blk w1 r 100 [.int .i64 (numT t (cO ts i)),.slice (some ⟨gs i,0,none⟩) t.kl t.kl,.int .i64 t.kind]:=hko.blk g2 λ h=>by
     have:=hownT r h g2.lt
     rw [g2.etype] at this;cases this
    have hold:StAt w1 s B S':=hGI.val.st.types hko λ k hk1 hk2=>⟨3,hownT k hk1 hk2,by decide⟩
    have hrr:r'=r:=by
     have:=hold.vals_eq hG1.val.st hv1 f1
     simp at this
     exact this.symm
    subst hrr
    have hgg:gs1 i=gs i:=by
     have:=(f2.uniq hrw).2
     simp at this
     exact this
    obtain ⟨kid,hkid⟩:∃k,(kss i)[j]?=some k:=⟨_,List.getElem?_eq_getElem (by have:=(hkids i t ht).1.1;omega)⟩
    obtain ⟨q,hq,hqc⟩:=(hkids i t ht).1.2 j kid hkid
    have hq3:=(hkids i t ht).2 q hq (by omega)
    have hlim:=hF.kids j kid hkid
    have hkidlt:0<=kid/\kid<ts.length:=by
     refine ⟨hlim.1,Int.lt_of_lt_of_le hlim.2 ?_⟩
     unfold limit;split <;> omega
    refine ⟨gs1 i,t.kl,t.kl,q,kid,f2.cell rfl,hj,f5,f6,?_,f3.frozen,hq,?_,hkidlt.1,hkidlt.2,?_⟩
    ·rw [f3.cell (List.getElem?_eq_getElem (by omega))];rfl
    ·exact hkk.cell hqc λ h=>by
      rw [add_block] at h
      have:=h.1
      omega
    ·intro v hv
     obtain ⟨e1,_⟩:=id hF1
     have hv':v=(gref ts kid.toNat:Int):=by
      rw [e1] at hv
      have:=(List.getElem?_eq_some_iff.1 hv).1
      simp at this
      simp [this] at hv
      exact hv.symm
     subst hv'
     have hone:=Keep.one w1 ⟨gs1 i,j,none⟩ (.int .i64 (gref ts kid.toNat))
     have hty3:∀k,k<w1.heap.size->k=gs1 i->∃e,etype w1 k=some e/\e=3:=λ k _ e=>by subst e;exact ⟨3,f3.etype,rfl⟩
     obtain ⟨h1,h2,h3,h4,h5,h6,h7,h8,h9,h10⟩:=hG1
     refine ⟨e1,gs1,S1,h1,h2.keep hone λ k hl hx=>?_,h3,h4,h5,h6,λ x u hx hm hu=>?_,h8,h9,λ x u hx hm=>(h10 x u hx hm).keep hone (λ k hl hx=>?_) λ _ _ h=>h⟩
     ·obtain ⟨e,q1,rfl⟩:=hty3 k hl hx
      exact ⟨3,q1,by decide,by decide⟩
     ·obtain ⟨r2,cs2,b1,b2,b3,b4,b5,b6,b7⟩:=h7 x u hx hm hu
      by_cases hxi:x=i
      ·subst hxi
       rw [ht] at hx;cases hx
       have hce:=(f3.uniq b3).2
       subst hce
       refine ⟨r2,cs'.set j (.int .i64 (gref ts kid.toNat)),b1,hone.blk b2 (b2.ne f3 (by decide)),f3.set,by simp [f4],f5,f6,λ pos kid' hpk hc=>?_⟩
       rw [List.getElem?_set]
       by_cases hpj:j=pos
       ·subst hpj
        rw [if_pos rfl,if_pos (by omega)]
        rw [hkid] at hpk;cases hpk;rfl
       ·rw [if_neg hpj]
        exact f7 pos kid' hpk (by omega)
      ·have hne:gs1 x≠gs1 i:=λ e=>hxi (h8 x i u t hx ht hu hr hm hil e)
       exact ⟨r2,cs2,b1,hone.blk b2 (b2.ne f3 (by decide)),hone.blk b3 hne,b4,b5,b6,λ pos kid' hpk hc=>b7 pos kid' hpk (by omega)⟩
     ·obtain ⟨e,q1,rfl⟩:=hty3 k hl hx
      exact ⟨3,q1,by decide⟩
  ·left
   constructor
   ·rw [gdesc_of ht] at hv2
    have hno94:∀{u:TypeId} {x:Value},u≠94->∀w:World,(Instr.typeAssert (.iface u x) 77 94 true).run Tryz.prog w=.ok (.tuple #[.pointer none,.bool false]) w:=λ hu=>no80 hu _ _
    unfold descT at hv2
    unfold isRow at hr
    split at hv2
    ·cases hv2;exact hno94 (by decide)
    split at hv2
    ·cases hv2;exact hno94 (by decide)
    split at hv2
    ·obtain ⟨_,y,rfl,_⟩:=hv2;exact hno94 (by decide)
    split at hv2
    ·cases hv2;exact hno94 (by decide)
    ·obtain ⟨_,A,p,e,rest,rfl,_,hb',ht'⟩:=hv2
     refine hno94 ?_
     rcases ht' with ⟨rfl,rfl,hk'⟩ | ⟨rfl,_⟩ | ⟨rfl,_⟩ | ⟨rfl,_⟩ | ⟨rfl,_⟩
     ·exfalso
      rcases hF.kind with q | q | q
      ·have h79:t.kind=7\/t.kind=8\/t.kind=9:=by omega
       obtain ⟨p2,d2,D2,x1,_⟩:=(hGI.more i t ht hil).tab h79
       rw [hv1] at x1;cases x1
      ·obtain ⟨p2,sp,ro,c,d2,D2,f,x1,_⟩:=(hGI.more i t ht hil).inst q
       rw [hv1] at x1;cases x1
      ·obtain ⟨p2,k2,x1,_⟩:=(hGI.more i t ht hil).view q.1
       rw [hv1] at x1;cases x1
     all_goals decide
   ·intro w1 hF1
    refine hF1.next λ x u hx hu pos hpos hc=>?_
    by_cases hxi:x=i
    ·subst hxi;rw [ht] at hx;cases hx;exact absurd hu hr
    ·omega
end Go.Fw

namespace Go.Fw
open Go.Proofs Go.RowKit
def isKeyB (t:Tm):Bool:=(decide (1<=t.kind) && decide (t.kind<=4)) || (t.kind == 14 && (t.hash || !t.same))
def kidBad (ts:List Tm) (i:Nat) (t:Tm) (k:Int):Bool:=decide (k<0) || decide ((limit ts.length i t:Int)<=k)
def keyBad (ts:List Tm) (k:Int):Bool:=!((ts[k.toNat]?).any isKeyB)
def shapeBad (ts:List Tm) (t:Tm) (ks:List Int):Bool:=
 if t.kind=5\/t.kind=6\/t.kind=8\/t.kind=9 then false else if t.kind=7 then ks.length % 2 == 1 else
 if t.kind=15\/t.kind=16\/t.kind=17 then ks.length != 1 || !((ts[(ks.getD 0 0).toNat]?).any λ u=>u.kind == 7) else decide (0<ks.length)
def badK (ts:List Tm) (i:Nat) (t:Tm) (ks:List Int):Bool:=ks.any (kidBad ts i t) || ((keysL t ks).any (keyBad ts) || shapeBad ts t ks)
theorem C135 (t:Tm) (w:World):Calls Tryz.prog 135 #[.agg t.cells.toArray] w λ e w'=>e=.returned (.bool (isKeyB t))/\Keep No w w':=by
 refine ret_mono (V135_sound t.kind t.b t.neg t.ma t.ml t.mc t.text t.ka t.kl t.kc t.hash t.same w (λ r w'=>r=.bool (isKeyB t)/\Keep No w w') ?_) (by rintro _ _ ⟨rfl,h⟩;exact ⟨rfl,h⟩)
 unfold V135
 refine newK_of λ b w1 hs hb hk=>⟨_,hb.add 0 rfl,?_⟩
 have h14:¬(1<=t.kind/\t.kind<=4)->∃t22:Int,w1.cell? ((⟨b,0,none⟩:Addr).add 0)=some (.int .i64 t22)/\bsel (t22 == 14) (∃t23:Bool,w1.cell? ((⟨b,0,none⟩:Addr).add 6)=some (.bool t23)/\bsel t23 (Value.bool true=.bool (isKeyB t)/\Keep No w w1) (∃t24:Bool,w1.cell? ((⟨b,0,none⟩:Addr).add 7)=some (.bool t24)/\(Value.bool (!t24)=.bool (isKeyB t)/\Keep No w w1))) (Value.bool false=.bool (isKeyB t)/\Keep No w w1):=by
  intro hn
  refine ⟨_,hb.add 0 rfl,bsel_split (λ h=>⟨_,hb.add 6 rfl,bsel_split (λ h2=>⟨?_,hk⟩) λ h2=>⟨_,hb.add 7 rfl,?_,hk⟩⟩) λ h=>⟨?_,hk⟩⟩
  ·have h:t.kind=14:=by simpa using h
   simp [isKeyB,h,h2]
  ·have h:t.kind=14:=by simpa using h
   simp [isKeyB,h,h2]
  ·have h:t.kind≠14:=by simpa using h
   simp [isKeyB,h]
   omega
 refine bsel_split (λ h1=>⟨_,hb.add 0 rfl,bsel_split (λ h4=>⟨?_,hk⟩) λ h4=>h14 ?_⟩) λ h1=>h14 ?_
 ·have h1:1<=t.kind:=by simpa using h1
  have h4:t.kind<=4:=by simpa using h4
  simp [isKeyB,h1,h4]
 ·have h4:¬t.kind<=4:=by simpa using h4
  omega
 ·have h1:¬1<=t.kind:=by simpa using h1
  omega
theorem any_false {α:Type} {p:α->Bool} {l:List α}:l.any p=false↔∀a ∈ l,p a=false:=by
 rw [Bool.eq_false_iff,Ne,List.any_eq_true]
 constructor
 ·intro h a ha
  cases hc:p a
  ·rfl
  ·exact absurd ⟨a,ha,hc⟩ h
 ·rintro h ⟨a,ha,hc⟩
  rw [h a ha] at hc;cases hc
section
variable {w:World} {s b B:Nat} {ta:Option Addr} {tc:Nat} {ts:List Tm} {rv:Value}
theorem C80_gen (hb:Blk w b 92 [.pointer (some ⟨s,0,none⟩),.slice ta ts.length tc,rv]) (hts:TermsAt w ta ts) (hn:ts.length<1000000) {n:Nat} {t:Tm} (ht:ts[n]?=some t) {ks:List Int} (hks:KidsAt w t ks) (hkb:∀p,t.ka=some p->0<t.kl->p.block<B) (hkl:t.kl<100000000000) :
  Calls Tryz.prog 80 #[.pointer (some ⟨b,0,none⟩),.int .i64 n] w λ e w'=>e=.returned (.bool (badK ts n t ks))/\Keep No w w':=by
 refine ret_mono (V80_sound _ _ w (λ r w'=>r=.bool (badK ts n t ks)/\Keep No w w') ?_) (by rintro _ _ ⟨rfl,h⟩;exact ⟨rfl,h⟩)
 have hnl:n<ts.length:=(List.getElem?_eq_some_iff.1 ht).1
 have hlen:=hks.1
 obtain ⟨p,rfl,hc⟩:=hts _ t ht
 unfold V80
 rw [nilK_some]
 refine ⟨_,_,_,hb.add 1 rfl,idxK_of hnl ⟨_,_,_,_,_,_,_,_,_,_,_,_,hc,termCopy λ c w1 hc1 hk1 hcs=>⟨_,hc1.add 0 rfl,?_⟩⟩⟩
 have hgo:V80J3 (λ r w'=>r=.bool (badK ts n t ks)/\Keep No w w') (some ⟨b,0,none⟩) ⟨c,0,none⟩ (limit ts.length n t) w1:=by
  unfold V80J3
  refine ⟨_,_,_,hc1.add 5 rfl,λ i w'=>0<=i/\i<=t.kl/\Keep No w w'/\Blk w' c 42 t.cells/\(∀(j:Nat) (k:Int),(j:Int)<i->ks[j]?=some k->kidBad ts n t k=false),λ i _=>(t.kl-i).toNat,⟨by omega,by omega,hk1,hc1,λ j k hj=>by omega⟩,?_⟩
  rintro j i w2 ⟨hi0,hin,hk2,hc2,hgood⟩
  refine bsel_split (λ hlt=>?_) λ hge=>?_
  ·simp at hlt
   obtain ⟨m,rfl⟩:=Int.eq_ofNat_of_zero_le hi0
   obtain ⟨k,hkm⟩:∃k,ks[m]?=some k:=⟨_,List.getElem?_eq_getElem (by omega)⟩
   obtain ⟨q,hq,hqc⟩:=(hks.no hk2).2 m k hkm
   have hbad:kidBad ts n t k=true->badK ts n t ks=true:=λ h=>by
    unfold badK
    rw [Bool.or_eq_true]
    exact .inl (List.any_eq_true.2 ⟨k,List.mem_of_getElem? hkm,h⟩)
   rw [hq]
   refine idxK_of (by omega) ⟨k,by rw [Nat.mul_one];exact hqc,bsel_split (λ h0=>⟨?_,hk2⟩) λ h0=>bsel_split (λ h1=>⟨?_,hk2⟩) λ h1=>?_⟩
   ·rw [hbad (by unfold kidBad;rw [h0];rfl)]
   ·rw [hbad (by unfold kidBad;simp at h1;simp [h1])]
   ·rw [wrap_i64 (by omega)]
    refine ⟨⟨by omega,by omega,hk2,hc2,λ j' k' hj' hk'=>?_⟩,by simp only;omega⟩
    by_cases hc':j'=m
    ·subst hc'
     rw [hkm] at hk';cases hk'
     unfold kidBad
     simp at h0 h1
     simp [h0,h1]
    ·exact hgood j' k' (by omega) hk'
  ·simp at hge
   have hie:i=t.kl:=by omega
   subst hie
   have hany:ks.any (kidBad ts n t)=false:=any_false.2 λ k hk=>by
    obtain ⟨j',hj'⟩:=List.getElem?_of_mem hk
    have:=(List.getElem?_eq_some_iff.1 hj').1
    exact hgood j' k (by omega) hj'
   have hrange:∀k ∈ ks,0<=k/\k<ts.length:=λ k hk=>by
    have:=any_false.1 hany k hk
    unfold kidBad limit at this
    simp at this
    split at this <;> omega
   have hkeysub:∀k ∈ keysL t ks,k ∈ ks:=by
    intro k hk
    unfold keysL at hk
    split at hk
    ·exact hk
    ·split at hk
     ·unfold evens at hk
      rw [List.mem_map] at hk
      obtain ⟨m,hm1,hm2⟩:=hk
      rw [List.mem_range] at hm1
      have hm3:2*m<ks.length:=by omega
      rw [<-hm2,List.getD_eq_getElem?_getD,List.getElem?_eq_getElem hm3]
      exact List.getElem_mem hm3
     ·simp at hk
   refine ⟨_,_,_,_,_,_,_,_,_,_,_,_,hc2.cells0,(C134_gen (B:=B) (hks.no hk2) hkb (by omega)).mono ?_⟩
   rintro _ w3 ⟨ka,kc,rfl,hkeys,hk3⟩
   have hk03:=hk2.no hk3
   have hc3:=hk3.nblk hc2
   have hkL:(keysL t ks).length<=t.kl:=by
    unfold keysL
    split
    ·omega
    ·split
     ·rw [evens_len];omega
     ·simp
   refine ⟨_,_,_,rfl,λ i w'=>0<=i/\i<=(keysL t ks).length/\Keep No w3 w'/\(∀(j:Nat) (k:Int),(j:Int)<i->(keysL t ks)[j]?=some k->keyBad ts k=false),λ i _=>((keysL t ks).length-i).toNat,⟨by omega,by omega,Keep.refl _ _,λ j k hj=>by omega⟩,?_⟩
   rintro j2 i w4 ⟨hi0,hin2,hk4,hgood2⟩
   have hk04:=hk03.no hk4
   have hb4:=hk04.nblk hb
   have hc4:=hk4.nblk hc3
   refine bsel_split (λ hlt=>?_) λ hge2=>?_
   ·simp at hlt
    obtain ⟨m,rfl⟩:=Int.eq_ofNat_of_zero_le hi0
    obtain ⟨k,hkm⟩:∃k,(keysL t ks)[m]?=some k:=⟨_,List.getElem?_eq_getElem (by omega)⟩
    obtain ⟨q,hq,hqc,_⟩:=hkeys m k hkm
    obtain ⟨kr1,kr2⟩:=hrange k (hkeysub k (List.mem_of_getElem? hkm))
    obtain ⟨x,rfl⟩:=Int.eq_ofNat_of_zero_le kr1
    obtain ⟨u,hu⟩:∃u,ts[x]?=some u:=⟨_,List.getElem?_eq_getElem (by omega)⟩
    obtain ⟨p2,hp2,hcu⟩:=(hts.no hk04) x u hu
    cases hp2
    have hkb2:keyBad ts (x:Int)=!isKeyB u:=by unfold keyBad;rw [Int.toNat_natCast,hu];rfl
    rw [hq]
    refine idxK_of (by omega) ⟨x,by rw [Nat.mul_one];exact hk4.cell hqc id,?_⟩
    rw [nilK_some]
    refine ⟨_,_,_,hb4.add 1 rfl,idxK_of (by omega) ⟨_,_,_,_,_,_,_,_,_,_,_,_,hcu,(C135 u w4).mono ?_⟩⟩
    rintro _ w5 ⟨rfl,hk5⟩
    refine ⟨_,rfl,bsel_split (λ hx=>⟨?_,hk04.no hk5⟩) λ hx=>?_⟩
    ·have:badK ts n t ks=true:=by
      unfold badK
      rw [Bool.or_eq_true,Bool.or_eq_true]
      exact .inr (.inl (List.any_eq_true.2 ⟨_,List.mem_of_getElem? hkm,by rw [hkb2];exact hx⟩))
     rw [this]
    ·rw [wrap_i64 (by omega)]
     refine ⟨⟨by omega,by omega,hk4.no hk5,λ j' k' hj' hk'=>?_⟩,by simp only;omega⟩
     by_cases hc':j'=m
     ·subst hc'
      rw [hkm] at hk';cases hk'
      rw [hkb2];exact hx
     ·exact hgood2 j' k' (by omega) hk'
   ·simp at hge2
    have hie:i=(keysL t ks).length:=by omega
    subst hie
    have hany2:(keysL t ks).any (keyBad ts)=false:=any_false.2 λ k hk=>by
     obtain ⟨j',hj'⟩:=List.getElem?_of_mem hk
     have:=(List.getElem?_eq_some_iff.1 hj').1
     exact hgood2 j' k (by omega) hj'
    have hbk:badK ts n t ks=shapeBad ts t ks:=by unfold badK;rw [hany,hany2];rfl
    rw [hbk]
    refine ⟨_,hc4.add 0 rfl,?_⟩
    have hfalse:(t.kind=5\/t.kind=6\/t.kind=8\/t.kind=9)->V80J2 (λ r w'=>r=.bool (shapeBad ts t ks)/\Keep No w w') (some ⟨b,0,none⟩) ⟨c,0,none⟩ t.kind true w4:=λ h=>by
     unfold V80J2
     refine bsel_pos rfl ⟨?_,hk04⟩
     unfold shapeBad
     rw [if_pos h]
    refine bsel_split (λ h5=>hfalse (.inl (by simpa using h5))) λ h5=>bsel_split (λ h6=>hfalse (.inr (.inl (by simpa using h6)))) λ h6=>bsel_split (λ h8=>hfalse (.inr (.inr (.inl (by simpa using h8))))) λ h8=>?_
    have h5:t.kind≠5:=by simpa using h5
    have h6:t.kind≠6:=by simpa using h6
    have h8:t.kind≠8:=by simpa using h8
    by_cases h9:t.kind=9
    ·rw [show (t.kind == 9)=true by simp [h9]]
     exact hfalse (by omega)
    rw [show (t.kind == 9)=false by simp [h9]]
    have hsb:shapeBad ts t ks=if t.kind=7 then ks.length % 2 == 1 else if t.kind=15\/t.kind=16\/t.kind=17 then ks.length != 1 || !((ts[(ks.getD 0 0).toNat]?).any λ u=>u.kind == 7) else decide (0<ks.length):=by
     unfold shapeBad;rw [if_neg (by omega)]
    unfold V80J2
    refine bsel_neg rfl (bsel_split (λ h7=>⟨_,_,_,hc4.add 5 rfl,by decide,?_,hk04⟩) λ h7=>?_)
    ·have h7:t.kind=7:=by simpa using h7
     rw [hsb,if_pos h7,Int.tmod_eq_emod_of_nonneg (by omega),hlen]
     congr 1
     rw [Bool.eq_iff_iff,beq_iff_eq,beq_iff_eq]
     omega
    have h7:t.kind≠7:=by simpa using h7
    have hview:(t.kind=15\/t.kind=16\/t.kind=17)->V80J1 (λ r w'=>r=.bool (shapeBad ts t ks)/\Keep No w w') (some ⟨b,0,none⟩) ⟨c,0,none⟩ true w4:=λ h=>by
     unfold V80J1
     have hkd:=hk04.no (Keep.drawn w4)
     refine bsel_pos rfl ⟨_,_,_,hc4.drew.add 5 rfl,bsel_split (λ h1=>⟨?_,hkd⟩) λ h1=>?_⟩
     ·have h1:t.kl≠1:=by simp at h1;omega
      rw [hsb,if_neg h7,if_pos h]
      simp [hlen,h1]
     ·have h1:t.kl=1:=by simp at h1;omega
      obtain ⟨k,hk0⟩:∃k,ks[0]?=some k:=⟨_,List.getElem?_eq_getElem (by omega)⟩
      obtain ⟨kr1,kr2⟩:=hrange k (List.mem_of_getElem? hk0)
      obtain ⟨x,rfl⟩:=Int.eq_ofNat_of_zero_le kr1
      obtain ⟨u,hu⟩:∃u,ts[x]?=some u:=⟨_,List.getElem?_eq_getElem (by omega)⟩
      obtain ⟨p2,hp2,hcu⟩:=(hts.no hkd) x u hu
      cases hp2
      obtain ⟨q,hq,hqc⟩:=(hks.no hkd).2 0 _ hk0
      rw [nilK_some]
      refine ⟨_,_,_,hb4.drew.add 1 rfl,_,_,_,hc4.drew.add 5 rfl,?_⟩
      rw [hq]
      refine idxK_of (i:=0) (by omega) ⟨x,by rw [Nat.zero_mul];exact hqc,idxK_of (by omega) ⟨_,hcu.get 0 rfl,?_,hkd⟩⟩
      have hgD:(ks.getD 0 0).toNat=x:=by rw [List.getD_eq_getElem?_getD,hk0];rfl
      rw [hsb,if_neg h7,if_pos h,hgD,hu]
      simp [hlen,h1,bne]
    refine bsel_split (λ h15=>hview (.inl (by simpa using h15))) λ h15=>bsel_split (λ h16=>hview (.inr (.inl (by simpa using h16)))) λ h16=>?_
    have h15:t.kind≠15:=by simpa using h15
    have h16:t.kind≠16:=by simpa using h16
    by_cases h17:t.kind=17
    ·rw [show (t.kind == 17)=true by simp [h17]]
     exact hview (.inr (.inr h17))
    rw [show (t.kind == 17)=false by simp [h17]]
    unfold V80J1
    refine bsel_neg rfl ⟨_,_,_,hc4.add 5 rfl,?_,hk04⟩
    rw [hsb,if_neg h7,if_neg (by omega),hlen]
    congr 1
    rw [Bool.eq_iff_iff]
    simp
 refine bsel_split (λ h6=>?_) λ h6=>?_
 ·have h6:t.kind=6:=by simpa using h6
  rw [nilK_some]
  refine ⟨_,_,_,(hk1.nblk hb).add 1 rfl,?_⟩
  unfold limit at hgo
  rwa [if_pos h6] at hgo
 ·have h6:¬t.kind=6:=by simpa using h6
  unfold limit at hgo
  rwa [if_neg h6] at hgo
end
end Go.Fw

namespace Go.Fw
open Go.Proofs Go.RowKit
noncomputable def sameT (t:Tm) (ms:List Int) (it:ByteArray):ByteArray:=
 if t.kind=1 then ⟨#[110,111,110,101]⟩ else if t.kind=2 then (if t.b then ⟨#[105,49]⟩ else ⟨#[105,48]⟩) else if t.kind=3 then ⟨#[105]⟩ ++ textW t.neg (valI ms) else if t.kind=4 then ⟨#[115]⟩ ++ t.text else ⟨#[111]⟩ ++ it
section
variable {w:World} {s b B:Nat} {ta:Option Addr} {tc:Nat} {ts:List Tm} {rv:Value}
theorem C137_gen (hb:Blk w b 92 [.pointer (some ⟨s,0,none⟩),.slice ta ts.length tc,rv]) (hts:TermsAt w ta ts) {x:Nat} {t:Tm} (ht:ts[x]?=some t) {ms:List Int} (hin:InAt w t ms) (hl:ms.length<10000000000) (hr:∀m ∈ ms,0<=m/\m<4294967296) (hsz:∀neg,(textW neg (valI ms)).size<9000000000000000000)
  {it:ByteArray} (hit:∀w1,Keep No w w1->Calls Tryz.prog 77 #[.int .i64 x] w1 λ e w'=>e=.returned (.string it)/\Keep No w1 w') (his:it.size<1000) :
  Calls Tryz.prog 137 #[.pointer (some ⟨b,0,none⟩),.int .i64 x] w λ e w'=>e=.returned (.string (sameT t ms it))/\Keep No w w':=by
 refine ret_mono (V137_sound _ _ w (λ r w'=>r=.string (sameT t ms it)/\Keep No w w') ?_) (by rintro _ _ ⟨rfl,h⟩;exact ⟨rfl,h⟩)
 have hxn:x<ts.length:=(List.getElem?_eq_some_iff.1 ht).1
 obtain ⟨p,rfl,hc⟩:=hts x t ht
 obtain ⟨⟨m1,m2,m3,m4⟩,htx⟩:=hin
 unfold V137
 rw [nilK_some]
 refine ⟨_,_,_,hb.add 1 rfl,idxK_of hxn ⟨_,_,_,_,_,_,_,_,_,_,_,_,hc,termCopy λ c w1 hc1 hk1 hcs=>⟨_,hc1.add 0 rfl,?_⟩⟩⟩
 refine bsel_split (λ h1=>⟨?_,hk1⟩) λ h1=>bsel_split (λ h2=>⟨_,hc1.add 1 rfl,bsel_split (λ h3=>⟨?_,hk1⟩) λ h3=>⟨?_,hk1⟩⟩) λ h2=>bsel_split (λ h3=>?_) λ h3=>bsel_split (λ h4=>?_) λ h4=>?_
 ·have h1:t.kind=1:=by simpa using h1
  simp [sameT,h1]
 ·have h2:t.kind=2:=by simpa using h2
  simp [sameT,h2,h3]
 ·have h2:t.kind=2:=by simpa using h2
  simp [sameT,h2,h3]
 ·have h3:t.kind=3:=by simpa using h3
  refine ⟨_,_,_,_,hc1.cellsAdd 2 rfl,?_⟩
  rw [m2]
  refine (C75 (m1.no hk1) m3 hl hr).mono ?_
  rintro _ w2 ⟨rfl,hk2⟩
  have:=hsz t.neg
  have e1:(⟨#[105]⟩:ByteArray).size=1:=rfl
  exact ⟨_,rfl,by rw [e1];omega,by simp [sameT,h3],hk1.no hk2⟩
 ·have h4:t.kind=4:=by simpa using h4
  have e1:(⟨#[115]⟩:ByteArray).size=1:=rfl
  exact ⟨_,hc1.add 4 rfl,by rw [e1];omega,by simp [sameT,h4],hk1⟩
 ·have h1:t.kind≠1:=by simpa using h1
  have h2:t.kind≠2:=by simpa using h2
  have h3:t.kind≠3:=by simpa using h3
  have h4:t.kind≠4:=by simpa using h4
  refine (hit w1 hk1).mono ?_
  rintro _ w2 ⟨rfl,hk2⟩
  have e1:(⟨#[111]⟩:ByteArray).size=1:=rfl
  exact ⟨_,rfl,by rw [e1];omega,by simp [sameT,h1,h2,h3,h4],hk1.no hk2⟩
end
end Go.Fw
