/- Part of a proof over the given program: texts of lemmas (conditions: none beyond each lemma as stated). -/
import Derived.Test.YtdmoefbfepeeaaaGreatDoorN14
import Derived.Maps.OwnSet
set_option linter.unnecessarySimpa false
set_option linter.unusedVariables false
set_option linter.unusedSimpArgs false

namespace Go.Fw
open Go.Proofs Go.RowKit
def rowV (a b:FuncId):Value:=.agg #[.func (.func a) #[] #[],.func (.func b) #[] #[]]
def row0:Value:=.agg #[.nilFunc,.nilFunc]
open Classical in
noncomputable def rowR (v:Value):Option (DataW Unit × List MemPlace):=
 if v=rowV 277 284 then some (.lit (.int .i64 1),[]) else if v=rowV 279 285 then some (.lit (.int .i64 2),[]) else if v=rowV 282 284 then some (.lit (.int .i64 3),[]) else if v=rowV 277 285 then some (.lit (.int .i64 4),[]) else
 if v=row0 then some (.lit (.int .i64 0),[]) else none
theorem rowR1:rowR (rowV 277 284)=some (.lit (.int .i64 1),[]):=by unfold rowR;rw [if_pos rfl]
theorem rowR2:rowR (rowV 279 285)=some (.lit (.int .i64 2),[]):=by unfold rowR;rw [if_neg (by simp [rowV]),if_pos rfl]
theorem rowR3:rowR (rowV 282 284)=some (.lit (.int .i64 3),[]):=by unfold rowR;rw [if_neg (by simp [rowV]),if_neg (by simp [rowV]),if_pos rfl]
theorem rowR4:rowR (rowV 277 285)=some (.lit (.int .i64 4),[]):=by unfold rowR;rw [if_neg (by simp [rowV]),if_neg (by simp [rowV]),if_neg (by simp [rowV]),if_pos rfl]
theorem rowR0:rowR row0=some (.lit (.int .i64 0),[]):=by unfold rowR;rw [if_neg (by simp [rowV,row0]),if_neg (by simp [rowV,row0]),if_neg (by simp [rowV,row0]),if_neg (by simp [rowV,row0]),if_pos rfl]
theorem rowR_inv {v:Value} {n:Int} {ps:List MemPlace} (h:rowR v=some (.lit (.int .i64 n),ps)):(n=1/\v=rowV 277 284)\/(n=2/\v=rowV 279 285)\/(n=3/\v=rowV 282 284)\/(n=4/\v=rowV 277 285)\/(n=0/\v=row0):=by
 unfold rowR at h
 split at h
 ·rename_i hv;simp at h;exact .inl ⟨h.1.symm,hv⟩
 split at h
 ·rename_i hv;simp at h;exact .inr (.inl ⟨h.1.symm,hv⟩)
 split at h
 ·rename_i hv;simp at h;exact .inr (.inr (.inl ⟨h.1.symm,hv⟩))
 split at h
 ·rename_i hv;simp at h;exact .inr (.inr (.inr (.inl ⟨h.1.symm,hv⟩)))
 split at h
 ·rename_i hv;simp at h;exact .inr (.inr (.inr (.inr ⟨h.1.symm,hv⟩)))
 ·cases h
def rowsD:DataW Unit:=((((DataW.map []).put (.int .i64 1) (.lit (.int .i64 1))).put (.int .i64 2) (.lit (.int .i64 2))).put (.int .i64 3) (.lit (.int .i64 3))).put (.int .i64 4) (.lit (.int .i64 4))
theorem und344:Tryz.prog.underlying 344=some (.map 3 342):=by kernel_rfl
theorem zero342 (w:World):(zeroValue 342).run Tryz.prog w=.ok row0 w:=by kernel_rfl
theorem C216 (w:World):Calls Tryz.prog 216 #[] w λ e w'=>∃m,e=.returned (.map (some m))/\w'.ownsMap Tryz.prog 3 rowR m 4 rowsD/\Keep No w w':=by
 refine ret_mono (V216_sound w (λ r w'=>∃m,r=.map (some m)/\w'.ownsMap Tryz.prog 3 rowR m 4 rowsD/\Keep No w w') ?_) (by rintro _ _ ⟨m,rfl,h⟩;exact ⟨m,rfl,h⟩)
 unfold V216
 have hK:=Go.Maps.int_keyed Tryz.underlying3
 refine ⟨_,_,run_makeMap 344 w,?_⟩
 have h0:=World.ownsMap_made w Tryz.prog 3 rowR
 have hk0:=Keep.fresh w (.map #[] 0)
 obtain ⟨w1,hr1,h1,hg1⟩:=h0.update hK und344 (by decide) (key:=.int .i64 1) (key3 (by decide)) rowR1
 obtain ⟨w2,hr2,h2,hg2⟩:=h1.update hK und344 (by decide) (key:=.int .i64 2) (key3 (by decide)) rowR2
 obtain ⟨w3,hr3,h3,hg3⟩:=h2.update hK und344 (by decide) (key:=.int .i64 3) (key3 (by decide)) rowR3
 obtain ⟨w4,hr4,h4,hg4⟩:=h3.update hK und344 (by decide) (key:=.int .i64 4) (key3 (by decide)) rowR4
 refine ⟨w1,hr1,w2,hr2,w3,hr3,w4,hr4,_,rfl,h4,?_⟩
 have hn:∀k,some w.heap.size=some k->w.heap.size<=k:=λ k e=>by cases e;exact Nat.le_refl _
 exact (((hk0.news (Keep.of_grown hg1) hn).news (Keep.of_grown hg2) hn).news (Keep.of_grown hg3) hn).news (Keep.of_grown hg4) hn
def hitF (goal:Int):FuncId:=if goal=2 then 279 else if goal=3 then 282 else 277
def missF (goal:Int):FuncId:=if goal=2\/goal=4 then 285 else 284
def t0:Trn:=⟨0,0,false,0,0⟩
section
variable {w w':World} {R d m:Nat} {D:Dc} {M:Mc}
theorem C148 {goal:Int} (hg:1<=goal/\goal<=4) (d:Nat) (hash key value:Int) (w:World):Calls Tryz.prog 148 #[.pointer (some ⟨d,0,none⟩),.int .i64 goal,.int .i64 hash,.int .i64 key,.int .i64 value] w λ e w'=>∃m,e=.returned (.pointer (some ⟨m,0,none⟩))/\
   MachAt w' m ⟨.pointer none,d,.func (.func (hitF goal)) #[] #[],.func (.func (missF goal)) #[] #[],hash,key,value,0,0,0,0,t0⟩/\w.heap.size<=m/\Keep No w w':=by
 refine ret_mono (V148_sound _ goal hash key value w (λ r w'=>∃m,r=.pointer (some ⟨m,0,none⟩)/\
   MachAt w' m ⟨.pointer none,d,.func (.func (hitF goal)) #[] #[],.func (.func (missF goal)) #[] #[],hash,key,value,0,0,0,0,t0⟩/\w.heap.size<=m/\Keep No w w') ?_) (by rintro _ _ ⟨m,rfl,h⟩;exact ⟨m,rfl,h⟩)
 unfold V148
 refine (C216 w).mono ?_
 rintro _ w1 ⟨mm,rfl,hmap,hk1⟩
 have hK:=Go.Maps.int_keyed Tryz.underlying3
 have hwf:(Lit.int .i64 goal).wf=true:=by
  have:goal=1\/goal=2\/goal=3\/goal=4:=by omega
  rcases this with rfl | rfl | rfl | rfl <;> decide
 obtain ⟨v,ps,hr,hv⟩:=hmap.look_ok hK und344 (zero342 w1) rowR0 (key3 hwf)
 have hat:Maps.has rowsD (.int .i64 goal)=true/\rowsD.atKey (.int .i64 goal) (.lit (.int .i64 0))=.lit (.int .i64 goal):=by
  have:goal=1\/goal=2\/goal=3\/goal=4:=by omega
  rcases this with rfl | rfl | rfl | rfl <;> exact ⟨by rfl,by rfl⟩
 rw [hat.2] at hv
 rw [hat.1] at hr
 have hvv:v=rowV (hitF goal) (missF goal):=by
  rcases rowR_inv hv with ⟨rfl,rfl⟩ | ⟨rfl,rfl⟩ | ⟨rfl,rfl⟩ | ⟨rfl,rfl⟩ | ⟨rfl,rfl⟩
  ·rfl
  ·rfl
  ·rfl
  ·rfl
  ·omega
 subst hvv
 refine ⟨_,rfl,_,_,_,_,hr,newK_of λ a w2 hs2 ha hk2=>plK_of rfl (stK_add ha (by simp) λ w3 hb3 hk3=>plK_of rfl (stK_add hb3 (by simp) λ w4 hb4 hk4=>bsel_neg rfl ?_))⟩
 unfold V148J1
 refine bsel_neg rfl ⟨_,_,hb4.cells0,newK_of λ m w5 hs5 hb5 hk5=>⟨m,rfl,hb5,?_,?_⟩⟩
 ·have h1:=hk1.size;have h2:=hk2.size;have h3:=hk3.size;have h4:=hk4.size;omega
 ·have h1:=hk1.size
  exact (((hk1.no hk2).news hk3 λ k e=>by omega).news hk4 λ k e=>by omega).no hk5
theorem C221 (hm:MachAt w m M) (t:Trn):Calls Tryz.prog 221 #[.pointer (some ⟨m,0,none⟩),t.val] w λ e w'=>e=.returned t.val/\MachAt w' m { M with state:=4,turn:=t }/\Keep (λ k=>k=m) w w':=by
 refine ret_mono (V221_sound _ t.kind t.key t.found t.value t.entry w (λ r w'=>r=t.val/\MachAt w' m { M with state:=4,turn:=t }/\Keep (λ k=>k=m) w w') ?_) (by rintro _ _ ⟨rfl,h⟩;exact ⟨rfl,h⟩)
 unfold V221
 refine newK_of λ a w1 hs1 ha hk1=>newK_of λ b w2 hs2 hb hk2=>?_
 have hk02:=(hk1.no hk2).no (Keep.drawn w2)
 have ha2:=(hk2.nblk ha).drew
 have hm2:Blk w2.drew m 348 M.cells:=hk02.nblk hm
 have hma:a≠m:=ha2.ne hm2 (by decide)
 have hmb:b≠m:=hb.drew.ne hm2 (by decide)
 refine ⟨_,_,_,_,_,ha2.cells0,?_⟩
 simp only [nilK_some]
 refine stK_add hm2 (by simp [Mc.cells]) λ w3 hb3 hk3=>?_
 refine ⟨(hk3.blk ha2 hma).cells0,?_⟩
 have e11:∀n,((⟨m,0,none⟩:Addr).add 11).add n=(⟨m,0,none⟩:Addr).add (11+n):=λ n=>by rw [add_mk,add_mk,add_mk];congr 1;omega
 simp only [e11]
 refine stK_add hb3 (by simp [Mc.cells]) λ w4 hb4 hk4=>stK_add hb4 (by simp [Mc.cells]) λ w5 hb5 hk5=>stK_add hb5 (by simp [Mc.cells]) λ w6 hb6 hk6=>stK_add hb6 (by simp [Mc.cells]) λ w7 hb7 hk7=>stK_add hb7 (by simp [Mc.cells]) λ w8 hb8 hk8=>?_
 have hk38:Keep (λ k=>k=m) w2.drew w8:=((((hk3.trans hk4 λ _ _ e=>e).trans hk5 λ _ _ e=>e).trans hk6 λ _ _ e=>e).trans hk7 λ _ _ e=>e).trans hk8 λ _ _ e=>e
 unfold V221J1
 have ha8:=hk38.blk ha2 hma
 have hb8':=hk38.blk hb.drew hmb
 refine ⟨_,_,_,_,_,ha8.cells0,set5 hb8' λ w9 hb9 hk9=>⟨_,_,_,_,_,hb9.cells0,rfl,?_,?_⟩⟩
 ·exact hk9.blk hb8 (λ e=>hmb e.symm)
 ·have h1:=hk1.size
  exact (hk02.of_no.trans hk38 λ _ _ e=>e).news hk9 λ k e=>by omega
theorem C152 (hm:MachAt w m M) (hs:M.state=2) (b:Bool):Calls Tryz.prog 152 #[.pointer (some ⟨m,0,none⟩),.bool b] w λ e w'=>e=.returned (.int .i64 0)/\MachAt w' m { M with state:=if b then 3 else 1 }/\Keep (λ k=>k=m) w w':=by
 refine ret_mono (V152_sound _ b w (λ r w'=>r=.int .i64 0/\MachAt w' m { M with state:=if b then 3 else 1 }/\Keep (λ k=>k=m) w w') ?_) (by rintro _ _ ⟨rfl,h⟩;exact ⟨rfl,h⟩)
 have hm':Blk w m 348 M.cells:=hm
 unfold V152
 refine bsel_neg rfl ?_
 simp only [nilK_some]
 refine ⟨_,hm'.add 7 rfl,bsel_neg (by simp [hs]) (bsel_split (λ hb=>?_) λ hb=>?_)⟩
 ·exact stK_add hm' (by simp [Mc.cells]) λ w1 hb1 hk1=>⟨by trivial,by subst hb;exact hb1,hk1⟩
 ·exact stK_add hm' (by simp [Mc.cells]) λ w1 hb1 hk1=>⟨by trivial,by subst hb;exact hb1,hk1⟩
end
end Go.Fw

namespace Go.Fw
open Go.Proofs Go.RowKit
def HitOk (hv:Value) (R m:Nat) (M:Mc) (D:Dc) (i:Nat) (e:Ent) (D':Dc):Prop:=∀(w:World) (M':Mc),M'.d=M.d->M'.value=M.value->DictAt w R M.d D->MachAt w m M'->R<=w.heap.size->
 CallV Tryz.prog hv #[.pointer (some ⟨m,0,none⟩),.int .i64 i,e.val] w λ r w'=>r=.returned (foundT i e).val/\DictAt w' R M.d D'/\(∀k,D'.own M.d k->D.own M.d k\/w.heap.size<=k)/\Keep (D.own M.d) w w'
def MissOk (hv:Value) (R m:Nat) (M:Mc) (D:Dc) (Out:Trn->Dc->Prop):Prop:=∀(w:World) (M':Mc),M'.d=M.d->M'.hash=M.hash->M'.key=M.key->M'.value=M.value->DictAt w R M.d D->MachAt w m M'->R<=w.heap.size->
 CallV Tryz.prog hv #[.pointer (some ⟨m,0,none⟩)] w λ r w'=>∃t D',Out t D'/\r=.returned t.val/\DictAt w' R M.d D'/\(∀k,D'.own M.d k->D.own M.d k\/w.heap.size<=k)/\Keep (D.own M.d) w w'
structure Going (w:World) (B m:Nat) (M:Mc) (D:Dc) (l:List Nat):Prop where
 ex:∃s x told n,M.sk=.pointer (some ⟨s,0,none⟩)/\B<=s/\SeekAt w s D.t M.hash x D.T.turns told false/\-1<=told/\(x.1<2 ^ D.T.log/\x.2<18446744073709551616)/\Scan D.T.es D.T.log D.T.cells M.hash n x told l
 ver:M.ver=D.ver
def askT (k:Int):Trn:=⟨1,k,false,0,0⟩
def Mfp (B:Nat) (D:Dc) (d:Nat) (w:World):Nat->Prop:=λ k=>D.own d k\/(B<=k/\(etype w k=some 348\/etype w k=some 395))
theorem Keep.mfp {B d:Nat} {D:Dc} {W w w':World} {fp:Nat->Prop} (h:Keep (Mfp B D d W) W w) (h':Keep fp w w') (hs:∀k,k<w.heap.size->fp k->Mfp B D d w k\/W.heap.size<=k):Keep (Mfp B D d W) W w':=
 h.trans h' λ k hk hf=>by
  by_cases hc:Mfp B D d W k
  ·exact hc
  ·rcases hs k (by have:=h.size;omega) hf with q | q
   ·rcases q with q | ⟨q1,q2⟩
    ·exact .inl q
    ·rw [h.ett hk hc] at q2
     exact .inr ⟨q1,q2⟩
   ·omega
theorem Keep.mfp2 {B d:Nat} {D:Dc} {W w w':World} (h:Keep (Mfp B D d W) W w) (h':Keep (Mfp B D d w) w w'):Keep (Mfp B D d W) W w':=h.mfp h' λ _ _ e=>.inl e
def After (R B m:Nat) (M:Mc) (D:Dc) (l:List Nat) (HitD:Nat->Ent->Dc->Prop) (Out:Trn->Dc->Prop) (w:World) (r:Value) (w':World):Prop:=
 Keep (Mfp B D M.d w) w w'/\
 ((l=[]/\∃t D',Out t D'/\r=t.val/\DictAt w' R M.d D'/\(∀k,D'.own M.d k->D.own M.d k\/B<=k))\/
  (∃i l' e,l=i :: l'/\D.T.es[i]?=some e/\e.key=M.key/\∃D',HitD i e D'/\r=(foundT i e).val/\DictAt w' R M.d D'/\(∀k,D'.own M.d k->D.own M.d k\/B<=k))\/
  (∃i l' e M',l=i :: l'/\D.T.es[i]?=some e/\e.key≠M.key/\r=(askT e.key).val/\DictAt w' R M.d D/\MachAt w' m M'/\M'={ M with sk:=M'.sk,state:=2,entry:=i,scans:=M'.scans,ver:=M'.ver,turn:=askT e.key }/\Going w' B m M' D l'))
theorem RoundK_mono {P:Program} {l:Nat} {args:Array Value} {w:World} {K K':Bool->World->Prop} (h:RoundK P l args w K) (hK:∀b w',K b w'->K' b w'):RoundK P l args w K':=by
 obtain ⟨f,tmps,assign,body,w4,hy,hround⟩:=h
 refine ⟨f,tmps,assign,body,w4,hy,hround.mono ?_⟩
 rintro _ w5 ⟨b,rfl,hb⟩
 exact ⟨b,rfl,hK b w5 hb⟩
theorem CallV_mono' {P:Program} {fv:Value} {args:Array Value} {w:World} {R R':Ending->World->Prop} (h:CallV P fv args w R) (hR:∀e w',R e w'->R' e w'):CallV P fv args w R':=by
 unfold CallV at h ⊢
 split
 ·exact ⟨h.1,h.2.mono hR⟩
 ·exact RoundK_mono h λ b w' hb=>hR _ _ hb
 ·rename_i h1 h2
  split at h
  ·exact absurd rfl (h1 _ _ _)
  ·exact absurd rfl (h2 _ _ _)
  ·exact h
section
variable {w w':World} {R B m:Nat} {D:Dc} {M:Mc} {HitD:Nat->Ent->Dc->Prop} {Out:Trn->Dc->Prop}
theorem C219 (h:DictAt w R M.d D) (hm:MachAt w m M) (hR:R<=w.heap.size) {i:Nat} {e:Ent} (he:D.T.es[i]?=some e) (hl:e.live=true) {D':Dc} (hh:HitOk M.hit R m M D i e D') :
  Calls Tryz.prog 219 #[.pointer (some ⟨m,0,none⟩),.int .i64 i] w λ r w'=>r=.returned (foundT i e).val/\MachAt w' m { M with state:=4,turn:=foundT i e }/\DictAt w' R M.d D'/\(∀k,D'.own M.d k->D.own M.d k\/w.heap.size<=k)/\Keep (λ k=>k=m\/D.own M.d k) w w':=by
 refine ret_mono (V219_sound _ _ w (λ r w'=>r=(foundT i e).val/\MachAt w' m { M with state:=4,turn:=foundT i e }/\DictAt w' R M.d D'/\(∀k,D'.own M.d k->D.own M.d k\/w.heap.size<=k)/\Keep (λ k=>k=m\/D.own M.d k) w w') ?_) (by rintro _ _ ⟨rfl,h⟩;exact ⟨rfl,h⟩)
 unfold V219
 refine newK_of λ a w1 hs1 ha hk1=>?_
 have hm1:Blk w1 m 348 M.cells:=hk1.nblk hm
 have h1:=h.no hk1
 simp only [nilK_some]
 refine ⟨_,hm1.add 1 rfl,?_⟩
 simp only [nilK_some]
 refine ⟨_,h1.blk.add 0 rfl,(C222 h1.tab he hl).mono ?_⟩
 rintro _ w2 ⟨rfl,hk2⟩
 refine ⟨_,_,_,_,_,_,rfl,copy5 λ b w3 hb3 hk3 hs3=>?_⟩
 have hk03:=((hk1.no hk2).no hk3).no (Keep.drawn w3)
 have hm3:Blk w3.drew m 348 M.cells:=hk03.nblk hm
 have h3:=h.no hk03
 have e20:((⟨m,0,none⟩:Addr).add 2).add 0=(⟨m,0,none⟩:Addr).add 2:=by rw [add_mk,add_mk]
 rw [e20]
 refine ⟨_,hm3.add 2 rfl,_,_,_,_,_,hb3.drew.cells0,?_⟩
 have hcall:=hh w3.drew M rfl rfl h3 hm3 (by have:=hk03.size;omega)
 have hs03:=hk03.size
 have hab:w.heap.size<=a:=by omega
 have ha3:Blk w3.drew a 272 _:=(hk3.nblk (hk2.nblk ha)).drew
 refine CallV_mono' hcall ?_
 ·rintro _ w4 ⟨rfl,h4,hown4,hk4⟩
  have hnm:¬D.own M.d m:=h3.not_own hm3.etype (by rintro _ ⟨⟩;decide)
  have hna:¬D.own M.d a:=h3.not_own ha3.etype (by rintro _ ⟨⟩;decide)
  have hm4:MachAt w4 m M:=hk4.blk hm3 hnm
  refine ⟨_,_,_,_,_,rfl,(C221 hm4 (foundT i e)).mono ?_⟩
  rintro _ w5 ⟨rfl,hm5,hk5⟩
  have hmb4:Blk w4 m 348 M.cells:=hm4
  have ha4:=hk4.blk ha3 hna
  have ha5:=hk5.blk ha4 (ha4.ne hmb4 (by decide))
  refine ⟨_,_,_,_,_,rfl,set5 ha5 λ w6 hb6 hk6=>?_⟩
  unfold V219J1
  have hmb5:Blk w5 m 348 _:=hm5
  have h5:=h4.keep hk5 λ k hk e=>by
   subst e
   exact h4.not_own hmb4.etype (by rintro _ ⟨⟩;decide) hk
  refine ⟨_,_,_,_,_,hb6.cells0,rfl,hk6.blk hmb5 (hmb5.ne ha5 (by decide)),?_,λ k hk=>?_,?_⟩
  ·exact h5.keep hk6 λ k hk e=>by
    subst e
    exact h5.not_own ha5.etype (by rintro _ ⟨⟩;decide) hk
  ·rcases hown4 k hk with q | q
   ·exact .inl q
   ·exact .inr (by omega)
  ·exact ((hk03.of_no.trans hk4 λ k _ e=>.inr e).trans hk5 λ k _ e=>.inl e).news hk6 λ k e=>by omega
end
end Go.Fw

namespace Go.Fw
open Go.Proofs Go.RowKit
section
variable {w w':World} {R B m:Nat} {D:Dc} {M:Mc} {HitD:Nat->Ent->Dc->Prop} {Out:Trn->Dc->Prop}
theorem Scan.ent {es:List Ent} {log:Nat} {cells:List Int} {hash:Int} {n:Nat} {x:Nat × Nat} {told:Int} {l:List Nat} (hI:IdxOk es log cells) (h:Scan es log cells hash n x told l):∀i ∈ l,∃e,es[i]?=some e/\e.live=true/\e.hash=hash:=by
 induction h with
 | stop=>intro i hi;simp at hi
 | skip _ _ _ _ ih=>exact ih
 | hit h1 h2 h3 _ ih=>
  intro i hi
  rcases List.mem_cons.1 hi with rfl | hi
  ·obtain ⟨e,he,hh⟩:=h3
   rcases hI.ent _ _ h1 with q | q | ⟨j,e',q1,q2,q3⟩
   ·omega
   ·omega
   ·have q1:=Int.ofNat_inj.1 q1
    subst q1
    simp at he
    rw [he] at q2;cases q2
    exact ⟨e,he,q3,hh⟩
  ·exact ih i hi
theorem add11 (m n:Nat):((⟨m,0,none⟩:Addr).add 11).add n=(⟨m,0,none⟩:Addr).add (11+n):=by rw [add_mk,add_mk,add_mk];congr 1;omega
theorem step_scan {a2:Nat} {cs:List Value} {W:World} (h:DictAt w R M.d D) (hm:MachAt w m M) (hI:IdxOk D.T.es D.T.log D.T.cells) (hB:B<=m/\B<=a2/\B<=w.heap.size/\R<=B) (ha:Blk w a2 272 cs) (hcs:cs.length=5) (hk:Keep (Mfp B D M.d W) W w) (haW:W.heap.size<=a2) {l:List Nat} (hg:Going w B m M D l)
  (hhit:∀(i:Nat) (e:Ent),D.T.es[i]?=some e->e.live=true->∃D',HitD i e D'/\HitOk M.hit R m M D i e D') (hmiss:MissOk M.miss R m M D Out) (hBW:B<=W.heap.size) {Q:Value->World->Prop} (hQ:∀r w',After R B m M D l HitD Out W r w'->Q r w') :
  V150J2 Q (some ⟨m,0,none⟩) ⟨a2,0,none⟩ w:=by
 obtain ⟨⟨s,x,told,n,hsk,hsB,hseek,htold,hx,hscan⟩,hver⟩:=hg
 have hmb:Blk w m 348 M.cells:=hm
 obtain ⟨z0,z1,z2,z3,z4,rfl⟩:∃z0 z1 z2 z3 z4,cs=[z0,z1,z2,z3,z4]:=by
  match cs,hcs with
  | [z0,z1,z2,z3,z4],_=>exact ⟨_,_,_,_,_,rfl⟩
 unfold V150J2
 refine ⟨λ w1=>w1=w,λ _=>0,rfl,?_⟩
 rintro j w1 rfl
 simp only [nilK_some]
 refine ⟨_,hmb.add 0 (by rw [Mc.cells,hsk];rfl),(C220 h.tab hI hx hseek htold hscan).mono ?_⟩
 rintro r1 w2 ⟨hk2,hr⟩
 have hns:¬D.own M.d s:=h.not_own hseek.etype (by rintro _ ⟨⟩;decide)
 have hms:m≠s:=ne_of_etype hmb.etype hseek.etype (by decide)
 have has:a2≠s:=ne_of_etype ha.etype hseek.etype (by decide)
 have hma:m≠a2:=hmb.ne ha (by decide)
 have h2:=h.keep hk2 λ k hk e=>hns (by rw [<-e];exact hk)
 have hm2:Blk w2 m 348 M.cells:=hk2.blk hmb hms
 have ha2:=hk2.blk ha has
 have hkW2:Keep (Mfp B D M.d W) W w2:=hk.mfp hk2 λ k _ e=>.inl (.inr ⟨by omega,.inr (by rw [e];exact hseek.etype)⟩)
 have hs2:=hk2.size
 rcases hr with ⟨rfl,rfl⟩ | ⟨i,l',x',n',rfl,rfl,hx',hseek',hscan'⟩
 ·-- none is left
  refine ⟨_,_,rfl,bsel_pos rfl ?_⟩
  have e21:((⟨m,0,none⟩:Addr).add 2).add 1=(⟨m,0,none⟩:Addr).add 3:=by rw [add_mk,add_mk,add_mk]
  rw [e21]
  refine ⟨_,hm2.add 3 rfl,CallV_mono' (hmiss w2 M rfl rfl rfl rfl h2 hm2 (by omega)) ?_⟩
  rintro _ w3 ⟨t,D',hout,rfl,h3,hown3,hk3⟩
  have hm3:Blk w3 m 348 M.cells:=hk3.blk hm2 (h2.not_own hm2.etype (by rintro _ ⟨⟩;decide))
  have ha3:=hk3.blk ha2 (h2.not_own ha2.etype (by rintro _ ⟨⟩;decide))
  have hkW3:=hkW2.mfp hk3 λ k _ e=>.inl (.inl e)
  refine ⟨_,_,_,_,_,rfl,(C221 hm3 t).mono ?_⟩
  rintro _ w4 ⟨rfl,hm4,hk4⟩
  have h4:=h3.keep hk4 λ k hk e=>by
   subst e
   exact h3.not_own hm3.etype (by rintro _ ⟨⟩;decide) hk
  have ha4:=hk4.blk ha3 hma.symm
  have hkW4:=hkW3.mfp hk4 λ k _ e=>.inl (.inr ⟨by omega,.inl (by rw [e];exact hm3.etype)⟩)
  refine ⟨_,_,_,_,_,rfl,set5 ha4 λ w5 hb5 hk5=>⟨_,_,_,_,_,hb5.cells0,hQ _ _ ⟨hkW4.mfp hk5 λ k _ e=>.inr (by omega),.inl ⟨rfl,t,D',hout,rfl,?_,λ k hk=>?_⟩⟩⟩⟩
  ·exact h4.keep hk5 λ k hk e=>by
    subst e
    exact h4.not_own ha4.etype (by rintro _ ⟨⟩;decide) hk
  ·rcases hown3 k hk with q | q
   ·exact .inl q
   ·exact .inr (by omega)
 ·obtain ⟨e,he,hel,heh⟩:=hscan.ent hI i (by simp)
  refine ⟨_,_,rfl,bsel_neg rfl ⟨_,hm2.add 1 rfl,?_⟩⟩
  simp only [nilK_some]
  refine ⟨_,h2.blk.add 0 rfl,(C222 h2.tab he hel).mono ?_⟩
  rintro _ w3 ⟨rfl,hk3⟩
  refine ⟨_,_,_,_,_,_,rfl,copy5 λ b w4 hb4 hk4 hs4=>?_⟩
  have hk24:=(hk3.no hk4).no (Keep.drawn w4)
  have hm4:Blk w4.drew m 348 M.cells:=hk24.nblk hm2
  have ha4:=hk24.nblk ha2
  have h4:=h2.no hk24
  have hkW4:=hkW2.no hk24
  have hs24:=hk24.size
  refine ⟨_,hb4.drew.add 2 rfl,_,hm4.add 5 rfl,bsel_split (λ hc=>?_) λ hc=>?_⟩
  ·have hkey:e.key=M.key:=by simpa using hc
   obtain ⟨D',hD',hok⟩:=hhit i e he hel
   refine (C219 h4 hm4 (by omega) he hel hok).mono ?_
   rintro _ w5 ⟨rfl,hm5,h5,hown5,hk5⟩
   have ha5:=hk5.blk ha4 (by
    rintro (q | q)
    ·exact hma.symm q
    ·exact h4.not_own ha4.etype (by rintro _ ⟨⟩;decide) q)
   have hkW5:=hkW4.mfp hk5 λ k _ q=>by
    rcases q with q | q
    ·exact .inl (.inr ⟨by omega,.inl (by rw [q];exact hm4.etype)⟩)
    ·exact .inl (.inl q)
   refine ⟨_,_,_,_,_,rfl,set5 ha5 λ w6 hb6 hk6=>⟨_,_,_,_,_,hb6.cells0,hQ _ _ ⟨hkW5.mfp hk6 λ k _ e=>.inr (by omega),.inr (.inl ⟨i,l',e,rfl,he,hkey,D',hD',rfl,?_,λ k hk=>?_⟩)⟩⟩⟩
   ·exact h5.keep hk6 λ k hk e=>by
     subst e
     exact h5.not_own ha5.etype (by rintro _ ⟨⟩;decide) hk
   ·rcases hown5 k hk with q | q
    ·exact .inl q
    ·exact .inr (by omega)
  ·have hkey:e.key≠M.key:=by simpa using hc
   have hd:=Keep.drawn w4.drew
   have hm5:Blk w4.drew.drew m 348 M.cells:=hm4.drew
   have hb5:=hb4.drew.drew
   have hbm:b≠m:=hb5.ne hm5 (by decide)
   have hba:b≠a2:=by have:=ha2.lt;have h3s:=hk3.size;omega
   refine ⟨_,hb5.add 2 rfl,stK_add hm5 (by simp [Mc.cells]) λ w6 hm6 hk6=>?_⟩
   refine ⟨(hk6.blk hb5 hbm).add 2 rfl,stK_add hm6 (by simp [Mc.cells]) λ w7 hm7 hk7=>?_⟩
   refine ⟨(hk7.blk (hk6.blk hb5 hbm) hbm).add 2 rfl,?_⟩
   simp only [add11]
   refine stK_add hm7 (by simp [Mc.cells]) λ w8 hm8 hk8=>stK_add hm8 (by simp [Mc.cells]) λ w9 hm9 hk9=>stK_add hm9 (by simp [Mc.cells]) λ w10 hm10 hk10=>stK_add hm10 (by simp [Mc.cells]) λ w11 hm11 hk11=>stK_add hm11 (by simp [Mc.cells]) λ w12 hm12 hk12=>?_
   have hkm:Keep (λ k=>k=m) w4.drew w12:=hd.of_no.trans (((((((hk6.trans hk7 λ _ _ e=>e).trans hk8 λ _ _ e=>e).trans hk9 λ _ _ e=>e).trans hk10 λ _ _ e=>e).trans hk11 λ _ _ e=>e).trans hk12 λ _ _ e=>e)) λ _ _ e=>e
   have ha12:=hkm.blk ha4 hma.symm
   have hnm:¬D.own M.d m:=h4.not_own hm4.etype (by rintro _ ⟨⟩;decide)
   have h12:=h4.keep hkm λ k hk e=>hnm (by rw [<-e];exact hk)
   have hseek12:SeekAt w12 s D.t M.hash x' D.T.turns i false:=(hseek'.keep hk24 id).keep hkm hms.symm
   unfold V150J1
   rw [nilK_some]
   refine ⟨_,_,_,_,_,hm12.cellsAdd 11 rfl,set5 ha12 λ w13 hb13 hk13=>⟨_,_,_,_,_,hb13.cells0,hQ _ _ ⟨?_,.inr (.inr ⟨i,l',e,{ M with state:=2,entry:=i,turn:=askT e.key },rfl,he,hkey,rfl,?_,?_,rfl,⟨s,x',i,n',hsk,hsB,?_,by omega,hx',hscan'⟩,hver⟩)⟩⟩⟩
   ·exact (hkW4.mfp hkm λ k _ e=>.inl (.inr ⟨by omega,.inl (by rw [e];exact hm4.etype)⟩)).mfp hk13 λ k _ e=>.inr (by omega)
   ·exact h12.keep hk13 λ k hk e=>by
     subst e
     exact h12.not_own ha12.etype (by rintro _ ⟨⟩;decide) hk
   ·exact hk13.blk hm12 hma
   ·exact hseek12.keep hk13 has.symm
theorem After.mono {l:List Nat} {W W1:World} {r:Value} {M1:Mc} (h:After R B m M1 D l HitD Out W1 r w') (hk:Keep (Mfp B D M.d W) W W1) (hM:M1={ M with sk:=M1.sk,state:=M1.state,entry:=M1.entry,scans:=M1.scans,ver:=M1.ver,turn:=M1.turn }):After R B m M D l HitD Out W r w':=by
 have hd:M1.d=M.d:=by rw [hM]
 have hkey:M1.key=M.key:=by rw [hM]
 obtain ⟨h1,h2⟩:=h
 rw [hd] at h1
 refine ⟨hk.mfp2 h1,?_⟩
 rcases h2 with ⟨q1,t,D',q2,q3,q4,q5⟩ | ⟨i,l',e,q1,q2,q3,D',q4,q5,q6,q7⟩ | ⟨i,l',e,M',q1,q2,q3,q4,q5,q6,q7,q8⟩
 ·rw [hd] at q4 q5
  exact .inl ⟨q1,t,D',q2,q3,q4,q5⟩
 ·rw [hd] at q6 q7
  exact .inr (.inl ⟨i,l',e,q1,q2,q3.trans hkey,D',q4,q5,q6,q7⟩)
 ·rw [hd] at q5
  refine .inr (.inr ⟨i,l',e,M',q1,q2,λ e=>q3 (e.trans hkey.symm),q4,q5,q6,?_,q8⟩)
  rw [q7,hM]
end
end Go.Fw

namespace Go.Fw
open Go.Proofs Go.RowKit
def hits (es:List Ent) (hash:Int):List Nat:=(List.range es.length).filter (hitB es hash)
section
variable {w w':World} {R B m:Nat} {D:Dc} {M:Mc} {HitD:Nat->Ent->Dc->Prop} {Out:Trn->Dc->Prop}
theorem ver_ne (a:Int):(a != a)=false:=by simp
theorem C150_start (h:DictAt w R M.d D) (hm:MachAt w m M) (hI:IdxOk D.T.es D.T.log D.T.cells) (hB:B<=m/\B<=w.heap.size/\R<=B) (hst:M.state=0)
  (hhit:∀(i:Nat) (e:Ent),D.T.es[i]?=some e->e.live=true->∃D',HitD i e D'/\HitOk M.hit R m M D i e D') (hmiss:MissOk M.miss R m M D Out) :
  Calls Tryz.prog 150 #[.pointer (some ⟨m,0,none⟩)] w λ e w'=>∃r,e=.returned r/\After R B m M D (hits D.T.es M.hash) HitD Out w r w':=by
 refine V150_sound _ w (λ r w'=>After R B m M D (hits D.T.es M.hash) HitD Out w r w') ?_
 have hmb:Blk w m 348 M.cells:=hm
 obtain ⟨n,hn,hscan⟩:=hI.scan_hits h.tab.len M.hash
 unfold V150
 refine newK_of λ a2 w1 hs1 ha hk1=>?_
 have hm1:Blk w1 m 348 M.cells:=hk1.nblk hmb
 refine bsel_neg rfl ?_
 simp only [nilK_some]
 refine ⟨_,hm1.add 1 rfl,?_⟩
 unfold V150J6
 refine bsel_neg rfl ?_
 simp only [nilK_some]
 refine ⟨_,hm1.add 7 rfl,bsel_neg (by simp [hst]) ⟨_,hm1.add 7 rfl,?_⟩⟩
 rw [show (M.state == 2)=false by simp [hst]]
 unfold V150J5
 refine bsel_neg rfl ?_
 simp only [nilK_some]
 refine ⟨_,hm1.drew.add 7 rfl,bsel_pos (by simp [hst]) ?_⟩
 unfold V150J4
 refine bsel_pos rfl ?_
 simp only [nilK_some]
 have hkd:=(hk1.no (Keep.drawn w1)).no (Keep.drawn w1.drew)
 have hd:=h.no hkd
 refine ⟨_,hm1.drew.drew.add 1 rfl,_,hm1.drew.drew.add 4 rfl,(C217 hd).mono ?_⟩
 rintro _ w2 ⟨rfl,rfl⟩
 refine ⟨_,rfl,hm1.drew.drew.add 4 rfl,(C218 hd.tab M.hash).mono ?_⟩
 rintro _ w2 ⟨s,rfl,hseek,hsB,hk2⟩
 have hm2:Blk w2 m 348 M.cells:=hk2.nblk hm1.drew.drew
 have ha2:=hk2.nblk ha.drew.drew
 refine ⟨_,rfl,stK_add hm2 (by simp [Mc.cells]) λ w3 hm3 hk3=>?_⟩
 have hk02:=hkd.no hk2
 have hs0:=hkd.size
 have hs2:=hk02.size
 have h2:=h.no hk02
 have hnm:¬D.own M.d m:=h2.not_own hm2.etype (by rintro _ ⟨⟩;decide)
 have h3:=h2.keep hk3 λ k hk e=>hnm (by rw [<-e];exact hk)
 unfold V150J3
 simp only [nilK_some]
 refine ⟨_,hm3.add 1 rfl,?_⟩
 simp only [nilK_some]
 refine ⟨_,h3.blk.add 2 rfl,stK_add hm3 (by simp [Mc.cells]) λ w4 hm4 hk4=>?_⟩
 refine ⟨_,hm4.add 9 rfl,stK_add hm4 (by simp [Mc.cells]) λ w5 hm5 hk5=>?_⟩
 have hk25:Keep (λ k=>k=m) w2 w5:=(hk3.trans hk4 λ _ _ e=>e).trans hk5 λ _ _ e=>e
 have h5:=h2.keep hk25 λ k hk e=>hnm (by rw [<-e];exact hk)
 have hma:a2≠m:=ha2.ne hm2 (by decide)
 have hms:s≠m:=ne_of_etype hseek.etype hm2.etype (by decide)
 have ha5:=hk25.blk ha2 hma
 have hs25:=hk25.size
 have hk05:Keep (Mfp B D M.d w) w w5:=Keep.mfp hk02.of_no hk25 λ k _ e=>.inl (.inr ⟨by omega,.inl (by rw [e];exact hm2.etype)⟩)
 have hgo:Going w5 B m { M with sk:=.pointer (some ⟨s,0,none⟩),ver:=D.ver,scans:=IntKind.wrap .i64 (M.scans+1) } D (hits D.T.es M.hash):=
  ⟨⟨s,trStart D.T.log M.hash,-1,n,rfl,by have:=hkd.size;simp at this hsB;omega,hseek.keep hk25 hms,by omega,⟨Nat.mod_lt _ (pow_pos' _),u64_lt' _⟩,hscan⟩,rfl⟩
 have hlt:B<=a2:=by omega
 exact step_scan (M:={ M with sk:=.pointer (some ⟨s,0,none⟩),ver:=D.ver,scans:=IntKind.wrap .i64 (M.scans+1) }) (W:=w) h5 hm5 hI ⟨hB.1,hlt,by omega,hB.2.2⟩ ha5 rfl hk05 (by omega) hgo hhit hmiss hB.2.1 λ r w' hr=>hr.mono (Keep.refl _ _) rfl
theorem C150_on (h:DictAt w R M.d D) (hm:MachAt w m M) (hI:IdxOk D.T.es D.T.log D.T.cells) (hB:B<=m/\B<=w.heap.size/\R<=B) (hst:M.state=1) {l:List Nat} (hg:Going w B m M D l)
  (hhit:∀(i:Nat) (e:Ent),D.T.es[i]?=some e->e.live=true->∃D',HitD i e D'/\HitOk M.hit R m M D i e D') (hmiss:MissOk M.miss R m M D Out) :
  Calls Tryz.prog 150 #[.pointer (some ⟨m,0,none⟩)] w λ e w'=>∃r,e=.returned r/\After R B m M D l HitD Out w r w':=by
 refine V150_sound _ w (λ r w'=>After R B m M D l HitD Out w r w') ?_
 have hmb:Blk w m 348 M.cells:=hm
 unfold V150
 refine newK_of λ a2 w1 hs1 ha hk1=>?_
 have hm1:Blk w1 m 348 M.cells:=hk1.nblk hmb
 refine bsel_neg rfl ?_
 simp only [nilK_some]
 refine ⟨_,hm1.add 1 rfl,?_⟩
 unfold V150J6
 refine bsel_neg rfl ?_
 simp only [nilK_some]
 refine ⟨_,hm1.add 7 rfl,bsel_neg (by simp [hst]) ⟨_,hm1.add 7 rfl,?_⟩⟩
 rw [show (M.state == 2)=false by simp [hst]]
 unfold V150J5
 refine bsel_neg rfl ?_
 simp only [nilK_some]
 have hkd:=hk1.no (Keep.drawn w1)
 have hd:=h.no hkd
 refine ⟨_,hm1.drew.add 7 rfl,bsel_neg (by simp [hst]) ⟨_,hm1.drew.add 10 rfl,_,hm1.drew.add 1 rfl,?_⟩⟩
 simp only [nilK_some]
 refine ⟨_,hd.blk.add 2 rfl,?_⟩
 rw [hg.ver,ver_ne]
 unfold V150J4
 refine bsel_neg rfl ?_
 simp only [nilK_some]
 refine ⟨_,hm1.drew.add 7 rfl,bsel_neg (by simp [hst]) ?_⟩
 have hs0:=hkd.size
 obtain ⟨⟨s,x,told,n,q1,q2,q3,q4⟩,q5⟩:=hg
 exact step_scan (W:=w) hd hm1.drew hI ⟨hB.1,by omega,by omega,hB.2.2⟩ ha.drew rfl hkd.of_no (by omega) ⟨⟨s,x,told,n,q1,q2,q3.keep hkd id,q4⟩,q5⟩ hhit hmiss hB.2.1 λ r w' hr=>hr
theorem C150_hit (h:DictAt w R M.d D) (hm:MachAt w m M) (hB:B<=m/\B<=w.heap.size/\R<=B) (hst:M.state=3) {i:Nat} {e:Ent} (hen:M.entry=i) (hv:M.ver=D.ver) (he:D.T.es[i]?=some e) (hl:e.live=true) {D':Dc} (hh:HitOk M.hit R m M D i e D') :
  Calls Tryz.prog 150 #[.pointer (some ⟨m,0,none⟩)] w λ r w'=>r=.returned (foundT i e).val/\DictAt w' R M.d D'/\(∀k,D'.own M.d k->D.own M.d k\/B<=k)/\Keep (Mfp B D M.d w) w w':=by
 refine ret_mono (V150_sound _ w (λ r w'=>r=(foundT i e).val/\DictAt w' R M.d D'/\(∀k,D'.own M.d k->D.own M.d k\/B<=k)/\Keep (Mfp B D M.d w) w w') ?_) (by rintro _ _ ⟨rfl,h⟩;exact ⟨rfl,h⟩)
 have hmb:Blk w m 348 M.cells:=hm
 unfold V150
 refine newK_of λ a2 w1 hs1 ha hk1=>?_
 have hm1:Blk w1 m 348 M.cells:=hk1.nblk hmb
 refine bsel_neg rfl ?_
 simp only [nilK_some]
 refine ⟨_,hm1.add 1 rfl,?_⟩
 unfold V150J6
 refine bsel_neg rfl ?_
 simp only [nilK_some]
 refine ⟨_,hm1.add 7 rfl,bsel_neg (by simp [hst]) ⟨_,hm1.add 7 rfl,?_⟩⟩
 rw [show (M.state == 2)=false by simp [hst]]
 unfold V150J5
 refine bsel_neg rfl ?_
 simp only [nilK_some]
 have hkd:=hk1.no (Keep.drawn w1)
 have hd:=h.no hkd
 refine ⟨_,hm1.drew.add 7 rfl,bsel_neg (by simp [hst]) ⟨_,hm1.drew.add 10 rfl,_,hm1.drew.add 1 rfl,?_⟩⟩
 simp only [nilK_some]
 refine ⟨_,hd.blk.add 2 rfl,?_⟩
 rw [hv,ver_ne]
 unfold V150J4
 refine bsel_neg rfl ?_
 simp only [nilK_some]
 have hs0:=hkd.size
 refine ⟨_,hm1.drew.add 7 rfl,bsel_pos (by simp [hst]) ⟨_,hm1.drew.add 8 rfl,?_⟩⟩
 rw [hen]
 refine (C219 hd hm1.drew (by omega) he hl hh).mono ?_
 rintro _ w2 ⟨rfl,hm2,h2,hown2,hk2⟩
 have ha2:=hk2.blk ha.drew (by
  rintro (q | q)
  ·exact (ha.drew.ne hm1.drew (by decide)) q
  ·exact hd.not_own ha.drew.etype (by rintro _ ⟨⟩;decide) q)
 refine ⟨_,_,_,_,_,rfl,set5 ha2 λ w3 hb3 hk3=>⟨_,_,_,_,_,hb3.cells0,rfl,?_,λ k hk=>?_,?_⟩⟩
 ·exact h2.keep hk3 λ k hk e=>by
   subst e
   exact h2.not_own ha2.etype (by rintro _ ⟨⟩;decide) hk
 ·rcases hown2 k hk with q | q
  ·exact .inl q
  ·exact .inr (by omega)
 ·refine (Keep.mfp hkd.of_no hk2 λ k _ q=>?_).news hk3 λ k e=>by omega
  rcases q with q | q
  ·exact .inl (.inr ⟨by omega,.inl (by rw [q];exact hm1.drew.etype)⟩)
  ·exact .inl (.inl q)
end
end Go.Fw

namespace Go.Fw
open Go.Proofs Go.RowKit
theorem callFunc279 (x y z:Value) (w:World):(callFunc 279 #[x,y,z]).run Tryz.prog w=.ok (.enter 279 #[x,y,z]) w:=by kernel_rfl
theorem callFunc285 (x:Value) (w:World):(callFunc 285 #[x]).run Tryz.prog w=.ok (.enter 285 #[x]) w:=by kernel_rfl
section
variable {w w':World} {R B m:Nat} {D:Dc} {M:Mc}
theorem hitOk_put (hv:Value) (hhv:hv=.func (.func 279) #[] #[]) {i:Nat} {e:Ent} (he:D.T.es[i]?=some e) (hl:e.live=true):HitOk hv R m M D i e (D.put i e M.value):=by
 subst hhv
 intro w M' hd hv h hm hR
 refine ⟨callFunc279 _ _ _ _,?_⟩
 rw [<-hd] at h ⊢
 refine (C279 h hm he hl).mono ?_
 rintro _ w1 ⟨rfl,h1,hk1⟩
 rw [hv] at h1
 exact ⟨rfl,h1,λ k hk=>.inl hk,hk1⟩
def AddOut (D:Dc) (hash key value:Int) (t:Trn) (D':Dc):Prop:=
 (D.most<=D.T.es.length/\t=⟨3,0,false,0,0⟩/\D'=D)\/
 ((D.T.es.length:Int)<D.most/\t=⟨2,0,false,value,D.T.es.length⟩/\TbOk D'.T/\D'.T.es=D.T.es ++ [⟨true,hash,key,value,D.T.births⟩]/\D'.t=D.t/\D'.most=D.most/\D'.ver=IntKind.wrap .u64 (D.ver+1)/\
  D'.T.births=D.T.births+1/\D'.T.turns=D.T.turns+1/\D'.T.made<=D.T.made+1)
theorem missOk_add (hv:Value) (hhv:hv=.func (.func 285) #[] #[]) (ho:TbOk D.T) (hl:3*D.T.es.length<=1048576) (hn:D.T.births<1000000000000/\D.T.turns<1000000000000/\D.T.made<1000000000000):MissOk hv R m M D (AddOut D M.hash M.key M.value):=by
 subst hhv
 intro w M' hd hh hkey hv h hm hR
 refine ⟨callFunc285 _ _,?_⟩
 rw [<-hd] at h ⊢
 refine (C285 h hm ho hR hl hn).mono ?_
 rintro _ w1 (⟨q1,rfl,q2,q3⟩ | ⟨q1,rfl,D',q2,q3,q4,q5,q6,q7,q8,q9,q10,q11,q12⟩)
 ·exact ⟨_,D,.inl ⟨q1,rfl,rfl⟩,rfl,q2,λ k hk=>.inl hk,q3.of_no⟩
 ·rw [hh,hkey,hv] at q4
  rw [hv]
  exact ⟨_,D',.inr ⟨q1,rfl,q3,q4,q5,q6,q7,q8,q9,q10⟩,rfl,q2,q11,q12⟩
end
def PutOut (alike:Int->Bool) (D:Dc) (hash key value:Int) (l:List Nat) (D':Dc):Prop:=
 (∃(pre:List Nat) (i:Nat) (l':List Nat) (e:Ent),l=pre ++ i :: l'/\(∀j ∈ pre,∀e:Ent,D.T.es[j]?=some e->e.key≠key/\alike e.key=false)/\D.T.es[i]?=some e/\(e.key=key\/alike e.key=true)/\D'=D.put i e value)\/
 ((∀i ∈ l,∀e,D.T.es[i]?=some e->e.key≠key/\alike e.key=false)/\∃t,AddOut D hash key value t D')
def PAsk (R B m:Nat) (M0:Mc) (D:Dc) (alike:Int->Bool) (t:Trn) (i:Nat) (l':List Nat) (w:World):Prop:=
 ∃(e:Ent) (M':Mc) (pre:List Nat),hits D.T.es M0.hash=pre ++ i :: l'/\(∀j ∈ pre,∀e:Ent,D.T.es[j]?=some e->e.key≠M0.key/\alike e.key=false)/\D.T.es[i]?=some e/\e.key≠M0.key/\t=askT e.key/\DictAt w R M0.d D/\MachAt w m M'/\
  M'={ M0 with sk:=M'.sk,state:=2,entry:=i,scans:=M'.scans,ver:=M'.ver,turn:=askT e.key }/\Going w B m M' D l'
def PDone (R B:Nat) (M0:Mc) (D:Dc) (alike:Int->Bool) (t:Trn) (w:World):Prop:=
 t.kind≠1/\∃D',PutOut alike D M0.hash M0.key M0.value (hits D.T.es M0.hash) D'/\DictAt w R M0.d D'/\(∀k,D'.own M0.d k->D.own M0.d k\/B<=k)
theorem hits_nodup (es:List Ent) (hash:Int):(hits es hash).Nodup:=List.nodup_range.filter _
theorem nodup_split {α:Type}:∀{pre pre' l l':List α} {i:α},(pre ++ i :: l).Nodup->pre ++ i :: l=pre' ++ i :: l'->l=l'
 | [],[],_,_,_,_,h=>by simpa using h
 | [],x :: pre',l,l',i,hn,h=>by
  simp at h
  obtain ⟨rfl,rfl⟩:=h
  simp at hn
 | x :: pre,[],l,l',i,hn,h=>by
  simp at h
  obtain ⟨rfl,rfl⟩:=h
  simp at hn
 | x :: pre,y :: pre',l,l',i,hn,h=>by
  simp at h
  obtain ⟨rfl,h⟩:=h
  exact nodup_split (List.nodup_cons.1 (by simpa using hn)).2 h
def putEs (alike:Int->Bool) (most:Int) (es:List Ent) (hash key value:Int):List Ent:=
 match (hits es hash).find? λ i=>(es[i]?).any λ e=>e.key == key || alike e.key with
 | some i=>(es[i]?).elim es λ e=>es.set i (e.put value)
 | none=>if most<=es.length then es else es ++ [⟨true,hash,key,value,es.length⟩]
theorem hits_get {es:List Ent} {hash:Int} {i:Nat} (h:i ∈ hits es hash):∃e,es[i]?=some e:=by
 unfold hits at h
 rw [List.mem_filter] at h
 obtain ⟨e,he,_⟩:=hitB_iff.1 h.2
 exact ⟨e,he⟩
theorem find_pre {α:Type} {p:α->Bool} {pre l:List α} {i:α} (h:∀j ∈ pre,p j=false) (hi:p i=true):(pre ++ i :: l).find? p=some i:=by
 induction pre with
 | nil=>simp [hi]
 | cons a pre ih=>
  rw [List.cons_append,List.find?_cons,h a (by simp)]
  exact ih λ j hj=>h j (by simp [hj])
structure DcOk (D:Dc):Prop where
 ok:TbOk D.T
 births:D.T.births=D.T.es.length
 len:(D.T.es.length:Int)<=D.most
theorem PutOut.es {alike:Int->Bool} {D D':Dc} {hash key value:Int} (h:PutOut alike D hash key value (hits D.T.es hash) D') (hok:DcOk D) :
  DcOk D'/\D'.T.es=putEs alike D.most D.T.es hash key value/\D'.most=D.most/\D'.T.turns<=D.T.turns+1/\D'.T.made<=D.T.made+1:=by
 obtain ⟨ho,hb,hl⟩:=hok
 rcases h with ⟨pre,i,l',e,h1,h2,h3,h4,rfl⟩ | ⟨h1,t,h2⟩
 ·refine ⟨⟨ho.put h3 value,by simp [Dc.put,Tb.put,hb],by simpa [Dc.put,Tb.put] using hl⟩,?_,rfl,by simp [Dc.put,Tb.put];omega,by simp [Dc.put,Tb.put];omega⟩
  unfold putEs
  have hf:(hits D.T.es hash).find? (λ i=>(D.T.es[i]?).any λ e=>e.key == key || alike e.key)=some i:=by
   rw [h1]
   refine find_pre (λ j hj=>?_) ?_
   ·obtain ⟨ej,hej⟩:=hits_get (es:=D.T.es) (hash:=hash) (i:=j) (by rw [h1];simp [hj])
    obtain ⟨q1,q2⟩:=h2 j hj ej hej
    simp [hej,q1,q2]
   ·simp only [h3,Option.any_some]
    rcases h4 with q | q <;> simp [q]
  rw [hf]
  simp [h3,Dc.put,Tb.put]
 ·have hf:(hits D.T.es hash).find? (λ i=>(D.T.es[i]?).any λ e=>e.key == key || alike e.key)=none:=by
   rw [List.find?_eq_none]
   intro j hj
   obtain ⟨ej,hej⟩:=hits_get hj
   obtain ⟨q1,q2⟩:=h1 j hj ej hej
   simp [hej,q1,q2]
  unfold putEs
  rw [hf]
  rcases h2 with ⟨q1,_,rfl⟩ | ⟨q1,_,q2,q3,q4,q5,q6,q7,q8,q9⟩
  ·exact ⟨⟨ho,hb,hl⟩,by simp only;rw [if_pos q1],rfl,by omega,by omega⟩
  ·refine ⟨⟨q2,by rw [q3,q7];simp;omega,by rw [q3,q5];simp;omega⟩,?_,q5,by omega,q9⟩
   simp only
   rw [if_neg (by omega),q3,hb]
section
variable {w w1 w2:World} {R B m d:Nat} {D:Dc} {M0 M1:Mc} {alike:Int->Bool}
theorem pcase_of {pre l:List Nat} {r:Value} (hM:M1={ M0 with sk:=M1.sk,state:=M1.state,entry:=M1.entry,scans:=M1.scans,ver:=M1.ver,turn:=M1.turn }) (hpre:hits D.T.es M0.hash=pre ++ l)
  (hno:∀j ∈ pre,∀e:Ent,D.T.es[j]?=some e->e.key≠M0.key/\alike e.key=false) (h:After R B m M1 D l (λ i e D'=>D'=D.put i e M0.value) (AddOut D M0.hash M0.key M0.value) w1 r w2) :
  Keep (Mfp B D M0.d w1) w1 w2/\∃t,r=t.val/\(PDone R B M0 D alike t w2\/∃i l',PAsk R B m M0 D alike t i l' w2/\l=i :: l'):=by
 have h':=h.mono (M:=M0) (Keep.refl _ _) hM
 obtain ⟨hk,h'⟩:=h'
 refine ⟨hk,?_⟩
 rcases h' with ⟨rfl,t,D',hout,rfl,hd,hown⟩ | ⟨i,l',e,rfl,he,hkey,D',rfl,rfl,hd,hown⟩ | ⟨i,l',e,M',rfl,he,hkey,rfl,hd,hm,hM',hg⟩
 ·refine ⟨t,rfl,.inl ⟨?_,D',.inr ⟨?_,t,hout⟩,hd,hown⟩⟩
  ·rcases hout with ⟨_,rfl,_⟩ | ⟨_,rfl,_⟩ <;> simp
  ·rw [hpre];simpa using hno
 ·exact ⟨_,rfl,.inl ⟨by simp [foundT],_,.inl ⟨pre,i,l',e,hpre,hno,he,.inl hkey,rfl⟩,hd,hown⟩⟩
 ·exact ⟨_,rfl,.inr ⟨i,l',⟨e,M',pre,hpre,hno,he,hkey,rfl,hd,hm,hM',hg⟩,rfl⟩⟩
theorem put_dialog {b:Nat} {s:Option Addr} {kn:Nat} {hash key value:Int} {st:World->Prop}
  (hstab:∀w1 w2,st w1->Keep (Mfp B D d w1) w1 w2->st w2)
  (hask:∀w1 k,st w1->(∃e ∈ D.T.es,e.key=k)->Calls Tryz.prog 16 #[.pointer s,.int .i64 k,.int .i64 key] w1 λ e w2=>e=.returned (.bool (alike k))/\Keep No w1 w2)
  (hcells:∀w1,st w1->∃ra rl rc,w1.cell? ((⟨b,0,none⟩:Addr).add 0)=some (.pointer s)/\w1.cell? ((⟨b,0,none⟩:Addr).add 2)=some (.slice (some ⟨ra,0,none⟩) rl rc)/\kn<rl/\w1.cell? ⟨ra,kn,none⟩=some (.int .i64 key))
  (h:DictAt w R d D) (ho:TbOk D.T) (hl:3*D.T.es.length<=1048576) (hn:D.T.births<1000000000000/\D.T.turns<1000000000000/\D.T.made<1000000000000)
  (hm:MachAt w m ⟨.pointer none,d,.func (.func (hitF 2)) #[] #[],.func (.func (missF 2)) #[] #[],hash,key,value,0,0,0,0,t0⟩) (hB:B<=m/\B<=w.heap.size/\R<=B) (hst:st w) {Q:Value->World->Prop}
  (hQ:∀w' D',PutOut alike D hash key value (hits D.T.es hash) D'->DictAt w' R d D'->(∀k,D'.own d k->D.own d k\/B<=k)->Keep (Mfp B D d w) w w'->Q (.tuple #[]) w') :
  V142J2 Q (some ⟨b,0,none⟩) kn (some ⟨m,0,none⟩) w:=by
 have hIdx:=ho.idx
 have hhit:∀(M1:Mc),M1.hit=.func (.func 279) #[] #[]->∀(i:Nat) (e:Ent),D.T.es[i]?=some e->e.live=true->∃D',(D'=D.put i e M1.value)/\HitOk M1.hit R m M1 D i e D':=λ M1 h2 i e he hle=>⟨_,rfl,hitOk_put _ h2 he hle⟩
 have hmiss:∀(M1:Mc),M1.miss=.func (.func 285) #[] #[]->MissOk M1.miss R m M1 D (AddOut D M1.hash M1.key M1.value):=λ M1 h1=>missOk_add _ h1 ho hl hn
 generalize hM0:(⟨.pointer none,d,.func (.func (hitF 2)) #[] #[],.func (.func (missF 2)) #[] #[],hash,key,value,0,0,0,0,t0⟩:Mc)=M0 at hm
 have e1:M0.d=d/\M0.hit=.func (.func 279) #[] #[]/\M0.miss=.func (.func 285) #[] #[]/\M0.hash=hash/\M0.key=key/\M0.value=value/\M0.state=0:=by subst hM0;exact ⟨rfl,rfl,rfl,rfl,rfl,rfl,rfl⟩
 clear hM0
 obtain ⟨f1,f2,f3,f4,f5,f6,f7⟩:=e1
 subst f4 f5 f6 f1
 unfold V142J2
 refine (C150_start (HitD:=λ i e D'=>D'=D.put i e M0.value) (Out:=AddOut D M0.hash M0.key M0.value) h hm hIdx hB f7 (hhit M0 f2) (hmiss M0 f3)).mono ?_
 rintro _ w1 ⟨r,rfl,hr⟩
 obtain ⟨hk1,t,rfl,hcase⟩:=pcase_of (alike:=alike) (M0:=M0) (pre:=[]) rfl rfl (by simp) hr
 have hst1:=hstab _ _ hst hk1
 refine ⟨_,_,_,_,_,rfl,copy5 λ a w2 ha2 hk2 hs2=>?_⟩
 have hs1:=hk1.size
 have haB:B<=a:=by omega
 have hk02:=hk1.no hk2
 have hstep:∀{t:Trn} {wa wb:World},Keep No wa wb->(PDone R B M0 D alike t wa\/∃i l',PAsk R B m M0 D alike t i l' wa)->(PDone R B M0 D alike t wb\/∃i l',PAsk R B m M0 D alike t i l' wb):=by
  rintro t wa wb hk (⟨q1,D',q2,q3,q4⟩ | ⟨i,l',e,M',pre,q1,q2,q3,q4,q5,q6,q7,q8,⟨s,x,told,n,g1,g2,g3,g4⟩,g5⟩)
  ·exact .inl ⟨q1,D',q2,q3.no hk,q4⟩
  ·exact .inr ⟨i,l',e,M',pre,q1,q2,q3,q4,q5,q6.no hk,hk.nblk q7,q8,⟨s,x,told,n,g1,g2,g3.keep hk id,g4⟩,g5⟩
 have hJu:∀(n n':Nat) (wx:World),(∃t,Blk wx a 272 t.cells/\((n=0/\PDone R B M0 D alike t wx)\/∃i l',n=l'.length+1/\PAsk R B m M0 D alike t i l' wx))->(∃t,Blk wx a 272 t.cells/\((n'=0/\PDone R B M0 D alike t wx)\/∃i l',n'=l'.length+1/\PAsk R B m M0 D alike t i l' wx))->n=n':=by
  rintro n n' wx ⟨t,hb,hc⟩ ⟨t',hb',hc'⟩
  have hkind:t.kind=t'.kind:=by
   have:=(hb.uniq hb').2
   simp [Trn.cells] at this
   exact this.1
  rcases hc with ⟨rfl,q1,_⟩ | ⟨i,l',rfl,e,M',pre,q1,q2,q3,q4,q5,q6,q7,q8,q9⟩
  ·rcases hc' with ⟨rfl,_⟩ | ⟨i,l',rfl,e,M',pre,q1',q2,q3,q4,q5,_⟩
   ·rfl
   ·rw [q5] at hkind;exact absurd hkind q1
  ·rcases hc' with ⟨rfl,p1,_⟩ | ⟨i',l'',rfl,e',M'',pre',p1,p2,p3,p4,p5,p6,p7,p8,p9⟩
   ·rw [q5] at hkind;exact absurd hkind.symm p1
   ·have hcs:=(Blk.uniq q7 p7).2
    have hen:M'.entry=M''.entry:=by
     have:=congrArg (λ l=>l[8]?) hcs
     simpa [Mc.cells] using this
    rw [q8,p8] at hen
    have hii:i=i':=Int.ofNat_inj.1 hen
    subst hii
    have:=nodup_split (by rw [<-q1];exact hits_nodup _ _) (q1.symm.trans p1)
    rw [this]
 refine ⟨λ wx=>Keep (Mfp B D M0.d w) w wx/\∃n,∃t,Blk wx a 272 t.cells/\((n=0/\PDone R B M0 D alike t wx)\/∃i l',n=l'.length+1/\PAsk R B m M0 D alike t i l' wx),
  ghost λ n wx=>∃t,Blk wx a 272 t.cells/\((n=0/\PDone R B M0 D alike t wx)\/∃i l',n=l'.length+1/\PAsk R B m M0 D alike t i l' wx),⟨hk02,?_⟩,?_⟩
 ·rcases hstep hk2 (hcase.imp id λ ⟨i,l',h1,_⟩=>⟨i,l',h1⟩) with q | ⟨i,l',q⟩
  ·exact ⟨0,t,ha2,.inl ⟨rfl,q⟩⟩
  ·exact ⟨_,t,ha2,.inr ⟨i,l',rfl,q⟩⟩
 rintro j0 w3 ⟨hk3,n,t3,ha3,hc3⟩
 have hgh:=ghost_eq hJu (m:=n) (w:=w3) ⟨t3,ha3,hc3⟩
 have hst3:=hstab _ _ hst hk3
 refine ⟨_,ha3.add 0 rfl,?_⟩
 rcases hc3 with ⟨rfl,hkind,D',q2,q3,q4⟩ | ⟨i,l',rfl,e,M',pre,q1,q2,q3,q4,q5,q6,q7,q8,hgo⟩
 ·exact bsel_neg (by simpa using hkind) (hQ w3 D' q2 q3 q4 hk3)
 subst q5
 refine bsel_pos rfl ?_
 have hd:=Keep.drawn w3
 have hst3d:=hstab _ _ hst3 hd.of_no
 simp only [nilK_some]
 obtain ⟨ra,rl,rc,hc1,hc2,hc4,hc5⟩:=hcells _ hst3d
 refine ⟨_,hc1,_,ha3.drew.add 1 rfl,_,_,_,hc2,idxK_of hc4 ⟨_,by rw [add_mk,Nat.mul_one,Nat.zero_add];exact hc5,(hask _ e.key hst3d ⟨e,List.mem_of_getElem? q3,rfl⟩).mono ?_⟩⟩
 rintro _ w4 ⟨rfl,hk4⟩
 have hk34:=hd.no hk4
 have hm4:MachAt w4 m M':=hk34.nblk q7
 have h4:=q6.no hk34
 have ha4:=hk34.nblk ha3
 have hgo4:Going w4 B m M' D l':=by
  obtain ⟨⟨s,x,told,n,g1,g2,g3,g4⟩,g5⟩:=hgo
  exact ⟨⟨s,x,told,n,g1,g2,g3.keep hk34 id,g4⟩,g5⟩
 have hd':M'.d=M0.d:=by rw [q8]
 have hma:m≠a:=Blk.ne hm4 ha4 (by decide)
 refine ⟨_,rfl,(C152 hm4 (by rw [q8]) (alike e.key)).mono ?_⟩
 rintro _ w5 ⟨rfl,hm5,hk5⟩
 have hnm:¬D.own M0.d m:=h4.not_own hm4.etype (by rintro _ ⟨⟩;decide)
 have h5:=h4.keep hk5 λ k hk e=>hnm (by rw [<-e];exact hk)
 have ha5:=hk5.blk ha4 hma.symm
 have hs35:B<=w5.heap.size:=by have h1:=hk3.size;have h2:=hk34.size;have h3:=hk5.size;omega
 have hk05:Keep (Mfp B D M0.d w) w w5:=(hk3.no hk34).mfp hk5 λ k _ e=>.inl (.inr ⟨by omega,.inl (by rw [e];exact hm4.etype)⟩)
 refine ⟨_,rfl,?_⟩
 unfold V142J1
 rw [hgh]
 have hnext:∀(t:Trn) (w6:World),Keep (Mfp B D M0.d w5) w5 w6->Blk w6 a 272 (askT e.key).cells->(PDone R B M0 D alike t w6\/∃i2 l2,PAsk R B m M0 D alike t i2 l2 w6/\l'=i2 :: l2)->
   stK w6 ((⟨a,0,none⟩:Addr).add 0) (.int .i64 t.kind) λ w69=>stK w69 ((⟨a,0,none⟩:Addr).add 1) (.int .i64 t.key) λ w70=>stK w70 ((⟨a,0,none⟩:Addr).add 2) (.bool t.found) λ w71=>stK w71 ((⟨a,0,none⟩:Addr).add 3) (.int .i64 t.value) λ w72=>stK w72 ((⟨a,0,none⟩:Addr).add 4) (.int .i64 t.entry) λ w73=>
   (Keep (Mfp B D M0.d w) w w73/\∃n,∃t,Blk w73 a 272 t.cells/\((n=0/\PDone R B M0 D alike t w73)\/∃i l',n=l'.length+1/\PAsk R B m M0 D alike t i l' w73))/\
   (ghost λ n wx=>∃t,Blk wx a 272 t.cells/\((n=0/\PDone R B M0 D alike t wx)\/∃i l',n=l'.length+1/\PAsk R B m M0 D alike t i l' wx)) w73<l'.length+1:=by
  intro t w6 hk6 ha6 hc6
  refine set5 ha6 λ w7 ha7 hk7=>?_
  have hk07:=(hk05.mfp2 hk6).mfp hk7 λ k _ e=>.inr (by omega)
  have hna:∀{D':Dc},DictAt w6 R M0.d D'->DictAt w7 R M0.d D':=λ hx=>hx.keep hk7 λ k hk e=>by
   subst e
   exact hx.not_own ha6.etype (by rintro _ ⟨⟩;decide) hk
  have hc7:(PDone R B M0 D alike t w7\/∃i2 l2,PAsk R B m M0 D alike t i2 l2 w7/\l'=i2 :: l2):=by
   rcases hc6 with ⟨p1,D',p2,p3,p4⟩ | ⟨i2,l2,⟨e2,M2,pre2,p1,p2,p3,p4,p5,p6,p7,p8,⟨s,x,told,n,g1,g2,g3,g4⟩,g5⟩,hl2⟩
   ·exact .inl ⟨p1,D',p2,hna p3,p4⟩
   ·exact .inr ⟨i2,l2,⟨e2,M2,pre2,p1,p2,p3,p4,p5,hna p6,hk7.blk p7 (Blk.ne p7 ha6 (by decide)),p8,⟨s,x,told,n,g1,g2,g3.keep hk7 (ne_of_etype g3.etype ha6.etype (by decide)),g4⟩,g5⟩,hl2⟩
  have hJ:∃n,n<l'.length+1/\∃t,Blk w7 a 272 t.cells/\((n=0/\PDone R B M0 D alike t w7)\/∃i l',n=l'.length+1/\PAsk R B m M0 D alike t i l' w7):=by
   rcases hc7 with p | ⟨i2,l2,p,hl2⟩
   ·exact ⟨0,by omega,t,ha7,.inl ⟨rfl,p⟩⟩
   ·exact ⟨l2.length+1,by rw [hl2];simp,t,ha7,.inr ⟨i2,l2,rfl,p⟩⟩
  obtain ⟨n7,hn7,hJ⟩:=hJ
  exact ⟨⟨hk07,n7,hJ⟩,by rw [ghost_eq hJu hJ];exact hn7⟩
 cases hal:alike e.key
 ·rw [hal] at hm5
  refine (C150_on (M:={ M' with state:=1 }) (HitD:=λ i e D'=>D'=D.put i e M0.value) (Out:=AddOut D M0.hash M0.key M0.value) (by rw [<-hd'] at h5;exact h5) hm5 hIdx ⟨hB.1,hs35,hB.2.2⟩ rfl (l:=l') (by
   obtain ⟨⟨s,x,told,n,g1,g2,g3,g4⟩,g5⟩:=hgo4
   exact ⟨⟨s,x,told,n,g1,g2,g3.keep hk5 (ne_of_etype g3.etype (Blk.etype hm4) (by decide)),g4⟩,g5⟩) (λ i e he hle=>by
   have:=hhit { M' with state:=1 } (by rw [q8];exact f2) i e he hle
   rw [q8] at this ⊢
   exact this) (by
   have:=hmiss { M' with state:=1 } (by rw [q8];exact f3)
   rw [q8] at this ⊢
   exact this)).mono ?_
  rintro _ w6 ⟨r,rfl,hr⟩
  obtain ⟨hk6,t,rfl,hcase⟩:=pcase_of (alike:=alike) (M0:=M0) (pre:=pre ++ [i]) (M1:={ M' with state:=1 }) (by rw [q8]) (by rw [q1];simp) (λ j hj e' he'=>by
   rcases List.mem_append.1 hj with hj | hj
   ·exact q2 j hj e' he'
   ·simp at hj
    subst hj
    rw [q3] at he'
    cases he'
    exact ⟨q4,hal⟩) hr
  have ha6:=hk6.blk ha5 (by
   rintro (q | ⟨_,q | q⟩)
   ·exact h5.not_own ha5.etype (by rintro _ ⟨⟩;decide) q
   ·rw [ha5.etype] at q;cases q
   ·rw [ha5.etype] at q;cases q)
  exact ⟨_,_,_,_,_,rfl,hnext t w6 hk6 ha6 hcase⟩
 ·rw [hal] at hm5
  obtain ⟨⟨s,x,told,n,g1,g2,g3,g4⟩,g5⟩:=hgo4
  have hel:e.live=true:=ho.live e (List.mem_of_getElem? q3)
  refine (C150_hit (M:={ M' with state:=3 }) (D':=D.put i e M0.value) (by rw [<-hd'] at h5;exact h5) hm5 ⟨hB.1,hs35,hB.2.2⟩ rfl (by rw [q8]) (by exact g5) q3 hel (by
   have:=hitOk_put (R:=R) (m:=m) (M:={ M' with state:=3 }) (D:=D) M'.hit (by rw [q8];exact f2) q3 hel
   rw [q8] at this ⊢
   exact this)).mono ?_
  rintro _ w6 ⟨rfl,h6,hown6,hk6⟩
  simp only [hd'] at h6 hown6 hk6
  have ha6:=hk6.blk ha5 (by
   rintro (q | ⟨_,q | q⟩)
   ·exact h5.not_own ha5.etype (by rintro _ ⟨⟩;decide) q
   ·rw [ha5.etype] at q;cases q
   ·rw [ha5.etype] at q;cases q)
  exact ⟨_,_,_,_,_,rfl,hnext (foundT i e) w6 hk6 ha6 (.inl ⟨by simp [foundT],_,.inl ⟨pre,i,l',e,q1,q2,q3,.inr hal,rfl⟩,h6,hown6⟩)⟩
end
end Go.Fw

namespace Go.Fw
open Go.Proofs Go.RowKit
section
variable {w w':World} {s B:Nat} {S:St}
theorem C84 (h:StAt w s B S) (hl:S.vals.length<100000000000) (hB:B<=w.heap.size) {neg:Bool} {ms:List Int} {y:Value} {R:Nat} (hy:FormAt R w y neg ms) :
  ∃x a l c,y=.agg #[.bool x,.slice a l c]/\Calls Tryz.prog 84 #[.pointer (some ⟨s,0,none⟩),.agg #[.bool x,.slice a l c]] w λ e w'=>e=.returned (.int .i64 S.vals.length)/\∃d,StAt w' s B { S with due:=d,vals:=S.vals ++ [.iface 172 y] }/\Keep (Ty B storeTy w) w w':=by
 obtain ⟨a,c,hya,hw,hc⟩:=hy.cells
 refine ⟨_,_,_,_,hya,?_⟩
 refine ret_mono (V84_sound _ _ _ _ _ w (λ r w'=>r=.int .i64 S.vals.length/\∃d,StAt w' s B { S with due:=d,vals:=S.vals ++ [.iface 172 y] }/\Keep (Ty B storeTy w) w w') ?_) (by rintro _ _ ⟨rfl,h⟩;exact ⟨rfl,h⟩)
 unfold V84
 refine newK_of λ b w1 hs1 hb hk1=>(C138 (h.no hk1)).mono ?_
 rintro _ w2 ⟨rfl,d,h2,hk2⟩
 have hb2:=hk2.tblk hb (by decide)
 refine ⟨_,rfl,?_⟩
 simp only [nilK_some]
 have hd:=Keep.drawn w2
 have h2d:=h2.no hd
 refine ⟨_,h2d.blk.add 6 rfl,_,_,_,_,hb2.drew.cells0,?_⟩
 have hk02:Keep (Ty B storeTy w) w w2.drew:=((Keep.of_no hk1).ty (hk2.ty_mono (Nat.le_refl _) (by decide))).no hd
 rw [<-hya]
 refine (StAt.add (x:=.iface 172 y) h2d (by rw [hya];rfl) hl (by have:=hk02.size;omega)).mono ?_
 rintro _ w3 ⟨rfl,h3,hk3⟩
 exact ⟨_,rfl,rfl,d,h3,hk02.ty (hk3.ty_mono (Nat.le_refl _) (by decide))⟩
theorem C141 {kind:Int} (h:StAt w s B S) (hm:S.m=none) (hp:0<=S.pairs/\S.pairs<=65536) (hl:S.vals.length<100000000000) (hB:B<=w.heap.size) (h1:0<=S.last/\S.last<1000000000000) (h2:-1000000000000<S.live/\S.live<1000000000000) :
  Calls Tryz.prog 141 #[.pointer (some ⟨s,0,none⟩),.int .i64 kind] w λ e w'=>e=.returned (.int .i64 S.vals.length)/\∃du p d D,w.heap.size<=p/\Blk w' p 120 [.int .i64 (S.last+1),.pointer (some ⟨d,0,none⟩),.int .i64 kind]/\DictAt w' w.heap.size d D/\TbOk D.T/\D.T.es=[]/\D.most=S.pairs/\D.T.births=0/\D.T.turns=0/\D.T.made=1/\
   StAt w' s B { S with due:=du,last:=S.last+1,live:=S.live+1,vals:=S.vals ++ [.iface 111 (.pointer (some ⟨p,0,none⟩))] }/\Keep (Ty B storeTy w) w w':=by
 refine ret_mono (V141_sound _ kind w (λ r w'=>r=.int .i64 S.vals.length/\∃du p d D,w.heap.size<=p/\Blk w' p 120 [.int .i64 (S.last+1),.pointer (some ⟨d,0,none⟩),.int .i64 kind]/\DictAt w' w.heap.size d D/\TbOk D.T/\D.T.es=[]/\D.most=S.pairs/\D.T.births=0/\D.T.turns=0/\D.T.made=1/\
   StAt w' s B { S with due:=du,last:=S.last+1,live:=S.live+1,vals:=S.vals ++ [.iface 111 (.pointer (some ⟨p,0,none⟩))] }/\Keep (Ty B storeTy w) w w') ?_) (by rintro _ _ ⟨rfl,h⟩;exact ⟨rfl,h⟩)
 unfold V141
 have hd:=Keep.drawn w
 have h':=h.no hd
 have e01:((⟨s,0,none⟩:Addr).add 0).add 1=(⟨s,0,none⟩:Addr).add 1:=by rw [add_mk,add_mk]
 simp only [nilK_some,e01]
 refine ⟨_,h'.blk.add 1 rfl,none,h'.blk.add 5 (by rw [St.cells,hm];rfl),(C143 hp w.drew).mono ?_⟩
 rintro _ w1 ⟨d,D,rfl,hD,hok,q1,q2,q3,q4,q5,q6,hk1⟩
 have h1':=h'.no hk1
 have hk01:=hd.no hk1
 refine ⟨_,_,rfl,(V212_sound (some ⟨s,0,none⟩) kind (some ⟨d,0,none⟩) w1 (λ r w'=>r=.int .i64 S.vals.length/\∃du p,w1.heap.size<=p/\Blk w' p 120 [.int .i64 (S.last+1),.pointer (some ⟨d,0,none⟩),.int .i64 kind]/\
   StAt w' s B { S with due:=du,last:=S.last+1,live:=S.live+1,vals:=S.vals ++ [.iface 111 (.pointer (some ⟨p,0,none⟩))] }/\Keep (Ty B storeTy w1) w1 w') ?_).mono ?_⟩
 ·unfold V212
  have hd1:=Keep.drawn w1
  have h1d:=h1'.no hd1
  simp only [nilK_some]
  refine ⟨_,h1d.blk.add 6 rfl,(C140 h1d h1 h2).mono ?_⟩
  rintro _ w2 ⟨rfl,du,h3,hk2⟩
  have hb1:=h3.blk
  refine ⟨_,rfl,hb1.add 6 rfl,newK_of λ p w3 hs3 hbp hk3=>⟨(hk3.nblk hb1).add 6 rfl,?_⟩⟩
  have hk13:Keep (Ty B storeTy w1) w1 w3:=((Keep.of_no hd1).ty (hk2.ty_mono (Nat.le_refl _) (by decide))).no hk3
  refine (StAt.add (x:=.iface 111 (.pointer (some ⟨p,0,none⟩))) (S:={ S with due:=du,last:=S.last+1,live:=S.live+1 }) (h3.no hk3) rfl hl (by have:=hk01.size;have:=hk13.size;omega)).mono ?_
  rintro _ w4 ⟨rfl,h4,hk4⟩
  refine ⟨_,rfl,rfl,du,p,by have:=hk2.size;simp at this;omega,hk4.tblk hbp (by decide),h4,hk13.ty (hk4.ty_mono (Nat.le_refl _) (by decide))⟩
 ·rintro _ w2 ⟨_,rfl,rfl,du,p,hp1,hbp,h3,hk2⟩
  have hs1:=hk01.size
  refine ⟨_,rfl,rfl,du,p,d,D,by omega,hbp,?_,hok,q1,q2,q4,q5,q6,h3,(Keep.of_no hk01).ty hk2⟩
  have hsz:w.drew.heap.size=w.heap.size:=rfl
  rw [hsz] at hD
  exact hD.keep hk2 λ k hk hx=>by
   obtain ⟨_,_,e,he,hm⟩:=hD.ty hk
   obtain ⟨_,e',he',hm'⟩:=hx
   rw [he] at he'
   cases he'
   have:∀e ∈ dictTy,e ∉ storeTy:=by decide
   exact this e hm hm'
structure FamAt (w:World) (B f:Nat) (sh pa:Int):Prop where
 ex:∃kt mm T,Blk w f 334 [.int .i64 sh,.int .i64 pa,.pointer none,.pointer (some ⟨kt,0,none⟩),.slice none 0 0,.map (some mm)]/\TabAt w B kt T/\TbOk T/\T.es=[]/\w.heap[mm]?=some (.map #[] 0)/\B<=mm
 ge:B<=f
theorem C144 {sh pa:Int} (h1:0<=sh/\sh<=256) (h2:0<=pa/\pa<=65536) (w:World):Calls Tryz.prog 144 #[.int .i64 sh,.int .i64 pa,.pointer none] w λ r w'=>∃f,r=.returned (.tuple #[.pointer (some ⟨f,0,none⟩),.int .i64 0])/\FamAt w' w.heap.size f sh pa/\Keep No w w':=by
 refine ret_mono (V144_sound _ _ _ w (λ r w'=>∃f,r=.tuple #[.pointer (some ⟨f,0,none⟩),.int .i64 0]/\FamAt w' w.heap.size f sh pa/\Keep No w w') ?_) (by rintro _ _ ⟨f,rfl,h⟩;exact ⟨f,rfl,h⟩)
 unfold V144
 refine bsel_neg (by simp;omega) (bsel_neg (by simp;omega) (bsel_neg (by simp;omega) ?_))
 unfold V144J1
 refine bsel_neg (by simp;omega) ((C214 w).mono ?_)
 rintro _ w1 ⟨t,c,g,rfl,ht,hk1⟩
 refine ⟨_,rfl,_,_,run_makeMap _ w1,newK_of λ f w2 hs hb hk2=>⟨f,rfl,⟨⟨t,w1.heap.size,_,hb,(ht.no (Keep.fresh w1 _)).no hk2,⟨IdxOk.fresh (log:=3) (by decide),by simp,rfl,⟨Int.le_refl _,by simp only;omega,Int.le_refl _⟩⟩,rfl,?_,hk1.size⟩,?_⟩,(hk1.no (Keep.fresh w1 _)).no hk2⟩⟩
 ·rw [hk2.block _ (by simp) id,heap_alloc,if_pos rfl]
 ·have:=hk1.size;simp at hs;omega
theorem FamAt.keep {fp:Nat->Prop} {f:Nat} {sh pa:Int} (h:FamAt w B f sh pa) (hk:Keep fp w w') (hn:∀k,B<=k->k<w.heap.size->(∀e,etype w k=some e->e=334\/e ∈ tabTy)->¬fp k):FamAt w' B f sh pa:=by
 obtain ⟨⟨kt,mm,T,h1,h2,h3,h4,h5,h6⟩,hge⟩:=h
 refine ⟨⟨kt,mm,T,hk.blk h1 (hn _ hge h1.lt λ e he=>?_),h2.keep hk λ k hk'=>?_,h3,h4,?_,h6⟩,hge⟩
 ·rw [h1.etype] at he;cases he;exact .inl rfl
 ·obtain ⟨q1,q2,e,q3,q4⟩:=h2.ty hk'
  exact hn k q1 q2 λ e' he'=>by rw [q3] at he';cases he';exact .inr q4
 ·rw [hk.block mm (Array.getElem?_eq_some_iff.1 h5).1 (hn mm h6 (Array.getElem?_eq_some_iff.1 h5).1 λ e he=>?_),h5]
  rw [etype_none h5 (by intros;simp)] at he;cases he
theorem FamAt.mono {B' f:Nat} {sh pa:Int} (h:FamAt w B f sh pa) (hB:B'<=B):FamAt w B' f sh pa:=by
 obtain ⟨⟨kt,mm,T,h1,h2,h3,h4,h5,h6⟩,hge⟩:=h
 exact ⟨⟨kt,mm,T,h1,⟨h2.blk,ownsRow_mono h2.row hB,⟨h2.cel.lg,h2.cel.blk,h2.cel.row,h2.cel.len,h2.cel.rng,by have:=h2.cel.ge;omega⟩,by have:=h2.ge;omega,h2.len⟩,h3,h4,h5,by omega⟩,by omega⟩
theorem C89 {name:ByteArray} {base:Int} (h:StAt w s B S) (hm:S.m=none) (hp:0<=S.pairs/\S.pairs<=65536) (hsh:0<=S.shared/\S.shared<=256) (hl:S.vals.length<100000000000) (hB:B<=w.heap.size) (h1:0<=S.last/\S.last<1000000000000) (h2:-1000000000000<S.live/\S.live<1000000000000) :
  Calls Tryz.prog 89 #[.pointer (some ⟨s,0,none⟩),.string name,.int .i64 base] w λ e w'=>e=.returned (.int .i64 S.vals.length)/\∃du c d D f,w.heap.size<=c/\Blk w' c 194 [.int .i64 (S.last+1),.pointer (some ⟨d,0,none⟩),.string name,.int .i64 base,.pointer (some ⟨f,0,none⟩),.bool false,.bool false]/\
   DictAt w' w.heap.size d D/\TbOk D.T/\D.T.es=[]/\D.most=S.pairs/\FamAt w' w.heap.size f S.shared S.pairs/\
   StAt w' s B { S with due:=du,last:=S.last+1,live:=S.live+1,vals:=S.vals ++ [.iface 190 (.pointer (some ⟨c,0,none⟩))] }/\Keep (Ty B storeTy w) w w':=by
 refine ret_mono (V89_sound _ name base w (λ r w'=>r=.int .i64 S.vals.length/\∃du c d D f,w.heap.size<=c/\Blk w' c 194 [.int .i64 (S.last+1),.pointer (some ⟨d,0,none⟩),.string name,.int .i64 base,.pointer (some ⟨f,0,none⟩),.bool false,.bool false]/\
   DictAt w' w.heap.size d D/\TbOk D.T/\D.T.es=[]/\D.most=S.pairs/\FamAt w' w.heap.size f S.shared S.pairs/\
   StAt w' s B { S with due:=du,last:=S.last+1,live:=S.live+1,vals:=S.vals ++ [.iface 190 (.pointer (some ⟨c,0,none⟩))] }/\Keep (Ty B storeTy w) w w') ?_) (by rintro _ _ ⟨rfl,h⟩;exact ⟨rfl,h⟩)
 unfold V89
 have hd:=Keep.drawn w
 have h':=h.no hd
 have e01:((⟨s,0,none⟩:Addr).add 0).add 1=(⟨s,0,none⟩:Addr).add 1:=by rw [add_mk,add_mk]
 have e02:((⟨s,0,none⟩:Addr).add 0).add 2=(⟨s,0,none⟩:Addr).add 2:=by rw [add_mk,add_mk]
 simp only [nilK_some,e01,e02]
 have h5:∀{w1:World} {S1:St},StAt w1 s B S1->S1.m=none->w1.cell? ((⟨s,0,none⟩:Addr).add 5)=some (.pointer none):=λ hx hm=>hx.blk.add 5 (by rw [St.cells,hm];rfl)
 refine ⟨_,h'.blk.add 1 rfl,none,h5 h' hm,(C143 hp w.drew).mono ?_⟩
 rintro _ w1 ⟨d,D,rfl,hD,hok,q1,q2,q3,q4,q5,q6,hk1⟩
 have hk01:=(hd.no hk1).no (Keep.drawn w1)
 have h1':=h.no hk01
 refine ⟨_,_,rfl,_,h1'.blk.add 2 rfl,_,h1'.blk.add 1 rfl,none,h5 h1' hm,(C144 hsh hp w1.drew).mono ?_⟩
 rintro _ w2 ⟨f,rfl,hf,hk2⟩
 have hk02:=(hk01.no hk2).no (Keep.drawn w2)
 have h2':=h.no hk02
 refine ⟨_,_,rfl,_,h2'.blk.add 6 rfl,(C140 h2' h1 h2).mono ?_⟩
 rintro _ w3 ⟨rfl,du,h3,hk3⟩
 have hb3:=h3.blk
 refine ⟨_,rfl,hb3.add 6 rfl,newK_of λ c w4 hs4 hbc hk4=>⟨(hk4.nblk hb3).add 6 rfl,?_⟩⟩
 have hk24:Keep (Ty B storeTy w2.drew) w2.drew w4:=(hk3.ty_mono (Nat.le_refl _) (by decide)).no hk4
 have hk04:Keep (Ty B storeTy w) w w4:=(Keep.of_no hk02).ty hk24
 refine (StAt.add (x:=.iface 190 (.pointer (some ⟨c,0,none⟩))) (S:={ S with due:=du,last:=S.last+1,live:=S.live+1 }) (h3.no hk4) rfl hl (by have:=hk04.size;omega)).mono ?_
 rintro _ w5 ⟨rfl,h5',hk5⟩
 have hk25:Keep (Ty B storeTy w2.drew) w2.drew w5:=hk24.ty (hk5.ty_mono (Nat.le_refl _) (by decide))
 have hs0:w.heap.size<=w1.drew.heap.size:=hk01.size
 have hdis:∀e ∈ dictTy,e ∉ storeTy:=by decide
 have hdis2:∀e,(e=334\/e ∈ tabTy)->e ∉ storeTy:=by
  rintro e (rfl | h)
  ·decide
  ·have:∀e ∈ tabTy,e ∉ storeTy:=by decide
   exact this e h
 refine ⟨_,rfl,rfl,du,c,d,D,f,by have:=hk02.size;have:=hk3.size;omega,hk5.tblk hbc (by decide),?_,hok,q1,q2,?_,h5',hk04.ty (hk5.ty_mono (Nat.le_refl _) (by decide))⟩
 ·have hsz:w.drew.heap.size=w.heap.size:=rfl
  rw [hsz] at hD
  have hD2:=hD.no (((Keep.drawn w1).no hk2).no (Keep.drawn w2))
  exact hD2.keep hk25 λ k hk hx=>by
   obtain ⟨_,_,e,he,hm⟩:=hD2.ty hk
   obtain ⟨_,e',he',hm'⟩:=hx
   rw [he] at he'
   cases he'
   exact hdis e hm hm'
 ·have hf2:=(hf.mono hs0).keep (Keep.drawn w2) λ _ _ _ _=>id
  exact hf2.keep hk25 λ k _ _ hx hy=>by
   obtain ⟨_,e,he,hm⟩:=hy
   exact hdis2 e (hx e he) hm
theorem C145 {f:Nat} {sh pa:Int} (h:FamAt w B f sh pa):Calls Tryz.prog 145 #[.pointer (some ⟨f,0,none⟩)] w λ e w'=>∃sp ro,e=.returned (.pointer (some ⟨sp,0,none⟩))/\Blk w' sp 239 [.pointer (some ⟨f,0,none⟩),.iface 336 (.pointer (some ⟨ro,0,none⟩)),.int .u64 0]/\Blk w' ro 338 [.slice none 0 0]/\Keep No w w':=by
 refine ret_mono (V145_sound _ w (λ r w'=>∃sp ro,r=.pointer (some ⟨sp,0,none⟩)/\Blk w' sp 239 [.pointer (some ⟨f,0,none⟩),.iface 336 (.pointer (some ⟨ro,0,none⟩)),.int .u64 0]/\Blk w' ro 338 [.slice none 0 0]/\Keep No w w') ?_) (by rintro _ _ ⟨sp,ro,rfl,h⟩;exact ⟨sp,ro,rfl,h⟩)
 obtain ⟨⟨kt,mm,T,hb,_⟩,_⟩:=h
 unfold V145
 refine bsel_neg rfl ((V215_sound (some ⟨f,0,none⟩) w (λ r w'=>r=.pointer (some ⟨f,0,none⟩)/\w'=w) ?_).mono ?_)
 ·unfold V215
  rw [nilK_some]
  exact ⟨_,hb.add 3 rfl,bsel_neg rfl ⟨rfl,rfl⟩⟩
 ·rintro _ w1 ⟨_,rfl,rfl,rfl⟩
  exact ⟨_,rfl,newK_of λ ro w2 hs hr hk2=>newK_of λ sp w3 hs3 hsp hk3=>⟨sp,ro,rfl,hsp,hk3.nblk hr,hk2.no hk3⟩⟩
theorem C91 {kind of:Int} (h:StAt w s B S) (hl:S.vals.length<100000000000) (hB:B<=w.heap.size) (h1:0<=S.last/\S.last<1000000000000) (h2:-1000000000000<S.live/\S.live<1000000000000) :
  Calls Tryz.prog 91 #[.pointer (some ⟨s,0,none⟩),.int .i64 kind,.int .i64 of] w λ e w'=>e=.returned (.int .i64 S.vals.length)/\∃d p,w.heap.size<=p/\Blk w' p 166 [.int .i64 (S.last+1),.int .i64 of,.int .i64 kind]/\
   StAt w' s B { S with due:=d,last:=S.last+1,live:=S.live+1,vals:=S.vals ++ [.iface 162 (.pointer (some ⟨p,0,none⟩))] }/\Keep (Ty B storeTy w) w w':=by
 refine ret_mono (V91_sound _ kind of w (λ r w'=>r=.int .i64 S.vals.length/\∃d p,w.heap.size<=p/\Blk w' p 166 [.int .i64 (S.last+1),.int .i64 of,.int .i64 kind]/\
   StAt w' s B { S with due:=d,last:=S.last+1,live:=S.live+1,vals:=S.vals ++ [.iface 162 (.pointer (some ⟨p,0,none⟩))] }/\Keep (Ty B storeTy w) w w') ?_) (by rintro _ _ ⟨rfl,h⟩;exact ⟨rfl,h⟩)
 unfold V91
 have hd:=Keep.drawn w
 have h':=h.no hd
 simp only [nilK_some]
 refine ⟨_,h'.blk.add 6 rfl,(C140 h' h1 h2).mono ?_⟩
 rintro _ w1 ⟨rfl,d,h3,hk1⟩
 have hb1:=h3.blk
 refine ⟨_,rfl,hb1.add 6 rfl,newK_of λ r w2 hs2 hbr hk2=>⟨(hk2.nblk hb1).add 6 rfl,?_⟩⟩
 have hk02:Keep (Ty B storeTy w) w w2:=((Keep.of_no hd).ty (hk1.ty_mono (Nat.le_refl _) (by decide))).no hk2
 refine (StAt.add (x:=.iface 162 (.pointer (some ⟨r,0,none⟩))) (S:={ S with due:=d,last:=S.last+1,live:=S.live+1 }) (h3.no hk2) rfl hl (by have:=hk02.size;omega)).mono ?_
 rintro _ w3 ⟨rfl,h4,hk3⟩
 refine ⟨_,rfl,rfl,d,r,by have:=hk1.size;simp at this;omega,hk3.tblk hbr (by decide),h4,hk02.ty (hk3.ty_mono (Nat.le_refl _) (by decide))⟩
theorem C90 {cref:Nat} {c d f:Nat} {num base:Int} {name:ByteArray} {hh sa:Bool} (h:StAt w s B S) (hv:S.vals[cref]?=some (.iface 190 (.pointer (some ⟨c,0,none⟩)))) (hc:Blk w c 194 [.int .i64 num,.pointer (some ⟨d,0,none⟩),.string name,.int .i64 base,.pointer (some ⟨f,0,none⟩),.bool hh,.bool sa])
  {sh pa:Int} {R:Nat} (hf:FamAt w R f sh pa) (hl:S.vals.length<100000000000) (hB:B<=w.heap.size) (h1:0<=S.last/\S.last<1000000000000) (h2:-1000000000000<S.live/\S.live<1000000000000) :
  Calls Tryz.prog 90 #[.pointer (some ⟨s,0,none⟩),.int .i64 cref] w λ e w'=>e=.returned (.int .i64 S.vals.length)/\∃du p sp ro,w.heap.size<=p/\Blk w' p 169 [.int .i64 (S.last+1),.pointer (some ⟨sp,0,none⟩),.int .i64 cref]/\Blk w' sp 239 [.pointer (some ⟨f,0,none⟩),.iface 336 (.pointer (some ⟨ro,0,none⟩)),.int .u64 0]/\Blk w' ro 338 [.slice none 0 0]/\
   StAt w' s B { S with due:=du,last:=S.last+1,live:=S.live+1,vals:=S.vals ++ [.iface 163 (.pointer (some ⟨p,0,none⟩))] }/\Keep (Ty B storeTy w) w w':=by
 refine ret_mono (V90_sound _ cref w (λ r w'=>r=.int .i64 S.vals.length/\∃du p sp ro,w.heap.size<=p/\Blk w' p 169 [.int .i64 (S.last+1),.pointer (some ⟨sp,0,none⟩),.int .i64 cref]/\Blk w' sp 239 [.pointer (some ⟨f,0,none⟩),.iface 336 (.pointer (some ⟨ro,0,none⟩)),.int .u64 0]/\Blk w' ro 338 [.slice none 0 0]/\
   StAt w' s B { S with due:=du,last:=S.last+1,live:=S.live+1,vals:=S.vals ++ [.iface 163 (.pointer (some ⟨p,0,none⟩))] }/\Keep (Ty B storeTy w) w w') ?_) (by rintro _ _ ⟨rfl,h⟩;exact ⟨rfl,h⟩)
 unfold V90
 refine (C140 h h1 h2).mono ?_
 rintro _ w1 ⟨rfl,du,h3,hk1⟩
 have hk1s:Keep (Ty B storeTy w) w w1:=hk1.ty_mono (Nat.le_refl _) (by decide)
 refine ⟨_,rfl,newK_of λ p w2 hs2 hp hk2=>(C41_in (S:={ S with due:=du,last:=S.last+1,live:=S.live+1 }) (h3.no hk2) hv).mono ?_⟩
 rintro _ w2' ⟨rfl,rfl⟩
 have hk02:=hk1s.no hk2
 refine ⟨_,rfl,_,_,yes117 _ _,bsel_pos rfl ?_⟩
 simp only [nilK_some]
 have hc2:=hk02.tblk hc (by decide)
 have hf2:=hf.keep hk02 λ k _ _ hx hy=>by
  obtain ⟨_,e,he,hm⟩:=hy
  have hdis2:∀e,(e=334\/e ∈ tabTy)->e ∉ storeTy:=by
   rintro e (rfl | h)
   ·decide
   ·have:∀e ∈ tabTy,e ∉ storeTy:=by decide
    exact this e h
  exact hdis2 e (hx e he) hm
 refine ⟨_,hc2.add 4 rfl,(C145 hf2).mono ?_⟩
 rintro _ w3 ⟨sp,ro,rfl,hsp,hro,hk3⟩
 refine ⟨_,rfl,stK_add (hk3.nblk hp) (by simp) λ w4 hp4 hk4=>?_⟩
 have hs1:=hk1.size
 have hk04:Keep (Ty B storeTy w) w w4:=(hk02.no hk3).news hk4 λ k e=>by omega
 have h3':=((h3.no hk2).no hk3).keep hk4 λ k _ e=>by subst e;exact ⟨169,(hk3.nblk hp).etype,by decide⟩
 have hspp:sp≠p:=hsp.ne (hk3.nblk hp) (by decide)
 have hrop:ro≠p:=hro.ne (hk3.nblk hp) (by decide)
 unfold V90J1
 simp only [nilK_some]
 refine ⟨_,h3'.blk.add 6 rfl,(StAt.add (x:=.iface 163 (.pointer (some ⟨p,0,none⟩))) (S:={ S with due:=du,last:=S.last+1,live:=S.live+1 }) h3' rfl hl (by have:=hk04.size;omega)).mono ?_⟩
 rintro _ w5 ⟨rfl,h5,hk5⟩
 exact ⟨_,rfl,rfl,du,p,sp,ro,by omega,hk5.tblk hp4 (by decide),hk5.tblk (hk4.blk hsp hspp) (by decide),hk5.tblk (hk4.blk hro hrop) (by decide),h5,hk04.ty (hk5.ty_mono (Nat.le_refl _) (by decide))⟩
end
end Go.Fw

namespace Go.Fw
open Go.Proofs Go.RowKit
def KidsAt (w:World) (t:Tm) (ks:List Int):Prop:=ks.length=t.kl/\∀j k,ks[j]?=some k->∃p,t.ka=some p/\w.cell? (p.add j)=some (.int .i64 k)
theorem KidsAt.keep {fp:Nat->Prop} {w w':World} {t:Tm} {ks:List Int} (h:KidsAt w t ks) (hk:Keep fp w w') (hn:∀p,t.ka=some p->¬fp p.block):KidsAt w' t ks:=
 ⟨h.1,λ j k hj=>by
  obtain ⟨p,hp,hc⟩:=h.2 j k hj
  exact ⟨p,hp,hk.cell hc (by rw [add_block];exact hn p hp)⟩⟩
theorem KidsAt.keep0 {fp:Nat->Prop} {w w':World} {t:Tm} {ks:List Int} (h:KidsAt w t ks) (hk:Keep fp w w') (hn:∀p,t.ka=some p->0<t.kl->¬fp p.block):KidsAt w' t ks:=
 ⟨h.1,λ j k hj=>by
  obtain ⟨p,hp,hc⟩:=h.2 j k hj
  exact ⟨p,hp,hk.cell hc (by rw [add_block];exact hn p hp (by have:=(List.getElem?_eq_some_iff.1 hj).1;have:=h.1;omega))⟩⟩
theorem KidsAt.no {w w':World} {t:Tm} {ks:List Int} (h:KidsAt w t ks) (hk:Keep No w w'):KidsAt w' t ks:=h.keep hk λ _ _=>id
section
variable {w:World} {s b:Nat} {ta:Option Addr} {tc:Nat} {ts:List Tm} {rv:Value}
end
end Go.Fw

namespace Go.Fw
open Go.Proofs Go.RowKit
section
variable {w:World} {s b B:Nat} {S:St} {t:Tm} {rest:List Value}
theorem C40_row (h:StAt w s B S) (hb:Blk w b 92 (.pointer (some ⟨s,0,none⟩) :: rest)) (hl:S.vals.length<100000000000) (hB:B<=w.heap.size) (hk:t.kind=5\/t.kind=6) (hkl:t.kl<1000000000000) (h1:0<=S.last/\S.last<1000000000000) (h2:-1000000000000<S.live/\S.live<1000000000000) :
  Calls Tryz.prog 40 #[.pointer (some ⟨b,0,none⟩),.agg t.cells.toArray] w λ e w'=>e=.returned (.int .i64 S.vals.length)/\∃d r g,w.heap.size<=r/\w.heap.size<=g/\Blk w' r 100 [.int .i64 (S.last+1),.slice (some ⟨g,0,none⟩) t.kl t.kl,.int .i64 t.kind]/\Blk w' g 3 (List.replicate t.kl (.int .i64 0))/\
   StAt w' s B { S with due:=d,last:=S.last+1,live:=S.live+1,vals:=S.vals ++ [.iface 94 (.pointer (some ⟨r,0,none⟩))] }/\Keep (Ty B storeTy w) w w':=by
 refine ret_mono (V40_sound _ t.kind t.b t.neg t.ma t.ml t.mc t.text t.ka t.kl t.kc t.hash t.same w (λ r w'=>r=.int .i64 S.vals.length/\∃d r g,w.heap.size<=r/\w.heap.size<=g/\Blk w' r 100 [.int .i64 (S.last+1),.slice (some ⟨g,0,none⟩) t.kl t.kl,.int .i64 t.kind]/\Blk w' g 3 (List.replicate t.kl (.int .i64 0))/\
   StAt w' s B { S with due:=d,last:=S.last+1,live:=S.live+1,vals:=S.vals ++ [.iface 94 (.pointer (some ⟨r,0,none⟩))] }/\Keep (Ty B storeTy w) w w') ?_) (by rintro _ _ ⟨rfl,h⟩;exact ⟨rfl,h⟩)
 unfold V40
 refine newK_of λ c w1 hs hc hk1=>⟨_,hc.add 0 rfl,bsel_neg (by simp;omega) (bsel_neg (by simp;omega) (bsel_neg (by simp;omega) (bsel_neg (by simp;omega) ?_)))⟩
 have hgo:V40J4 w (λ r w'=>r=.int .i64 S.vals.length/\∃d r g,w.heap.size<=r/\w.heap.size<=g/\Blk w' r 100 [.int .i64 (S.last+1),.slice (some ⟨g,0,none⟩) t.kl t.kl,.int .i64 t.kind]/\Blk w' g 3 (List.replicate t.kl (.int .i64 0))/\
   StAt w' s B { S with due:=d,last:=S.last+1,live:=S.live+1,vals:=S.vals ++ [.iface 94 (.pointer (some ⟨r,0,none⟩))] }/\Keep (Ty B storeTy w) w w') (some ⟨b,0,none⟩) ⟨c,0,none⟩ t.kind true w1:=by
  have hk1':=hk1.no (Keep.drawn w1)
  unfold V40J4
  refine bsel_pos rfl ?_
  rw [nilK_some]
  obtain ⟨i3,hi3,hz3,hs3,hb3⟩:=rowInts.info
  have hr:=run_make (P:=Tryz.prog) w1.drew 30 3 i3 _ rowInts.und hi3 hz3 .i64 .i64 t.kl t.kl (by omega) (Int.le_refl _) (by rw [hb3];omega) (by omega)
  refine ⟨_,(hk1'.nblk hb).add 0 rfl,_,hc.drew.add 0 rfl,_,_,_,hc.drew.add 5 rfl,_,_,_,_,hr,?_⟩
  have hk2:=Keep.fresh w1.drew (.cells (madeCells (Value.int .i64 0).cells ((t.kl:Int).toNat*i3.size)) 3)
  have hg:=Blk.new w1.drew (madeCells (Value.int .i64 0).cells ((t.kl:Int).toNat*i3.size)) 3
  have e:(madeCells (Value.int .i64 0).cells ((t.kl:Int).toNat*i3.size)).toList=List.replicate t.kl (.int .i64 0):=by
   rw [hs3,Nat.mul_one,Int.toNat_natCast]
   exact toList_madeCells_one _ _
  rw [e] at hg
  have hk12:=hk1'.no hk2
  refine ⟨(hk2.nblk hc.drew).add 0 rfl,(hk12.nblk hb).add 0 rfl,(C87 (h.no hk12) hl (by have:=hk12.size;omega) h1 h2).mono ?_⟩
  rintro _ w3 ⟨rfl,d,r,hr1,hr2,h3,hk3⟩
  exact ⟨_,rfl,rfl,d,r,w1.drew.heap.size,by have:=hk12.size;omega,hk1'.size,by simpa using hr2,hk3.tblk hg (by decide),h3,(Keep.of_no hk12).ty hk3⟩
 rcases hk with hk | hk
 ·exact bsel_pos (by simp [hk]) hgo
 ·exact bsel_neg (by simp [hk]) (by simpa [hk] using hgo)
end
end Go.Fw

namespace Go.Fw
open Go.Proofs Go.RowKit
theorem StAt.types {w w':World} {X:Nat->Prop} {s B:Nat} {S:St} (h:StAt w s B S) (hk:Keep X w w') (hX:∀k,X k->k<w.heap.size->∃e,Fw.etype w k=some e/\e ∉ storeTy):StAt w' s B S:=
 h.keep (hk.mono (fp':=λ k=>X k/\k<w.heap.size) λ k h1 h2=>⟨h2,h1⟩) λ k _ ⟨h1,h2⟩=>hX k h1 h2
theorem Keep.xblk {w w':World} {X:Nat->Prop} (hk:Keep X w w') {b:Nat} {e:TypeId} {cs:List Value} (hb:Blk w b e cs) (hn:b<w.heap.size->¬X b):Blk w' b e cs:=hk.blk hb (hn hb.lt)
def tmA:Tm:=⟨4,false,false,none,0,0,⟨#[97]⟩,none,0,0,false,false⟩
def strA:Value:=.iface 160 (.agg #[.string ⟨#[97]⟩])
section
variable (s B:Nat) (S:St) (w0:World)
end
end Go.Fw

namespace Go.Fw
open Go.Proofs Go.RowKit
def limit (n i:Nat) (t:Tm):Nat:=if t.kind=6 then n else i
section
variable {w:World} {s b:Nat} {ta:Option Addr} {tc:Nat} {ts:List Tm} {rv:Value}
end
end Go.Fw

namespace Go.Fw
open Go.Proofs Go.RowKit
def isRow (t:Tm):Prop:=t.kind=5\/t.kind=6
instance (t:Tm):Decidable (isRow t):=inferInstanceAs (Decidable (_\/_))
section
variable (w0:World) (s B:Nat) (S:St) (ts:List Tm) (kss:Nat->List Int)
end
end Go.Fw

namespace Go.Fw
open Go.Proofs Go.RowKit
theorem numbered80 (r:Nat) (w:World):(callMethod (.iface 94 (.pointer (some ⟨r,0,none⟩))) "lexicon/store.numbered" #[]).run Tryz.prog w=(do let v <-loadVar 98 ⟨r,0,none⟩;callFunc 401 #[v]).run Tryz.prog w:=by kernel_rfl
theorem callFunc225 (v:Value) (w:World):(callFunc 401 #[v]).run Tryz.prog w=.ok (.enter 401 #[v]) w:=by kernel_rfl
theorem ld84 (a:Addr) (w:World) (K:Value->Prop):ldK Tryz.prog 98 w a K=∃t:Int,CellsAt w a [.int .i64 t]/\K (.agg #[.int .i64 t]):=by kernel_rfl
theorem load84 (r:Nat) (n:Int) (w:World) (h:w.cell? ⟨r,0,none⟩=some (.int .i64 n)):(loadVar 98 ⟨r,0,none⟩).run Tryz.prog w=.ok (.agg #[.int .i64 n]) w:=by
 obtain ⟨v,h1,h2⟩:=ldK_run (P:=Tryz.prog) (t:=98) (w:=w) (a:=⟨r,0,none⟩) (K:=λ v=>v=.agg #[.int .i64 n]) (by rw [ld84];exact ⟨n,by show w.cell? _=_;rw [add_mk];exact h,rfl⟩)
 rw [h1,h2]
theorem C401 (n:Int) (w:World):Calls Tryz.prog 401 #[.agg #[.int .i64 n]] w λ e w'=>e=.returned (.int .i64 n)/\Keep No w w':=by
 refine ret_mono (V401_sound n w (λ r w'=>r=.int .i64 n/\Keep No w w') ?_) (by rintro _ _ ⟨rfl,h⟩;exact ⟨rfl,h⟩)
 unfold V401
 exact newK_of λ b w1 hs hb hk=>⟨_,hb.add 0 rfl,rfl,hk⟩
theorem inv_numbered80 {r:Nat} {n:Int} {w:World} (h:w.cell? ⟨r,0,none⟩=some (.int .i64 n)) {R:Ending->World->Prop} (hR:∀w',Keep No w w'->R (.returned (.int .i64 n)) w') :
  InvK Tryz.prog (.iface 94 (.pointer (some ⟨r,0,none⟩))) "lexicon/store.numbered" #[] w R:=by
 refine ⟨401,.agg #[.int .i64 n],?_,(C401 n w).mono ?_⟩
 ·rw [numbered80,Sem.run_bind,load84 r n w h]
  simp only [Result.andThen,Array.append_empty]
  exact callFunc225 _ _
 ·rintro _ w' ⟨rfl,hk⟩
  exact hR w' hk
section
variable {w:World} {s B:Nat} {S:St} {i:Nat}
theorem C34_a (h:StAt w s B S) (hx:S.vals[i]?=some strA) :
  Calls Tryz.prog 34 #[.pointer (some ⟨s,0,none⟩),.int .i64 i] w λ e w'=>e=.returned (.string ⟨#[39,97,39]⟩)/\Keep No w w':=by
 refine ret_mono (V34_sound _ _ w (λ r w'=>r=.string ⟨#[39,97,39]⟩/\Keep No w w') ?_) (by rintro _ _ ⟨rfl,h⟩;exact ⟨rfl,h⟩)
 unfold V34
 refine (C41_in h hx).mono ?_
 rintro _ w1 ⟨rfl,rfl⟩
 refine ⟨_,rfl,?_⟩
 unfold strA
 rw [eqNilI_iface]
 refine bsel_neg rfl ⟨_,no70 (by decide) _ _,bsel_neg rfl ⟨_,_,no72 (by decide) _ _,bsel_neg rfl ⟨_,_,_,_,_,no112 (by decide) _ _,bsel_neg rfl ⟨_,_,yes96 _ _,bsel_pos rfl ?_⟩⟩⟩⟩
 refine newK_of λ b w2 hs hb hk=>stK_add hb (by simp) λ w3 hb3 hk3=>⟨_,hb3.add 0 rfl,(C76_a w3).mono ?_⟩
 rintro _ w4 ⟨rfl,hk4⟩
 exact ⟨_,rfl,rfl,(hk.news hk3 (by rintro k rfl;omega)).no hk4⟩
end
end Go.Fw
