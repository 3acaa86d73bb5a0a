/- Part of a proof over the given program: texts of lemmas (conditions: none beyond each lemma as stated). -/
import Derived.Test.YtdmoefbfepeeaaaGreatDoorN27
set_option linter.unnecessarySimpa false
set_option linter.unusedVariables false
set_option linter.unusedSimpArgs false

namespace Go.Fw
open Go.Proofs Go.RowKit
structure GV where
 kind:Int
 number:Int
 gone:Bool
 b:Bool
 neg:Bool
 ma:Option Addr
 ml:Nat
 mc:Nat
 text:ByteArray
 ia:Option Addr
 il:Nat
 ic:Nat
 d:Option Addr
 cls:Int
 base:Int
 f:Option Addr
 sp:Option Addr
 of_:Int
 hash:Bool
 same:Bool
def GV.cells (v:GV):List Value:=[.int .i64 v.kind,.int .i64 v.number,.bool v.gone,.bool v.b,.bool v.neg,.slice v.ma v.ml v.mc,.string v.text,.slice v.ia v.il v.ic,.pointer v.d,.int .i64 0,.slice none 0 0,.int .i64 0,.int .i64 0,.int .i64 v.cls,.int .i64 v.base,.pointer v.f,.pointer v.sp,.int .i64 v.of_,.pointer none,.bool false,.bool v.hash,.bool v.same]
theorem GV.cells_len (v:GV):v.cells.length=22:=rfl
def gz:GV:=⟨0,0,false,false,false,none,0,0,⟨#[]⟩,none,0,0,none,0,0,none,none,0,false,false⟩
theorem row_cells {α:Type} {f:α->List Value} {n:Nat} (hn:∀x,(f x).length=n) (hn0:0<n) {w:World} {R:Nat} {e:TypeId} {ev:Value} {l:List α} (h:w.ownsRow R e n ev l.length (l.flatMap f)) {i:Nat} {x:α} (he:l[i]?=some x):∃g cap,ev=.slice (some ⟨g,0,none⟩) l.length cap/\i<l.length/\CellsAt w ((⟨g,0,none⟩:Addr).add (i*n)) (f x):=by
 have hi:=(List.getElem?_eq_some_iff.1 he).1
 have hf:∀k,k<n->(l.flatMap f)[i*n+k]?=(f x)[k]?:=λ k hk=>flat_get hn hk _ _ _ he
 have h0:(f x)[0]?=some ((f x)[0]'(by rw [hn];exact hn0)):=List.getElem?_eq_getElem _
 obtain ⟨g,cap,hv,_,hc,_⟩:=row_at h ((hf 0 hn0).trans h0)
 refine ⟨g,cap,hv,hi,?_⟩
 have hx:∀k v,k<n->(f x)[k]?=some v->w.cell? ⟨g,i*n+k,none⟩=some v:=by
  intro k v hk hv'
  obtain ⟨g',cap',hv2,_,hc2,_⟩:=row_at h ((hf k hk).trans hv')
  rw [hv] at hv2
  cases hv2
  exact hc2
 rw [add_mk,Nat.zero_add]
 have key:∀(l:List Value) (j:Nat),(∀m v,l[m]?=some v->w.cell? ⟨g,i*n+(j+m),none⟩=some v)->cellsFrom w ⟨g,i*n,none⟩ l j:=by
  intro l
  induction l with
  | nil=>intro j _;trivial
  | cons v l ih=>
   intro j hm
   refine cellsFrom_cons.2 ⟨?_,ih (j+1) λ m u hu=>?_⟩
   ·rw [add_mk];exact hm 0 v rfl
   ·have:=hm (m+1) u (by simpa using hu)
    rw [<-this];congr 2;omega
 refine key _ 0 λ m v hm=>?_
 have hm5:m<n:=by rw [<-hn x];exact (List.getElem?_eq_some_iff.1 hm).1
 rw [Nat.zero_add]
 exact hx m v hm5 hm
structure GP where
 pairs:Int
 shared:Int
 mc:Nat
def GP.cells (P:GP):List Value:=[.int .i64 0,.int .i64 P.pairs,.int .i64 P.shared,.slice none 0 0,.slice none 0 0,.pointer (some ⟨P.mc,0,none⟩)]
structure GSt (w:World) (r B:Nat) (P:GP) (L:List GV) (last:Int):Prop where
 ex:∃lv,Blk w r 220 ([lv,.int .i64 last] ++ P.cells)/\w.ownsRow B 226 22 lv L.length (L.flatMap GV.cells)
 small:L.length<10000000
 ge:B<=r
 cnt:CntAt w P.mc
def GFp (r B:Nat) (w:World):Nat->Prop:=λ k=>k=r\/(B<=k/\etype w k=some 226)
def gTy:List TypeId:=[220,226,217]
section
variable {w w':World} {r B:Nat} {P:GP} {L:List GV} {last:Int} {fp:Nat->Prop}
theorem GSt.keep (h:GSt w r B P L last) (hk:Keep fp w w') (hn:∀k,fp k->∀e,etype w k=some e->e ∉ gTy):GSt w' r B P L last:=by
 obtain ⟨⟨lv,h1,h2⟩,h3,h4,h5⟩:=h
 have hh:∀{k:Nat} {e:TypeId},etype w k=some e->e ∈ gTy->¬fp k:=λ he hm hf=>hn _ hf _ he hm
 refine ⟨⟨lv,hk.blk h1 (hh h1.etype (by decide)),hk.row h2 λ g hg=>hh (ownsRow_etype h2 hg) (by decide)⟩,h3,h4,h5.keep hk (hh h5.etype (by decide))⟩
theorem GSt.no (h:GSt w r B P L last) (hk:Keep No w w'):GSt w' r B P L last:=h.keep hk λ _ hf=>hf.elim
theorem GSt.etype (h:GSt w r B P L last):Fw.etype w r=some 220:=by
 obtain ⟨⟨lv,h1,_⟩,_⟩:=h
 exact h1.etype
theorem GSt.at (h:GSt w r B P L last) {i:Nat} {v:GV} (hi:L[i]?=some v):∃g cap,w.cell? ((⟨r,0,none⟩:Addr).add 0)=some (.slice (some ⟨g,0,none⟩) L.length cap)/\i<L.length/\CellsAt w ((⟨g,0,none⟩:Addr).add (i*22)) v.cells:=by
 obtain ⟨⟨lv,h1,h2⟩,_⟩:=h
 obtain ⟨g,cap,hv,hl,hc⟩:=row_cells GV.cells_len (by decide) h2 hi
 exact ⟨g,cap,by rw [<-hv];exact h1.add 0 rfl,hl,hc⟩
theorem gInfo:∃i z,Tryz.prog.info? 226=some i/\i.zero=some z/\i.size=22/\z.cells.size=22/\0<i.bytes/\i.bytes<=1000:=by
 obtain ⟨i,hi,hj⟩:=Option.map_eq_some_iff.1 (show (Tryz.prog.info? 226).map (λ i=>(i.zero.map λ z=>z.cells.size,i.size,decide (0<i.bytes/\i.bytes<=1000)))=some (some 22,22,true) by kernel_rfl)
 simp at hj
 obtain ⟨⟨z,hz,hzs⟩,h1,h2,h3⟩:=hj
 exact ⟨i,z,hi,hz,h1,hzs,h2,h3⟩
theorem Keep.gfp {w'':World} (h:Keep (GFp r B w) w w') (h':Keep (GFp r B w') w' w''):Keep (GFp r B w) w w'':=
 h.trans h' λ k hk hf=>by
  by_cases hc:GFp r B w k
  ·exact hc
  ·rcases hf with rfl | ⟨hB,he⟩
   ·exact .inl rfl
   ·refine .inr ⟨hB,?_⟩
    unfold Fw.etype at he ⊢
    rw [<-h.block k hk hc]
    exact he
theorem C245g (h:GSt w r B P L last) (v:GV) (hl:L.length<5000000) (hB:B<=w.heap.size) :
  Calls Tryz.prog 245 #[.pointer (some ⟨r,0,none⟩),.agg v.cells.toArray] w λ e w'=>e=.returned (.int .i64 L.length)/\GSt w' r B P (L ++ [v]) last/\Keep (GFp r B w) w w':=by
 refine ret_mono (V245_sound _ v.kind v.number v.gone v.b v.neg v.ma v.ml v.mc v.text v.ia v.il v.ic v.d 0 none 0 0 0 0 v.cls v.base v.f v.sp v.of_ none false v.hash v.same w (λ x w'=>x=.int .i64 L.length/\GSt w' r B P (L ++ [v]) last/\Keep (GFp r B w) w w') ?_) (by rintro _ _ ⟨rfl,h⟩;exact ⟨rfl,h⟩)
 unfold V245
 refine newK_of λ b1 w1 hs1 hb1 hk1=>?_
 have hkd:Keep No w w1.drew:=hk1.no (Keep.drawn w1)
 have h1:=h.no hkd
 obtain ⟨⟨lv,hr1,hrow1⟩,hsm,hge,hcnt⟩:=id h1
 obtain ⟨la,lc,rfl⟩:=ownsRow_slice hrow1
 rw [nilK_some]
 refine ⟨_,_,_,hr1.add 0 rfl,_,_,_,_,_,_,_,_,_,_,_,_,_,_,_,_,_,_,_,_,_,_,_,_,_,_,_,_,hb1.drew.cells0,newK_of λ b2 w2 hs2 hb2 hk2=>?_⟩
 have hr2:=hk2.nblk hr1
 refine ⟨hr2.add 0 rfl,?_⟩
 obtain ⟨i,z,hi,hz,hsz,hzs,hb0,hb9⟩:=gInfo
 have hsz2:w.heap.size<=w2.heap.size:=(hkd.no hk2).size
 refine appendN (P:=Tryz.prog) (t:=218) (e:=226) Tryz.underlying218 hi hz hsz rfl hzs (by decide) (hk2.nrow hrow1) (m:=1) hb2 rfl ?_ (by decide) ?_ hb0 (by omega) λ g cap w3 hrow3 hk3 hat=>?_
 ·intro u hu
  simp at hu
  rcases hu with rfl | rfl | rfl | rfl | rfl | rfl | rfl | rfl | rfl | rfl | rfl | rfl | rfl | rfl | rfl | rfl | rfl | rfl | rfl | rfl | rfl | rfl <;> rfl
 ·have:(L.length+1)*i.bytes<=(L.length+1)*1000:=Nat.mul_le_mul_left _ hb9
  omega
 have hne3:=ownsRow_ne (hk2.nrow hrow1) hr2 (by decide)
 have hr3:=hk3.blk hr2 λ e=>hne3 e
 rw [nilK_some]
 refine stK_add hr3 (by simp) λ w4 hr4 hk4=>?_
 unfold V245J1
 rw [nilK_some]
 have ewr:IntKind.wrap .i64 (((L.length+1:Nat):Int)-1)=(L.length:Int):=by rw [wrap_i64 (by omega)];omega
 refine ⟨_,_,_,hr4.add 0 rfl,by rw [ewr],?_,?_⟩
 ·refine ⟨⟨_,hr4,?_⟩,by simp;omega,hge,?_⟩
  ·have:=hk4.row hrow3 λ g' hg' e=>ownsRow_ne hrow3 hr3 (by decide) (e ▸ hg')
   rw [List.flatMap_append]
   simpa [GV.cells] using this
  ·have hcm:¬(Value.slice la L.length lc).ownBlock=some P.mc:=λ e=>by
    have:=ownsRow_etype hrow1 e
    rw [hcnt.etype] at this;cases this
   refine ((hcnt.no hk2).keep hk3 hcm).keep hk4 λ e=>?_
   have:=hcnt.etype
   rw [e,hr1.etype] at this;cases this
 ·refine ((Keep.of_no (hkd.no hk2)).trans (fp':=λ k=>(Value.slice la L.length lc).ownBlock=some k) hk3 λ k hk e=>?_).trans hk4 λ k _ e=>.inl e
  refine .inr ⟨(hrow1.lt k e).1,?_⟩
  have h7:=ownsRow_etype hrow1 e
  unfold Fw.etype at h7 ⊢
  rw [<-hkd.block k hk id]
  exact h7
theorem C185g (h:GSt w r B P L last) (v:GV) (hl:L.length<5000000) (hB:B<=w.heap.size) (hla:0<=last/\last<1000000000000) :
  Calls Tryz.prog 185 #[.pointer (some ⟨r,0,none⟩),.agg v.cells.toArray] w λ e w'=>e=.returned (.int .i64 L.length)/\GSt w' r B P (L ++ [{ v with number:=last+1 }]) (last+1)/\Keep (GFp r B w) w w':=by
 refine ret_mono (V185_sound _ v.kind v.number v.gone v.b v.neg v.ma v.ml v.mc v.text v.ia v.il v.ic v.d 0 none 0 0 0 0 v.cls v.base v.f v.sp v.of_ none false v.hash v.same w (λ x w'=>x=.int .i64 L.length/\GSt w' r B P (L ++ [{ v with number:=last+1 }]) (last+1)/\Keep (GFp r B w) w w') ?_) (by rintro _ _ ⟨rfl,h⟩;exact ⟨rfl,h⟩)
 unfold V185
 refine newK_of λ b1 w1 hs1 hb1 hk1=>?_
 obtain ⟨⟨lv,hr0,hrow0⟩,hsm,hge,hcnt⟩:=id h
 have hr1:=hk1.nblk hr0
 simp only [nilK_some]
 refine ⟨_,hr1.add 1 rfl,stK_add hr1 (by simp) λ w2 hr2 hk2=>⟨_,hr2.add 1 rfl,?_⟩⟩
 have hbr:b1≠r:=λ e=>by have:=hr0.lt;omega
 have hb2:=hk2.blk hb1 hbr
 refine stK_add hb2 (by simp) λ w3 hb3 hk3=>?_
 rw [wrap_i64 (by omega)] at hr2 hb3
 have hk03:Keep (λ k=>k=r) w w3:=((Keep.of_no hk1).trans hk2 λ _ _ e=>e).news hk3 (by rintro k rfl;omega)
 have hr3:=hk3.blk hr2 λ e=>hbr e.symm
 have hst3:GSt w3 r B P L (last+1):=⟨⟨lv,hr3,hk03.row hrow0 λ g hg e=>ownsRow_ne hrow0 hr0 (by decide) (e ▸ hg)⟩,hsm,hge,hcnt.keep hk03 λ e=>by
  have:=hcnt.etype
  rw [e,hr0.etype] at this;cases this⟩
 refine ⟨_,_,_,_,_,_,_,_,_,_,_,_,_,_,_,_,_,_,_,_,_,_,_,_,_,_,_,_,hb3.cells0,?_⟩
 refine (C245g hst3 { v with number:=last+1 } hl (by have:=hk03.size;omega)).mono ?_
 rintro _ w4 ⟨rfl,h4,hk4⟩
 refine ⟨_,rfl,rfl,h4,Keep.gfp (hk03.mono λ k _ e=>.inl e) hk4⟩
theorem copy22 {w:World} {v0 v1 v2 v3 v4 v5 v6 v7 v8 v9 v10 v11 v12 v13 v14 v15 v16 v17 v18 v19 v20 v21:Value} {K:Addr->World->Prop} (h:∀b w',Blk w' b 226 [v0,v1,v2,v3,v4,v5,v6,v7,v8,v9,v10,v11,v12,v13,v14,v15,v16,v17,v18,v19,v20,v21]->Keep No w w'->b=w.heap.size->K ⟨b,0,none⟩ w') :
  newK w #[.int .i64 0,.int .i64 0,.bool false,.bool false,.bool false,.slice none 0 0,.string ⟨#[]⟩,.slice none 0 0,.pointer none,.int .i64 0,.slice none 0 0,.int .i64 0,.int .i64 0,.int .i64 0,.int .i64 0,.pointer none,.pointer none,.int .i64 0,.pointer none,.bool false,.bool false,.bool false] 226 λ a w1=>stK w1 (a.add 0) v0 λ w2=>stK w2 (a.add 1) v1 λ w3=>stK w3 (a.add 2) v2 λ w4=>stK w4 (a.add 3) v3 λ w5=>stK w5 (a.add 4) v4 λ w6=>stK w6 (a.add 5) v5 λ w7=>stK w7 (a.add 6) v6 λ w8=>stK w8 (a.add 7) v7 λ w9=>stK w9 (a.add 8) v8 λ w10=>stK w10 (a.add 9) v9 λ w11=>stK w11 (a.add 10) v10 λ w12=>stK w12 (a.add 11) v11 λ w13=>stK w13 (a.add 12) v12 λ w14=>stK w14 (a.add 13) v13 λ w15=>stK w15 (a.add 14) v14 λ w16=>stK w16 (a.add 15) v15 λ w17=>stK w17 (a.add 16) v16 λ w18=>stK w18 (a.add 17) v17 λ w19=>stK w19 (a.add 18) v18 λ w20=>stK w20 (a.add 19) v19 λ w21=>stK w21 (a.add 20) v20 λ w22=>stK w22 (a.add 21) v21 λ w23=>K a w23:=by
 refine newK_of λ b w1 hs hb hk=>?_
 refine stK_add hb (by simp) λ w2 hb hk2=>?_
 replace hb:Blk w2 b 226 [v0,.int .i64 0,.bool false,.bool false,.bool false,.slice none 0 0,.string ⟨#[]⟩,.slice none 0 0,.pointer none,.int .i64 0,.slice none 0 0,.int .i64 0,.int .i64 0,.int .i64 0,.int .i64 0,.pointer none,.pointer none,.int .i64 0,.pointer none,.bool false,.bool false,.bool false]:=hb
 replace hk:=hk.news hk2 (by rintro k rfl;omega)
 refine stK_add hb (by simp) λ w3 hb hk2=>?_
 replace hb:Blk w3 b 226 [v0,v1,.bool false,.bool false,.bool false,.slice none 0 0,.string ⟨#[]⟩,.slice none 0 0,.pointer none,.int .i64 0,.slice none 0 0,.int .i64 0,.int .i64 0,.int .i64 0,.int .i64 0,.pointer none,.pointer none,.int .i64 0,.pointer none,.bool false,.bool false,.bool false]:=hb
 replace hk:=hk.news hk2 (by rintro k rfl;omega)
 refine stK_add hb (by simp) λ w4 hb hk2=>?_
 replace hb:Blk w4 b 226 [v0,v1,v2,.bool false,.bool false,.slice none 0 0,.string ⟨#[]⟩,.slice none 0 0,.pointer none,.int .i64 0,.slice none 0 0,.int .i64 0,.int .i64 0,.int .i64 0,.int .i64 0,.pointer none,.pointer none,.int .i64 0,.pointer none,.bool false,.bool false,.bool false]:=hb
 replace hk:=hk.news hk2 (by rintro k rfl;omega)
 refine stK_add hb (by simp) λ w5 hb hk2=>?_
 replace hb:Blk w5 b 226 [v0,v1,v2,v3,.bool false,.slice none 0 0,.string ⟨#[]⟩,.slice none 0 0,.pointer none,.int .i64 0,.slice none 0 0,.int .i64 0,.int .i64 0,.int .i64 0,.int .i64 0,.pointer none,.pointer none,.int .i64 0,.pointer none,.bool false,.bool false,.bool false]:=hb
 replace hk:=hk.news hk2 (by rintro k rfl;omega)
 refine stK_add hb (by simp) λ w6 hb hk2=>?_
 replace hb:Blk w6 b 226 [v0,v1,v2,v3,v4,.slice none 0 0,.string ⟨#[]⟩,.slice none 0 0,.pointer none,.int .i64 0,.slice none 0 0,.int .i64 0,.int .i64 0,.int .i64 0,.int .i64 0,.pointer none,.pointer none,.int .i64 0,.pointer none,.bool false,.bool false,.bool false]:=hb
 replace hk:=hk.news hk2 (by rintro k rfl;omega)
 refine stK_add hb (by simp) λ w7 hb hk2=>?_
 replace hb:Blk w7 b 226 [v0,v1,v2,v3,v4,v5,.string ⟨#[]⟩,.slice none 0 0,.pointer none,.int .i64 0,.slice none 0 0,.int .i64 0,.int .i64 0,.int .i64 0,.int .i64 0,.pointer none,.pointer none,.int .i64 0,.pointer none,.bool false,.bool false,.bool false]:=hb
 replace hk:=hk.news hk2 (by rintro k rfl;omega)
 refine stK_add hb (by simp) λ w8 hb hk2=>?_
 replace hb:Blk w8 b 226 [v0,v1,v2,v3,v4,v5,v6,.slice none 0 0,.pointer none,.int .i64 0,.slice none 0 0,.int .i64 0,.int .i64 0,.int .i64 0,.int .i64 0,.pointer none,.pointer none,.int .i64 0,.pointer none,.bool false,.bool false,.bool false]:=hb
 replace hk:=hk.news hk2 (by rintro k rfl;omega)
 refine stK_add hb (by simp) λ w9 hb hk2=>?_
 replace hb:Blk w9 b 226 [v0,v1,v2,v3,v4,v5,v6,v7,.pointer none,.int .i64 0,.slice none 0 0,.int .i64 0,.int .i64 0,.int .i64 0,.int .i64 0,.pointer none,.pointer none,.int .i64 0,.pointer none,.bool false,.bool false,.bool false]:=hb
 replace hk:=hk.news hk2 (by rintro k rfl;omega)
 refine stK_add hb (by simp) λ w10 hb hk2=>?_
 replace hb:Blk w10 b 226 [v0,v1,v2,v3,v4,v5,v6,v7,v8,.int .i64 0,.slice none 0 0,.int .i64 0,.int .i64 0,.int .i64 0,.int .i64 0,.pointer none,.pointer none,.int .i64 0,.pointer none,.bool false,.bool false,.bool false]:=hb
 replace hk:=hk.news hk2 (by rintro k rfl;omega)
 refine stK_add hb (by simp) λ w11 hb hk2=>?_
 replace hb:Blk w11 b 226 [v0,v1,v2,v3,v4,v5,v6,v7,v8,v9,.slice none 0 0,.int .i64 0,.int .i64 0,.int .i64 0,.int .i64 0,.pointer none,.pointer none,.int .i64 0,.pointer none,.bool false,.bool false,.bool false]:=hb
 replace hk:=hk.news hk2 (by rintro k rfl;omega)
 refine stK_add hb (by simp) λ w12 hb hk2=>?_
 replace hb:Blk w12 b 226 [v0,v1,v2,v3,v4,v5,v6,v7,v8,v9,v10,.int .i64 0,.int .i64 0,.int .i64 0,.int .i64 0,.pointer none,.pointer none,.int .i64 0,.pointer none,.bool false,.bool false,.bool false]:=hb
 replace hk:=hk.news hk2 (by rintro k rfl;omega)
 refine stK_add hb (by simp) λ w13 hb hk2=>?_
 replace hb:Blk w13 b 226 [v0,v1,v2,v3,v4,v5,v6,v7,v8,v9,v10,v11,.int .i64 0,.int .i64 0,.int .i64 0,.pointer none,.pointer none,.int .i64 0,.pointer none,.bool false,.bool false,.bool false]:=hb
 replace hk:=hk.news hk2 (by rintro k rfl;omega)
 refine stK_add hb (by simp) λ w14 hb hk2=>?_
 replace hb:Blk w14 b 226 [v0,v1,v2,v3,v4,v5,v6,v7,v8,v9,v10,v11,v12,.int .i64 0,.int .i64 0,.pointer none,.pointer none,.int .i64 0,.pointer none,.bool false,.bool false,.bool false]:=hb
 replace hk:=hk.news hk2 (by rintro k rfl;omega)
 refine stK_add hb (by simp) λ w15 hb hk2=>?_
 replace hb:Blk w15 b 226 [v0,v1,v2,v3,v4,v5,v6,v7,v8,v9,v10,v11,v12,v13,.int .i64 0,.pointer none,.pointer none,.int .i64 0,.pointer none,.bool false,.bool false,.bool false]:=hb
 replace hk:=hk.news hk2 (by rintro k rfl;omega)
 refine stK_add hb (by simp) λ w16 hb hk2=>?_
 replace hb:Blk w16 b 226 [v0,v1,v2,v3,v4,v5,v6,v7,v8,v9,v10,v11,v12,v13,v14,.pointer none,.pointer none,.int .i64 0,.pointer none,.bool false,.bool false,.bool false]:=hb
 replace hk:=hk.news hk2 (by rintro k rfl;omega)
 refine stK_add hb (by simp) λ w17 hb hk2=>?_
 replace hb:Blk w17 b 226 [v0,v1,v2,v3,v4,v5,v6,v7,v8,v9,v10,v11,v12,v13,v14,v15,.pointer none,.int .i64 0,.pointer none,.bool false,.bool false,.bool false]:=hb
 replace hk:=hk.news hk2 (by rintro k rfl;omega)
 refine stK_add hb (by simp) λ w18 hb hk2=>?_
 replace hb:Blk w18 b 226 [v0,v1,v2,v3,v4,v5,v6,v7,v8,v9,v10,v11,v12,v13,v14,v15,v16,.int .i64 0,.pointer none,.bool false,.bool false,.bool false]:=hb
 replace hk:=hk.news hk2 (by rintro k rfl;omega)
 refine stK_add hb (by simp) λ w19 hb hk2=>?_
 replace hb:Blk w19 b 226 [v0,v1,v2,v3,v4,v5,v6,v7,v8,v9,v10,v11,v12,v13,v14,v15,v16,v17,.pointer none,.bool false,.bool false,.bool false]:=hb
 replace hk:=hk.news hk2 (by rintro k rfl;omega)
 refine stK_add hb (by simp) λ w20 hb hk2=>?_
 replace hb:Blk w20 b 226 [v0,v1,v2,v3,v4,v5,v6,v7,v8,v9,v10,v11,v12,v13,v14,v15,v16,v17,v18,.bool false,.bool false,.bool false]:=hb
 replace hk:=hk.news hk2 (by rintro k rfl;omega)
 refine stK_add hb (by simp) λ w21 hb hk2=>?_
 replace hb:Blk w21 b 226 [v0,v1,v2,v3,v4,v5,v6,v7,v8,v9,v10,v11,v12,v13,v14,v15,v16,v17,v18,v19,.bool false,.bool false]:=hb
 replace hk:=hk.news hk2 (by rintro k rfl;omega)
 refine stK_add hb (by simp) λ w22 hb hk2=>?_
 replace hb:Blk w22 b 226 [v0,v1,v2,v3,v4,v5,v6,v7,v8,v9,v10,v11,v12,v13,v14,v15,v16,v17,v18,v19,v20,.bool false]:=hb
 replace hk:=hk.news hk2 (by rintro k rfl;omega)
 refine stK_add hb (by simp) λ w23 hb hk2=>?_
 replace hb:Blk w23 b 226 [v0,v1,v2,v3,v4,v5,v6,v7,v8,v9,v10,v11,v12,v13,v14,v15,v16,v17,v18,v19,v20,v21]:=hb
 replace hk:=hk.news hk2 (by rintro k rfl;omega)
 exact h b _ hb hk hs
theorem C311 (h:GSt w r B P L last) {i:Nat} {v:GV} (hi:L[i]?=some v):Calls Tryz.prog 311 #[.pointer (some ⟨r,0,none⟩),.int .i64 i] w λ e w'=>e=.returned (.bool (!v.gone))/\w'=w:=by
 refine ret_mono (V311_sound _ i w (λ x w'=>x=.bool (!v.gone)/\w'=w) ?_) (by rintro _ _ ⟨rfl,h⟩;exact ⟨rfl,h⟩)
 unfold V311
 obtain ⟨g,cap,h1,h2,h3⟩:=h.at hi
 simp only [nilK_some]
 exact bsel_pos (by simp) ⟨_,_,_,h1,bsel_pos (by simpa using h2) ⟨_,_,_,h1,idxK_of h2 ⟨_,h3.get 2 rfl,rfl,by trivial⟩⟩⟩
def plainK (k:Int):Bool:=decide (1<=k/\k<=4\/k=11)
theorem C312 (k:Int) (w:World):Calls Tryz.prog 312 #[.int .i64 k] w λ e w'=>e=.returned (.bool (plainK k))/\w'=w:=by
 refine ret_mono (V312_sound k w (λ x w'=>x=.bool (plainK k)/\w'=w) ?_) (by rintro _ _ ⟨rfl,h⟩;exact ⟨rfl,h⟩)
 unfold V312 plainK
 refine bsel_split (λ h1=>bsel_split (λ h2=>⟨?_,rfl⟩) λ h2=>⟨?_,rfl⟩) λ h1=>⟨?_,rfl⟩
 ·simp at h1 h2
  congr 1
  symm
  simp;omega
 ·simp at h1 h2
  congr 1
  rw [Bool.eq_iff_iff]
  simp;omega
 ·simp at h1
  congr 1
  rw [Bool.eq_iff_iff]
  simp;omega
theorem C251 (v:GV) (w:World):Calls Tryz.prog 251 #[.agg v.cells.toArray] w λ e w'=>∃y,e=.returned y/\Keep No w w'/\(v.kind=2->FormAt w.heap.size w' y false (ofWords (if v.b then 1 else 0)))/\(v.kind≠2->y=.agg #[.bool v.neg,.slice v.ma v.ml v.mc]):=by
 refine V251_sound v.kind v.number v.gone v.b v.neg v.ma v.ml v.mc v.text v.ia v.il v.ic v.d 0 none 0 0 0 0 v.cls v.base v.f v.sp v.of_ none false v.hash v.same w (λ y w'=>Keep No w w'/\(v.kind=2->FormAt w.heap.size w' y false (ofWords (if v.b then 1 else 0)))/\(v.kind≠2->y=.agg #[.bool v.neg,.slice v.ma v.ml v.mc])) ?_
 unfold V251
 refine newK_of λ b w1 hs1 hb1 hk1=>newK_of λ c w2 hs2 hc2 hk2=>?_
 have hkk:=hk1.no hk2
 have hbx:=hk2.nblk hb1
 have hs:=hkk.size
 have hs':=hk1.size
 have hof:∀n:Int,n=(if v.b then 1 else 0)->v.kind=2->Calls Tryz.prog 250 #[.int .i64 n] w2 λ e35 w36=>∃t37:Bool,∃t38:Option Addr,∃t39:Nat,∃t40:Nat,e35=.returned (.agg #[.bool t37,.slice t38 t39 t40])/\
   stK w36 ((⟨c,0,none⟩:Addr).add 0) (.bool t37) λ w41=>stK w41 ((⟨c,0,none⟩:Addr).add 1) (.slice t38 t39 t40) λ w42=>
   ∃t43:Bool,∃t44:Option Addr,∃t45:Nat,∃t46:Nat,CellsAt w42 ⟨c,0,none⟩ [.bool t43,.slice t44 t45 t46]/\(Keep No w w42/\(v.kind=2->FormAt w.heap.size w42 (.agg #[.bool t43,.slice t44 t45 t46]) false (ofWords (if v.b then 1 else 0)))/\(v.kind≠2->(Value.agg #[.bool t43,.slice t44 t45 t46])=.agg #[.bool v.neg,.slice v.ma v.ml v.mc])):=by
  intro n hn hk2v
  refine (C250 n w2).mono ?_
  rintro _ w3 ⟨y,rfl,hy,hk3⟩
  obtain ⟨a',c',rfl,_⟩:=hy.cells
  refine ⟨_,_,_,_,rfl,set2 (hk3.nblk hc2) λ w4 hb4 hk4=>⟨_,_,_,_,hb4.cells0,(hkk.no hk3).news hk4 (by rintro k rfl;omega),λ _=>?_,λ hc=>absurd hk2v hc⟩⟩
  have e1:decide (n<0)=false:=by rw [hn];cases v.b <;> rfl
  subst hn
  rw [e1] at hy ⊢
  exact (hy.one (hk3.nblk hc2) (by decide) hk4).mono hs
 refine ⟨_,hbx.add 0 rfl,bsel_split (λ hk=>?_) λ hk=>?_⟩
 ·have hk:v.kind=2:=by simpa using hk
  refine ⟨_,hbx.add 3 rfl,bsel_split (λ hb=>hof 1 (by rw [hb];rfl) hk) λ hb=>hof 0 (by rw [hb];rfl) hk⟩
 ·have hk:v.kind≠2:=by simpa using hk
  refine ⟨_,_,_,_,hbx.cellsAdd 4 rfl,set2 hc2 λ w4 hb4 hk4=>⟨_,_,_,_,hb4.cells0,hkk.news hk4 (by rintro k rfl;omega),λ hc=>absurd hc hk,λ _=>rfl⟩⟩
def GVD (w:World) (B:Nat) (v:GV):VD->Prop
 | .none=>v.kind=1/\v.text=⟨#[]⟩
 | .bool b=>v.kind=2/\v.b=b
 | .int neg ms=>v.kind=3/\ms.length<1000000000/\FormAt B w (.agg #[.bool v.neg,.slice v.ma v.ml v.mc]) neg ms/\∀m ∈ ms,0<=m/\m<4294967296
 | .str t=>v.kind=4/\v.text=t
 | .obj k n=>v.kind=k/\5<=k/\k≠11/\v.number=n
def NumIs (w:World) (y:Value) (a:Int × List Int):Prop:=∃(neg:Bool) (ms:List Int) (R:Nat),FormAt R w y neg ms/\ms.length<1000000000/\wkey neg ms=a/\∀m ∈ ms,0<=m/\m<4294967296
theorem num_of {v:GV} {d:VD} (hd:GVD w B v d) {a:Int × List Int} (ha:d.key=some a):Calls Tryz.prog 251 #[.agg v.cells.toArray] w λ e w'=>∃y,e=.returned y/\NumIs w' y a/\Keep No w w':=by
 refine (C251 v w).mono ?_
 rintro _ w1 ⟨y,rfl,hk,h1,h2⟩
 refine ⟨y,rfl,?_,hk⟩
 cases d with
 | bool b=>
  obtain ⟨q1,q2⟩:=hd
  have hy:=h1 q1
  rw [q2] at hy
  cases ha
  refine ⟨false,_,_,hy,by simp [ofWords],?_,?_⟩
  ·cases b <;> rfl
  ·cases b <;> decide
 | int neg ms=>
  obtain ⟨q1,q2,q3,q4⟩:=hd
  cases ha
  rw [h2 (by rw [q1];decide)]
  exact ⟨neg,ms,_,q3.no hk,q2,rfl,q4⟩
 | none=>cases ha
 | str t=>cases ha
 | obj k n=>cases ha
theorem key_kind {v:GV} {d:VD} (hd:GVD w B v d):(d.key≠none↔(v.kind=3\/v.kind=2)):=by
 cases d with
 | none=>obtain ⟨q,_⟩:=hd;simp [VD.key,q]
 | bool b=>obtain ⟨q,_⟩:=hd;simp [VD.key,q]
 | int neg ms=>obtain ⟨q,_⟩:=hd;simp [VD.key,q]
 | str t=>obtain ⟨q,_⟩:=hd;simp [VD.key,q]
 | obj k n=>obtain ⟨q,q1,_⟩:=hd;simp [VD.key,q];omega
theorem plain_kind {v:GV} {d:VD} (hd:GVD w B v d):plainK v.kind=false->∃k n,d=.obj k n:=by
 intro hp
 unfold plainK at hp
 simp at hp
 cases d with
 | none=>obtain ⟨q,_⟩:=hd;omega
 | bool b=>obtain ⟨q,_⟩:=hd;omega
 | int neg ms=>obtain ⟨q,_⟩:=hd;omega
 | str t=>obtain ⟨q,_⟩:=hd;omega
 | obj k n=>exact ⟨k,n,rfl⟩
theorem C313 (h:GSt w r B P L last) {i:Nat} {v:GV} (hi:L[i]?=some v) {d:VD} (hd:GVD w B v d):Calls Tryz.prog 313 #[.pointer (some ⟨r,0,none⟩),.int .i64 i] w λ e w'=>∃(bb:Bool) (a:Option Addr) (l c:Nat) (ok:Bool),e=.returned (.tuple #[.agg #[.bool bb,.slice a l c],.bool ok])/\(ok=true↔d.key≠none)/\Keep No w w':=by
 refine (V313_sound _ i w (λ x w'=>∃(bb:Bool) (a:Option Addr) (l c:Nat) (ok:Bool),x=.tuple #[.agg #[.bool bb,.slice a l c],.bool ok]/\(ok=true↔d.key≠none)/\Keep No w w') ?_).mono (by rintro _ w' ⟨_,rfl,bb,a,l,c,ok,rfl,h⟩;exact ⟨bb,a,l,c,ok,rfl,h⟩)
 unfold V313
 refine newK_of λ b w1 hs1 hb1 hk1=>?_
 obtain ⟨g,cap,h1,h2,h3⟩:=(h.no hk1).at hi
 simp only [nilK_some]
 refine ⟨_,_,_,h1,idxK_of h2 ⟨_,_,_,_,_,_,_,_,_,_,_,_,_,_,_,_,_,_,_,_,_,_,_,_,_,_,_,_,h3,copy22 λ c w2 hc2 hk2 hs2=>?_⟩⟩
 have hkk:=hk1.no hk2
 have hbx:=hk2.nblk hb1
 have hkey:=key_kind hd
 have hno:(¬(v.kind=3\/v.kind=2))->V313J1 (λ x w'=>∃(bb:Bool) (a:Option Addr) (l c:Nat) (ok:Bool),x=.tuple #[.agg #[.bool bb,.slice a l c],.bool ok]/\(ok=true↔d.key≠none)/\Keep No w w') ⟨b,0,none⟩ ⟨c,0,none⟩ true w2:=by
  intro hc
  unfold V313J1
  refine bsel_pos rfl (set2 hbx λ w3 hb3 hk3=>⟨_,_,_,_,hb3.cells0,_,_,_,_,false,rfl,by rw [hkey];simp [hc],hkk.news hk3 (by rintro k rfl;omega)⟩)
 have hyes:(v.kind=3\/v.kind=2)->V313J1 (λ x w'=>∃(bb:Bool) (a:Option Addr) (l c:Nat) (ok:Bool),x=.tuple #[.agg #[.bool bb,.slice a l c],.bool ok]/\(ok=true↔d.key≠none)/\Keep No w w') ⟨b,0,none⟩ ⟨c,0,none⟩ false w2:=by
  intro hc
  unfold V313J1
  refine bsel_neg rfl ⟨_,_,_,_,_,_,_,_,_,_,_,_,_,_,_,_,_,_,_,_,_,_,_,_,_,_,_,_,hc2.cells0,(C251 v w2).mono ?_⟩
  rintro _ w3 ⟨y,rfl,hk3,q1,q2⟩
  obtain ⟨bb,a,l,cc,rfl⟩:∃(bb:Bool) (a:Option Addr) (l c:Nat),y=.agg #[.bool bb,.slice a l c]:=by
   rcases hc with hc | hc
   ·exact ⟨_,_,_,_,q2 (by rw [hc];decide)⟩
   ·obtain ⟨a',c',hy,_⟩:=(q1 hc).cells
    exact ⟨_,_,_,_,hy⟩
  refine ⟨_,_,_,_,rfl,set2 (hk3.nblk hbx) λ w4 hb4 hk4=>⟨_,_,_,_,hb4.cells0,_,_,_,_,true,rfl,by rw [hkey];simp [hc],(hkk.no hk3).news hk4 (by rintro k rfl;omega)⟩⟩
 refine ⟨_,hc2.add 0 rfl,bsel_split (λ q=>⟨_,hc2.add 0 rfl,?_⟩) λ q=>?_⟩
 ·have q:v.kind≠3:=by simpa using q
  by_cases q2:v.kind=2
  ·rw [show (v.kind != 2)=false by simp [q2]]
   exact hyes (.inr q2)
  ·rw [show (v.kind != 2)=true by simp [q2]]
   exact hno (by simp [q,q2])
 ·have q:v.kind=3:=by simpa using q
  exact hyes (.inl q)
theorem C257 (h:GSt w r B P L last) {i j:Nat} {v u:GV} (hi:L[i]?=some v) (hj:L[j]?=some u) (hvg:v.gone=false) (hug:u.gone=false) {d e:VD} (hd:GVD w B v d) (he:GVD w B u e) :
  Calls Tryz.prog 257 #[.pointer (some ⟨r,0,none⟩),.int .i64 i,.int .i64 j] w λ x w'=>∃b,x=.returned (.bool b)/\(b=true↔(i=j\/alikeD d e))/\Keep No w w':=by
 refine (V257_sound _ i j w (λ x w'=>∃b,x=.bool b/\(b=true↔(i=j\/alikeD d e))/\Keep No w w') ?_).mono (by rintro _ w' ⟨_,rfl,b,rfl,h⟩;exact ⟨b,rfl,h⟩)
 unfold V257
 refine (C311 h hi).mono ?_
 rintro _ w0 ⟨rfl,rfl⟩
 refine ⟨_,rfl,bsel_neg (by rw [hvg];rfl) ((C311 h hj).mono ?_)⟩
 rintro _ w0' ⟨rfl,rfl⟩
 refine ⟨_,rfl,?_⟩
 unfold V257J3
 refine bsel_neg (by rw [hug];rfl) (bsel_split (λ hij=>⟨true,rfl,?_,Keep.refl _ _⟩) λ hij=>?_)
 ·have:i=j:=Int.ofNat_inj.1 (by simpa using hij)
  simp [this]
 have hij:i≠j:=λ e=>by subst e;simp at hij
 obtain ⟨g,cap,h1,h2,h3⟩:=h.at hi
 simp only [nilK_some]
 refine ⟨_,_,_,h1,idxK_of h2 ⟨_,_,_,_,_,_,_,_,_,_,_,_,_,_,_,_,_,_,_,_,_,_,_,_,_,_,_,_,h3,copy22 λ p w2 hp2 hk2 hs2=>?_⟩⟩
 obtain ⟨g',cap',k1,k2,k3⟩:=(h.no hk2).at hj
 refine ⟨_,_,_,k1,idxK_of k2 ⟨_,_,_,_,_,_,_,_,_,_,_,_,_,_,_,_,_,_,_,_,_,_,_,_,_,_,_,_,k3,copy22 λ q w3 hq3 hk3 hs3=>?_⟩⟩
 have hk03:=hk2.no hk3
 have hp3:=hk3.nblk hp2
 have hobj:(∃k n,d=.obj k n)\/(∃k n,e=.obj k n)->¬alikeD d e:=by
  rintro (⟨k,n,rfl⟩ | ⟨k,n,rfl⟩)
  ·exact λ hc=>alikeD_obj (alikeD_symm hc)
  ·exact alikeD_obj
 refine ⟨_,hp3.add 0 rfl,(C312 _ _).mono ?_⟩
 rintro _ w3' ⟨rfl,rfl⟩
 refine ⟨_,rfl,bsel_split (λ hpl=>?_) λ hpl=>?_⟩
 ·unfold V257J2
  have:=hobj (.inl (plain_kind hd (by simpa using hpl)))
  exact bsel_pos rfl ⟨false,rfl,by simp [hij,this],hk03⟩
 refine ⟨_,hq3.add 0 rfl,(C312 _ _).mono ?_⟩
 rintro _ w3' ⟨rfl,rfl⟩
 refine ⟨_,rfl,?_⟩
 unfold V257J2
 refine bsel_split (λ hpl2=>?_) λ hpl2=>?_
 ·have:=hobj (.inr (plain_kind he (by simpa using hpl2)))
  exact ⟨false,rfl,by simp [hij,this],hk03⟩
 have hp1:plainK v.kind=true:=by simpa using hpl
 have hp2':plainK u.kind=true:=by simpa using hpl2
 have hgd:∀{wa:World} {x:GV} {dd:VD},GVD w0' B x dd->Keep No w0' wa->GVD wa B x dd:=by
  intro wa x dd hx hk
  cases dd with
  | int neg ms=>obtain ⟨a1,a2,a3,a4⟩:=hx;exact ⟨a1,a2,a3.no hk,a4⟩
  | none=>exact hx
  | bool b=>exact hx
  | str t=>exact hx
  | obj k n=>exact hx
 refine (C313 (h.no hk03) hi (hgd hd hk03)).mono ?_
 rintro _ w4 ⟨b1,a1,l1,c1,ok1,rfl,hok1,hk4⟩
 refine ⟨_,_,_,_,_,rfl,copy2 λ p3 w5 hp5 hk5 hs5=>?_⟩
 have hk05:=(hk03.no hk4).no hk5
 refine (C313 (h.no hk05) hj (hgd he hk05)).mono ?_
 rintro _ w6 ⟨b2,a2,l2,c2,ok2,rfl,hok2,hk6⟩
 refine ⟨_,_,_,_,_,rfl,copy2 λ p4 w7 hp7 hk7 hs7=>?_⟩
 have hk07:=(hk05.no hk6).no hk7
 have hk37:=((hk4.no hk5).no hk6).no hk7
 have hp7':=hk37.nblk hp3
 have hq7:=hk37.nblk hq3
 have hother:(d.key=none\/e.key=none)->V257J1 (λ x w'=>∃b,x=.bool b/\(b=true↔(i=j\/alikeD d e))/\Keep No w0' w') ⟨p,0,none⟩ ⟨q,0,none⟩ false w7:=by
  intro hne
  unfold V257J1
  have hkd:=key_kind hd
  have hke:=key_kind he
  have halk:alikeD d e↔(v.kind=u.kind/\v.text=u.text):=by
   have hd':=hd
   have he':=he
   cases d with
   | none=>
    obtain ⟨q1,q2⟩:=hd
    cases e with
    | none=>obtain ⟨r1,r2⟩:=he;exact ⟨λ _=>⟨by rw [q1,r1],by rw [q2,r2]⟩,λ _=>.inr (.inr ⟨rfl,rfl⟩)⟩
    | bool b=>obtain ⟨r1,r2⟩:=he;exact ⟨(by rintro (⟨a,h1,h2⟩ | ⟨t,h1,h2⟩ | ⟨h1,h2⟩) <;> first | (cases h1;done) | (cases h2;done)),λ hc=>by have:=hc.1;omega⟩
    | int neg ms=>obtain ⟨r1,r2⟩:=he;exact ⟨(by rintro (⟨a,h1,h2⟩ | ⟨t,h1,h2⟩ | ⟨h1,h2⟩) <;> first | (cases h1;done) | (cases h2;done)),λ hc=>by have:=hc.1;omega⟩
    | str t=>obtain ⟨r1,r2⟩:=he;exact ⟨(by rintro (⟨a,h1,h2⟩ | ⟨t,h1,h2⟩ | ⟨h1,h2⟩) <;> first | (cases h1;done) | (cases h2;done)),λ hc=>by have:=hc.1;omega⟩
    | obj k n=>obtain ⟨r1,r2,r3,r4⟩:=he;exact ⟨λ hc=>absurd hc alikeD_obj,λ hc=>by have:=hc.1;omega⟩
   | str t=>
    obtain ⟨q1,q2⟩:=hd
    cases e with
    | none=>obtain ⟨r1,r2⟩:=he;exact ⟨(by rintro (⟨a,h1,h2⟩ | ⟨t,h1,h2⟩ | ⟨h1,h2⟩) <;> first | (cases h1;done) | (cases h2;done)),λ hc=>by have:=hc.1;omega⟩
    | bool b=>obtain ⟨r1,r2⟩:=he;exact ⟨(by rintro (⟨a,h1,h2⟩ | ⟨t,h1,h2⟩ | ⟨h1,h2⟩) <;> first | (cases h1;done) | (cases h2;done)),λ hc=>by have:=hc.1;omega⟩
    | int neg ms=>obtain ⟨r1,r2⟩:=he;exact ⟨(by rintro (⟨a,h1,h2⟩ | ⟨t,h1,h2⟩ | ⟨h1,h2⟩) <;> first | (cases h1;done) | (cases h2;done)),λ hc=>by have:=hc.1;omega⟩
    | str t2=>
     obtain ⟨r1,r2⟩:=he
     refine ⟨?_,λ hc=>.inr (.inl ⟨t,rfl,by rw [<-q2,<-r2,hc.2]⟩)⟩
     rintro (⟨a,h1,h2⟩ | ⟨t',h1,h2⟩ | ⟨h1,h2⟩)
     ·cases h1
     ·cases h1;cases h2;exact ⟨by rw [q1,r1],by rw [q2,r2]⟩
     ·cases h1
    | obj k n=>obtain ⟨r1,r2,r3,r4⟩:=he;exact ⟨λ hc=>absurd hc alikeD_obj,λ hc=>by have:=hc.1;omega⟩
   | bool b=>
    have hek:e.key=none:=by rcases hne with hc | hc;cases hc;exact hc
    refine ⟨?_,λ hc=>?_⟩
    ·rintro (⟨a,h1,h2⟩ | ⟨t',h1,h2⟩ | ⟨h1,h2⟩)
     ·rw [hek] at h2;cases h2
     ·cases h1
     ·cases h1
    ·exfalso
     have:¬(e.key≠none):=by simp [hek]
     rw [hke] at this
     have:=hc.1
     obtain ⟨q1,_⟩:=hd'
     omega
   | int neg ms=>
    have hek:e.key=none:=by rcases hne with hc | hc;cases hc;exact hc
    refine ⟨?_,λ hc=>?_⟩
    ·rintro (⟨a,h1,h2⟩ | ⟨t',h1,h2⟩ | ⟨h1,h2⟩)
     ·rw [hek] at h2;cases h2
     ·cases h1
     ·cases h1
    ·exfalso
     have:¬(e.key≠none):=by simp [hek]
     rw [hke] at this
     have:=hc.1
     obtain ⟨q1,_⟩:=hd'
     omega
   | obj k n=>
    refine ⟨λ hc=>absurd (alikeD_symm hc) alikeD_obj,λ hc=>?_⟩
    exfalso
    obtain ⟨q1,q2,q3,_⟩:=hd'
    unfold plainK at hp1
    simp at hp1
    omega
  refine bsel_neg rfl ⟨_,hp7'.add 0 rfl,_,hq7.add 0 rfl,bsel_split (λ hkk=>?_) λ hkk=>?_⟩
  ·have hkk:v.kind=u.kind:=by simpa using hkk
   refine ⟨_,hp7'.add 6 rfl,_,hq7.add 6 rfl,bsel_split (λ htt=>?_) λ htt=>?_⟩
   ·have htt:v.text=u.text:=by
     have:v.text.toList=u.text.toList:=by simpa using htt
     rw [ByteArray.toList_eq,ByteArray.toList_eq] at this
     exact ByteArray.ext (Array.ext' this)
    exact ⟨_,hp7'.add 11 rfl,_,hq7.add 11 rfl,true,rfl,by simp [halk,hkk,htt],hk07⟩
   ·have htt:v.text≠u.text:=λ e=>by rw [e] at htt;simp at htt
    exact ⟨false,rfl,by simp [halk,hij,htt],hk07⟩
  ·have hkk:v.kind≠u.kind:=by simpa using hkk
   exact ⟨false,rfl,by simp [halk,hij,hkk],hk07⟩
 refine bsel_split (λ ho1=>?_) λ ho1=>hother (.inl (by
  have:¬(d.key≠none):=by rw [<-hok1];simp [ho1]
  simpa using this))
 cases ho2:ok2
 ·exact hother (.inr (by
   have:¬(e.key≠none):=by rw [<-hok2];simp [ho2]
   simpa using this))
 ·obtain ⟨ka,hka⟩:=Option.ne_none_iff_exists'.1 (hok1.1 ho1)
  obtain ⟨kb,hkb⟩:=Option.ne_none_iff_exists'.1 (hok2.1 ho2)
  have halk:alikeD d e↔ka=kb:=by
   refine ⟨?_,λ hc=>.inl ⟨ka,hka,by rw [hkb,hc]⟩⟩
   rintro (⟨a,h1,h2⟩ | ⟨t',rfl,h2⟩ | ⟨rfl,h2⟩)
   ·rw [hka] at h1;rw [hkb] at h2;cases h1;cases h2;rfl
   ·cases hka
   ·cases hka
  unfold V257J1
  have hk07:=hk07.no (Keep.drawn w7)
  refine bsel_pos rfl ⟨_,_,_,_,_,_,_,_,_,_,_,_,_,_,_,_,_,_,_,_,_,_,_,_,_,_,_,_,hp7'.drew.cells0,_,_,_,_,_,_,_,_,_,_,_,_,_,_,_,_,_,_,_,_,_,_,_,_,_,_,_,_,hq7.drew.cells0,(num_of (hgd hd hk07) hka).mono ?_⟩
  rintro _ w8 ⟨y,rfl,hy,hk8⟩
  obtain ⟨n1,m1,R1,hf1,hl1,hw1,_⟩:=hy
  obtain ⟨fa,fc,rfl,hfw,hfc⟩:=hf1.cells
  refine ⟨_,_,_,_,rfl,(hk8.nblk hq7.drew).cells0,(num_of (hgd he (hk07.no hk8)) hkb).mono ?_⟩
  rintro _ w9 ⟨y,rfl,hy,hk9⟩
  obtain ⟨n2,m2,R2,hf2,hl2,hw2,_⟩:=hy
  obtain ⟨fa2,fc2,rfl,hfw2,hfc2⟩:=hf2.cells
  have ht1:=trimmed_length_le m1
  have ht2:=trimmed_length_le m2
  refine ⟨_,_,_,_,rfl,(C303 (hfw.no hk9) hfc (by omega) hfw2 hfc2 (by omega)).mono ?_⟩
  rintro _ w10 ⟨rr,rfl,hr0,hk10⟩
  refine ⟨_,rfl,_,rfl,?_,((hk07.no hk8).no hk9).no hk10⟩
  have e1:(sgnI (n1 && !(trimmed m1).isEmpty) (trimmed m1),trimmed (trimmed m1))=ka:=by rw [<-hw1,<-wkey_form];rfl
  have e2:(sgnI (n2 && !(trimmed m2).isEmpty) (trimmed m2),trimmed (trimmed m2))=kb:=by rw [<-hw2,<-wkey_form];rfl
  have:(rr == 0)=true↔ka=kb:=by
   rw [beq_iff_eq,hr0,<-e1,<-e2,Prod.mk.injEq]
  rw [this,halk]
  simp [hij]
end
end Go.Fw

namespace Go.Fw
open Go.Proofs Go.RowKit
theorem nodup_lt:∀(n:Nat) (l:List Nat),l.Nodup->(∀x ∈ l,x<n)->l.length<=n
 | 0,l,_,h=>by
  cases l with
  | nil=>simp
  | cons x l=>exact absurd (h x (by simp)) (by omega)
 | n+1,l,hn,h=>by
  by_cases hm:n ∈ l
  ·have h1:(l.erase n).length=l.length-1:=List.length_erase_of_mem hm
   have h2:=nodup_lt n (l.erase n) (hn.erase n) (λ x hx=>by
    have h3:=(List.Nodup.mem_erase_iff hn).1 hx
    have:=h x h3.2
    omega)
   omega
  ·have:=nodup_lt n l hn (λ x hx=>by
    have:=h x hx
    have:x≠n:=λ e=>hm (e ▸ hx)
    omega)
   omega
theorem seen_small (f:Int->ByteArray) {N:Nat} (l:List Int) (hl:∀k ∈ l,0<=k/\k<N):Maps.size (seenD (l.map f))<=N:=by
 have key:∀(n:Nat),n<=l.length->Maps.Tidy (seenD ((l.take n).map f))/\∃S:List Nat,S.Nodup/\(∀x ∈ S,x<N)/\Maps.size (seenD ((l.take n).map f))=S.length/\∀x ∈ S,Maps.has (seenD ((l.take n).map f)) (.string (f x).data.toList)=true:=by
  intro n
  induction n with
  | zero=>intro _;exact ⟨Maps.tidy_empty,[],by simp,by simp,rfl,by simp⟩
  | succ n ih=>
   intro hn
   obtain ⟨h1,S,h2,h3,h4,h5⟩:=ih (by omega)
   obtain ⟨k,hk⟩:∃k,l[n]?=some k:=⟨_,List.getElem?_eq_getElem (by omega)⟩
   obtain ⟨k0,kN⟩:=hl k (List.mem_of_getElem? hk)
   obtain ⟨x,rfl⟩:=Int.eq_ofNat_of_zero_le k0
   have e:(l.take (n+1)).map f=(l.take n).map f ++ [f x]:=by rw [List.take_add_one,hk];simp
   rw [e,seenD_snoc]
   have hkey:WideAt.IsKeyLit (.string (f x).data.toList):=trivial
   have hgrow:∀(d:DataW Unit),∀y ∈ S,Maps.has ((seenD ((l.take n).map f)).put (.string (f x).data.toList) d) (.string (f y).data.toList)=true:=by
    intro d y hy
    by_cases he:(.string (f y).data.toList:Lit)=.string (f x).data.toList
    ·rw [he];exact Maps.has_put_same h1.isMap hkey d
    ·rw [Maps.has_put_other he];exact h5 y hy
   unfold seenStep
   refine ⟨h1.put hkey _,?_⟩
   rw [Maps.size_put h1]
   cases hh:Maps.has (seenD ((l.take n).map f)) (.string (f x).data.toList)
   ·refine ⟨S ++ [x],?_,?_,by rw [h4];simp,?_⟩
    ·rw [List.nodup_append]
     refine ⟨h2,by simp,λ a ha b hb=>?_⟩
     simp at hb
     subst hb
     intro e
     subst e
     rw [h5 a ha] at hh
     cases hh
    ·intro y hy
     simp at hy
     rcases hy with hy | rfl
     ·exact h3 y hy
     ·omega
    ·intro y hy
     simp at hy
     rcases hy with hy | rfl
     ·exact hgrow _ y hy
     ·exact Maps.has_put_same h1.isMap hkey _
   ·exact ⟨S,h2,h3,by rw [h4];simp,hgrow _⟩
 obtain ⟨_,S,h2,h3,h4,_⟩:=key l.length (Nat.le_refl _)
 rw [List.take_length] at h4
 rw [h4]
 exact nodup_lt N S h2 h3
section
variable {w:World} {ta:Option Addr} {tc:Nat} {ts:List Tm}
theorem num_raw (v:GV) {ms:List Int} (hw:WordsAt w v.ma ms) (hml:v.ml=ms.length) (hmc:ms.length<=v.mc) (hl:ms.length<1000000000000):Calls Tryz.prog 251 #[.agg v.cells.toArray] w λ e w'=>∃(bb:Bool) (a:Option Addr) (ms':List Int) (c:Nat),e=.returned (.agg #[.bool bb,.slice a ms'.length c])/\WordsAt w' a ms'/\ms'.length<=c/\ms'.length<1000000000000/\Keep No w w':=by
 refine (C251 v w).mono ?_
 rintro _ w1 ⟨y,rfl,hk,h1,h2⟩
 by_cases hk2:v.kind=2
 ·obtain ⟨a,c,hya,hyw,hyc⟩:=(h1 hk2).cells
  refine ⟨_,a,_,c,by rw [hya],hyw,hyc,?_,hk⟩
  have:=trimmed_length_le (ofWords (if v.b then 1 else 0))
  have e2:(ofWords (if v.b then 1 else 0)).length=2:=rfl
  omega
 ·exact ⟨v.neg,v.ma,ms,v.mc,by rw [h2 hk2,hml],hw.no hk,hmc,hl,hk⟩
theorem C244_gen (hts:TermsAt w ta ts) {x y:Nat} {t u:Tm} (ht:ts[x]?=some t) (hu:ts[y]?=some u) {ms ns:List Int} (hm:InAt w t ms) (hn:InAt w u ns) :
  Calls Tryz.prog 244 #[.slice ta ts.length tc,.int .i64 x,.int .i64 y] w λ e w'=>∃b,e=.returned (.bool b)/\(x=y->b=true)/\Keep No w w':=by
 refine (V244_sound ta ts.length tc x y w (λ v w'=>∃b,v=.bool b/\(x=y->b=true)/\Keep No w w') ?_).mono (by rintro _ _ ⟨_,rfl,b,rfl,h⟩;exact ⟨b,rfl,h⟩)
 have hx:x<ts.length:=(List.getElem?_eq_some_iff.1 ht).1
 have hy:y<ts.length:=(List.getElem?_eq_some_iff.1 hu).1
 obtain ⟨p,rfl,hct⟩:=hts _ t ht
 unfold V244
 refine idxK_of hx ⟨_,_,_,_,_,_,_,_,_,_,_,_,hct,termCopy λ c w1 hc hk1 hcs=>?_⟩
 obtain ⟨p',hp',hcu⟩:=(hts.no hk1) _ u hu
 cases hp'
 refine idxK_of hy ⟨_,_,_,_,_,_,_,_,_,_,_,_,hcu,termCopy λ d w2 hd hk2 hds=>?_⟩
 have hc2:=hk2.nblk hc
 have hk02:=hk1.no hk2
 have hJ1:∀g,x≠y->V244J1 (λ v w'=>∃b,v=.bool b/\(x=y->b=true)/\Keep No w w') ⟨c,0,none⟩ ⟨d,0,none⟩ g w2:=by
  intro g hne
  unfold V244J1
  refine bsel_split (λ _=>⟨_,rfl,λ e=>absurd e hne,hk02⟩) λ _=>⟨_,hc2.add 0 rfl,bsel_split (λ _=>⟨_,rfl,λ _=>rfl,hk02⟩) λ _=>⟨_,hc2.add 4 rfl,_,hd.add 4 rfl,_,rfl,λ e=>absurd e hne,hk02⟩⟩
 have hJ2:∀g,x≠y->V244J2 (λ v w'=>∃b,v=.bool b/\(x=y->b=true)/\Keep No w w') ⟨c,0,none⟩ ⟨d,0,none⟩ g w2:=by
  intro g hne
  unfold V244J2
  refine bsel_split (λ _=>?_) λ _=>⟨_,hc2.add 0 rfl,_,hd.add 0 rfl,bsel_split (λ _=>hJ1 true hne) λ _=>⟨_,hc2.add 0 rfl,hJ1 _ hne⟩⟩
  have hdr:=Keep.drawn w2
  have hkd:=hk02.no hdr
  obtain ⟨⟨m1,m2,m3,m4⟩,_⟩:=hm.no hkd
  refine ⟨_,hc2.drew.add 0 rfl,_,hc2.drew.add 1 rfl,_,_,_,_,hc2.drew.cellsAdd 2 rfl,_,hd.drew.add 0 rfl,_,hd.drew.add 1 rfl,_,_,_,_,hd.drew.cellsAdd 2 rfl,?_⟩
  refine (num_raw { gz with kind:=t.kind,b:=t.b,neg:=t.neg,ma:=t.ma,ml:=t.ml,mc:=t.mc } m1 m2 m3 m4).mono ?_
  rintro _ w3 ⟨b1,a1,l1,c1,rfl,f1,f2,f3,hk3⟩
  have hd3:=hk3.nblk hd.drew
  obtain ⟨⟨n1,n2,n3,n4⟩,_⟩:=hn.no (hkd.no hk3)
  refine ⟨_,_,_,_,rfl,hd3.cellsAdd 2 rfl,hd3.add 1 rfl,hd3.add 0 rfl,?_⟩
  refine (num_raw { gz with kind:=u.kind,b:=u.b,neg:=u.neg,ma:=u.ma,ml:=u.ml,mc:=u.mc } n1 n2 n3 n4).mono ?_
  rintro _ w4 ⟨b2,a2,l2,c2,rfl,g1,g2,g3,hk4⟩
  refine ⟨_,_,_,_,rfl,(C303 (f1.no hk4) f2 f3 g1 g2 g3).mono ?_⟩
  rintro _ w5 ⟨r,rfl,_,hk5⟩
  exact ⟨_,rfl,_,rfl,λ e=>absurd e hne,((hkd.no hk3).no hk4).no hk5⟩
 have hJ3:∀g h,V244J3 (λ v w'=>∃b,v=.bool b/\(x=y->b=true)/\Keep No w w') x y ⟨c,0,none⟩ ⟨d,0,none⟩ g h w2:=by
  intro g h
  unfold V244J3
  refine bsel_split (λ _=>⟨_,rfl,λ _=>rfl,hk02⟩) λ hne=>?_
  have hne:x≠y:=by simp at hne;omega
  exact bsel_split (λ _=>hJ2 _ hne) λ _=>hJ2 _ hne
 have hJ4:∀g,V244J4 (λ v w'=>∃b,v=.bool b/\(x=y->b=true)/\Keep No w w') x y ⟨c,0,none⟩ ⟨d,0,none⟩ g w2:=by
  intro g
  unfold V244J4
  exact ⟨_,hd.add 0 rfl,bsel_split (λ _=>hJ3 _ _) λ _=>⟨_,hd.add 0 rfl,hJ3 _ _⟩⟩
 exact ⟨_,hc2.add 0 rfl,bsel_split (λ _=>hJ4 _) λ _=>⟨_,hc2.add 0 rfl,hJ4 _⟩⟩
theorem C181_gen {mss:Nat->List Int} {B:Nat} (hL:LowAt w B ta ts mss) {t:Tm} {ks:List Int} (hks:KidsAt w t ks) (hkl:t.kl<100000000000) (hkid:∀(j:Nat) (k:Int),ks[j]?=some k->0<=k/\k<ts.length) (hlen:ts.length<1000000) :
  Calls Tryz.prog 181 #[.slice ta ts.length tc,.agg t.cells.toArray] w λ e w'=>∃n:Nat,e=.returned (.int .i64 n)/\n<=ts.length/\Keep No w w':=by
 refine (V181_sound ta ts.length tc t.kind t.b t.neg t.ma t.ml t.mc t.text t.ka t.kl t.kc t.hash t.same w (λ v w'=>∃n:Nat,v=.int .i64 n/\n<=ts.length/\Keep No w w') ?_).mono (by rintro _ _ ⟨_,rfl,n,rfl,h⟩;exact ⟨n,rfl,h⟩)
 have hklen:=hks.1
 unfold V181
 refine newK_of λ c w1 hs1 hc hk1=>⟨_,hc.add 0 rfl,?_⟩
 have hJ2:∀(st:Int),(st=1\/st=2)->V181J2 (λ v w'=>∃n:Nat,v=.int .i64 n/\n<=ts.length/\Keep No w w') ta ts.length tc ⟨c,0,none⟩ st w1:=by
  intro st hst
  unfold V181J2
  refine ⟨λ n i w'=>∃(S:List Nat),n=S.length/\S.Nodup/\(∀x ∈ S,x<ts.length)/\(∀x ∈ S,∃j:Nat,(j:Int)<i/\ks[j]?=some (x:Int)/\∃q:Nat,(j:Int)=q*st)/\(∃q:Nat,i=q*st)/\i<=t.kl+1/\Keep No w1 w',λ _ i _=>(t.kl+2-i).toNat,⟨[],rfl,by simp,by simp,by simp,⟨0,by simp⟩,by omega,Keep.refl _ _⟩,?_⟩
  rintro j n i w2 ⟨S,rfl,hS1,hS2,hS3,⟨q,hq⟩,hi,hk2⟩
  have hi0:0<=i:=by rcases hst with rfl | rfl <;> omega
  have hc2:=hk2.nblk hc
  have hlS:=nodup_lt ts.length S hS1 hS2
  refine ⟨_,_,_,hc2.add 5 rfl,bsel_split (λ hlt=>?_) λ hge=>⟨_,rfl,hlS,hk1.no hk2⟩⟩
  have hlt:i<t.kl:=by simpa using hlt
  obtain ⟨k,hkk⟩:∃k,ks[i.toNat]?=some k:=⟨_,List.getElem?_eq_getElem (by omega)⟩
  obtain ⟨k0,kn⟩:=hkid _ _ hkk
  obtain ⟨x,rfl⟩:=Int.eq_ofNat_of_zero_le k0
  have hx:x<ts.length:=by omega
  obtain ⟨u,hu⟩:∃u,ts[x]?=some u:=⟨_,List.getElem?_eq_getElem hx⟩
  have hit:((i.toNat:Nat):Int)=i:=by omega
  refine ⟨λ b h w'=>(∃q:Nat,h=q*st)/\h<=i+1/\(b=true->∀j:Nat,(j:Int)<h->(j:Int)<i->(∃q:Nat,(j:Int)=q*st)->ks[j]?≠some (x:Int))/\Keep No w2 w',λ _ h _=>(i+2-h).toNat,⟨⟨0,by simp⟩,by omega,λ _ j hj=>by omega,Keep.refl _ _⟩,?_⟩
  rintro jj b h w3 ⟨⟨qh,hqh⟩,hh,hb,hk3⟩
  have hh0:0<=h:=by rcases hst with rfl | rfl <;> omega
  have hk03:=hk2.no hk3
  have hc3:=hk03.nblk hc
  have hout:∀b':Bool,(b'=true->∀j:Nat,(j:Int)<i->(∃q:Nat,(j:Int)=q*st)->ks[j]?≠some (x:Int))->
    bsel b' (∃(S':List Nat),IntKind.wrap .i64 ((S.length:Int)+1)=S'.length/\S'.Nodup/\(∀x ∈ S',x<ts.length)/\(∀x ∈ S',∃j:Nat,(j:Int)<IntKind.wrap .i64 (i+st)/\ks[j]?=some (x:Int)/\∃q:Nat,(j:Int)=q*st)/\(∃q:Nat,IntKind.wrap .i64 (i+st)=q*st)/\IntKind.wrap .i64 (i+st)<=t.kl+1/\Keep No w1 w3)
     (∃(S':List Nat),(S.length:Int)=S'.length/\S'.Nodup/\(∀x ∈ S',x<ts.length)/\(∀x ∈ S',∃j:Nat,(j:Int)<IntKind.wrap .i64 (i+st)/\ks[j]?=some (x:Int)/\∃q:Nat,(j:Int)=q*st)/\(∃q:Nat,IntKind.wrap .i64 (i+st)=q*st)/\IntKind.wrap .i64 (i+st)<=t.kl+1/\Keep No w1 w3):=by
   intro b' hb'
   have ew:IntKind.wrap .i64 (i+st)=i+st:=wrap_i64 (by rcases hst with rfl | rfl <;> omega)
   rw [ew,wrap_i64 (by omega)]
   have eq1:∃q:Nat,i+st=q*st:=⟨q+1,by rw [hq];push_cast;rw [Int.add_mul,Int.one_mul]⟩
   have ei:i+st<=t.kl+1:=by rcases hst with rfl | rfl <;> omega
   refine bsel_split (λ hb1=>?_) λ _=>⟨S,rfl,hS1,hS2,λ y hy=>?_,eq1,ei,hk03⟩
   ·refine ⟨S ++ [x],by simp,?_,λ y hy=>?_,λ y hy=>?_,eq1,ei,hk03⟩
    ·rw [List.nodup_append]
     refine ⟨hS1,by simp,λ a ha b hb2=>?_⟩
     simp at hb2
     subst hb2
     intro e
     subst e
     obtain ⟨j,j1,j2,j3⟩:=hS3 a ha
     exact hb' hb1 j j1 j3 j2
    ·simp at hy
     rcases hy with hy | rfl
     ·exact hS2 y hy
     ·exact hx
    ·simp at hy
     rcases hy with hy | rfl
     ·obtain ⟨j,j1,j2,j3⟩:=hS3 y hy
      exact ⟨j,by rcases hst with rfl | rfl <;> omega,j2,j3⟩
     ·exact ⟨i.toNat,by rcases hst with rfl | rfl <;> omega,hkk,q,by rw [hit,hq]⟩
   ·obtain ⟨j,j1,j2,j3⟩:=hS3 y hy
    exact ⟨j,by rcases hst with rfl | rfl <;> omega,j2,j3⟩
  have hend:∀b':Bool,(b'=true->∀j:Nat,(j:Int)<i->(∃q:Nat,(j:Int)=q*st)->ks[j]?≠some (x:Int))->V181J1 (λ n i w'=>∃(S:List Nat),n=S.length/\S.Nodup/\(∀x ∈ S,x<ts.length)/\(∀x ∈ S,∃j:Nat,(j:Int)<i/\ks[j]?=some (x:Int)/\∃q:Nat,(j:Int)=q*st)/\(∃q:Nat,i=q*st)/\i<=t.kl+1/\Keep No w1 w') (λ _ i _=>(t.kl+2-i).toNat) S.length i w2 (λ b h w'=>(∃q:Nat,h=q*st)/\h<=i+1/\(b=true->∀j:Nat,(j:Int)<h->(j:Int)<i->(∃q:Nat,(j:Int)=q*st)->ks[j]?≠some (x:Int))/\Keep No w2 w') (λ _ h _=>(i+2-h).toNat) b h w3 ta ts.length tc ⟨c,0,none⟩ st S.length i b' h false w3:=by
   intro b' hb'
   have ew:IntKind.wrap .i64 (i+st)=i+st:=wrap_i64 (by rcases hst with rfl | rfl <;> omega)
   unfold V181J1
   refine bsel_neg rfl ?_
   have:=hout b' hb'
   cases b'
   ·exact ⟨this,by simp only;rw [ew];rcases hst with rfl | rfl <;> omega⟩
   ·exact ⟨this,by simp only;rw [ew];rcases hst with rfl | rfl <;> omega⟩
  refine bsel_split (λ hlt2=>?_) λ hge2=>?_
  ·have hlt2:h<i:=by simpa using hlt2
   cases b with
   | false=>exact hend false λ hc=>by cases hc
   | true=>
    have hdr:=Keep.drawn w3
    have hkd:=hk03.no hdr
    have hks3:=hks.no (hk1.no hkd)
    have hL3:=hL.no (hk1.no hkd)
    obtain ⟨k',hkk'⟩:∃k',ks[h.toNat]?=some k':=⟨_,List.getElem?_eq_getElem (by omega)⟩
    obtain ⟨k0',kn'⟩:=hkid _ _ hkk'
    obtain ⟨y,rfl⟩:=Int.eq_ofNat_of_zero_le k0'
    obtain ⟨v,hv⟩:∃v,ts[y]?=some v:=⟨_,List.getElem?_eq_getElem (by omega)⟩
    obtain ⟨p1,hp1,hc1⟩:=hks3.2 _ _ hkk'
    obtain ⟨p2,hp2,hc2'⟩:=hks3.2 _ _ hkk
    have hth:((h.toNat:Nat):Int)=h:=by omega
    unfold V181J1
    refine bsel_pos rfl ⟨_,_,_,hc3.drew.add 5 rfl,?_⟩
    rw [hp1]
    have i1:=@idxK_of p1 t.kl h.toNat 1
    rw [hth] at i1
    refine i1 (by omega) ⟨y,by rw [Nat.mul_one];exact hc1,_,_,_,hc3.drew.add 5 rfl,?_⟩
    rw [hp2]
    have i2:=@idxK_of p2 t.kl i.toNat 1
    rw [hit] at i2
    refine i2 (by omega) ⟨x,by rw [Nat.mul_one];exact hc2',(C244_gen hL3.tm hv hu (hL3.inp y v hv).1 (hL3.inp x u hu).1).mono ?_⟩
    rintro _ w4 ⟨b,rfl,hbe,hk4⟩
    have ew:IntKind.wrap .i64 (h+st)=h+st:=wrap_i64 (by rcases hst with rfl | rfl <;> omega)
    refine ⟨_,rfl,?_⟩
    rw [ew]
    refine ⟨⟨⟨qh+1,by rw [hqh];push_cast;rw [Int.add_mul,Int.one_mul]⟩,?_,λ hb2 j j1 j2 j3=>?_,(hk3.no hdr).no hk4⟩,by simp only;rcases hst with rfl | rfl <;> omega⟩
    ·rcases hst with rfl | rfl <;> omega
    ·by_cases hjh:(j:Int)<h
     ·exact hb rfl j hjh j2 j3
     ·have hj:j=h.toNat:=by
       obtain ⟨q3,hq3⟩:=j3
       rcases hst with rfl | rfl <;> omega
      subst hj
      rw [hkk']
      intro e
      have e:y=x:=by
       have:=Option.some.inj e
       exact Int.ofNat_inj.1 this
      have:=hbe e
      subst this
      simp at hb2
  ·have hge2:i<=h:=by simpa using hge2
   refine hend b λ hb1 j j1 j3=>hb hb1 j (by omega) j1 j3
 exact bsel_split (λ _=>hJ2 2 (.inr rfl)) λ _=>hJ2 1 (.inl rfl)
end
end Go.Fw

namespace Go.Fw
open Go.Proofs Go.RowKit
section
variable {w w':World} {r B:Nat} {P:GP} {L:List GV} {last:Int} {fp:Nat->Prop}
theorem GSt.keep2 (h:GSt w r B P L last) (hk:Keep fp w w') (hc:CntAt w' P.mc) (hn:∀k,k<w.heap.size->fp k->∀e,Fw.etype w k=some e->e≠220/\e≠226):GSt w' r B P L last:=by
 obtain ⟨⟨lv,h1,h2⟩,h3,h4,h5⟩:=h
 refine ⟨⟨lv,hk.blk h1 λ hf=>(hn _ h1.lt hf _ h1.etype).1 rfl,hk.row h2 λ g hg hf=>(hn g (h2.lt g hg).2 hf _ (ownsRow_etype h2 hg)).2 rfl⟩,h3,h4,hc⟩
theorem C182 (b:Bool) (w:World):Calls Tryz.prog 182 #[.bool b] w λ e w'=>e=.returned (.int .i64 (if b then 2 else 1))/\w'=w:=by
 refine ret_mono (V182_sound b w (λ x w'=>x=.int .i64 (if b then 2 else 1)/\w'=w) ?_) (by rintro _ _ ⟨rfl,h⟩;exact ⟨rfl,h⟩)
 unfold V182
 exact bsel_split (λ h=>⟨by rw [h];rfl,rfl⟩) λ h=>⟨by rw [h];rfl,rfl⟩
theorem C183 (h:GSt w r B P L last) {neg:Bool} {a:Option Addr} {ms:List Int} {c:Nat} (hw:WordsAt w a ms) (hc:ms.length<=c) (hml:ms.length<1000000000) (hl:L.length<5000000) (hB:B<=w.heap.size) :
  Calls Tryz.prog 183 #[.pointer (some ⟨r,0,none⟩),.agg #[.bool neg,.slice a ms.length c]] w λ e w'=>e=.returned (.int .i64 L.length)/\∃ng va vl vc,GSt w' r B P (L ++ [{ gz with kind:=3,neg:=ng,ma:=va,ml:=vl,mc:=vc }]) last/\FormAt w.heap.size w' (.agg #[.bool ng,.slice va vl vc]) neg ms/\Keep (GFp r B w) w w':=by
 refine ret_mono (V183_sound _ neg a ms.length c w (λ x w'=>x=.int .i64 L.length/\∃ng va vl vc,GSt w' r B P (L ++ [{ gz with kind:=3,neg:=ng,ma:=va,ml:=vl,mc:=vc }]) last/\FormAt w.heap.size w' (.agg #[.bool ng,.slice va vl vc]) neg ms/\Keep (GFp r B w) w w') ?_) (by rintro _ _ ⟨rfl,h⟩;exact ⟨rfl,h⟩)
 unfold V183
 refine newK_of λ b w1 hs1 hb hk1=>⟨_,_,_,_,hb.cells0,(C180 (hw.no hk1) hc (by omega)).mono ?_⟩
 rintro _ w2 ⟨y,rfl,hy,hk2⟩
 obtain ⟨va,vc,rfl,_⟩:=hy.cells
 have hk02:=hk1.no hk2
 have hs:=hk1.size
 have hs2:=hk02.size
 refine ⟨_,_,_,_,rfl,(C245g (h.no hk02) { gz with kind:=3,neg:=neg && !(trimmed ms).isEmpty,ma:=va,ml:=(trimmed ms).length,mc:=vc } hl (by omega)).mono ?_⟩
 rintro _ w3 ⟨rfl,h3,hk3⟩
 refine ⟨_,rfl,rfl,_,_,_,_,h3,?_,?_⟩
 ·refine (hy.keepT hk3 λ k hB' he hf=>?_).mono hs
  rcases hf with rfl | ⟨_,hf⟩
  ·rw [(h.no hk02).etype] at he;cases he
  ·rw [he] at hf;cases hf
 ·refine (Keep.of_no hk02).gfp (hk3.mono λ k _ hf=>hf)
theorem C184g (h:GSt w r B P L last) (t:ByteArray) (hl:L.length<5000000) (hB:B<=w.heap.size) :
  Calls Tryz.prog 184 #[.pointer (some ⟨r,0,none⟩),.string t] w λ e w'=>e=.returned (.int .i64 L.length)/\GSt w' r B P (L ++ [{ gz with kind:=4,text:=t }]) last/\Keep (GFp r B w) w w':=by
 refine ret_mono (V184_sound _ t w (λ x w'=>x=.int .i64 L.length/\GSt w' r B P (L ++ [{ gz with kind:=4,text:=t }]) last/\Keep (GFp r B w) w w') ?_) (by rintro _ _ ⟨rfl,h⟩;exact ⟨rfl,h⟩)
 unfold V184
 refine (C245g h { gz with kind:=4,text:=t } hl hB).mono ?_
 rintro _ w' ⟨rfl,h1,h2⟩
 exact ⟨_,rfl,rfl,h1,h2⟩
def GFc (r B mc:Nat) (w:World):Nat->Prop:=λ k=>GFp r B w k\/k=mc
theorem GSt.cell7 (h:GSt w r B P L last):w.cell? ((⟨r,0,none⟩:Addr).add 3)=some (.int .i64 P.pairs)/\w.cell? ((⟨r,0,none⟩:Addr).add 4)=some (.int .i64 P.shared)/\w.cell? ((⟨r,0,none⟩:Addr).add 7)=some (.pointer (some ⟨P.mc,0,none⟩)):=by
 obtain ⟨⟨lv,h1,_⟩,_⟩:=h
 exact ⟨h1.add 3 rfl,h1.add 4 rfl,h1.add 7 rfl⟩
theorem Keep.gfc {w'':World} {mc:Nat} (h:Keep (λ k=>k=mc) w w') (hm:Fw.etype w mc=some 217) (h':Keep (GFp r B w') w' w''):Keep (GFc r B mc w) w w'':=
 (h.mono λ k _ e=>.inr e).trans h' λ k hk hf=>by
  by_cases hc:k=mc
  ·exact .inr hc
  ·rcases hf with rfl | ⟨hB,he⟩
   ·exact .inl (.inl rfl)
   ·refine .inl (.inr ⟨hB,?_⟩)
    unfold Fw.etype at he ⊢
    rw [<-h.block k hk hc]
    exact he
theorem C188 (h:GSt w r B P L last) (kind:Int) (hp:0<=P.pairs/\P.pairs<=65536) (hl:L.length<5000000) (hB:B<=w.heap.size) (hla:0<=last/\last<1000000000000) :
  Calls Tryz.prog 188 #[.pointer (some ⟨r,0,none⟩),.int .i64 kind] w λ e w'=>e=.returned (.int .i64 L.length)/\∃d D,GSt w' r B P (L ++ [{ gz with kind:=kind,number:=last+1,d:=some ⟨d,0,none⟩ }]) (last+1)/\RDictAt w' w.heap.size d P.mc D/\RTbOk D.T/\D.T.es=[]/\D.most=P.pairs/\D.T.births=0/\D.T.turns=0/\D.T.made=1/\Keep (GFc r B P.mc w) w w':=by
 refine ret_mono (V188_sound _ kind w (λ x w'=>x=.int .i64 L.length/\∃d D,GSt w' r B P (L ++ [{ gz with kind:=kind,number:=last+1,d:=some ⟨d,0,none⟩ }]) (last+1)/\RDictAt w' w.heap.size d P.mc D/\RTbOk D.T/\D.T.es=[]/\D.most=P.pairs/\D.T.births=0/\D.T.turns=0/\D.T.made=1/\Keep (GFc r B P.mc w) w w') ?_) (by rintro _ _ ⟨rfl,h⟩;exact ⟨rfl,h⟩)
 unfold V188
 have hd:=Keep.drawn w
 have h1:=h.no hd
 simp only [nilK_some,add_add]
 refine ⟨_,h1.cell7.1,_,h1.cell7.2.2,(C246 hp h1.cnt).mono ?_⟩
 rintro _ w2 ⟨d,D,rfl,hD,hok,q1,q2,q3,q4,q5,hc2,hk2⟩
 have h2:=h1.keep2 hk2 hc2 λ k _ e e' he=>by subst e;rw [h1.cnt.etype] at he;cases he;decide
 have hs:=hk2.size
 have hsd:=hd.size
 refine ⟨_,_,rfl,(C185g h2 { gz with kind:=kind,d:=some ⟨d,0,none⟩ } hl (by omega) hla).mono ?_⟩
 rintro _ w3 ⟨rfl,h3,hk3⟩
 refine ⟨_,rfl,rfl,d,D,h3,?_,hok,q1,q2,q3,q4,q5,?_⟩
 ·refine (hD.keep hk3 λ k hk hf=>?_).mono (by simpa using hsd)
  obtain ⟨_,_,e,he,hm⟩:=hD.ty hk
  rcases hf with rfl | ⟨_,hf⟩
  ·rw [h2.etype] at he;cases he;exact absurd hm (by decide)
  ·rw [he] at hf;cases hf;exact absurd hm (by decide)
 ·exact Keep.gfc ((Keep.of_no hd).trans hk2 λ _ _ e=>e) h.cnt.etype hk3
structure FamR (w:World) (R f:Nat) (P:GP):Prop where
 ex:∃t T,Blk w f 407 [.int .i64 P.shared,.int .i64 P.pairs,.pointer (some ⟨t,0,none⟩),.slice none 0 0,.pointer (some ⟨P.mc,0,none⟩)]/\RTabAt w R t P.mc T/\T.es=[]
 ge:R<=f
theorem C247 (hp:0<=P.pairs/\P.pairs<=65536) (hsh:0<=P.shared/\P.shared<=256) (hc:CntAt w P.mc):Calls Tryz.prog 247 #[.int .i64 P.shared,.int .i64 P.pairs,.pointer (some ⟨P.mc,0,none⟩)] w λ x w'=>∃f,x=.returned (.tuple #[.pointer (some ⟨f,0,none⟩),.int .i64 0])/\FamR w' w.heap.size f P/\CntAt w' P.mc/\Keep (λ k=>k=P.mc) w w':=by
 refine (V247_sound _ _ _ w (λ x w'=>∃f,x=.tuple #[.pointer (some ⟨f,0,none⟩),.int .i64 0]/\FamR w' w.heap.size f P/\CntAt w' P.mc/\Keep (λ k=>k=P.mc) w w') ?_).mono (by rintro _ w' ⟨_,rfl,f,rfl,h⟩;exact ⟨f,rfl,h⟩)
 unfold V247
 refine bsel_neg (by simp;omega) (bsel_neg (by simp;omega) (bsel_neg (by simp;omega) ?_))
 unfold V247J1
 refine bsel_neg (by simp;omega) ((C304 hc).mono ?_)
 rintro _ w1 ⟨t,g,rfl,ht,hc1,hk1⟩
 have hs:=hk1.size
 exact ⟨_,rfl,newK_of λ f w2 hs2 hb hk=>⟨f,rfl,⟨⟨t,_,hb,ht.no hk,rfl⟩,by omega⟩,hc1.no hk,hk1.no hk⟩⟩
theorem FamR.keep {R f:Nat} (h:FamR w R f P) (hk:Keep fp w w') (hn:∀k,R<=k->k<w.heap.size->(∀e,etype w k=some e->e=407\/e ∈ rtabTy)->¬fp k):FamR w' R f P:=by
 obtain ⟨⟨t,T,h1,h2,h3⟩,h4⟩:=h
 refine ⟨⟨t,T,hk.blk h1 (hn f h4 h1.lt λ e he=>.inl (by rw [h1.etype] at he;cases he;rfl)),h2.keep hk λ k hk'=>?_,h3⟩,h4⟩
 obtain ⟨q1,q2,e,q3,q4⟩:=h2.ty hk'
 exact hn k q1 q2 λ e' he'=>.inr (by rw [q3] at he';cases he';exact q4)
theorem FamR.mono {R R' f:Nat} (h:FamR w R f P) (hR:R'<=R):FamR w R' f P:=by
 obtain ⟨⟨t,T,h1,h2,h3⟩,h4⟩:=h
 exact ⟨⟨t,T,h1,h2.mono hR,h3⟩,by omega⟩
theorem C186 (h:GSt w r B P L last) (name:ByteArray) (base:Int) (hp:0<=P.pairs/\P.pairs<=65536) (hsh:0<=P.shared/\P.shared<=256) (hl:L.length<5000000) (hB:B<=w.heap.size) (hla:0<=last/\last<1000000000000) :
  Calls Tryz.prog 186 #[.pointer (some ⟨r,0,none⟩),.string name,.int .i64 base] w λ e w'=>e=.returned (.int .i64 L.length)/\∃d D f,GSt w' r B P (L ++ [{ gz with kind:=13,number:=last+1,text:=name,d:=some ⟨d,0,none⟩,base:=base,f:=some ⟨f,0,none⟩ }]) (last+1)/\RDictAt w' w.heap.size d P.mc D/\D.T.es=[]/\FamR w' w.heap.size f P/\Keep (GFc r B P.mc w) w w':=by
 refine ret_mono (V186_sound _ name base w (λ x w'=>x=.int .i64 L.length/\∃d D f,GSt w' r B P (L ++ [{ gz with kind:=13,number:=last+1,text:=name,d:=some ⟨d,0,none⟩,base:=base,f:=some ⟨f,0,none⟩ }]) (last+1)/\RDictAt w' w.heap.size d P.mc D/\D.T.es=[]/\FamR w' w.heap.size f P/\Keep (GFc r B P.mc w) w w') ?_) (by rintro _ _ ⟨rfl,h⟩;exact ⟨rfl,h⟩)
 unfold V186
 have hd:=Keep.drawn w
 have h1:=h.no hd
 simp only [nilK_some,add_add]
 refine ⟨_,h1.cell7.1,_,h1.cell7.2.2,(C246 hp h1.cnt).mono ?_⟩
 rintro _ w2 ⟨d,D,rfl,hD,hok,q1,q2,q3,q4,q5,hc2,hk2⟩
 have hnm:∀{w1:World} {L':List GV} {la:Int} (k:Nat) (e:TypeId),GSt w1 r B P L' la->k=P.mc->etype w1 k=some e->e≠220/\e≠226:=λ k e h1 hk he=>by subst hk;rw [h1.cnt.etype] at he;cases he;decide
 have h2:=h1.keep2 hk2 hc2 λ k _ e e' he=>hnm k e' h1 e he
 have hs:=hk2.size
 have hsd:w.heap.size<=w.drew.heap.size:=hd.size
 have hd2:=Keep.drawn w2
 have h2d:=h2.no hd2
 have hDd:=hD.no hd2
 refine ⟨_,_,rfl,_,h2d.cell7.2.1,_,h2d.cell7.1,_,h2d.cell7.2.2,(C247 hp hsh h2d.cnt).mono ?_⟩
 rintro _ w3 ⟨f,rfl,hf,hc3,hk3⟩
 have h3:=h2d.keep2 hk3 hc3 λ k _ e e' he=>hnm k e' h2d e he
 have hD3:=hDd.keep hk3 λ k hk e=>by
  subst e
  exact hDd.not_own h2d.cnt.etype (by rintro _ ⟨⟩;decide) hk
 have hsd2:w2.heap.size<=w2.drew.heap.size:=hd2.size
 have hs3:=hk3.size
 refine ⟨_,_,rfl,(C185g h3 { gz with kind:=13,text:=name,d:=some ⟨d,0,none⟩,base:=base,f:=some ⟨f,0,none⟩ } hl (by omega) hla).mono ?_⟩
 rintro _ w4 ⟨rfl,h4,hk4⟩
 have hk03:Keep (λ k=>k=P.mc) w w3:=(((Keep.of_no hd).trans hk2 λ _ _ e=>e).trans (Keep.of_no hd2) λ _ _ e=>e).trans hk3 λ _ _ e=>e
 refine ⟨_,rfl,rfl,d,D,f,h4,?_,q1,?_,Keep.gfc hk03 h.cnt.etype hk4⟩
 ·refine (hD3.keep hk4 λ k hk hf=>?_).mono hsd
  obtain ⟨_,_,e,he,hm⟩:=hD3.ty hk
  rcases hf with rfl | ⟨_,hf⟩
  ·rw [h3.etype] at he;cases he;exact absurd hm (by decide)
  ·rw [he] at hf;cases hf;exact absurd hm (by decide)
 ·refine (hf.keep hk4 λ k _ _ hx hq=>?_).mono (by omega)
  rcases hq with rfl | ⟨_,hq⟩
  ·rcases hx _ h3.etype with e | e
   ·cases e
   ·exact absurd e (by decide)
  ·rcases hx _ hq with e | e
   ·cases e
   ·exact absurd e (by decide)
theorem C248 (f:Nat) (w:World):Calls Tryz.prog 248 #[.pointer (some ⟨f,0,none⟩)] w λ x w'=>x=.returned (.pointer (some ⟨w.heap.size,0,none⟩))/\Blk w' w.heap.size 409 [.pointer (some ⟨f,0,none⟩),.slice none 0 0,.pointer none,.int .i64 0]/\Keep No w w':=by
 refine ret_mono (V248_sound _ w (λ x w'=>x=.pointer (some ⟨w.heap.size,0,none⟩)/\Blk w' w.heap.size 409 [.pointer (some ⟨f,0,none⟩),.slice none 0 0,.pointer none,.int .i64 0]/\Keep No w w') ?_) (by rintro _ _ ⟨rfl,h⟩;exact ⟨rfl,h⟩)
 unfold V248
 exact newK_of λ a w1 hs hb hk=>by subst hs;exact ⟨rfl,hb,hk⟩
theorem C187 (h:GSt w r B P L last) {c:Nat} {v:GV} (hc:L[c]?=some v) {f:Nat} (hf:v.f=some ⟨f,0,none⟩) (hl:L.length<5000000) (hB:B<=w.heap.size) (hla:0<=last/\last<1000000000000) :
  Calls Tryz.prog 187 #[.pointer (some ⟨r,0,none⟩),.int .i64 c] w λ e w'=>e=.returned (.int .i64 L.length)/\GSt w' r B P (L ++ [{ gz with kind:=14,number:=last+1,cls:=c,sp:=some ⟨w.heap.size,0,none⟩ }]) (last+1)/\Blk w' w.heap.size 409 [.pointer (some ⟨f,0,none⟩),.slice none 0 0,.pointer none,.int .i64 0]/\Keep (GFp r B w) w w':=by
 refine ret_mono (V187_sound _ c w (λ x w'=>x=.int .i64 L.length/\GSt w' r B P (L ++ [{ gz with kind:=14,number:=last+1,cls:=c,sp:=some ⟨w.heap.size,0,none⟩ }]) (last+1)/\Blk w' w.heap.size 409 [.pointer (some ⟨f,0,none⟩),.slice none 0 0,.pointer none,.int .i64 0]/\Keep (GFp r B w) w w') ?_) (by rintro _ _ ⟨rfl,h⟩;exact ⟨rfl,h⟩)
 unfold V187
 obtain ⟨g,cap,h1,h2,h3⟩:=h.at hc
 simp only [nilK_some]
 refine ⟨_,_,_,h1,idxK_of h2 ⟨some ⟨f,0,none⟩,by rw [<-hf];exact h3.get 15 rfl,(C248 f w).mono ?_⟩⟩
 rintro _ w1 ⟨rfl,hsp,hk1⟩
 have hs:=hk1.size
 have h1':=h.no hk1
 refine ⟨_,rfl,(C185g h1' { gz with kind:=14,cls:=c,sp:=some ⟨w.heap.size,0,none⟩ } hl (by omega) hla).mono ?_⟩
 rintro _ w2 ⟨rfl,h4,hk2⟩
 refine ⟨_,rfl,rfl,h4,hk2.blk hsp λ hq=>?_,(Keep.of_no hk1).gfp hk2⟩
 rcases hq with e | ⟨_,e⟩
 ·have:=h1'.etype;rw [<-e,hsp.etype] at this;cases this
 ·rw [hsp.etype] at e;cases e
theorem hWhole_key {n1 n2:Bool} {m1 m2:List Int} (hw:wkey n1 m1=wkey n2 m2):hWhole n1 m1=hWhole n2 m2:=by
 unfold wkey sgnI at hw
 simp only [Prod.mk.injEq] at hw
 obtain ⟨q1,q2⟩:=hw
 unfold hWhole
 rw [<-q2] at q1 ⊢
 by_cases h0:(trimmed m1).length=0
 ·have:trimmed m1=[]:=List.length_eq_zero_iff.1 h0
  rw [this]
  simp [restW]
 ·rw [if_neg h0,if_neg h0] at q1
  cases n1 <;> cases n2 <;> simp at q1 ⊢
theorem hash_num {y:Value} {neg:Bool} {ms:List Int} (h:NumIs w y (wkey neg ms)) {bb:Bool} {a:Option Addr} {l c:Nat} (hy:y=.agg #[.bool bb,.slice a l c]):Calls Tryz.prog 249 #[.agg #[.bool bb,.slice a l c]] w λ e w'=>e=.returned (.int .i64 (hWhole neg ms))/\Keep No w w':=by
 obtain ⟨n1,m1,R,hf,hl,hw,hr⟩:=h
 obtain ⟨fa,fc,hfy,hfw,hfc⟩:=hf.cells
 rw [hfy] at hy
 cases hy
 have ht:=trimmed_length_le m1
 rw [<-hWhole_key hw,<-hWhole_form]
 exact C249 hfw (by omega) λ m hm=>hr m (trimmed_mem hm)
theorem NumIs.agg {y:Value} {a:Int × List Int} (h:NumIs w y a):∃bb p l c,y=.agg #[.bool bb,.slice p l c]:=by
 obtain ⟨n1,m1,R,hf,_⟩:=h
 obtain ⟨fa,fc,hfy,_⟩:=hf.cells
 exact ⟨_,_,_,_,hfy⟩
theorem C189 {ts:List Tm} {mss:Nat->List Int} (h:GSt w r B P L last) {x:Nat} {t:Tm} (ht:ts[x]?=some t) {v:GV} (hv:L[gref ts x]?=some v) (hvd:GVD w B v (gdesc ts mss x)) (hkey:isKeyK t) (hw:WordsAt w t.ma (mss x)) (hml:t.ml=(mss x).length) (hmc:(mss x).length<=t.mc) (hl:(mss x).length<1000000000) (hr:∀m ∈ mss x,0<=m/\m<4294967296) (htx:t.text.size<9000000000000000000) :
  Calls Tryz.prog 189 #[.agg t.cells.toArray,.pointer (some ⟨r,0,none⟩),.int .i64 (gref ts x)] w λ e w'=>∃b,e=.returned (.tuple #[.int .i64 (hashT ts mss x),.bool b])/\Keep No w w':=by
 refine (V189_sound t.kind t.b t.neg t.ma t.ml t.mc t.text t.ka t.kl t.kc t.hash t.same _ _ w (λ y w'=>∃b,y=.tuple #[.int .i64 (hashT ts mss x),.bool b]/\Keep No w w') ?_).mono (by rintro _ w' ⟨_,rfl,b,rfl,h⟩;exact ⟨b,rfl,h⟩)
 have hh:hashT ts mss x=if t.kind=1 then hWhole true [7,0] else if t.kind=2 then hWhole false [if t.b then 1 else 0,0] else if t.kind=3 then hWhole t.neg (mss x) else if t.kind=4 then hText t.text else
  if t.hash then hWhole t.neg (mss x) else hNumber (numT t (cO ts x)):=by unfold hashT;rw [ht]
 rw [gdesc_of ht] at hvd
 unfold V189
 refine newK_of λ b w1 hs hb hk=>⟨_,hb.add 0 rfl,?_⟩
 have h1:=h.no hk
 obtain ⟨g,cap,k1,k2,k3⟩:=h1.at hv
 refine bsel_split (λ hk1=>?_) λ hk1=>?_
 ·have hk1:t.kind=1:=by simpa using hk1
  refine (C250 (-7) w1).mono ?_
  rintro _ w2 ⟨y,rfl,hy,hk2⟩
  obtain ⟨a',c',hya,hyw,hyc⟩:=hy.cells
  refine ⟨_,_,_,_,by rw [hya],(C249 hyw (by have:=trimmed_length_le (ofWords (-7));have e2:(ofWords (-7)).length=2:=rfl;omega) (λ m hm=>?_)).mono ?_⟩
  ·have:=trimmed_mem hm
   have hd:∀m ∈ ofWords (-7),0<=m/\m<4294967296:=by decide
   exact hd m this
  ·rintro _ w3 ⟨rfl,hk3⟩
   refine ⟨_,rfl,true,?_,(hk.no hk2).no hk3⟩
   have e:ofWords (-7)=[7,0]:=rfl
   rw [hWhole_form,hh,if_pos hk1,e]
   rfl
 have hk1:t.kind≠1:=by simpa using hk1
 have hnum:∀{neg:Bool} {ms:List Int},(descT t (mss x) (cO ts x)).key=some (wkey neg ms)->hashT ts mss x=hWhole neg ms->V189J1 (λ y w'=>∃b,y=.tuple #[.int .i64 (hashT ts mss x),.bool b]/\Keep No w w') (some ⟨r,0,none⟩) (gref ts x) ⟨b,0,none⟩ t.kind true w1:=by
  intro neg ms hkk hhh
  unfold V189J1
  refine bsel_pos rfl ?_
  simp only [nilK_some]
  have hvd1:GVD w1 B v (descT t (mss x) (cO ts x)):=by
   revert hvd
   cases descT t (mss x) (cO ts x) with
   | int neg ms=>rintro ⟨a1,a2,a3,a4⟩;exact ⟨a1,a2,a3.no hk,a4⟩
   | none=>exact id
   | bool b=>exact id
   | str t=>exact id
   | obj k n=>exact id
  refine ⟨_,_,_,k1,idxK_of k2 ⟨_,_,_,_,_,_,_,_,_,_,_,_,_,_,_,_,_,_,_,_,_,_,_,_,_,_,_,_,k3,(num_of hvd1 hkk).mono ?_⟩⟩
  rintro _ w2 ⟨y,rfl,hy,hk2⟩
  obtain ⟨bb,p,l,c,hya⟩:=hy.agg
  refine ⟨_,_,_,_,by rw [hya],(hash_num hy hya).mono ?_⟩
  rintro _ w3 ⟨rfl,hk3⟩
  exact ⟨_,rfl,true,by rw [hhh],(hk.no hk2).no hk3⟩
 refine bsel_split (λ hk2=>?_) λ hk2=>?_
 ·have hk2:t.kind=2:=by simpa using hk2
  rw [hk2]
  have:=hnum (neg:=false) (ms:=[if t.b then 1 else 0,0]) (by unfold descT;simp [hk2,VD.key]) (by rw [hh];simp [hk2])
  rwa [hk2] at this
 have hk2:t.kind≠2:=by simpa using hk2
 by_cases hk3:t.kind=3
 ·rw [show (t.kind == 3)=true by simp [hk3]]
  exact hnum (neg:=t.neg) (ms:=mss x) (by unfold descT;simp [hk3,VD.key]) (by rw [hh];simp [hk3])
 ·rw [show (t.kind == 3)=false by simp [hk3]]
  unfold V189J1
  refine bsel_neg rfl (bsel_split (λ hk4=>?_) λ hk4=>?_)
  ·have hk4:t.kind=4:=by simpa using hk4
   refine ⟨_,hb.add 4 rfl,(C252 t.text htx w1).mono ?_⟩
   rintro _ w2 ⟨rfl,rfl⟩
   exact ⟨_,rfl,true,by rw [hh];simp [hk4],hk⟩
  ·have hk4:t.kind≠4:=by simpa using hk4
   have hk14:t.kind=14:=by unfold isKeyK at hkey;omega
   refine bsel_pos (by simp [hk14]) ⟨_,hb.add 6 rfl,bsel_split (λ hha=>?_) λ hha=>?_⟩
   ·refine ⟨_,_,_,_,hb.cellsAdd 2 rfl,?_⟩
    rw [hml]
    refine (C249 (hw.no hk) hl hr).mono ?_
    rintro _ w2 ⟨rfl,hk2'⟩
    exact ⟨_,rfl,true,by rw [hh];simp [hk14,hha],hk.no hk2'⟩
   ·have hkd:=Keep.drawn w1
    obtain ⟨g',cap',j1,j2,j3⟩:=(h1.no hkd).at hv
    simp only [nilK_some]
    have hn:v.number=numT t (cO ts x):=by
     unfold descT at hvd
     simp [hk14] at hvd
     exact hvd.2.2.2
    refine ⟨_,_,_,j1,idxK_of j2 ⟨_,j3.get 1 rfl,_,hb.drew.add 7 rfl,(C253 _ _).mono ?_⟩⟩
    rintro _ w2 ⟨rfl,rfl⟩
    exact ⟨_,rfl,hb.drew.add 7 rfl,!t.same,by rw [hh,hn];simp [hk14,hha],hk.no hkd⟩
end
end Go.Fw

namespace Go.Fw
open Go.Proofs Go.RowKit
def RPutOut (alike:Int->Bool) (D:RDc) (hash key value:Int) (l:List Nat) (D':RDc):Prop:=
 (∃(pre:List Nat) (i:Nat) (l':List Nat) (e:Ent),l=pre ++ i :: l'/\(∀j ∈ pre,∀e:Ent,D.T.es[j]?=some e->e.key≠key/\alike e.key=false)/\D.T.es[i]?=some e/\(e.key=key\/alike e.key=true)/\D'=D.put i e value)\/
 ((∀i ∈ l,∀e,D.T.es[i]?=some e->e.key≠key/\alike e.key=false)/\RAddOut D hash key value D')
structure RDcOk (D:RDc):Prop where
 ok:RTbOk D.T
 births:D.T.births=D.T.es.length
 len:(D.T.es.length:Int)<=D.most
theorem RPutOut.es {alike:Int->Bool} {D D':RDc} {hash key value:Int} (h:RPutOut alike D hash key value (hits D.T.es hash) D') (hok:RDcOk D) :
  RDcOk D'/\D'.T.es=putEs alike D.most D.T.es hash key value/\D'.most=D.most/\D'.T.turns<=D.T.turns+1/\D'.T.made<=D.T.made+1:=by
 obtain ⟨ho,hb,hl⟩:=hok
 rcases h with ⟨pre,i,l',e,h1,h2,h3,h4,rfl⟩ | ⟨h1,h2⟩
 ·refine ⟨⟨ho.put h3 value,by simp [RDc.put,RTb.put,hb],by simpa [RDc.put,RTb.put] using hl⟩,?_,rfl,by simp [RDc.put,RTb.put];omega,by simp [RDc.put,RTb.put];omega⟩
  unfold putEs
  have hf:(hits D.T.es hash).find? (λ i=>(D.T.es[i]?).any λ e=>e.key == key || alike e.key)=some i:=by
   rw [h1]
   refine find_pre (λ j hj=>?_) ?_
   ·obtain ⟨ej,hej⟩:=hits_get (es:=D.T.es) (hash:=hash) (i:=j) (by rw [h1];simp [hj])
    obtain ⟨q1,q2⟩:=h2 j hj ej hej
    simp [hej,q1,q2]
   ·simp only [h3,Option.any_some]
    rcases h4 with q | q <;> simp [q]
  rw [hf]
  simp [h3,RDc.put,RTb.put]
 ·have hf:(hits D.T.es hash).find? (λ i=>(D.T.es[i]?).any λ e=>e.key == key || alike e.key)=none:=by
   rw [List.find?_eq_none]
   intro j hj
   obtain ⟨ej,hej⟩:=hits_get hj
   obtain ⟨q1,q2⟩:=h1 j hj ej hej
   simp [hej,q1,q2]
  unfold putEs
  rw [hf]
  rcases h2 with ⟨q1,rfl⟩ | ⟨q1,q2,q3,q4,q5,q6,q7⟩
  ·exact ⟨⟨ho,hb,hl⟩,by simp only;rw [if_pos q1],rfl,by omega,by omega⟩
  ·refine ⟨⟨q2,by rw [q3,q5];simp;omega,by rw [q3,q4];simp;omega⟩,?_,q4,by omega,q7⟩
   simp only
   rw [if_neg (by omega),q3,hb]
def rM0 (d:Nat) (hash key value:Int):RMc:=⟨d,hash,key,value,none,0,0,false,false,false,⟨0,0,false,0,0⟩,0⟩
def askM (d:Nat) (hash key value:Int) (sk i:Nat) (k' ver sc:Int) (waits same:Bool):RMc:=⟨d,hash,key,value,some sk,ver,i,waits,same,false,askT k',sc⟩
section
variable {w w':World} {R d mc m:Nat} {D:RDc} {hash key value:Int} {alike:Int->Bool}
def PStep (R d mc m:Nat) (D:RDc) (hash key value:Int) (alike:Int->Bool) (w0:World) (n:Nat) (t:Trn) (w:World):Prop:=
 (t.kind≠1/\∃D',RPutOut alike D hash key value (hits D.T.es hash) D'/\RDictAt w R d mc D'/\CntAt w mc/\(∀k,D'.own d k->D.own d k\/w0.heap.size<=k)/\Keep (RPf D d mc w0.heap.size) w0 w)\/
 (∃(pre:List Nat) (i:Nat) (l':List Nat) (e:Ent) (x':Nat × Nat) (m' sk:Nat) (sc:Int),hits D.T.es hash=pre ++ i :: l'/\(∀j ∈ pre,∀e:Ent,D.T.es[j]?=some e->e.key≠key/\alike e.key=false)/\D.T.es[i]?=some e/\e.key≠key/\t=askT e.key/\RDictAt w R d mc D/\CntAt w mc/\
  RMachAt w m (askM d hash key value sk i e.key D.ver sc true false)/\RSeekAt w sk D.t hash x' D.T.turns i false/\w0.heap.size<=sk/\(x'.1<2 ^ D.T.log/\x'.2<18446744073709551616)/\Scan D.T.es D.T.log D.T.cells hash m' x' i l'/\Keep (RPf D d mc w0.heap.size) w0 w/\l'.length+1<n)
def PGo (R d mc m:Nat) (D:RDc) (hash key value:Int) (alike:Int->Bool) (w0:World) (n:Nat) (w:World):Prop:=
 Keep (RPf D d mc w0.heap.size) w0 w/\CntAt w mc/\RDictAt w R d mc D/\
 ((n=(hits D.T.es hash).length+2/\RMachAt w m (rM0 d hash key value))\/
  (∃(pre:List Nat) (i:Nat) (l':List Nat) (e:Ent) (x':Nat × Nat) (m' sk:Nat) (sc:Int),n=l'.length+1/\hits D.T.es hash=pre ++ i :: l'/\(∀j ∈ pre,∀e:Ent,D.T.es[j]?=some e->e.key≠key/\alike e.key=false)/\D.T.es[i]?=some e/\e.key≠key/\
  RMachAt w m (askM d hash key value sk i e.key D.ver sc false (alike e.key))/\RSeekAt w sk D.t hash x' D.T.turns i false/\w0.heap.size<=sk/\(x'.1<2 ^ D.T.log/\x'.2<18446744073709551616)/\Scan D.T.es D.T.log D.T.cells hash m' x' i l'))
theorem PGo.uniq {w0:World} {n n':Nat} (h:PGo R d mc m D hash key value alike w0 n w) (h':PGo R d mc m D hash key value alike w0 n' w):n=n':=by
 obtain ⟨_,_,_,h⟩:=h
 obtain ⟨_,_,_,h'⟩:=h'
 rcases h with ⟨h1,h2⟩ | ⟨pre,i,l',e,x',m',sk,sc,h1,h2,h3,h4,h5,h6,_⟩ <;> rcases h' with ⟨k1,k2⟩ | ⟨pre',i',l'',e',x'',m'',sk',sc',k1,k2,k3,k4,k5,k6,_⟩
 ·omega
 ·have:=(h2.uniq k6).2
  simp [RMc.cells,rM0,askM] at this
 ·have:=(h6.uniq k2).2
  simp [RMc.cells,rM0,askM] at this
 ·have:=(h6.uniq k6).2
  simp [RMc.cells,askM] at this
  have hi:i=i':=Int.ofNat_inj.1 this.2.1
  subst hi
  rw [h2] at k2
  have hnd:=hits_nodup D.T.es hash
  rw [h2] at hnd
  rw [h1,k1,nodup_split hnd k2]
theorem pgo_step {w0:World} {n:Nat} (h:PGo R d mc m D hash key value alike w0 n w) (ho:RTbOk D.T) (hR:R<=w0.heap.size) (hl3:3*D.T.es.length<=1048576) (hn:D.T.births<1000000000000/\D.T.turns<1000000000000/\D.T.made<1000000000000) (hm0:w0.heap.size<=m) :
  Calls Tryz.prog 255 #[.pointer (some ⟨m,0,none⟩)] w λ e w'=>∃t:Trn,e=.returned t.val/\PStep R d mc m D hash key value alike w0 n t w':=by
 obtain ⟨hk,hc,hD,hcase⟩:=h
 have hs:=hk.size
 refine Calls.mono (R:=λ e w'=>∃v,e=.returned v/\∃t:Trn,v=t.val/\PStep R d mc m D hash key value alike w0 n t w') ?_ (by rintro _ w' ⟨_,rfl,t,rfl,h⟩;exact ⟨t,rfl,h⟩)
 rcases hcase with ⟨rfl,hm⟩ | ⟨pre,i,l',e,x',m',sk,sc,rfl,h2,h3,h4,h5,hm,hsk,hskl,hx,hsc⟩
 ·refine C255_start (B0:=w0.heap.size) (M:=rM0 d hash key value) hD hm ⟨rfl,rfl,rfl,rfl⟩ hc ho (by omega) hl3 hn ⟨hm0,hs⟩ ⟨?_,?_,?_⟩
  ·intro hl t D' w' q1 q2 q3 q4 q5 q6
   exact ⟨t,rfl,.inl ⟨q1,D',.inr ⟨λ i hi=>by rw [show hits D.T.es hash=[] from hl] at hi;simp at hi,q2⟩,q3,q4,q5,hk.trans q6 λ _ _ e=>e⟩⟩
  ·intro i l' e w' hl q1 q2 q3 q4 q5
   exact ⟨_,rfl,.inl ⟨by show (2:Int)≠1;decide,_,.inl ⟨[],i,l',e,hl,λ j hj=>by simp at hj,q1,.inl q2,rfl⟩,q3,q4,λ k hk=>.inl hk,hk.trans q5 λ _ _ e=>e⟩⟩
  ·intro i l' e x' m' sk M' w' hl q1 q2 q3 q4 q5 q6 q7 q8 q9 q10 q11
   have hM':M'=askM d hash key value sk i e.key D.ver M'.scans true false:=q6
   rw [hM'] at q5
   have hl':hits D.T.es hash=i :: l':=hl
   exact ⟨_,rfl,.inr ⟨[],i,l',e,x',m',sk,_,hl,λ j hj=>by simp at hj,q1,q2,rfl,q3,q4,q5,q7,q8,q9,q10,hk.trans q11 λ _ _ e=>e,by rw [hl'];simp⟩⟩
 ·have hle:∀j ∈ l',∃e,D.T.es[j]?=some e:=λ j hj=>hits_get (hash:=hash) (by rw [h2];simp [hj])
  have hel:=ho.live e (List.mem_of_getElem? h4)
  cases hb:alike e.key
  ·rw [hb] at hm
   have hpre:∀j ∈ pre ++ [i],∀e':Ent,D.T.es[j]?=some e'->e'.key≠key/\alike e'.key=false:=by
    intro j hj e' he'
    rcases List.mem_append.1 hj with hj | hj
    ·exact h3 j hj e' he'
    ·simp at hj
     subst hj
     rw [h4] at he';cases he'
     exact ⟨h5,hb⟩
   refine C255_go (B0:=w0.heap.size) (M:=askM d hash key value sk i e.key D.ver sc false false) hD hm ⟨rfl,rfl,rfl,rfl,rfl⟩ hsk hx (by omega) hsc hle hc ho (by omega) hl3 hn ⟨hm0,hs,hskl⟩ ⟨?_,?_,?_⟩
   ·intro hl t D' w' q1 q2 q3 q4 q5 q6
    exact ⟨t,rfl,.inl ⟨q1,D',.inr ⟨λ j hj e' he'=>hpre j (by rw [h2,hl] at hj;exact hj) e' he',q2⟩,q3,q4,q5,hk.trans q6 λ _ _ e=>e⟩⟩
   ·intro i2 l2 e2 w' hl q1 q2 q3 q4 q5
    exact ⟨_,rfl,.inl ⟨by show (2:Int)≠1;decide,_,.inl ⟨pre ++ [i],i2,l2,e2,by rw [h2,hl];simp,hpre,q1,.inl q2,rfl⟩,q3,q4,λ k hk=>.inl hk,hk.trans q5 λ _ _ e=>e⟩⟩
   ·intro i2 l2 e2 x2 m2 sk2 M2 w' hl q1 q2 q3 q4 q5 q6 q7 q8 q9 q10 q11
    have hM':M2=askM d hash key value sk2 i2 e2.key D.ver M2.scans true false:=q6
    rw [hM'] at q5
    exact ⟨_,rfl,.inr ⟨pre ++ [i],i2,l2,e2,x2,m2,sk2,_,by rw [h2,hl];simp,hpre,q1,q2,rfl,q3,q4,q5,q7,q8,q9,q10,hk.trans q11 λ _ _ e=>e,by rw [hl];simp⟩⟩
  ·rw [hb] at hm
   refine C255_same (B0:=w0.heap.size) (M:=askM d hash key value sk i e.key D.ver sc false true) hD hm ⟨rfl,rfl,rfl,rfl,rfl,rfl⟩ h4 hel hc ⟨hm0,hs⟩ ?_
   intro w' q1 q2 q3
   exact ⟨_,rfl,.inl ⟨by show (2:Int)≠1;decide,_,.inl ⟨pre,i,l',e,h2,h3,h4,.inr hb,rfl⟩,q1,q2,λ k hk=>.inl hk,hk.trans q3 λ _ _ e=>e⟩⟩
theorem C190 {r B:Nat} {P:GP} {L:List GV} {last:Int} (h:GSt w r B P L last) {v:GV} {vi:Nat} (hv:L[vi]?=some v) (hd:v.d=some ⟨d,0,none⟩) (hD:RDictAt w R d P.mc D) (hok:RDcOk D) (hmost:D.most<=65536) (hn:D.T.turns<1000000000000/\D.T.made<1000000000000) (hR:R<=w.heap.size)
  (hal:∀w1 k',Keep (RPf D d P.mc w.heap.size) w w1->CntAt w1 P.mc->(∃e ∈ D.T.es,e.key=k')->Calls Tryz.prog 257 #[.pointer (some ⟨r,0,none⟩),.int .i64 k',.int .i64 key] w1 λ e w'=>e=.returned (.bool (alike k'))/\Keep No w1 w') :
  Calls Tryz.prog 190 #[.pointer (some ⟨r,0,none⟩),.int .i64 vi,.int .i64 hash,.int .i64 key,.int .i64 value] w λ e w'=>e=.returned (.tuple #[])/\∃D',RDictAt w' R d P.mc D'/\RDcOk D'/\D'.T.es=putEs alike D.most D.T.es hash key value/\D'.most=D.most/\D'.T.turns<=D.T.turns+1/\D'.T.made<=D.T.made+1/\CntAt w' P.mc/\(∀k,D'.own d k->D.own d k\/w.heap.size<=k)/\Keep (RPf D d P.mc w.heap.size) w w':=by
 refine ret_mono (V190_sound _ vi hash key value w (λ x w'=>x=.tuple #[]/\∃D',RDictAt w' R d P.mc D'/\RDcOk D'/\D'.T.es=putEs alike D.most D.T.es hash key value/\D'.most=D.most/\D'.T.turns<=D.T.turns+1/\D'.T.made<=D.T.made+1/\CntAt w' P.mc/\(∀k,D'.own d k->D.own d k\/w.heap.size<=k)/\Keep (RPf D d P.mc w.heap.size) w w') ?_) (by rintro _ _ ⟨rfl,h⟩;exact ⟨rfl,h⟩)
 unfold V190
 obtain ⟨g,cap,h1,h2,h3⟩:=h.at hv
 have hlen:=hok.len
 have hbi:=hok.births
 simp only [nilK_some]
 refine ⟨_,_,_,h1,idxK_of h2 ⟨some ⟨d,0,none⟩,by rw [<-hd];exact h3.get 8 rfl,(C254 d hash key value w).mono ?_⟩⟩
 rintro _ w1 ⟨m,rfl,hm,hmw,hk1⟩
 have hm0:w.heap.size<=m:=by omega
 have hG0:PGo R d P.mc m D hash key value alike w ((hits D.T.es hash).length+2) w1:=⟨Keep.of_no hk1,h.cnt.no hk1,hD.no hk1,.inl ⟨rfl,hm⟩⟩
 refine ⟨_,rfl,λ w2=>∃n,PGo R d P.mc m D hash key value alike w n w2,ghost (PGo R d P.mc m D hash key value alike w),⟨_,hG0⟩,?_⟩
 rintro _ w2 ⟨n,hG⟩
 have hg2:=ghost_eq (λ _ _ _ a b=>a.uniq b) hG
 rw [hg2]
 refine (pgo_step hG hok.ok hR (by omega) ⟨by omega,hn⟩ hm0).mono ?_
 rintro _ w3 ⟨t,rfl,hP⟩
 refine ⟨_,_,_,_,_,rfl,copy5 λ a w4 ha hk4 hs4=>⟨_,ha.add 0 rfl,bsel_split (λ hne=>?_) λ heq=>?_⟩⟩
 ·have hne:t.kind≠1:=by simpa using hne
  rcases hP with ⟨_,D',hout,h5,hc5,hown,hk5⟩ | ⟨pre,i,l',e,x',m',sk,sc,_,_,_,_,rfl,_⟩
  ·obtain ⟨r1,r2,r3,r4,r5⟩:=hout.es hok
   exact ⟨by trivial,D',h5.no hk4,r1,r2,r3,r4,r5,hc5.no hk4,hown,hk5.no hk4⟩
  ·exact absurd rfl hne
 ·have heq:t.kind=1:=by simpa using heq
  rcases hP with ⟨hne,_⟩ | ⟨pre,i,l',e,x',m',sk,sc,p1,p2,p3,p4,rfl,p6,p7,p8,p9,p10,p11,p12,p13,p14⟩
  ·exact absurd heq hne
  ·refine ⟨_,ha.add 1 rfl,(hal w4 e.key (p13.no hk4) (p7.no hk4) ⟨e,List.mem_of_getElem? p3,rfl⟩).mono ?_⟩
   rintro _ w5 ⟨rfl,hk5⟩
   have hk45:=hk4.no hk5
   have hm5:RMachAt w5 m (askM d hash key value sk i e.key D.ver sc true false):=p8.keep hk45 id
   refine ⟨_,rfl,(C256 hm5 ⟨rfl,rfl⟩ (alike e.key)).mono ?_⟩
   rintro _ w6 ⟨rfl,hm6,hk6⟩
   have hm6:RMachAt w6 m (askM d hash key value sk i e.key D.ver sc false (alike e.key)):=hm6
   have hD5:=p6.no hk45
   have hmo:¬D.own d m:=hD5.not_own hm5.etype (by rintro _ ⟨⟩;decide)
   have hsk5:=p9.keep hk45 id
   have hsm:sk≠m:=rsk_ne hsk5 hm5 (by decide)
   have hcm:P.mc≠m:=cnt_ne (p7.no hk45) hm5 (by decide)
   have hG6:PGo R d P.mc m D hash key value alike w (l'.length+1) w6:=⟨(p13.no hk45).trans hk6 λ k _ e=>RPf.of (M:=rM0 d hash key value) (by subst e;exact hm0),(p7.no hk45).keep hk6 hcm,hD5.keep hk6 λ k hk e=>hmo (e ▸ hk),.inr ⟨pre,i,l',e,x',m',sk,sc,rfl,p1,p2,p3,p4,hm6,hsk5.keep hk6 hsm,p10,p11,p12⟩⟩
   refine ⟨_,rfl,⟨_,hG6⟩,?_⟩
   rw [ghost_eq (λ _ _ _ a b=>a.uniq b) hG6]
   exact p14
end
end Go.Fw

namespace Go.Fw
open Go.Proofs Go.RowKit
section
variable (w:World) (r B:Nat) (P:GP) (A:Nat->Prop) (ts:List Tm) (mss kss:Nat->List Int)
structure FamN (f:Nat):Prop where
 ex:∃t T,Blk w f 407 [.int .i64 P.shared,.int .i64 P.pairs,.pointer (some ⟨t,0,none⟩),.slice none 0 0,.pointer (some ⟨P.mc,0,none⟩)]/\RTabAt w B t P.mc T/\T.es=[]/\∀k,T.own t k->¬A k
 ge:B<=f
structure GIs (ks:List Int) (x:Nat) (t:Tm) (v:GV):Prop where
 vd:GVD w B v (gdesc ts mss x)
 gone:v.gone=false
 kind:v.kind=t.kind
 tab:t.kind=7\/t.kind=8\/t.kind=9->∃d D,v.d=some ⟨d,0,none⟩/\RDictAt w B d P.mc D/\RDcOk D/\D.most=P.pairs/\D.T.es=tabEs ts mss P.pairs t ks (keysL t ks).length/\∀k,D.own d k->¬A k
 row:t.kind=5->v.il=t.kl/\w.ownsRow B 3 1 (.slice v.ia v.il v.ic) t.kl (ints (ks.map λ k=>(gref ts k.toNat:Int)))/\∀g,(Value.slice v.ia v.il v.ic).ownBlock=some g->¬A g
 list:t.kind=6->v.ia=none/\v.il=0/\v.ic=0
 view:15<=t.kind->∃k:Nat,ks[0]?=some (k:Int)/\v.of_=gref ts k
 inst:t.kind=14->∃sp f,v.sp=some ⟨sp,0,none⟩/\v.cls+1=gref ts x/\Blk w sp 409 [.pointer (some ⟨f,0,none⟩),.slice none 0 0,.pointer none,.int .i64 0]/\FamN w B P A f
structure GCls (x:Nat) (t:Tm) (u:GV):Prop where
 kind:u.kind=13
 gone:u.gone=false
 hash:u.hash=t.hash
 same:u.same=t.same
 num:u.number=numT t (cO ts x)-1
 base:u.base=-1
 dict:∃d D,u.d=some ⟨d,0,none⟩/\RDictAt w B d P.mc D/\D.T.es=[]/\∀k,D.own d k->¬A k
def g0:List GV:=[{ gz with kind:=1 },{ gz with kind:=2 },{ gz with kind:=2,b:=true }]
structure GM (m:Nat) (L:List GV) (last:Int):Prop where
 le:m<=ts.length
 st:GSt w r B P L last
 len:L.length=3+cV ts m
 last:last=cO ts m
 pre:∃l,L=g0 ++ l
 mcge:B<=P.mc
 val:∀x t,ts[x]?=some t->x<m->∃v,L[gref ts x]?=some v/\GIs w B P A ts mss (kss x) x t v
 cls:∀x t,ts[x]?=some t->x<m->t.kind=14->∃u,L[gref ts x-1]?=some u/\GCls w B P A ts x t u
end
section
variable {w w':World} {r B:Nat} {P:GP} {A:Nat->Prop} {ts:List Tm} {mss kss:Nat->List Int} {fp:Nat->Prop}
def GQuiet (w:World) (fp:Nat->Prop):Prop:=∀k,k<w.heap.size->fp k->∀e,etype w k=some e->e ∈ gTy
theorem GVD.keep {v:GV} {d:VD} (h:GVD w B v d) (hk:Keep fp w w') (hq:GQuiet w fp):GVD w' B v d:=by
 cases d with
 | int neg ms=>
  obtain ⟨a1,a2,a3,a4⟩:=h
  refine ⟨a1,a2,?_,a4⟩
  obtain ⟨s,⟨a,c,h1,h2,h3,h4⟩,h5⟩:=a3
  refine ⟨s,⟨a,c,h1,h2.keep hk λ p hp hf=>?_,h3,λ p hp=>?_⟩,h5⟩
  ·obtain ⟨_,q2,q3⟩:=h4 p hp
   exact absurd (hq _ q2 hf _ q3) (by decide)
  ·obtain ⟨q1,q2,q3⟩:=h4 p hp
   refine ⟨q1,by have:=hk.size;omega,?_⟩
   rw [hk.ett q2 λ hf=>absurd (hq _ q2 hf _ q3) (by decide)]
   exact q3
 | none=>exact h
 | bool b=>exact h
 | str t=>exact h
 | obj k n=>exact h
theorem RDictAt.quiet {R d mc:Nat} {D:RDc} (h:RDictAt w R d mc D) (hk:Keep fp w w') (hq:GQuiet w fp):RDictAt w' R d mc D:=h.keep hk λ k hk' hf=>by
 obtain ⟨_,hl,e,he,hm⟩:=h.ty hk'
 have:=hq k hl hf e he
 have hd:∀e ∈ rdictTy,e ∉ gTy:=by decide
 exact hd e hm this
theorem FamN.quiet {f:Nat} (h:FamN w B P A f) (hk:Keep fp w w') (hq:GQuiet w fp):FamN w' B P A f:=by
 obtain ⟨⟨t,T,h1,h2,h3,h5⟩,h4⟩:=h
 refine ⟨⟨t,T,hk.blk h1 λ hf=>absurd (hq _ h1.lt hf _ h1.etype) (by decide),h2.keep hk λ k hk' hf=>?_,h3,h5⟩,h4⟩
 obtain ⟨_,hl,e,he,hm⟩:=h2.ty hk'
 have hd:∀e ∈ rtabTy,e ∉ gTy:=by decide
 exact hd e hm (hq k hl hf e he)
theorem FamR.famN {R f:Nat} (h:FamR w R f P) (hB:B<=R) (hA:∀k,A k->k<R):FamN w B P A f:=by
 obtain ⟨⟨t,T,h1,h2,h3⟩,h4⟩:=h
 exact ⟨⟨t,T,h1,h2.mono hB,h3,λ k hk ha=>by have:=(h2.ty hk).1;have:=hA k ha;omega⟩,by omega⟩
theorem GIs.keep {ks:List Int} {x:Nat} {t:Tm} {v:GV} (h:GIs w B P A ts mss ks x t v) (hk:Keep fp w w') (hq:GQuiet w fp):GIs w' B P A ts mss ks x t v:=by
 obtain ⟨h1,h2,h3,h4,h5,hli,h6,h7⟩:=h
 refine ⟨h1.keep hk hq,h2,h3,λ ht=>?_,λ ht=>?_,hli,h6,λ ht=>?_⟩
 ·obtain ⟨d,D,q1,q2,q3⟩:=h4 ht
  exact ⟨d,D,q1,q2.quiet hk hq,q3⟩
 ·obtain ⟨q1,q2,q3⟩:=h5 ht
  exact ⟨q1,hk.row q2 λ g hg hf=>absurd (hq g (q2.lt g hg).2 hf _ (ownsRow_etype q2 hg)) (by decide),q3⟩
 ·obtain ⟨sp,f,q1,q2,q3,q4⟩:=h7 ht
  exact ⟨sp,f,q1,q2,hk.blk q3 λ hf=>absurd (hq _ q3.lt hf _ q3.etype) (by decide),q4.quiet hk hq⟩
theorem GCls.keep {x:Nat} {t:Tm} {u:GV} (h:GCls w B P A ts x t u) (hk:Keep fp w w') (hq:GQuiet w fp):GCls w' B P A ts x t u:=by
 obtain ⟨a,b,c,d,e,f,⟨cd,CD,q1,q2,q3⟩⟩:=h
 exact ⟨a,b,c,d,e,f,cd,CD,q1,q2.quiet hk hq,q3⟩
theorem gfc_quiet {L:List GV} {last:Int} (h:GSt w r B P L last):GQuiet w (GFc r B P.mc w):=by
 rintro k _ hf e he
 rcases hf with (rfl | ⟨_,hf⟩) | rfl
 ·rw [h.etype] at he;cases he;decide
 ·rw [hf] at he;cases he;decide
 ·rw [h.cnt.etype] at he;cases he;decide
variable {m:Nat} {L:List GV} {last:Int} {t:Tm}
theorem GM.no (h:GM w r B P A ts mss kss m L last) (hk:Keep No w w'):GM w' r B P A ts mss kss m L last:=by
 have hq:GQuiet w No:=λ _ _ hf=>hf.elim
 exact ⟨h.le,h.st.no hk,h.len,h.last,h.pre,h.mcge,λ x u hu hx=>by obtain ⟨v,q1,q2⟩:=h.val x u hu hx;exact ⟨v,q1,q2.keep hk hq⟩,λ x u hu hx h14=>by obtain ⟨v,q1,q2⟩:=h.cls x u hu hx h14;exact ⟨v,q1,q2.keep hk hq⟩⟩
theorem not3 (h3:∀k,k<w.heap.size->A k->etype w k=some 3) {b:Nat} {e:TypeId} (hlt:b<w.heap.size) (he:etype w b=some e) (hn:e≠3):¬A b:=λ hf=>hn (by have:=h3 _ hlt hf;rw [he] at this;exact Option.some.inj this)
theorem FamN.keepA {f:Nat} (h:FamN w B P A f) (hk:Keep A w w') (h3:∀k,k<w.heap.size->A k->etype w k=some 3):FamN w' B P A f:=by
 obtain ⟨⟨t,T,h1,h2,h4,h5⟩,h6⟩:=h
 exact ⟨⟨t,T,hk.blk h1 (not3 h3 h1.lt h1.etype (by decide)),h2.keep hk h5,h4,h5⟩,h6⟩
theorem GIs.keepA {ks:List Int} {x:Nat} {t:Tm} {v:GV} (h:GIs w B P A ts mss ks x t v) (hk:Keep A w w') (h3:∀k,k<w.heap.size->A k->etype w k=some 3):GIs w' B P A ts mss ks x t v:=by
 obtain ⟨h1,h2,hkd,h4,h5,hli,h6,h7⟩:=h
 refine ⟨?_,h2,hkd,λ ht=>?_,λ ht=>?_,hli,h6,λ ht=>?_⟩
 ·revert h1
  cases gdesc ts mss x with
  | int neg ms=>
   rintro ⟨a1,a2,a3,a4⟩
   refine ⟨a1,a2,?_,a4⟩
   obtain ⟨s,⟨a,c,b1,b2,b3,b4⟩,b5⟩:=a3
   have hno:∀p,a=some p->¬A p.block:=λ p hp=>by
    obtain ⟨_,q2,q3⟩:=b4 p hp
    exact not3 h3 q2 q3 (by decide)
   refine ⟨s,⟨a,c,b1,b2.keep hk λ p hp=>hno p hp,b3,λ p hp=>?_⟩,b5⟩
   obtain ⟨q1,q2,q3⟩:=b4 p hp
   refine ⟨q1,by have:=hk.size;omega,?_⟩
   rw [hk.ett q2 (hno p hp)]
   exact q3
  | none=>exact id
  | bool b=>exact id
  | str t=>exact id
  | obj k n=>exact id
 ·obtain ⟨d,D,q1,q2,q3,q4,q5,q6⟩:=h4 ht
  exact ⟨d,D,q1,q2.keep hk q6,q3,q4,q5,q6⟩
 ·obtain ⟨q1,q2,q3⟩:=h5 ht
  exact ⟨q1,hk.row q2 q3,q3⟩
 ·obtain ⟨sp,f,q1,q2,q3,q4⟩:=h7 ht
  exact ⟨sp,f,q1,q2,hk.blk q3 (not3 h3 q3.lt q3.etype (by decide)),q4.keepA hk h3⟩
theorem GCls.keepA {x:Nat} {t:Tm} {u:GV} (h:GCls w B P A ts x t u) (hk:Keep A w w'):GCls w' B P A ts x t u:=by
 obtain ⟨a,b,c,d,e,f,⟨cd,CD,q1,q2,q3,q4⟩⟩:=h
 exact ⟨a,b,c,d,e,f,cd,CD,q1,q2.keep hk q4,q3,q4⟩
theorem GM.keepA {m:Nat} {L:List GV} {last:Int} (h:GM w r B P A ts mss kss m L last) (hk:Keep A w w') (h3:∀k,k<w.heap.size->A k->etype w k=some 3):GM w' r B P A ts mss kss m L last:=by
 refine ⟨h.le,?_,h.len,h.last,h.pre,h.mcge,λ x u hu hx=>by obtain ⟨v,q1,q2⟩:=h.val x u hu hx;exact ⟨v,q1,q2.keepA hk h3⟩,λ x u hu hx h14=>by obtain ⟨v,q1,q2⟩:=h.cls x u hu hx h14;exact ⟨v,q1,q2.keepA hk⟩⟩
 obtain ⟨⟨lv,h1,h2⟩,hs,h4,h5⟩:=h.st
 refine ⟨⟨lv,hk.blk h1 (not3 h3 h1.lt h1.etype (by decide)),hk.row h2 λ g hg hf=>by have:=h3 _ (h2.lt g hg).2 hf;rw [ownsRow_etype h2 hg] at this;cases this⟩,hs,h4,h5.keep hk (not3 h3 h5.lt h5.etype (by decide))⟩
theorem GM.apart {A':Nat->Prop} {m:Nat} {L:List GV} {last:Int} (h:GM w r B P A ts mss kss m L last) (hA:∀k,k<w.heap.size->A' k->A k):GM w r B P A' ts mss kss m L last:=by
 refine ⟨h.le,h.st,h.len,h.last,h.pre,h.mcge,λ x u hu hx=>?_,λ x u hu hx h14=>?_⟩
 ·obtain ⟨v,q1,⟨h1,h2,hkd,h4,h5,hli,h6,h7⟩⟩:=h.val x u hu hx
  refine ⟨v,q1,h1,h2,hkd,λ ht=>?_,λ ht=>?_,hli,h6,λ ht=>?_⟩
  ·obtain ⟨d,D,q1,q2,q3,q4,q5,q6⟩:=h4 ht
   exact ⟨d,D,q1,q2,q3,q4,q5,λ k hk ha=>q6 k hk (hA k (q2.ty hk).2.1 ha)⟩
  ·obtain ⟨q1,q2,q3⟩:=h5 ht
   exact ⟨q1,q2,λ g hg ha=>q3 g hg (hA g (q2.lt g hg).2 ha)⟩
  ·obtain ⟨sp,f,q1,q2,q3,⟨⟨t',T,f1,f2,f3,f4⟩,f5⟩⟩:=h7 ht
   exact ⟨sp,f,q1,q2,q3,⟨⟨t',T,f1,f2,f3,λ k hk ha=>f4 k hk (hA k (f2.ty hk).2.1 ha)⟩,f5⟩⟩
 ·obtain ⟨v,q1,⟨a,b,c,d,e,f,⟨cd,CD,g1,g2,g3,g4⟩⟩⟩:=h.cls x u hu hx h14
  exact ⟨v,q1,a,b,c,d,e,f,cd,CD,g1,g2,g3,λ k hk ha=>g4 k hk (hA k (g2.ty hk).2.1 ha)⟩
theorem GM.more (h:GM w r B P A ts mss kss m L last) (hk:Keep (GFc r B P.mc w) w w') (ht:ts[m]?=some t) {v:GV} {last':Int} (hst:GSt w' r B P (L ++ [v]) last') (hx:GIs w' B P A ts mss (kss m) m t v) (hv:nV t=1) (h14:t.kind≠14) (hg:gref ts m=L.length) (hlast:last'=cO ts (m+1)):GM w' r B P A ts mss kss (m+1) (L ++ [v]) last':=by
 have hq:=gfc_quiet h.st
 obtain ⟨l,hl⟩:=h.pre
 have hcv:=cV_succ ht
 have hlt:=(List.getElem?_eq_some_iff.1 ht).1
 have hgrow:∀(n:Nat) (y:GV),L[n]?=some y->(L ++ [v])[n]?=some y:=λ n y hn=>by rw [List.getElem?_append_left (List.getElem?_eq_some_iff.1 hn).1];exact hn
 refine ⟨by omega,hst,by simp [h.len];omega,hlast,⟨l ++ [v],by rw [hl,List.append_assoc]⟩,h.mcge,λ x u hu hx'=>?_,λ x u hu hx' hu14=>?_⟩
 ·by_cases hc:x=m
  ·subst hc
   rw [ht] at hu;cases hu
   exact ⟨v,by rw [hg];simp,hx⟩
  ·obtain ⟨y,q1,q2⟩:=h.val x u hu (by omega)
   exact ⟨y,hgrow _ _ q1,q2.keep hk hq⟩
 ·by_cases hc:x=m
  ·subst hc
   rw [ht] at hu;cases hu
   exact absurd hu14 h14
  ·obtain ⟨y,q1,q2⟩:=h.cls x u hu (by omega) hu14
   exact ⟨y,hgrow _ _ q1,q2.keep hk hq⟩
theorem GM.same (h:GM w r B P A ts mss kss m L last) (hk:Keep No w w') (ht:ts[m]?=some t) (h12:t.kind=1\/t.kind=2):GM w' r B P A ts mss kss (m+1) L last:=by
 have hq:GQuiet w No:=λ _ _ hf=>hf.elim
 have hcv:=cV_succ ht
 have hco:=cO_succ ht
 have hlt:=(List.getElem?_eq_some_iff.1 ht).1
 have e1:nV t=0:=by unfold nV;rw [if_pos h12]
 have e2:nO t=0:=by unfold nO;rw [if_pos (by omega)]
 obtain ⟨l,hl⟩:=h.pre
 refine ⟨by omega,h.st.no hk,by rw [h.len];omega,by rw [h.last];omega,h.pre,h.mcge,λ x u hu hx'=>?_,λ x u hu hx' hu14=>?_⟩
 ·by_cases hc:x=m
  ·subst hc
   rw [ht] at hu;cases hu
   have hd:=gdesc_of (mss:=mss) ht
   have hgr:=gref_of ht
   rcases h12 with h1 | h2
   ·refine ⟨{ gz with kind:=1 },?_,⟨by rw [hd];simp [descT,h1,GVD,gz],rfl,h1.symm,λ hc=>by omega,λ hc=>by omega,λ hc=>by omega,λ hc=>by omega,λ hc=>by omega⟩⟩
    rw [hgr,hl];simp [refT,h1,g0]
   ·refine ⟨{ gz with kind:=2,b:=t.b },?_,⟨by rw [hd];simp [descT,h2,GVD,gz],rfl,h2.symm,λ hc=>by omega,λ hc=>by omega,λ hc=>by omega,λ hc=>by omega,λ hc=>by omega⟩⟩
    rw [hgr,hl]
    cases hb:t.b <;> simp [refT,h2,hb,g0,gz]
  ·obtain ⟨y,q1,q2⟩:=h.val x u hu (by omega)
   exact ⟨y,q1,q2.keep hk hq⟩
 ·by_cases hc:x=m
  ·subst hc
   rw [ht] at hu;cases hu
   omega
  ·obtain ⟨y,q1,q2⟩:=h.cls x u hu (by omega) hu14
   exact ⟨y,q1,q2.keep hk hq⟩
theorem GM.inst (h:GM w r B P A ts mss kss m L last) (hk:Keep (GFc r B P.mc w) w w') (ht:ts[m]?=some t) (h14:t.kind=14) {u v:GV} {last':Int} (hst:GSt w' r B P (L ++ [u] ++ [v]) last') (hx:GIs w' B P A ts mss (kss m) m t v) (hu:GCls w' B P A ts m t u) (hlast:last'=cO ts (m+1)):GM w' r B P A ts mss kss (m+1) (L ++ [u] ++ [v]) last':=by
 have hq:=gfc_quiet h.st
 obtain ⟨l,hl⟩:=h.pre
 have hcv:=cV_succ ht
 have hlt:=(List.getElem?_eq_some_iff.1 ht).1
 have e1:nV t=2:=by unfold nV;rw [if_neg (by omega),if_pos h14]
 have hgr:gref ts m=L.length+1:=by rw [gref_of ht,h.len];unfold refT;rw [if_neg (by omega),if_neg (by omega),if_pos h14]
 have hgrow:∀(n:Nat) (y:GV),L[n]?=some y->(L ++ [u] ++ [v])[n]?=some y:=λ n y hn=>by
  have:=(List.getElem?_eq_some_iff.1 hn).1
  rw [List.getElem?_append_left (by simp;omega),List.getElem?_append_left this];exact hn
 refine ⟨by omega,hst,by simp [h.len];omega,hlast,⟨l ++ [u] ++ [v],by rw [hl];simp⟩,h.mcge,λ x y hy hx'=>?_,λ x y hy hx' hy14=>?_⟩
 ·by_cases hc:x=m
  ·subst hc
   rw [ht] at hy;cases hy
   exact ⟨v,by rw [hgr];simp,hx⟩
  ·obtain ⟨z,q1,q2⟩:=h.val x y hy (by omega)
   exact ⟨z,hgrow _ _ q1,q2.keep hk hq⟩
 ·by_cases hc:x=m
  ·subst hc
   rw [ht] at hy;cases hy
   exact ⟨u,by rw [hgr];simp,hu⟩
  ·obtain ⟨z,q1,q2⟩:=h.cls x y hy (by omega) hy14
   exact ⟨z,hgrow _ _ q1,q2.keep hk hq⟩
end
end Go.Fw
