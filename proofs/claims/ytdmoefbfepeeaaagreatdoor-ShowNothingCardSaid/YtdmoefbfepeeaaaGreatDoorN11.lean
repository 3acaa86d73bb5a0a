/- Part of a proof over the given program: texts of lemmas (conditions: none beyond each lemma as stated). -/
import Derived.Test.YtdmoefbfepeeaaaGreatDoorN10
import Derived.Maps.Own
import Derived.Shelf.Strings.BuilderK
set_option linter.unnecessarySimpa false
set_option linter.unusedVariables false
set_option linter.unusedSimpArgs false

namespace Go.Fw
open Go.RowKit
section
variable {w w':World} {base:Nat} {e:TypeId} {size:Nat} {v:Value} {n:Nat} {xs:List Value} {fp:Nat->Prop}
theorem ownsRow_etype (h:w.ownsRow base e size v n xs) {g:Nat} (hg:v.ownBlock=some g):etype w g=some e:=by
 rcases h.2 with ⟨rfl,_⟩ | ⟨g',cap,cur,rfl,_,hc,_⟩
 ·cases hg
 ·cases hg
  unfold etype
  rw [hc]
theorem Keep.row (hk:Keep fp w w') (h:w.ownsRow base e size v n xs) (hn:∀g,v.ownBlock=some g->¬fp g):w'.ownsRow base e size v n xs:=by
 refine ⟨h.1,?_⟩
 rcases h.2 with hl | ⟨g,cap,cur,rfl,hb,hc,hr⟩
 ·exact .inl hl
 ·refine .inr ⟨g,cap,cur,rfl,hb,?_,hr⟩
  rw [hk.block g (Array.getElem?_eq_some_iff.1 hc).1 (hn g rfl),hc]
theorem Keep.nrow (hk:Keep No w w') (h:w.ownsRow base e size v n xs):w'.ownsRow base e size v n xs:=hk.row h λ _ _=>id
theorem Keep.trow {B:Nat} {ts:List TypeId} (hk:Keep (Ty B ts w) w w') (h:w.ownsRow base e size v n xs) (hn:e ∉ ts):w'.ownsRow base e size v n xs:=
 hk.row h λ g hg ⟨_,e',he,ht⟩=>by
  rw [ownsRow_etype h hg] at he
  cases he
  exact hn ht
theorem ownsRow_ne {b:Nat} {e':TypeId} {cs:List Value} (h:w.ownsRow base e size v n xs) (hb:Blk w b e' cs) (he:e≠e'):v.ownBlock≠some b:=λ hg=>by
 have h1:=ownsRow_etype h hg
 have h2:=hb.etype
 rw [h1] at h2
 cases h2
 exact he rfl
theorem ownsRow_mono {base':Nat} (h:w.ownsRow base e size v n xs) (hb:base'<=base):w.ownsRow base' e size v n xs:=by
 refine ⟨h.1,?_⟩
 rcases h.2 with hl | ⟨g,cap,cur,rfl,hg,hr⟩
 ·exact .inl hl
 ·exact .inr ⟨g,cap,cur,rfl,by omega,hr⟩
end
theorem append_of {P:Program} {t e:TypeId} {i:TypeInfo} {z:Value} {bytes:Nat} (ht:P.underlying t=some (.slice e)) (hi:P.info? e=some i) (hz:i.zero=some z) (hsize:i.size=1) (hby:i.bytes=bytes) (hzs:z.cells.size=1)
  {w:World} {base:Nat} {v:Value} {n:Nat} {xs:List Value} (hown:w.ownsRow base e 1 v n xs) {b:Nat} {e':TypeId} {x:Value} (hb:Blk w b e' [x]) (hx:x.oneCell'=true)
  (hbytes:(n+1)*bytes<=140737488355328) (hbp:0<bytes) (hbase:base<=w.heap.size) {K:World->Option Addr->Nat->Nat->Prop}
  (h:∀g cap w',w'.ownsRow base e 1 (.slice (some ⟨g,0,none⟩) (n+1) cap) (n+1) (xs ++ [x])->Keep (λ k=>v.ownBlock=some k) w w'->(v.ownBlock=some g\/g=w.heap.size)->K w' (some ⟨g,0,none⟩) (n+1) cap) :
  ∃w':World,∃a:Option Addr,∃l:Nat,∃c:Nat,(vcEff.bltV .append #[t,t] t #[v,.slice (some ⟨b,0,none⟩) 1 1]).run P w=.ok (.slice a l c) w'/\K w' a l c:=by
 have h63:n+1<=maxLen:=by
  have h1:(n+1)*1<=(n+1)*bytes:=Nat.mul_le_mul_left _ hbp
  unfold maxLen;omega
 obtain ⟨g,cap,w',hr,ho,hg,hat,hlt⟩:=run_append_lies (P:=P) w t t base e i z 1 bytes ht hi hz hsize hby hzs (by omega) v n xs hown ⟨b,0,none⟩ 1 1 [x] rfl
  (by
    intro j u hj
    rcases j with _ | j
    ·cases hj;exact hb.add 0 rfl
    ·simp at hj)
  (by intro u hu;simp at hu;subst hu;exact hx) (by omega) h63 hbytes hbase _ rfl
 refine ⟨w',_,_,_,hr,h g cap w' ho (Keep.of_grown hg) hat⟩
end Go.Fw

namespace Go.Fw
open Go.Proofs Go.RowKit
structure RowT (t e bytes:Nat) (z:Value):Prop where
 und:Tryz.prog.underlying t=some (.slice e)
 info:∃i,Tryz.prog.info? e=some i/\i.zero=some z/\i.size=1/\i.bytes=bytes
 one:z.cells.size=1
 pos:0<bytes
theorem info_of {e bytes:Nat} {z:Value} (h:(Tryz.prog.info? e).map (λ i=>(i.zero,i.size,i.bytes))=some (some z,1,bytes)):∃i,Tryz.prog.info? e=some i/\i.zero=some z/\i.size=1/\i.bytes=bytes:=by
 obtain ⟨i,hi,hj⟩:=Option.map_eq_some_iff.1 h
 simp at hj
 exact ⟨i,hi,hj⟩
theorem rowVals:RowT 88 77 16 .nilIface:=⟨by kernel_rfl,info_of (by kernel_rfl),rfl,by decide⟩
theorem rowBools:RowT 175 4 1 (.bool false):=⟨by kernel_rfl,info_of (by kernel_rfl),rfl,by decide⟩
theorem rowInts:RowT 30 3 8 (.int .i64 0):=⟨by kernel_rfl,info_of (by kernel_rfl),rfl,by decide⟩
theorem appendRow {t e bytes:Nat} {z:Value} (T:RowT t e bytes z)
  {w:World} {base:Nat} {v:Value} {n:Nat} {xs:List Value} (hown:w.ownsRow base e 1 v n xs) {b:Nat} {e':TypeId} {x:Value} (hb:Blk w b e' [x]) (hx:x.oneCell'=true)
  (hbytes:(n+1)*bytes<=140737488355328) (hbase:base<=w.heap.size) {K:World->Option Addr->Nat->Nat->Prop}
  (h:∀g cap w',w'.ownsRow base e 1 (.slice (some ⟨g,0,none⟩) (n+1) cap) (n+1) (xs ++ [x])->Keep (λ k=>v.ownBlock=some k) w w'->(v.ownBlock=some g\/g=w.heap.size)->K w' (some ⟨g,0,none⟩) (n+1) cap) :
  ∃w':World,∃a:Option Addr,∃l:Nat,∃c:Nat,(vcEff.bltV .append #[t,t] t #[v,.slice (some ⟨b,0,none⟩) 1 1]).run Tryz.prog w=.ok (.slice a l c) w'/\K w' a l c:=by
 obtain ⟨i,hi,hz,h1,h2⟩:=T.info
 exact append_of T.und hi hz h1 h2 T.one hown hb hx hbytes T.pos hbase h
theorem C12 (p q:Int) (w:World):Calls Tryz.prog 12 #[.int .i64 p,.int .i64 q] w λ e w'=>e=.returned (.agg #[.int .i64 0,.int .i64 p,.int .i64 q,.slice none 0 0,.slice none 0 0])/\Keep No w w':=by
 refine ret_mono (V12_sound p q w (λ r w'=>r=.agg #[.int .i64 0,.int .i64 p,.int .i64 q,.slice none 0 0,.slice none 0 0]/\Keep No w w') ?_) (by rintro _ _ ⟨rfl,h⟩;exact ⟨rfl,h⟩)
 unfold V12
 refine newK_of λ b w1 hs hb hk=>?_
 refine stK_add hb (by simp) λ w2 hb hk2=>?_
 replace hk:=hk.news hk2 (by rintro k rfl;omega)
 refine stK_add hb (by simp) λ w3 hb hk2=>?_
 replace hk:=hk.news hk2 (by rintro k rfl;omega)
 refine stK_add hb (by simp) λ w4 hb hk2=>?_
 replace hk:=hk.news hk2 (by rintro k rfl;omega)
 refine stK_add hb (by simp) λ w5 hb hk2=>?_
 replace hk:=hk.news hk2 (by rintro k rfl;omega)
 refine stK_add hb (by simp) λ w6 hb hk2=>?_
 replace hk:=hk.news hk2 (by rintro k rfl;omega)
 exact ⟨_,_,_,_,_,_,_,_,_,hb.cells0,rfl,hk⟩
theorem C36 (w:World):Calls Tryz.prog 36 #[] w λ e w'=>∃a,e=.returned (.pointer (some ⟨a,0,none⟩))/\w.heap.size<=a/\Blk w' a 178 [.slice none 0 0,.slice none 0 0,.slice none 0 0]/\Keep No w w':=by
 refine ret_mono (V36_sound w (λ r w'=>∃a,r=.pointer (some ⟨a,0,none⟩)/\w.heap.size<=a/\Blk w' a 178 [.slice none 0 0,.slice none 0 0,.slice none 0 0]/\Keep No w w') ?_) (by rintro _ _ ⟨a,rfl,h⟩;exact ⟨a,rfl,h⟩)
 unfold V36
 exact newK_of λ b w1 hs hb hk=>⟨b,rfl,by omega,hb,hk⟩
def IMap (w:World) (m:Nat) (n:Nat):Prop:=∃D:DataW Unit,w.ownsMap Tryz.prog 3 (plainElem Tryz.prog 3) m n D
theorem Keep.imap {fp:Nat->Prop} {w w':World} {m n:Nat} (hk:Keep fp w w') (h:IMap w m n) (hn:¬fp m):IMap w' m n:=by
 obtain ⟨D,es,clock,hb,hr⟩:=h
 exact ⟨D,es,clock,(hk.block m (Array.getElem?_eq_some_iff.1 hb).1 hn).trans hb,hr⟩
theorem IMap.etype {w:World} {m n:Nat} (h:IMap w m n):Fw.etype w m=none:=by
 obtain ⟨D,es,clock,hb,hr⟩:=h
 unfold Fw.etype;rw [hb]
structure PlanAt (w:World) (p:Nat) (B:Nat):Prop where
 ex:∃m n c,Blk w p 181 [.map (some m),.int .i64 c]/\IMap w m n/\B<=m
 ge:B<=p
theorem C37_nil (a:Option Addr) (c:Nat) (w:World):Calls Tryz.prog 37 #[.slice a 0 c] w λ e w'=>∃p,e=.returned (.pointer (some ⟨p,0,none⟩))/\PlanAt w' p w.heap.size/\Keep No w w':=by
 refine ret_mono (V37_sound a 0 c w (λ r w'=>∃p,r=.pointer (some ⟨p,0,none⟩)/\PlanAt w' p w.heap.size/\Keep No w w') ?_) (by rintro _ _ ⟨a,rfl,h⟩;exact ⟨a,rfl,h⟩)
 unfold V37
 refine ⟨_,_,run_makeMap 179 w,?_⟩
 refine newK_of λ b w1 hs hb hk=>?_
 refine ⟨λ i w'=>i=0/\w'=w1,λ _ _=>0,⟨rfl,rfl⟩,?_⟩
 rintro j i w2 ⟨rfl,rfl⟩
 refine bsel_neg rfl ⟨b,rfl,⟨⟨w.heap.size,0,0,hb,?_,Nat.le_refl _⟩,by simp at hs;omega⟩,?_⟩
 ·exact hk.imap ⟨_,World.ownsMap_made w Tryz.prog 3 _⟩ id
 ·exact (Keep.fresh w _).no hk
structure SlotsAt (w:World) (a:Nat) (B R:Nat) (vals:List Value):Prop where
 ex:∃lv tv fc,Blk w a 178 [lv,tv,.slice none 0 fc]/\w.ownsRow R 77 1 lv vals.length vals/\w.ownsRow R 4 1 tv vals.length (List.replicate vals.length (.bool true))/\fc=0
 ge:B<=a
 len:vals.length<1000000000000
theorem SlotsAt.keep {w w':World} {fp:Nat->Prop} {a B R:Nat} {vals:List Value} (h:SlotsAt w a B R vals) (hk:Keep fp w w') (hn:∀k,B<=k->Fw.etype w k=some 178->¬fp k) (hn2:∀k,R<=k->(Fw.etype w k=some 77\/Fw.etype w k=some 4)->¬fp k):SlotsAt w' a B R vals:=by
 obtain ⟨⟨lv,tv,fc,h1,h2,h3,h4⟩,hge,hlen⟩:=h
 exact ⟨⟨lv,tv,fc,hk.blk h1 (hn _ hge (by simp [h1.etype])),hk.row h2 λ g hg=>hn2 g (h2.lt g hg).1 (by simp [ownsRow_etype h2 hg]),hk.row h3 λ g hg=>hn2 g (h3.lt g hg).1 (by simp [ownsRow_etype h3 hg]),h4⟩,hge,hlen⟩
theorem SlotsAt.etype {w:World} {a B R:Nat} {vals:List Value} (h:SlotsAt w a B R vals):Fw.etype w a=some 178:=by
 obtain ⟨⟨lv,tv,fc,h1,h2,h3,h4⟩,hge,hlen⟩:=h
 exact h1.etype
theorem SlotsAt.no {w w':World} {a B R:Nat} {vals:List Value} (h:SlotsAt w a B R vals) (hk:Keep No w w'):SlotsAt w' a B R vals:=h.keep hk (λ _ _ _=>id) λ _ _ _=>id
theorem SlotsAt.mono {w:World} {a B R B' R':Nat} {vals:List Value} (h:SlotsAt w a B R vals) (hB:B'<=B) (hR:R'<=R):SlotsAt w a B' R' vals:=by
 obtain ⟨⟨lv,tv,fc,h1,h2,h3,h4⟩,hge,hlen⟩:=h
 exact ⟨⟨lv,tv,fc,h1,ownsRow_mono h2 hR,ownsRow_mono h3 hR,h4⟩,by omega,hlen⟩
theorem oneCell_of {x:Value} (h:plainV x=true):x.oneCell'=true:=by cases x <;> first | rfl | cases h
theorem plK_of {x:Value} {K:Prop} (h:plainV x=true) (hk:K):plK x K:=by cases x <;> first | exact hk | cases h
theorem ownsRow_ne2 {w:World} {base base' e e' size size' n n':Nat} {v v':Value} {xs xs':List Value} (h:w.ownsRow base e size v n xs) (h':w.ownsRow base' e' size' v' n' xs') (he:e≠e'):∀g,v.ownBlock=some g->v'.ownBlock≠some g:=λ g hg hg'=>by
 have h1:=ownsRow_etype h hg
 rw [ownsRow_etype h' hg'] at h1
 cases h1
 exact he rfl
theorem grow_of {t e bytes:Nat} {z:Value} (T:RowT t e bytes z) {W w:World} {B:Nat} {fp:Nat->Prop} {v:Value} {n:Nat} {xs:List Value} {b:Nat} {x:Value}
  (hW:Keep fp W w) (hown:w.ownsRow B e 1 v n xs) (hb:Blk w b e [x]) (hx:x.oneCell'=true) (hbytes:(n+1)*bytes<=140737488355328) (hbase:B<=w.heap.size) (he:∀k,k<W.heap.size->v.ownBlock=some k->fp k) {K:World->Option Addr->Nat->Nat->Prop}
  (h:∀g cap w',Keep fp W w'->w'.ownsRow B e 1 (.slice (some ⟨g,0,none⟩) (n+1) cap) (n+1) (xs ++ [x])->(∀b' e' cs,e≠e'->Blk w b' e' cs->Blk w' b' e' cs)->
   (∀e' v' n' xs',e≠e'->w.ownsRow B e' 1 v' n' xs'->w'.ownsRow B e' 1 v' n' xs')->K w' (some ⟨g,0,none⟩) (n+1) cap) :
  ∃w':World,∃a:Option Addr,∃l:Nat,∃c:Nat,(vcEff.bltV .append #[t,t] t #[v,.slice (some ⟨b,0,none⟩) 1 1]).run Tryz.prog w=.ok (.slice a l c) w'/\K w' a l c:=
 appendRow T hown hb hx hbytes hbase λ g cap w' ho hk hat=>h g cap w'
  (hW.trans hk he) ho
  (λ b' e' cs hne hb'=>hk.blk hb' λ hg=>ownsRow_ne hown hb' hne hg)
  (λ e' v' n' xs' hne ho'=>hk.row ho' λ g hg hg'=>ownsRow_ne2 hown ho' hne g hg' hg)
theorem C38 {w:World} {a B R:Nat} {fp:Nat->Prop} {vals:List Value} {x:Value} (h:SlotsAt w a B R vals) (hx:plainV x=true) (hl:vals.length<100000000000) (hB:R<=w.heap.size) (hfa:fp a) (hfr:∀k,R<=k->k<w.heap.size->(etype w k=some 77\/etype w k=some 4)->fp k) :
  Calls Tryz.prog 38 #[.pointer (some ⟨a,0,none⟩),x] w λ e w'=>e=.returned (.int .i64 vals.length)/\SlotsAt w' a B R (vals ++ [x])/\Keep fp w w':=by
 refine ret_mono (V38_sound _ x w (λ r w'=>r=.int .i64 vals.length/\SlotsAt w' a B R (vals ++ [x])/\Keep fp w w') ?_) (by rintro _ _ ⟨rfl,h⟩;exact ⟨rfl,h⟩)
 obtain ⟨⟨lv,tv,fc,hb,hlv,htv,rfl⟩,hge,hlen⟩:=h
 obtain ⟨la,ll,lc,rfl,hll⟩:∃la ll lc,lv=.slice la ll lc/\ll=vals.length:=by
  rcases hlv.2 with ⟨h1,h2⟩ | ⟨g,cap,cur,h1,_⟩
  ·exact ⟨_,_,_,h1,h2.symm⟩
  ·exact ⟨_,_,_,h1,rfl⟩
 obtain ⟨ta,tl,tc,rfl⟩:∃la ll lc,tv=.slice la ll lc:=by
  rcases htv.2 with ⟨h1,_⟩ | ⟨g,cap,cur,h1,_⟩
  ·exact ⟨_,_,_,h1⟩
  ·exact ⟨_,_,_,h1⟩
 subst hll
 have hkd:Keep No w w.drew:=Keep.drawn w
 have hlnS:∀k,k<w.heap.size->(Value.slice la vals.length lc).ownBlock=some k->fp k:=λ k hk hg=>hfr k (hlv.lt k hg).1 hk (by simp [ownsRow_etype hlv hg])
 have htnS:∀k,k<w.heap.size->(Value.slice ta tl tc).ownBlock=some k->fp k:=λ k hk hg=>hfr k (htv.lt k hg).1 hk (by simp [ownsRow_etype htv hg])
 have haS:∀k,k<w.heap.size->k=a->fp k:=by rintro k _ rfl;exact hfa
 have hends:∀{w3:World} {g1 c1 g2 c2:Nat},Keep fp w w3->Blk w3 a 178 [.slice la vals.length lc,.slice ta tl tc,.slice none 0 0]->
   w3.ownsRow R 77 1 (.slice (some ⟨g1,0,none⟩) (vals.length+1) c1) (vals.length+1) (vals ++ [x])->w3.ownsRow R 4 1 (.slice (some ⟨g2,0,none⟩) (vals.length+1) c2) (vals.length+1) (List.replicate vals.length (.bool true) ++ [.bool true])->
   nilK (some ⟨a,0,none⟩) λ a63=>stK w3 (a63.add 0) (.slice (some ⟨g1,0,none⟩) (vals.length+1) c1) λ w64=>nilK (some ⟨a,0,none⟩) λ a65=>stK w64 (a65.add 1) (.slice (some ⟨g2,0,none⟩) (vals.length+1) c2) λ w66=>
   V38J1 (λ r w'=>r=.int .i64 vals.length/\SlotsAt w' a B R (vals ++ [x])/\Keep fp w w') (some ⟨a,0,none⟩) w66:=by
  intro w3 g1 c1 g2 c2 hk hb3 ho1 ho2
  rw [nilK_some]
  refine stK_add hb3 (by simp) λ w4 hb4 hk4=>?_
  rw [nilK_some]
  refine stK_add hb4 (by simp) λ w5 hb5 hk5=>?_
  have n1:=ownsRow_ne ho1 hb3 (by decide)
  have n2:=ownsRow_ne ho2 hb3 (by decide)
  have o1:=hk5.row (hk4.row ho1 λ g hg e=>n1 (e ▸ hg)) λ g hg e=>n1 (e ▸ hg)
  have o2:=hk5.row (hk4.row ho2 λ g hg e=>n2 (e ▸ hg)) λ g hg e=>n2 (e ▸ hg)
  have hk':=(hk.trans hk4 haS).trans hk5 haS
  unfold V38J1
  rw [nilK_some]
  refine ⟨_,_,_,hb5.add 0 rfl,?_,⟨⟨_,_,_,hb5,by simpa using o1,by simpa [List.replicate_succ'] using o2,rfl⟩,hge,by simp;omega⟩,hk'⟩
  rw [wrap_i64 (by omega)]
  simp
 unfold V38
 refine bsel_neg rfl ?_
 rw [nilK_some]
 refine ⟨_,_,_,hb.add 2 rfl,bsel_pos rfl ?_⟩
 rw [nilK_some]
 refine ⟨_,_,_,hb.drew.add 0 rfl,?_⟩
 rw [nilK_some]
 refine ⟨_,_,_,hb.drew.add 1 rfl,?_,?_⟩
 ·refine plK_of hx (newK_of λ b w1 hs1 hb1 hk1=>?_)
  replace hk1:=hkd.no hk1
  have ha1:=hk1.nblk hb
  refine ⟨ha1.add 1 rfl,ha1.add 0 rfl,?_,?_⟩
  ·refine grow_of (fp:=fp) rowVals hk1.of_no (hk1.nrow hlv) hb1 (oneCell_of hx) (by omega) (by have:=hk1.size;omega) hlnS λ g1 c1 w2 hk2 ho1 hbb hrr=>?_
   have ha2:=hbb _ _ _ (by decide) ha1
   refine ⟨ha2.add 1 rfl,newK_of λ b2 w3 hs3 hb3 hk3=>⟨(hk3.nblk ha2).add 1 rfl,?_⟩⟩
   refine grow_of (fp:=fp) rowBools (hk2.no hk3) (hk3.nrow (hrr _ _ _ _ (by decide) (hk1.nrow htv))) hb3 rfl (by omega) (by have:=(hk2.no hk3).size;omega) htnS λ g2 c2 w4 hk4 ho2 hbb4 hrr4=>?_
   exact hends hk4 (hbb4 _ _ _ (by decide) (hk3.nblk ha2)) (hrr4 _ _ _ _ (by decide) (hk3.nrow ho1)) ho2
  ·refine newK_of λ b2 w2 hs2 hb2 hk2=>?_
   have ha2:=hk2.nblk ha1
   have hb1':=hk2.nblk hb1
   replace hk2:=hk1.no hk2
   refine ⟨ha2.add 1 rfl,ha2.add 0 rfl,?_⟩
   refine grow_of (fp:=fp) rowVals hk2.of_no (hk2.nrow hlv) hb1' (oneCell_of hx) (by omega) (by have:=hk2.size;omega) hlnS λ g1 c1 w3 hk3 ho1 hbb hrr=>?_
   have ha3:=hbb _ _ _ (by decide) ha2
   refine ⟨ha3.add 1 rfl,?_⟩
   refine grow_of (fp:=fp) rowBools hk3 (hrr _ _ _ _ (by decide) (hk2.nrow htv)) (hbb _ _ _ (by decide) hb2) rfl (by omega) (by have:=hk3.size;omega) htnS λ g2 c2 w4 hk4 ho2 hbb4 hrr4=>?_
   exact hends hk4 (hbb4 _ _ _ (by decide) ha3) (hrr4 _ _ _ _ (by decide) ho1) ho2
 ·refine newK_of λ b w1 hs1 hb1 hk1=>?_
  replace hk1:=hkd.no hk1
  have ha1:=hk1.nblk hb
  refine ⟨ha1.add 1 rfl,ha1.add 0 rfl,plK_of hx (newK_of λ b2 w2 hs2 hb2 hk2=>?_)⟩
  have ha2:=hk2.nblk ha1
  have hb1':=hk2.nblk hb1
  replace hk2:=hk1.no hk2
  refine ⟨ha2.add 1 rfl,ha2.add 0 rfl,?_⟩
  refine grow_of (fp:=fp) rowVals hk2.of_no (hk2.nrow hlv) hb2 (oneCell_of hx) (by omega) (by have:=hk2.size;omega) hlnS λ g1 c1 w3 hk3 ho1 hbb hrr=>?_
  have ha3:=hbb _ _ _ (by decide) ha2
  refine ⟨ha3.add 1 rfl,?_⟩
  refine grow_of (fp:=fp) rowBools hk3 (hrr _ _ _ _ (by decide) (hk2.nrow htv)) (hbb _ _ _ (by decide) hb1') rfl (by omega) (by have:=hk3.size;omega) htnS λ g2 c2 w4 hk4 ho2 hbb4 hrr4=>?_
  exact hends hk4 (hbb4 _ _ _ (by decide) ha3) (hrr4 _ _ _ _ (by decide) ho1) ho2
end Go.Fw

namespace Go.Fw
open Go.Proofs Go.RowKit
structure St where
 fuel:Int
 pairs:Int
 shared:Int
 ina:Option Addr
 inl:Nat
 inc:Nat
 fra:Option Addr
 frl:Nat
 frc:Nat
 m:Option Addr
 last:Int
 live:Int
 except:Int
 due:Bool
 a:Nat
 p:Nat
 vals:List Value
def St.cells (S:St):List Value:=[.int .i64 S.fuel,.int .i64 S.pairs,.int .i64 S.shared,.slice S.ina S.inl S.inc,.slice S.fra S.frl S.frc,.pointer S.m,.pointer (some ⟨S.a,0,none⟩),.int .i64 S.last,.int .i64 S.live,.int .i64 S.except,.pointer (some ⟨S.p,0,none⟩),.bool S.due]
structure StAt (w:World) (s:Nat) (B:Nat) (S:St):Prop where
 blk:Blk w s 81 S.cells
 slots:SlotsAt w S.a B B S.vals
 plan:PlanAt w S.p B
 ge:B<=s
abbrev storeTy:List TypeId:=[77,4,178,81,181]
theorem PlanAt.keep {w w':World} {fp:Nat->Prop} {p B:Nat} (h:PlanAt w p B) (hk:Keep fp w w') (hn:∀k,B<=k->(Fw.etype w k=some 181\/Fw.etype w k=none)->¬fp k):PlanAt w' p B:=by
 obtain ⟨⟨m,n,c,h1,h2,h3⟩,hge⟩:=h
 exact ⟨⟨m,n,c,hk.blk h1 (hn _ hge (by simp [h1.etype])),hk.imap h2 (hn _ h3 (by simp [h2.etype])),h3⟩,hge⟩
theorem StAt.keep {w w':World} {fp:Nat->Prop} {s B:Nat} {S:St} (h:StAt w s B S) (hk:Keep fp w w') (hn:∀k,B<=k->fp k->∃e,Fw.etype w k=some e/\e ∉ storeTy):StAt w' s B S:=by
 obtain ⟨h1,h2,h3,hge⟩:=h
 have hno:∀k,B<=k->(Fw.etype w k=some 77\/Fw.etype w k=some 4\/Fw.etype w k=some 178\/Fw.etype w k=some 81\/Fw.etype w k=some 181\/Fw.etype w k=none)->¬fp k:=by
  intro k hB hk' hf
  obtain ⟨e,he,hne⟩:=hn k hB hf
  rw [he] at hk'
  rcases hk' with h | h | h | h | h | h <;> cases h <;> exact hne (by decide)
 exact ⟨hk.blk h1 (hno _ hge (by simp [h1.etype])),h2.keep hk (λ k hB hk'=>hno k hB (by simp [hk'])) λ k hB hk'=>hno k hB (by rcases hk' with h | h <;> simp [h]),h3.keep hk λ k hB hk'=>hno k hB (by rcases hk' with h | h <;> simp [h]),hge⟩
theorem StAt.no {w w':World} {s B:Nat} {S:St} (h:StAt w s B S) (hk:Keep No w w'):StAt w' s B S:=h.keep hk λ _ _=>False.elim
def val0:List Value:=[.iface 85 (.agg #[]),.iface 87 (.agg #[.bool false]),.iface 87 (.agg #[.bool true])]
theorem C11 {fu pa sh:Int} {ia:Option Addr} {il ic:Nat} {fa:Option Addr} {fc:Nat} {m:Option Addr} {w:World} (h1:0<=fu/\fu<=100000) (h2:0<=pa/\pa<=65536) (h3:0<=sh/\sh<=256) :
  Calls Tryz.prog 11 #[.agg #[.int .i64 fu,.int .i64 pa,.int .i64 sh,.slice ia il ic,.slice fa 0 fc],.pointer m] w λ e w'=>∃s a p,e=.returned (.tuple #[.pointer (some ⟨s,0,none⟩),.int .i64 0])/\
   StAt w' s w.heap.size ⟨fu,pa,sh,ia,il,ic,fa,0,fc,m,0,0,0,false,a,p,val0⟩/\Keep No w w':=by
 refine ret_mono (V11_sound fu pa sh ia il ic fa 0 fc m w (λ r w'=>∃s a p,r=.tuple #[.pointer (some ⟨s,0,none⟩),.int .i64 0]/\
   StAt w' s w.heap.size ⟨fu,pa,sh,ia,il,ic,fa,0,fc,m,0,0,0,false,a,p,val0⟩/\Keep No w w') ?_) (by rintro _ _ ⟨s,a,p,rfl,h⟩;exact ⟨s,a,p,rfl,h⟩)
 unfold V11
 refine newK_of λ b w1 hs1 hb hk=>?_
 refine ⟨_,hb.add 0 rfl,bsel_neg (by simp;omega) ?_⟩
 refine ⟨_,hb.add 0 rfl,bsel_neg (by simp;omega) ?_⟩
 refine ⟨_,hb.add 1 rfl,bsel_neg (by simp;omega) ?_⟩
 refine ⟨_,hb.add 1 rfl,bsel_neg (by simp;omega) ?_⟩
 refine ⟨_,hb.add 2 rfl,bsel_neg (by simp;omega) ?_⟩
 refine ⟨_,hb.add 2 rfl,?_⟩
 unfold V11J2
 refine bsel_neg (by simp;omega) ?_
 have hk:=hk.no (Keep.drawn w1)
 replace hb:=hb.drew
 refine ⟨_,_,_,_,_,_,_,_,_,hb.cells0,_,_,_,hb.add 4 rfl,(C36 _).mono ?_⟩
 rintro _ w2 ⟨a,rfl,ha,hba,hk2⟩
 replace hb:=hk2.nblk hb
 replace ha:w.heap.size<=a:=by have:=hk.size;omega
 replace hk:=hk.no hk2
 refine ⟨_,rfl,hb.add 4 rfl,hb.cells0,(C37_nil _ _ _).mono ?_⟩
 rintro _ w3 ⟨p,rfl,hp,hk3⟩
 replace hb:=hk3.nblk hb
 replace hba:=hk3.nblk hba
 have hsl:∀R,SlotsAt w3 a w.heap.size R []:=λ R=>⟨⟨_,_,_,hba,World.ownsRow_nil _ _ _ _,World.ownsRow_nil _ _ _ _,rfl⟩,ha,by simp⟩
 replace hp:PlanAt w3 p w.heap.size:=by
  obtain ⟨⟨m,n,c,h1,h2,h3⟩,h4⟩:=hp
  have:=hk.size
  exact ⟨⟨m,n,c,h1,h2,by omega⟩,by omega⟩
 replace hk:=hk.no hk3
 refine ⟨_,rfl,hb.cells0,newK_of λ s w4 hs4 hbs hk4=>?_⟩
 replace hsl:=λ R=>(hsl R).no hk4
 replace hp:=hp.keep hk4 λ _ _ _=>id
 have hws:w.heap.size<=s:=by have:=hk.size;omega
 replace hk:=hk.no hk4
 unfold V11J1
 refine newK_of λ c w5 hs5 hbc hk5=>?_
 replace hbs:=hk5.nblk hbs
 replace hsl:=(hsl w5.heap.size).no hk5
 replace hp:=hp.keep hk5 λ _ _ _=>id
 replace hk:=hk.no hk5
 have hcw:w.heap.size<=c:=by have:=hk4.size;omega
 have hca:c≠a:=ne_of_etype hbc.etype hsl.etype (by decide)
 have hsa:s≠a:=ne_of_etype hbs.etype hsl.etype (by decide)
 refine ⟨λ i w'=>0<=i/\i<=3/\SlotsAt w' a w.heap.size w5.heap.size (val0.take i.toNat)/\Keep (λ k=>k=a) w5 w',
  λ i _=>(3-i).toNat,⟨by omega,by omega,hsl,Keep.refl _ _⟩,?_⟩
 rintro j i w' ⟨hi0,hi3,hsl',hkw⟩
 have hbs':=hkw.blk hbs hsa
 have hbc':=hkw.blk hbc hca
 refine bsel_split (λ hlt=>?_) λ hge=>?_
 ·simp at hlt
  obtain ⟨n,rfl⟩:=Int.eq_ofNat_of_zero_le hi0
  have hn:n<3:=by omega
  obtain ⟨x,hv,hpl,htk⟩:∃x,val0[n]?=some x/\plainV x=true/\val0.take (n+1)=val0.take n ++ [x]:=by
   rcases n with _ | _ | _ | n
   ·exact ⟨_,rfl,rfl,rfl⟩
   ·exact ⟨_,rfl,rfl,rfl⟩
   ·exact ⟨_,rfl,rfl,rfl⟩
   ·omega
  simp only [Int.toNat_natCast] at hsl'
  have hlen:(val0.take n).length=n:=by simp [val0];omega
  refine idxK_of hn ⟨_,hbc'.add (n*1) (by rw [Nat.mul_one];exact hv),_,hbs'.add 6 rfl,(C38 (fp:=λ k=>k=a\/w5.heap.size<=k) hsl' hpl (by omega) hkw.size (.inl rfl) λ k h _ _=>.inr h).mono ?_⟩
  rintro _ w6 ⟨rfl,hsl6,hk6⟩
  refine ⟨_,rfl,⟨?_,?_,?_,hkw.trans hk6 ?_⟩,?_⟩
  rotate_left 3
  ·intro k h1 h2;omega
  all_goals rw [wrap_i64 (by omega)]
  rotate_left 1
  ·omega
  ·omega
  ·have e:((n:Int)+1).toNat=n+1:=by omega
   rw [e,htk]
   exact hsl6
  ·simp only;omega
 ·simp at hge
  have:i=3:=by omega
  subst this
  refine ⟨s,a,p,rfl,⟨hbs',hsl'.mono (Nat.le_refl _) (by have:=hk.size;omega),?_,hws⟩,hk.news hkw (by rintro k rfl;exact ha)⟩
  refine hp.keep hkw λ k _ hk' e=>?_
  subst e
  rw [hsl.etype] at hk'
  rcases hk' with h | h <;> cases h
end Go.Fw

namespace Go.Fw
open Go.Proofs Go.RowKit
theorem wrap_wf (y:Int):(Lit.int .i64 (IntKind.wrap .i64 y)).wf=true:=by
 simp [Lit.wf,IntKind.wrap,IntKind.min,IntKind.max,IntKind.signed,IntKind.bits] <;> (try split) <;> omega
theorem key3 {n:Int} (h:(Lit.int .i64 n).wf=true):keyOf Tryz.prog 3 (.int .i64 n)=some (.int .i64 n):=by
 simp [keyOf,Tryz.underlying3,mapKey,h]
theorem IMap.lookup {w:World} {m n:Nat} (h:IMap w m n) {k:Int} (hk:(Lit.int .i64 k).wf=true):∃c,(Instr.lookup 179 (.map (some m)) (.int .i64 k) false).run Tryz.prog w=.ok (.int .i64 c) w:=by
 obtain ⟨D,h⟩:=h
 obtain ⟨c,hr,_⟩:=h.lookup_int (Go.Maps.int_keyed Tryz.underlying3) Tryz.underlying179 Tryz.underlying3 (Tryz.zeroValue3 _) (key3 hk)
 exact ⟨c,hr⟩
theorem C210 {p B:Nat} {w:World} (h:PlanAt w p B):Calls Tryz.prog 210 #[.pointer (some ⟨p,0,none⟩)] w λ e w'=>∃b,e=.returned (.bool b)/\PlanAt w' p B/\Keep (λ k=>k=p) w w':=by
 refine ret_mono (V210_sound _ w (λ r w'=>∃b,r=.bool b/\PlanAt w' p B/\Keep (λ k=>k=p) w w') ?_) (by rintro _ _ ⟨b,rfl,h⟩;exact ⟨b,rfl,h⟩)
 obtain ⟨⟨m,n,c,hb,hm,hB⟩,hp⟩:=h
 unfold V210
 refine bsel_neg rfl ?_
 simp only [nilK_some]
 refine ⟨_,hb.add 1 rfl,stK_add hb (by simp) λ w1 hb1 hk1=>?_⟩
 have hm1:IMap w1 m n:=hk1.imap hm (ne_of_etype hm.etype hb.etype (by simp))
 have hd:=Keep.drawn w1
 refine ⟨_,hb1.drew.add 0 rfl,_,hb1.drew.add 1 rfl,?_⟩
 obtain ⟨c1,hr⟩:=(hd.imap hm1 id).lookup (wrap_wf (c+1))
 exact ⟨_,_,hr,_,rfl,⟨⟨m,n,_,hb1.drew,hd.imap hm1 id,hB⟩,hp⟩,hk1.no hd⟩
theorem StAt.lt {w:World} {s B:Nat} {S:St} (h:StAt w s B S):s<w.heap.size:=by
 exact h.blk.lt
theorem StAt.etype {w:World} {s B:Nat} {S:St} (h:StAt w s B S):Fw.etype w s=some 81:=by
 exact h.blk.etype
theorem PlanAt.etype {w:World} {p B:Nat} (h:PlanAt w p B):Fw.etype w p=some 181:=by
 obtain ⟨⟨m,n,c,h1,_⟩,_⟩:=h
 exact h1.etype
theorem ty_one {B k:Nat} {e:TypeId} {ts:List TypeId} {w:World} (hB:B<=k) (he:Fw.etype w k=some e) (ht:e ∈ ts):Ty B ts w k:=⟨hB,e,he,ht⟩
theorem StAt.set {w w':World} {s B:Nat} {S S':St} (h:StAt w s B S) (hk:Keep (λ k=>k=s) w w')
  (h1':Blk w' s 81 S'.cells) (hv:S'.vals=S.vals) (ha:S'.a=S.a) (hp:S'.p=S.p):StAt w' s B S':=by
 obtain ⟨h1,h2,h3,hB⟩:=h
 refine ⟨h1',?_,?_,hB⟩
 ·rw [hv,ha]
  refine h2.keep hk (λ k _ he hks=>?_) λ k _ he hks=>?_
  ·subst hks;rw [h1.etype] at he;cases he
  ·subst hks;rw [h1.etype] at he;rcases he with he | he <;> cases he
 ·rw [hp]
  refine h3.keep hk λ k _ he hks=>?_
  subst hks;rw [h1.etype] at he;rcases he with he | he <;> cases he
theorem C138 {s B:Nat} {S:St} {w:World} (h:StAt w s B S):Calls Tryz.prog 138 #[.pointer (some ⟨s,0,none⟩)] w λ e w'=>e=.returned (.tuple #[])/\∃d,StAt w' s B { S with due:=d }/\Keep (Ty B [81,181] w) w w':=by
 refine ret_mono (V138_sound _ w (λ r w'=>r=.tuple #[]/\∃d,StAt w' s B { S with due:=d }/\Keep (Ty B [81,181] w) w w') ?_) (by rintro _ _ ⟨rfl,h⟩;exact ⟨rfl,h⟩)
 obtain ⟨hb,hsl,hp,hge⟩:=h
 unfold V138
 rw [nilK_some]
 refine ⟨_,hb.add 10 rfl,(C210 hp).mono ?_⟩
 rintro _ w1 ⟨t,rfl,hp1,hk1⟩
 have hb1:=hk1.blk hb (ne_of_etype hb.etype hp.etype (by decide))
 have hsl1:=hsl.keep hk1 (λ k _ he hk=>by subst hk;rw [hp.etype] at he;cases he) λ k _ he hk=>by subst hk;rw [hp.etype] at he;rcases he with he | he <;> cases he
 have hkk:Keep (Ty B [81,181] w) w w1:=hk1.mono λ k _ e=>by subst e;exact ty_one hp.ge hp.etype (by decide)
 refine ⟨_,rfl,bsel_split (λ ht=>?_) λ ht=>?_⟩
 ·rw [nilK_some]
  refine stK_add hb1 (by simp [St.cells]) λ w2 hb2 hk2=>⟨rfl,true,StAt.set (S:=S) ⟨hb1,hsl1,hp1,hge⟩ hk2 hb2 rfl rfl rfl,?_⟩
  exact hkk.trans hk2 λ k _ e=>by subst e;exact ty_one hge hb.etype (by decide)
 ·exact ⟨rfl,S.due,⟨hb1,hsl1,hp1,hge⟩,hkk⟩
theorem C140 {s B:Nat} {S:St} {w:World} (h:StAt w s B S) (h1:0<=S.last/\S.last<1000000000000) (h2:-1000000000000<S.live/\S.live<1000000000000) :
  Calls Tryz.prog 140 #[.pointer (some ⟨s,0,none⟩)] w λ e w'=>e=.returned (.agg #[.int .i64 (S.last+1)])/\∃d,StAt w' s B { S with due:=d,last:=S.last+1,live:=S.live+1 }/\Keep (Ty B [81,181] w) w w':=by
 refine ret_mono (V140_sound _ w (λ r w'=>r=.agg #[.int .i64 (S.last+1)]/\∃d,StAt w' s B { S with due:=d,last:=S.last+1,live:=S.live+1 }/\Keep (Ty B [81,181] w) w w') ?_) (by rintro _ _ ⟨rfl,h⟩;exact ⟨rfl,h⟩)
 have hlt:=h.lt
 unfold V140
 refine newK_of λ b w1 hs1 hb1 hk1=>(C138 (h.no hk1)).mono ?_
 rintro _ w2 ⟨rfl,d,h',hk2⟩
 have hb2:=hk2.tblk hb1 (by decide)
 have hkk:Keep (Ty B [81,181] w) w w2:=(Keep.of_no hk1).ty hk2
 obtain ⟨hb,hsl,hp,hge⟩:=h'
 refine ⟨_,rfl,?_⟩
 simp only [nilK_some]
 refine ⟨_,hb.add 7 rfl,stK_add hb (by simp [St.cells]) λ w3 hb3 hk3=>?_⟩
 have h3:=StAt.set (S:={ S with due:=d }) (S':={ S with due:=d,last:=S.last+1 }) ⟨hb,hsl,hp,hge⟩ hk3 (by rw [wrap_i64 (by simp only;omega)] at hb3;exact hb3) rfl rfl rfl
 have hb2:=hk3.blk hb2 (by omega)
 have hs67:Ty B [81,181] w s:=ty_one hge h.etype (by decide)
 replace hkk:=hkk.trans hk3 λ k _ e=>by subst e;exact hs67
 obtain ⟨hb,hsl,hp,hge⟩:=h3
 refine ⟨_,hb.add 8 rfl,stK_add hb (by simp [St.cells]) λ w4 hb4 hk4=>?_⟩
 have h4:=StAt.set (S:={ S with due:=d,last:=S.last+1 }) (S':={ S with due:=d,last:=S.last+1,live:=S.live+1 }) ⟨hb,hsl,hp,hge⟩ hk4 (by rw [wrap_i64 (by simp only;omega)] at hb4;exact hb4) rfl rfl rfl
 have hb2:=hk4.blk hb2 (by omega)
 replace hkk:=hkk.trans hk4 λ k _ e=>by subst e;exact hs67
 have h4':=h4
 obtain ⟨hb,hsl,hp,hge⟩:=h4
 refine ⟨_,hb.add 7 rfl,stK_add hb2 (by simp) λ w5 hb5 hk5=>?_⟩
 refine ⟨_,hb5.cells0,rfl,d,?_,hkk.news hk5 (by rintro k rfl;omega)⟩
 exact h4'.keep hk5 λ k _ e=>by subst e;exact ⟨98,hb2.etype,by decide⟩
theorem StAt.add {s B:Nat} {S:St} {w:World} {x:Value} (h:StAt w s B S) (hx:plainV x=true) (hl:S.vals.length<100000000000) (hB:B<=w.heap.size) :
  Calls Tryz.prog 38 #[.pointer (some ⟨S.a,0,none⟩),x] w λ e w'=>e=.returned (.int .i64 S.vals.length)/\StAt w' s B { S with vals:=S.vals ++ [x] }/\Keep (Ty B [77,4,178] w) w w':=by
 obtain ⟨hb,hsl,hp,hge⟩:=h
 refine (C38 (fp:=Ty B [77,4,178] w) hsl hx hl hB (ty_one hsl.ge hsl.etype (by decide)) λ k h1 _ h3=>?_).mono ?_
 ·rcases h3 with h3 | h3
  ·exact ty_one h1 h3 (by decide)
  ·exact ty_one h1 h3 (by decide)
 ·rintro _ w' ⟨rfl,h1,hk⟩
  refine ⟨rfl,⟨hk.tblk hb (by decide),h1,hp.keep hk λ k _ he=>?_,hge⟩,hk⟩
  rintro ⟨_,e,h2,h3⟩
  rw [h2] at he
  rcases he with he | he <;> cases he <;> exact absurd h3 (by decide)
theorem C86 {s B:Nat} {S:St} {w:World} {t:ByteArray} (h:StAt w s B S) (hl:S.vals.length<100000000000) (hB:B<=w.heap.size) :
  Calls Tryz.prog 86 #[.pointer (some ⟨s,0,none⟩),.string t] w λ e w'=>e=.returned (.int .i64 S.vals.length)/\∃d,StAt w' s B { S with due:=d,vals:=S.vals ++ [.iface 160 (.agg #[.string t])] }/\Keep (Ty B storeTy w) w w':=by
 refine ret_mono (V86_sound _ t w (λ r w'=>r=.int .i64 S.vals.length/\∃d,StAt w' s B { S with due:=d,vals:=S.vals ++ [.iface 160 (.agg #[.string t])] }/\Keep (Ty B storeTy w) w w') ?_) (by rintro _ _ ⟨rfl,h⟩;exact ⟨rfl,h⟩)
 unfold V86
 refine (C138 h).mono ?_
 rintro _ w1 ⟨rfl,d,h1,hk1⟩
 obtain ⟨hb,hsl,hp,hge⟩:=h1
 refine ⟨_,rfl,?_⟩
 rw [nilK_some]
 refine ⟨_,hb.add 6 rfl,(StAt.add (S:={ S with due:=d }) (x:=.iface 160 (.agg #[.string t])) ⟨hb,hsl,hp,hge⟩ rfl hl (by have:=hk1.size;omega)).mono ?_⟩
 rintro _ w2 ⟨rfl,h2,hk2⟩
 exact ⟨_,rfl,rfl,d,h2,(hk1.ty_mono (Nat.le_refl _) (by decide)).ty (hk2.ty_mono (Nat.le_refl _) (by decide))⟩
theorem C87 {s B:Nat} {S:St} {w:World} {kind:Int} {ra:Option Addr} {rl rc:Nat} (h:StAt w s B S) (hl:S.vals.length<100000000000) (hB:B<=w.heap.size) (h1:0<=S.last/\S.last<1000000000000) (h2:-1000000000000<S.live/\S.live<1000000000000) :
  Calls Tryz.prog 87 #[.pointer (some ⟨s,0,none⟩),.int .i64 kind,.slice ra rl rc] w λ e w'=>e=.returned (.int .i64 S.vals.length)/\∃d r,w.heap.size<=r/\Blk w' r 100 [.int .i64 (S.last+1),.slice ra rl rc,.int .i64 kind]/\
   StAt w' s B { S with due:=d,last:=S.last+1,live:=S.live+1,vals:=S.vals ++ [.iface 94 (.pointer (some ⟨r,0,none⟩))] }/\Keep (Ty B storeTy w) w w':=by
 refine ret_mono (V87_sound _ kind ra rl rc w (λ r w'=>r=.int .i64 S.vals.length/\∃d r,w.heap.size<=r/\Blk w' r 100 [.int .i64 (S.last+1),.slice ra rl rc,.int .i64 kind]/\
   StAt w' s B { S with due:=d,last:=S.last+1,live:=S.live+1,vals:=S.vals ++ [.iface 94 (.pointer (some ⟨r,0,none⟩))] }/\Keep (Ty B storeTy w) w w') ?_) (by rintro _ _ ⟨rfl,h⟩;exact ⟨rfl,h⟩)
 unfold V87
 have hd:=Keep.drawn w
 have h':=h.no hd
 have h'':=h'
 obtain ⟨hb,hsl,hp,hge⟩:=h''
 simp only [nilK_some]
 refine ⟨_,hb.add 6 rfl,(C140 h' h1 h2).mono ?_⟩
 rintro _ w1 ⟨rfl,d,h3,hk1⟩
 have hb1:=h3.blk
 refine ⟨_,rfl,hb1.add 6 rfl,newK_of λ r w2 hs2 hbr hk2=>⟨(hk2.nblk hb1).add 6 rfl,?_⟩⟩
 have hk02:Keep (Ty B storeTy w) w w2:=((Keep.of_no hd).ty (hk1.ty_mono (Nat.le_refl _) (by decide))).no hk2
 refine (StAt.add (x:=.iface 94 (.pointer (some ⟨r,0,none⟩))) (S:={ S with due:=d,last:=S.last+1,live:=S.live+1 }) (h3.no hk2) rfl hl (by have:=hk02.size;omega)).mono ?_
 rintro _ w3 ⟨rfl,h4,hk3⟩
 refine ⟨_,rfl,rfl,d,r,by have:=hk1.size;simp at this;omega,hk3.tblk hbr (by decide),h4,hk02.ty (hk3.ty_mono (Nat.le_refl _) (by decide))⟩
end Go.Fw

namespace Go.Fw
open Go.Proofs Go.RowKit
theorem row_cell {w:World} {base e n i:Nat} {v:Value} {xs:List Value} {x:Value} (h:w.ownsRow base e 1 v n xs) (hx:xs[i]?=some x):∃g cap,v=.slice (some ⟨g,0,none⟩) n cap/\i<n/\w.cell? ⟨g,i,none⟩=some x:=by
 have hi:i<n:=by
  have:=(List.getElem?_eq_some_iff.1 hx).1
  have:=h.1
  omega
 rcases h.2 with ⟨_,h0⟩ | ⟨g,cap,cur,rfl,hb,hg,hc,hm,hs,ht⟩
 ·omega
 ·refine ⟨g,cap,rfl,hi,?_⟩
  rw [h.cellAt i (by omega),hx]
theorem SlotsAt.at {w:World} {a B R:Nat} {vals:List Value} (h:SlotsAt w a B R vals) {i:Nat} {x:Value} (hx:vals[i]?=some x) :
  ∃g cap g' cap',w.cell? ⟨a,0,none⟩=some (.slice (some ⟨g,0,none⟩) vals.length cap)/\w.cell? ⟨a,1,none⟩=some (.slice (some ⟨g',0,none⟩) vals.length cap')/\i<vals.length/\w.cell? ⟨g,i,none⟩=some x/\w.cell? ⟨g',i,none⟩=some (.bool true):=by
 obtain ⟨⟨lv,tv,fc,h1,h2,h3,h4⟩,hge,hlen⟩:=h
 obtain ⟨g,cap,rfl,hi,hc⟩:=row_cell h2 hx
 obtain ⟨g',cap',rfl,_,hc'⟩:=row_cell h3 (x:=.bool true) (i:=i) (by simp [hi])
 exact ⟨g,cap,g',cap',h1.cell rfl,h1.cell rfl,hi,hc,hc'⟩
theorem C146_in {w:World} {a B R:Nat} {vals:List Value} (h:SlotsAt w a B R vals) {i:Nat} {x:Value} (hx:vals[i]?=some x) :
  Calls Tryz.prog 146 #[.pointer (some ⟨a,0,none⟩),.int .i64 i] w λ e w'=>e=.returned (.bool true)/\w'=w:=by
 refine ret_mono (V146_sound _ _ w (λ r w'=>r=.bool true/\w'=w) ?_) (by rintro _ _ ⟨rfl,h⟩;exact ⟨rfl,h⟩)
 obtain ⟨g,cap,g',cap',h0,h1,hi,hc,hc'⟩:=h.at hx
 unfold V146
 refine bsel_pos rfl (bsel_pos (by simp) ?_)
 simp only [nilK_some]
 refine ⟨_,_,_,by simpa using h0,bsel_pos (by simp;omega) ?_⟩
 refine ⟨_,_,_,by simpa using h1,idxK_of hi ?_⟩
 simp only [add_mk]
 exact ⟨true,by simpa using hc',by simp⟩
theorem C92_in {w:World} {a B R:Nat} {vals:List Value} (h:SlotsAt w a B R vals) {i:Nat} {x:Value} (hx:vals[i]?=some x) :
  Calls Tryz.prog 92 #[.pointer (some ⟨a,0,none⟩),.int .i64 i] w λ e w'=>e=.returned (.tuple #[x,.bool true])/\w'=w:=by
 refine ret_mono (V92_sound _ _ w (λ r w'=>r=.tuple #[x,.bool true]/\w'=w) ?_) (by rintro _ _ ⟨rfl,h⟩;exact ⟨rfl,h⟩)
 obtain ⟨g,cap,g',cap',h0,h1,hi,hc,hc'⟩:=h.at hx
 unfold V92
 refine (C146_in h hx).mono ?_
 rintro _ w1 ⟨rfl,rfl⟩
 refine ⟨_,rfl,bsel_neg rfl ?_⟩
 simp only [nilK_some]
 refine ⟨_,_,_,by simpa using h0,idxK_of hi ?_⟩
 exact ⟨x,by simpa using hc,by simp⟩
theorem C41_in {w:World} {s B:Nat} {S:St} (h:StAt w s B S) {i:Nat} {x:Value} (hx:S.vals[i]?=some x) :
  Calls Tryz.prog 41 #[.pointer (some ⟨s,0,none⟩),.int .i64 i] w λ e w'=>e=.returned x/\w'=w:=by
 refine ret_mono (V41_sound _ _ w (λ r w'=>r=x/\w'=w) ?_) (by rintro _ _ ⟨rfl,h⟩;exact ⟨rfl,h⟩)
 unfold V41
 refine bsel_neg rfl ?_
 simp only [nilK_some]
 refine ⟨_,h.blk.add 6 rfl,(C92_in h.slots hx).mono ?_⟩
 rintro _ w1 ⟨rfl,rfl⟩
 exact ⟨_,_,rfl,rfl,rfl⟩
theorem C79 (k:Int) (w:World):Calls Tryz.prog 79 #[.int .i64 k] w λ e w'=>e=.returned (.bool (decide ((1<=k/\k<=9)\/k=14\/(15<=k/\k<=17))))/\w'=w:=by
 refine ret_mono (V79_sound k w (λ r w'=>r=.bool (decide ((1<=k/\k<=9)\/k=14\/(15<=k/\k<=17)))/\w'=w) ?_) (by rintro _ _ ⟨rfl,h⟩;exact ⟨rfl,h⟩)
 unfold V79
 simp only [bsel_iff]
 repeat' split
 all_goals simp_all
 all_goals omega
end Go.Fw

set_option maxRecDepth 100000
namespace Go.Fw
open Go.Proofs
def V70 (x1:Option Addr) (w:World) (Q:Value->World->Prop):Prop:=
nilK x1 λ a2=>
∃t3 t4 t5,w.drew.cell? (a2.add 1)=some (.slice t3 t4 t5)/\
nilK x1 λ a6=>
∃t7 t8 t9,w.drew.cell? (a6.add 1)=some (.slice t7 t8 t9)/\
∃w10:World,∃t11,(vcEff.bltV .unsafeSliceData #[148] 232 #[.slice t3 t4 t5]).run Tryz.prog w.drew=.ok (.pointer t11) w10/\
(w10.cell? (a6.add 1)=some (.slice t7 t8 t9))/\
∃w12:World,∃t13,(vcEff.bltV .unsafeString #[232,3] 9 #[.pointer t11,.int .i64 (t8:Int)]).run Tryz.prog w10=.ok (.string t13) w12/\
Q (.string t13) w12
def V70_ann:Nat->Ann:=λ _=>⟨[],[]⟩
def V130 (x1:Option Addr) (x2:Int) (w:World) (Q:Value->World->Prop):Prop:=
Calls Tryz.prog 120 #[.pointer x1] w λ e3 w4=>∃t5,e3=.returned (t5)/\
nilK x1 λ a6=>
∃t7 t8 t9,w4.cell? (a6.add 1)=some (.slice t7 t8 t9)/\
newK w4 #[.int .u8 x2] 5 λ a10 w11=>
∃w12:World,∃t13 t14 t15,(vcEff.bltV .append #[148,148] 148 #[.slice t7 t8 t9,.slice (some a10) 1 1]).run Tryz.prog w11=.ok (.slice t13 t14 t15) w12/\
nilK x1 λ a16=>
stK w12 (a16.add 1) (.slice t13 t14 t15) λ w17=>
Q .nilIface w17
def V130_ann:Nat->Ann:=λ _=>⟨[],[]⟩
theorem V130_sound (x1 x2 w Q) (h:V130 x1 x2 w Q):Calls Tryz.prog 130 #[.pointer x1,.int .u8 x2] w λ e w'=>∃v,e=.returned v/\Q v w':=
 sound_of Tryz.func130 V130_ann rfl (Eq.mpr (by kernel_rfl) h)
def V69 (x1:Option Addr) (x2:ByteArray) (w:World) (Q:Value->World->Prop):Prop:=
Calls Tryz.prog 120 #[.pointer x1] w λ e3 w4=>∃t5,e3=.returned (t5)/\
nilK x1 λ a6=>
∃t7 t8 t9,w4.cell? (a6.add 1)=some (.slice t7 t8 t9)/\
∃w10:World,∃t11 t12 t13,(vcEff.bltV .append #[148,9] 148 #[.slice t7 t8 t9,.string x2]).run Tryz.prog w4=.ok (.slice t11 t12 t13) w10/\
nilK x1 λ a14=>
stK w10 (a14.add 1) (.slice t11 t12 t13) λ w15=>
Q (.tuple #[.int .i64 (x2.size:Int),.nilIface]) w15
def V69_ann:Nat->Ann:=λ _=>⟨[],[]⟩
theorem V69_sound (x1 x2 w Q) (h:V69 x1 x2 w Q):Calls Tryz.prog 69 #[.pointer x1,.string x2] w λ e w'=>∃v,e=.returned v/\Q v w':=
 sound_of Tryz.func69 V69_ann rfl (Eq.mpr (by kernel_rfl) h)
end Go.Fw

set_option maxRecDepth 100000
namespace Go.Fw
open Go.Proofs Go.RowKit
theorem sizeB:(Tryz.prog.info? 150).map (λ i=>i.size)=some 2:=by kernel_rfl
theorem liesB:liesAt Tryz.prog Tryz.prog.depth 150 (2 / Tryz.prog.cellsOf 150) 0 150 1=true:=by kernel_rfl
theorem C120_used (b:Nat) (w:World) (h0:w.cell? ⟨b,0,none⟩=some (.pointer (some ⟨b,0,none⟩))) :
  Calls Tryz.prog 120 #[.pointer (some ⟨b,0,none⟩)] w λ e w'=>e=.returned (.tuple #[])/\w'=w:=by
 obtain ⟨j,hj,_⟩:=Option.map_eq_some_iff.1 sizeB
 go_enter Tryz.func120,Tryz.ntmps120
 go_wp2
 rw [Lib.run_neq_ptr_same w _ Tryz.underlying147 hj]
 go_wp2
 go_end0
 exact ⟨rfl,rfl⟩
theorem C120_fresh (b:Nat) (w:World) (h0:w.cell? ⟨b,0,none⟩=some (.pointer none)) (hsh:w.shape? b=some (150,2)) (hfz:w.frozen? ⟨b,0,none⟩=false) :
  Calls Tryz.prog 120 #[.pointer (some ⟨b,0,none⟩)] w λ e w'=>e=.returned (.tuple #[])/\w'=w.setCell ⟨b,0,none⟩ (.pointer (some ⟨b,0,none⟩)):=by
 obtain ⟨j,hj,hjs⟩:=Option.map_eq_some_iff.1 sizeB
 go_enter Tryz.func120,Tryz.ntmps120
 go_wp2
 rw [Lib.run_to_unsafe w ⟨b,0,none⟩ Tryz.underlying147 Tryz.underlying311 hj (by rw [hjs];decide) hsh (Nat.zero_lt_succ 1)]
 simp only [Result.andThen]
 rw [Oper.upon_value]
 go_wp2
 rw [run_callFunc_extern Tryz.func201 (by kernel_rfl) (by kernel_rfl) (by kernel_rfl) (e:=Extern.AbiNoEscape.same) (by kernel_rfl)]
 rw [Lib.run_noEscape]
 simp only [Result.andThen]
 rw [Oper.upon_value]
 go_wp2
 rw [Lib.run_from_unsafe w ⟨b,0,none⟩ Tryz.underlying311 Tryz.underlying147 hj hsh liesB]
 simp only [Result.andThen]
 rw [Oper.upon_value]
 go_wp2
 go_end0
 exact ⟨rfl,rfl⟩
structure BufAt (w:World) (b B:Nat) (l:List UInt8):Prop where
 ex:∃p v,(p=none\/p=some ⟨b,0,none⟩)/\Blk w b 150 [.pointer p,v]/\w.ownsRow B 5 1 v l.length (Lib.byteCells l)
 ge:B<=b
def Bfp (b B:Nat) (w:World):Nat->Prop:=λ k=>k=b\/(B<=k/\etype w k=some 5)
theorem Keep.bfp {b B:Nat} {w w' w'':World} (h:Keep (Bfp b B w) w w') (h':Keep (Bfp b B w') w' w''):Keep (Bfp b B w) w w'':=
 h.trans h' λ k hk hf=>by
  by_cases hc:Bfp b B w k
  ·exact hc
  ·rcases hf with rfl | ⟨hB,he⟩
   ·exact .inl rfl
   ·refine .inr ⟨hB,?_⟩
    rw [<-he]
    unfold etype
    rw [h.block k hk hc]
theorem BufAt.no {w w':World} {b B:Nat} {l:List UInt8} (h:BufAt w b B l) (hk:Keep No w w'):BufAt w' b B l:=by
 obtain ⟨⟨p,v,h1,h2,h3⟩,hge⟩:=h
 exact ⟨⟨p,v,h1,hk.nblk h2,hk.nrow h3⟩,hge⟩
theorem BufAt.keep {w w':World} {fp:Nat->Prop} {b B:Nat} {l:List UInt8} (h:BufAt w b B l) (hk:Keep fp w w') (hn:∀k,B<=k->fp k->etype w k≠some 150/\etype w k≠some 5):BufAt w' b B l:=by
 obtain ⟨⟨p,v,h1,h2,h3⟩,hge⟩:=h
 exact ⟨⟨p,v,h1,hk.blk h2 λ hf=>(hn b hge hf).1 h2.etype,hk.row h3 λ g hg hf=>(hn g (h3.lt g hg).1 hf).2 (ownsRow_etype h3 hg)⟩,hge⟩
theorem BufAt.etype {w:World} {b B:Nat} {l:List UInt8} (h:BufAt w b B l):Fw.etype w b=some 150:=by
 obtain ⟨⟨p,v,h1,h2,h3⟩,hge⟩:=h
 exact h2.etype
theorem bufAt_new {w:World} {b B:Nat} (hb:Blk w b 150 [.pointer none,.slice none 0 0]) (hB:B<=b):BufAt w b B []:=
 ⟨⟨none,_,.inl rfl,hb,World.ownsRow_nil _ _ _ _⟩,hB⟩
theorem C120 {w:World} {b B:Nat} {l:List UInt8} (h:BufAt w b B l):Calls Tryz.prog 120 #[.pointer (some ⟨b,0,none⟩)] w λ e w'=>e=.returned (.tuple #[])/\
  (∃v,Blk w' b 150 [.pointer (some ⟨b,0,none⟩),v]/\w'.ownsRow B 5 1 v l.length (Lib.byteCells l))/\Keep (λ k=>k=b) w w':=by
 obtain ⟨⟨p,v,h1,h2,h3⟩,hge⟩:=h
 rcases h1 with rfl | rfl
 ·refine (C120_fresh b w (h2.cell rfl) ?_ h2.frozen).mono ?_
  ·have h2':=h2
   unfold Blk at h2'
   simp [World.shape?,h2']
  ·rintro _ _ ⟨rfl,rfl⟩
   refine ⟨rfl,⟨v,h2.set,(Keep.one w ⟨b,0,none⟩ _).row h3 λ g hg e=>?_⟩,Keep.one w ⟨b,0,none⟩ _⟩
   exact ownsRow_ne h3 h2 (by decide) ((show g=b from e) ▸ hg)
 ·refine (C120_used b w (h2.cell rfl)).mono ?_
  rintro _ _ ⟨rfl,rfl⟩
  exact ⟨rfl,⟨v,h2,h3⟩,Keep.refl _ _⟩
theorem infoU8:∃i,Tryz.prog.info? 5=some i/\i.zero=some (.int .u8 0)/\i.size=1/\i.bytes=1:=by
 obtain ⟨i,hi,hj⟩:=Option.map_eq_some_iff.1 (show (Tryz.prog.info? 5).map (λ i=>(i.zero,i.size,i.bytes))=some (some (.int .u8 0),1,1) by kernel_rfl)
 simp at hj
 exact ⟨i,hi,hj⟩
theorem C130 {w:World} {b B:Nat} {l:List UInt8} (c:UInt8) (h:BufAt w b B l) (hl:l.length<100000000000000) (hB:B<=w.heap.size) :
  Calls Tryz.prog 130 #[.pointer (some ⟨b,0,none⟩),.int .u8 c.toNat] w λ e w'=>e=.returned .nilIface/\BufAt w' b B (l ++ [c])/\Keep (Bfp b B w) w w':=by
 refine (V130_sound _ _ w (λ r w'=>r=.nilIface/\BufAt w' b B (l ++ [c])/\Keep (Bfp b B w) w w') ?_).mono (by rintro _ _ ⟨_,rfl,rfl,h⟩;exact ⟨rfl,h⟩)
 have hge:=h.ge
 unfold V130
 refine (C120 h).mono ?_
 rintro _ w1 ⟨rfl,⟨v,hb1,ho1⟩,hk1⟩
 refine ⟨_,rfl,?_⟩
 simp only [nilK_some]
 obtain ⟨a,n,cp,rfl,hn⟩:∃a n cp,v=.slice a n cp/\n=l.length:=by
  rcases ho1.2 with ⟨h1,h2⟩ | ⟨g,cap,cur,h1,_⟩
  ·exact ⟨_,_,_,h1,h2.symm⟩
  ·exact ⟨_,_,_,h1,rfl⟩
 subst hn
 refine ⟨_,_,_,hb1.add 1 rfl,newK_of λ b2 w2 hs2 hb2 hk2=>?_⟩
 obtain ⟨i,hi,hz,hi1,hi2⟩:=infoU8
 have hkk:Keep (Bfp b B w) w w2:=(hk1.mono λ _ _ e=>.inl e).no hk2
 refine append_of Tryz.underlying148 hi hz hi1 hi2 rfl (hk2.nrow ho1) hb2 rfl (by omega) (by omega) (by have:=hkk.size;omega) λ g cap w3 ho3 hk3 hat=>?_
 have hb3:=hk3.blk (hk2.nblk hb1) λ e=>ownsRow_ne (hk2.nrow ho1) (hk2.nblk hb1) (by decide) e
 refine stK_add hb3 (by simp) λ w4 hb4 hk4=>⟨trivial,⟨⟨_,_,.inr rfl,hb4,?_⟩,hge⟩,?_⟩
 ·have:=hk4.row ho3 λ g hg e=>ownsRow_ne ho3 hb3 (by decide) (e ▸ hg)
  simpa [Lib.byteCells] using this
 ·refine (hkk.bfp (hk3.mono λ k _ hg=>.inr ⟨(ho1.lt k hg).1,?_⟩)).trans hk4 λ _ _ e=>.inl e
  exact ownsRow_etype (hk2.nrow ho1) hg
theorem C69 {w:World} {b B:Nat} {l:List UInt8} (s:ByteArray) (h:BufAt w b B l) (hl:l.length+s.size<100000000000000) (hB:B<=w.heap.size) :
  Calls Tryz.prog 69 #[.pointer (some ⟨b,0,none⟩),.string s] w λ e w'=>e=.returned (.tuple #[.int .i64 s.size,.nilIface])/\BufAt w' b B (l ++ s.data.toList)/\Keep (Bfp b B w) w w':=by
 refine (V69_sound _ _ w (λ r w'=>r=.tuple #[.int .i64 s.size,.nilIface]/\BufAt w' b B (l ++ s.data.toList)/\Keep (Bfp b B w) w w') ?_).mono (by rintro _ _ ⟨_,rfl,rfl,h⟩;exact ⟨rfl,h⟩)
 have hge:=h.ge
 unfold V69
 refine (C120 h).mono ?_
 rintro _ w1 ⟨rfl,⟨v,hb1,ho1⟩,hk1⟩
 refine ⟨_,rfl,?_⟩
 simp only [nilK_some]
 obtain ⟨a,n,cp,rfl,hn⟩:∃a n cp,v=.slice a n cp/\n=l.length:=by
  rcases ho1.2 with ⟨h1,h2⟩ | ⟨g,cap,cur,h1,_⟩
  ·exact ⟨_,_,_,h1,h2.symm⟩
  ·exact ⟨_,_,_,h1,rfl⟩
 subst hn
 refine ⟨_,_,_,hb1.add 1 rfl,?_⟩
 obtain ⟨i,hi,hz,hi1,hi2⟩:=infoU8
 have hkk:Keep (Bfp b B w) w w1:=hk1.mono λ _ _ e=>.inl e
 obtain ⟨v',w3,hr,ho3,hg3,_⟩:=Lib.run_append_own_string (P:=Tryz.prog) w1 B 148 9 148 5 i Tryz.underlying148 Tryz.underlying9 hi hz hi1 hi2 _ _ _ ho1 s (by unfold maxLen;omega) (by omega) (by have:=hkk.size;omega)
 have hk3:=Keep.of_grown hg3
 obtain ⟨a',n',cp',rfl⟩:∃a n cp,v'=.slice a n cp:=by
  rcases ho3.2 with ⟨h1,h2⟩ | ⟨g,cap,cur,h1,_⟩
  ·exact ⟨_,_,_,h1⟩
  ·exact ⟨_,_,_,h1⟩
 refine ⟨w3,_,_,_,hr,?_⟩
 have hb3:=hk3.blk hb1 λ e=>ownsRow_ne ho1 hb1 (by decide) e
 refine stK_add hb3 (by simp) λ w4 hb4 hk4=>⟨trivial,⟨⟨_,_,.inr rfl,hb4,?_⟩,hge⟩,?_⟩
 ·have:=hk4.row ho3 λ g hg e=>ownsRow_ne ho3 hb3 (by decide) (e ▸ hg)
  have e2:(l ++ s.data.toList).length=l.length+s.size:=by rw [List.length_append,Array.length_toList];rfl
  rw [e2,Lib.byteCells_append,<-Lib.strCells_eq]
  exact this
 ·refine (hkk.bfp (hk3.mono λ k _ hg=>.inr ⟨(ho1.lt k hg).1,?_⟩)).trans hk4 λ _ _ e=>.inl e
  exact ownsRow_etype ho1 hg
end Go.Fw
