/- Part of a proof over the given program: texts of lemmas (conditions: none beyond each lemma as stated). -/
import Derived.Test.YtdmoefbfepeeaaaGreatDoorN13
import Derived.Laws.CopyRow
set_option linter.unnecessarySimpa false
set_option linter.unusedVariables false
set_option linter.unusedSimpArgs false

namespace Go.Fw
open Go.Proofs Go.RowKit
theorem row_slice {w:World} {base e size n:Nat} {v:Value} {xs:List Value} (h:w.ownsRow base e size v n xs):∃a c,v=.slice a n c:=by
 rcases h.2 with ⟨h1,h2⟩ | ⟨g,cap,cur,h1,_⟩
 ·exact ⟨_,_,by rw [h1,h2]⟩
 ·exact ⟨_,_,h1⟩
theorem C336_nil (a b:Int) (w:World):Calls Tryz.prog 336 #[.pointer none,.int .i64 a,.int .i64 b] w λ e w'=>e=.returned (.tuple #[])/\w'=w:=by
 refine ret_mono (V336_sound _ _ _ w (λ r w'=>r=.tuple #[]/\w'=w) ?_) (by rintro _ _ ⟨rfl,h⟩;exact ⟨rfl,h⟩)
 unfold V336
 refine bsel_neg rfl ?_
 unfold V336J1
 exact bsel_neg rfl ⟨rfl,rfl⟩
theorem C325_nil (w:World):Calls Tryz.prog 325 #[.pointer none] w λ e w'=>e=.returned (.tuple #[])/\w'=w:=by
 refine ret_mono (V325_sound _ w (λ r w'=>r=.tuple #[]/\w'=w) ?_) (by rintro _ _ ⟨rfl,h⟩;exact ⟨rfl,h⟩)
 unfold V325
 refine (C336_nil _ _ w).mono ?_
 rintro _ w1 ⟨rfl,rfl⟩
 exact ⟨_,rfl,rfl,rfl⟩
theorem C291_nil (n:Int) (w:World):Calls Tryz.prog 291 #[.pointer none,.int .i64 n] w λ e w'=>e=.returned (.tuple #[])/\w'=w:=by
 refine ret_mono (V291_sound _ _ w (λ r w'=>r=.tuple #[]/\w'=w) ?_) (by rintro _ _ ⟨rfl,h⟩;exact ⟨rfl,h⟩)
 unfold V291
 refine (C336_nil _ _ w).mono ?_
 rintro _ w1 ⟨rfl,rfl⟩
 exact ⟨_,rfl,rfl,rfl⟩
section
variable {w w':World} {R t:Nat} {T:Tb}
theorem C276 {ev cv:Value} {lv bi ma tu:Int} {log:Nat} (hlog:3<=log/\log<=20) (hb:Blk w t 315 [.pointer none,ev,cv,.int .i64 lv,.int .i64 bi,.int .i64 ma,.int .i64 tu]) (hma:0<=ma/\ma<1000000000000) :
  Calls Tryz.prog 276 #[.pointer (some ⟨t,0,none⟩),.int .i64 log] w λ e w'=>e=.returned (.tuple #[])/\∃c g,Blk w' t 315 [.pointer none,ev,.pointer (some ⟨c,0,none⟩),.int .i64 lv,.int .i64 bi,.int .i64 (ma+1),.int .i64 tu]/\
   CellsOk w' w.heap.size c g log (List.replicate (2 ^ log) (-1))/\Keep (λ k=>k=t) w w':=by
 refine ret_mono (V276_sound _ _ w (λ r w'=>r=.tuple #[]/\∃c g,Blk w' t 315 [.pointer none,ev,.pointer (some ⟨c,0,none⟩),.int .i64 lv,.int .i64 bi,.int .i64 (ma+1),.int .i64 tu]/\
   CellsOk w' w.heap.size c g log (List.replicate (2 ^ log) (-1))/\Keep (λ k=>k=t) w w') ?_) (by rintro _ _ ⟨rfl,h⟩;exact ⟨rfl,h⟩)
 have hlt:=hb.lt
 unfold V276
 refine (C324 hlog w).mono ?_
 rintro _ w1 ⟨c,g,rfl,hc,hk1⟩
 refine ⟨_,_,rfl,?_⟩
 simp only [nilK_some]
 have hct:c≠t/\g≠t:=⟨by have:=hc.ge.1;omega,by have:=hc.ge.2;omega⟩
 refine stK_add (hk1.nblk hb) (by simp) λ w2 hb2 hk2=>?_
 refine ⟨_,hb2.add 5 rfl,stK_add hb2 (by simp) λ w3 hb3 hk3=>⟨_,hb3.add 0 rfl,(C325_nil w3).mono ?_⟩⟩
 rintro _ w4 ⟨rfl,rfl⟩
 rw [wrap_i64 (by omega)] at hb3
 exact ⟨_,rfl,by trivial,c,g,hb3,(hc.keep hk2 hct.1 hct.2).keep hk3 hct.1 hct.2,((Keep.of_no hk1).trans hk2 λ _ _ e=>e).trans hk3 λ _ _ e=>e⟩
theorem C214 (w:World):Calls Tryz.prog 214 #[.pointer none] w λ e w'=>∃t c g,e=.returned (.pointer (some ⟨t,0,none⟩))/\TabAt w' w.heap.size t ⟨.slice none 0 0,c,g,3,[],List.replicate 8 (-1),0,0,1,0⟩/\Keep No w w':=by
 refine ret_mono (V214_sound _ w (λ r w'=>∃t c g,r=.pointer (some ⟨t,0,none⟩)/\TabAt w' w.heap.size t ⟨.slice none 0 0,c,g,3,[],List.replicate 8 (-1),0,0,1,0⟩/\Keep No w w') ?_) (by rintro _ _ ⟨t,c,g,rfl,h⟩;exact ⟨t,c,g,rfl,h⟩)
 unfold V214
 refine newK_of λ t w1 hs hb hk1=>(C276 (log:=3) (by decide) hb (by decide)).mono ?_
 rintro _ w2 ⟨rfl,c,g,hb2,hc2,hk2⟩
 have hs1:=hk1.size
 exact ⟨_,rfl,t,c,g,rfl,⟨hb2,World.ownsRow_nil _ _ _ _,⟨hc2.lg,hc2.blk,hc2.row,hc2.len,hc2.rng,by have:=hc2.ge;exact ⟨by simp only;omega,by simp only;omega⟩⟩,by omega,by simp⟩,hk1.news hk2 λ k e=>by omega⟩
theorem C287 (h:TabAt w R t T):Calls Tryz.prog 287 #[.pointer (some ⟨t,0,none⟩)] w λ e w'=>e=.returned (.tuple #[])/\w'=w:=by
 refine ret_mono (V287_sound _ w (λ r w'=>r=.tuple #[]/\w'=w) ?_) (by rintro _ _ ⟨rfl,h⟩;exact ⟨rfl,h⟩)
 unfold V287
 rw [nilK_some]
 exact ⟨_,h.blk.add 2 rfl,bsel_neg rfl ⟨rfl,rfl⟩⟩
theorem C332 (h:TabAt w R t T) (hc:T.cells=List.replicate (2 ^ T.log) (-1)) (hlive:∀e ∈ T.es,e.live=true) :
  Calls Tryz.prog 332 #[.pointer (some ⟨t,0,none⟩)] w λ r w'=>r=.returned (.tuple #[])/\∃cs,TabAt w' R t { T with cells:=cs }/\IdxOk T.es T.log cs/\Keep (λ x=>x=T.cg) w w':=by
 refine ret_mono (V332_sound _ w (λ r w'=>r=.tuple #[]/\∃cs,TabAt w' R t { T with cells:=cs }/\IdxOk T.es T.log cs/\Keep (λ x=>x=T.cg) w w') ?_) (by rintro _ _ ⟨rfl,h⟩;exact ⟨rfl,h⟩)
 unfold V332
 rw [nilK_some]
 obtain ⟨a,cap,hev⟩:=row_slice h.row
 have hroom:=room_bound h.cel.lg.2
 have hlen:=h.len
 refine ⟨_,_,_,h.blk.add 1 (by rw [Tb.all,hev];rfl),λ i w'=>0<=i/\i<=T.es.length/\∃cs,TabAt w' R t { T with cells:=cs }/\IdxOk (T.es.take i.toNat) T.log cs/\Keep (λ x=>x=T.cg) w w',λ i _=>(T.es.length-i).toNat,
  ⟨by omega,by omega,T.cells,h,by rw [hc];exact IdxOk.fresh h.cel.lg,Keep.refl _ _⟩,?_⟩
 rintro j i w1 ⟨hi0,hin,cs,h1,hI,hk1⟩
 refine bsel_split (λ hlt=>?_) λ hge=>?_
 ·simp at hlt
  obtain ⟨n,rfl⟩:=Int.eq_ofNat_of_zero_le hi0
  simp only [Int.toNat_natCast] at hI
  obtain ⟨e,he⟩:∃e,T.es[n]?=some e:=⟨_,List.getElem?_eq_getElem (by omega)⟩
  have htl:(T.es.take n).length=n:=by simp;omega
  obtain ⟨k,hk,hemp,ha⟩:=hI.empty (by rw [htl];omega) e.hash
  refine (C333 h1 he hk hemp ha).mono ?_
  rintro _ w2 ⟨rfl,h2,hk2⟩
  refine ⟨_,rfl,?_⟩
  rw [wrap_i64 (by omega)]
  have e1:((n:Int)+1).toNat=n+1:=by omega
  refine ⟨⟨by omega,by omega,_,h2,?_,hk1.trans hk2 λ _ _ e=>e⟩,by simp only;omega⟩
  have:=hI.lay (by rw [htl];omega) e (hlive e (List.mem_of_getElem? he))
  rw [htl] at this
  have he2:=(List.getElem?_eq_some_iff.1 he)
  rw [e1,List.take_succ_eq_append_getElem he2.1,he2.2]
  exact this
 ·simp at hge
  have:i=T.es.length:=by omega
  subst this
  rw [Int.toNat_natCast,List.take_length] at hI
  exact ⟨rfl,cs,h1,hI,hk1⟩
end
theorem seg_self {α:Type} (l cs:List α) (o:Nat) (h:∀j v,cs[j]?=some v->l[o+j]?=some v) (hl:o+cs.length<=l.length):l.take o ++ cs ++ l.drop (o+cs.length)=l:=by
 have:cs=(l.drop o).take cs.length:=by
  apply List.ext_getElem?
  intro j
  rw [List.getElem?_take]
  split
  ·rename_i hj
   rw [List.getElem?_drop,List.getElem?_eq_getElem hj]
   exact (h j _ (List.getElem?_eq_getElem hj)).symm
  ·rename_i hj
   exact List.getElem?_eq_none (by omega)
 rw [this]
 simp only [List.length_take,List.length_drop]
 rw [show min cs.length (l.length-o)=cs.length by omega,List.append_assoc,<-List.drop_drop,List.take_append_drop,List.take_append_drop]
theorem run_copy_self {P:Program} {w:World} {dT sT ty elem:TypeId} {size g o dCap sCap:Nat} {cur:Array Value} {e:TypeId} {cs:List Value} (hu:P.underlying dT=some (.slice elem)) (hs:(P.info? elem).map (·.size)=some size)
  (hg:w.heap[g]?=some (.cells cur e (0,0))) (hn:cs.length=size) (hsrc:∀j v,cs[j]?=some v->cur.toList[o+j]?=some v) (hfit:o+cs.length<=cur.size) (h1:∀v ∈ cs,v.oneCell'=true) :
  (vcEff.bltV .copy #[dT,sT] ty #[.slice (some ⟨g,o,none⟩) 1 dCap,.slice (some ⟨g,o,none⟩) 1 sCap]).run P w=.ok (.int .i64 1) w:=by
 have hl:=run_loadCells_list (P:=P) w ⟨g,o,none⟩ cs (λ j v hv=>by
  rw [add_mk]
  have:=hsrc j v hv
  simp [World.cell?,hg]
  simpa using this)
 have hst:=run_storeCells_at P g o e cs 0 cur w hg (by simpa using hfit) h1
 rw [Nat.add_zero,seg_self cur.toList cs o hsrc (by simpa using hfit)] at hst
 rw [Array.toArray_toList,setRow_self w g cur e (0,0) hg] at hst
 cases hq:P.info? elem with
 | none=>simp [hq] at hs
 | some i=>
  have hi:i.size=size:=by simpa [hq] using hs
  subst hn
  simp [vcEff.bltV,Builtin.copy_,run_underlying hu,Builtin.lenOf,Builtin.firstCells,sizeOf,typeInfo,hq,hi,hl,hst,goInt]
theorem run_clear_none {P:Program} {w:World} {t e ty:TypeId} {a:Option Addr} {c:Nat} (hu:P.underlying t=some (.slice e)):(vcEff.bltV .clear #[t] ty #[.slice a 0 c]).run P w=.ok (.tuple #[]) w:=by
 cases a <;> simp [vcEff.bltV,Builtin.clear_,run_underlying hu]
end Go.Fw

namespace Go.Fw
open Go.Proofs Go.RowKit
theorem ents_info:∃i z,Tryz.prog.info? 295=some i/\i.zero=some z/\i.size=5/\i.bytes=40/\z.cells.size=5:=by
 have h:(Tryz.prog.info? 295).map (λ i=>(i.zero.map (λ z=>z.cells.size),i.size,i.bytes))=some (some 5,5,40):=by kernel_rfl
 obtain ⟨i,hi,hj⟩:=Option.map_eq_some_iff.1 h
 simp at hj
 obtain ⟨⟨z,hz,hzz⟩,h1,h2⟩:=hj
 exact ⟨i,z,hi,hz,h1,h2,by simpa using hzz⟩
theorem ents_und:Tryz.prog.underlying 292=some (.slice 295):=by kernel_rfl
theorem callFunc330 (x y:Value) (w:World):(callFunc 330 #[x,y]).run Tryz.prog w=.ok (.enter 330 #[x,y]) w:=by kernel_rfl
section
variable {w w':World} {R t:Nat} {T:Tb}
theorem C331_live (h:TabAt w R t T) (hlive:∀e ∈ T.es,e.live=true) (hne:T.es≠[]) :
  Calls Tryz.prog 331 #[.pointer (some ⟨t,0,none⟩)] w λ r w'=>r=.returned (.tuple #[])/\TabAt w' R t T/\Keep (λ k=>k=t) w w':=by
 refine ret_mono (V331_sound _ w (λ r w'=>r=.tuple #[]/\TabAt w' R t T/\Keep (λ k=>k=t) w w') ?_) (by rintro _ _ ⟨rfl,h⟩;exact ⟨rfl,h⟩)
 unfold V331
 simp only [nilK_some]
 have hlen0:0<T.es.length:=List.length_pos_iff.2 hne
 have hroom:=room_bound h.cel.lg.2
 have hlen:=h.len
 obtain ⟨g,cap,hev,_,_⟩:=h.ent (i:=0) (e:=T.es[0]) (List.getElem?_eq_getElem hlen0)
 have hfld:∀{w1:World},TabAt w1 R t T->w1.cell? ((⟨t,0,none⟩:Addr).add 1)=some (.slice (some ⟨g,0,none⟩) T.es.length cap):=λ h1=>h1.blk.add 1 (by rw [Tb.all,hev];rfl)
 obtain ⟨cur,hcur,hcap,hcs,htk⟩:∃cur,w.heap[g]?=some (.cells cur 295 (0,0))/\T.es.length<=cap/\cur.size=cap*5/\cur.toList.take (T.es.length*5)=T.es.flatMap Ent.cells:=by
  rcases h.row.2 with ⟨h1,h2⟩ | ⟨g',cap',cur,h1,h2,h3,h4,h5,h6,h7⟩
  ·rw [hev] at h1;cases h1
  ·rw [hev] at h1;cases h1
   exact ⟨cur,h3,h4,h6,h7⟩
 have hcl:cap<=maxLen:=by
  rcases h.row.2 with ⟨h1,h2⟩ | ⟨g',cap',cur,h1,h2,h3,h4,h5,h6,h7⟩
  ·rw [hev] at h1;cases h1
  ·rw [hev] at h1;cases h1
   exact h5
 refine ⟨_,_,_,hfld h,λ n i w'=>n=i/\0<=i/\i<=T.es.length/\Keep No w w',λ _ i _=>(T.es.length-i).toNat,⟨rfl,by omega,by omega,Keep.refl _ _⟩,?_⟩
 rintro j n i w1 ⟨rfl,hi0,hin,hk1⟩
 have h1:=h.no hk1
 refine bsel_split (λ hlt=>?_) λ hge=>?_
 ·simp at hlt
  obtain ⟨m,rfl⟩:=Int.eq_ofNat_of_zero_le hi0
  obtain ⟨e,he⟩:∃e,T.es[m]?=some e:=⟨_,List.getElem?_eq_getElem (by omega)⟩
  obtain ⟨g1,cap1,hev1,hm,hent⟩:=h1.ent_add he
  rw [hev] at hev1
  cases hev1
  have hel:=hlive e (List.mem_of_getElem? he)
  refine idxK_of hm ⟨_,_,_,_,_,hent,copy5 λ b w2 hb hk2 hs=>⟨_,hb.add 0 rfl,bsel_pos hel ?_⟩⟩
  have hk2:=hk2.no (Keep.drawn w2)
  have h2:=h1.no hk2
  refine ⟨_,_,_,hfld h2,⟨⟨by omega,by rw [wrap_i64 (by omega)];omega,by rw [wrap_i64 (by omega)];omega⟩,_,_,_,hfld h2,⟨by omega,by rw [wrap_i64 (by omega)];omega,by rw [wrap_i64 (by omega)];omega⟩,?_⟩⟩
  have ea:(if (cap:Int)=(m:Int) then some (⟨g,0,none⟩:Addr) else (some (⟨g,0,none⟩:Addr)).map (·.add ((m:Int).toNat*5)))=some ⟨g,m*5,none⟩:=by
   rw [if_neg (by omega),Int.toNat_natCast,Option.map_some,add_mk,Nat.zero_add]
  rw [ea,wrap_i64 (n:=(m:Int)+1) (by omega),show ((m:Int)+1).toNat-(m:Int).toNat=1 by omega]
  have hgc:w2.drew.heap[g]?=some (.cells cur 295 (0,0)):=by rw [(hk1.no hk2).block g (Array.getElem?_eq_some_iff.1 hcur).1 id,hcur]
  obtain ⟨ii,zz,q1,q2,q3,q4,q5⟩:=ents_info
  refine ⟨_,_,run_copy_self (size:=5) ents_und (by rw [q1];simpa using q3) hgc (cs:=e.cells) rfl (λ j v hv=>?_) (by rw [hcs];simp only [ent_len];omega) (λ v hv=>?_),?_⟩
  ·have hj5:j<5:=(List.getElem?_eq_some_iff.1 hv).1
   have hf:=flat_get (f:=Ent.cells) ent_len hj5 _ _ _ he
   rw [<-htk,List.getElem?_take] at hf
   split at hf
   ·rw [hf,hv]
   ·rename_i hx;exact absurd (by omega) hx
  ·unfold Ent.cells at hv
   simp at hv
   rcases hv with rfl | rfl | rfl | rfl | rfl <;> rfl
  ·refine ⟨⟨by rw [wrap_i64 (by omega)],by omega,by omega,hk1.no hk2⟩,by simp only;omega⟩
 ·simp at hge
  have:n=T.es.length:=by omega
  subst this
  refine ⟨_,_,_,hfld h1,⟨by omega,Int.le_refl _,by omega⟩,?_⟩
  rw [Nat.sub_self]
  refine ⟨_,_,run_clear_none ents_und,_,_,_,hfld h1,⟨by omega,by omega,by omega⟩,?_⟩
  have ea:(if (cap:Int)=0 then some (⟨g,0,none⟩:Addr) else (some (⟨g,0,none⟩:Addr)).map (·.add ((0:Int).toNat*5)))=some ⟨g,0,none⟩:=by
   split <;> rfl
  rw [ea]
  refine stK_add h1.blk (by simp [Tb.all]) λ w2 hb2 hk2=>⟨by trivial,?_,hk1.of_no.trans hk2 λ _ _ e=>e⟩
  obtain ⟨n1,n2,n3⟩:=h1.ne_t
  refine ⟨?_,hk2.row h1.row λ g' hg' e=>n1 (by rw [hg',e]),h1.cel.keep hk2 n2 n3,h1.ge,h1.len⟩
  have e2:Tb.all T=T.all.set 1 (.slice (some ⟨g,0,none⟩) ((T.es.length:Int).toNat-(0:Int).toNat) (cap-(0:Int).toNat)):=by
   rw [Tb.all,hev];rfl
  rw [e2];exact hb2
theorem C330 {a t:Nat} {lv:Int} {w:World} {log:Nat} (hl:log<=20) (ha:Blk w a 233 [.pointer (some ⟨t,0,none⟩)]) (hlv:w.cell? ((⟨t,0,none⟩:Addr).add 3)=some (.int .i64 lv)) (hb:0<=lv/\lv<1000000000000) :
  Calls Tryz.prog 330 #[.int .i64 log,.pointer (some ⟨a,0,none⟩)] w λ e w'=>e=.returned (.bool (decide (3*lv<=(2 ^ log:Nat))))/\Keep No w w':=by
 refine ret_mono (V330_sound _ ⟨a,0,none⟩ w (λ r w'=>r=.bool (decide (3*lv<=(2 ^ log:Nat)))/\Keep No w w') ?_) (by rintro _ _ ⟨rfl,h⟩;exact ⟨rfl,h⟩)
 unfold V330
 refine ⟨by omega,_,ha.drew.cell rfl,?_⟩
 rw [nilK_some]
 refine ⟨lv,hlv,?_,Keep.drawn w⟩
 rw [shl_i64 hl,wrap_i64 (by omega)]
theorem C329 {a t:Nat} {lv:Int} {w:World} (ha:Blk w a 233 [.pointer (some ⟨t,0,none⟩)]) (hlv:w.cell? ((⟨t,0,none⟩:Addr).add 3)=some (.int .i64 lv)) (hb:0<=lv/\3*lv<=1048576) :
  Calls Tryz.prog 329 #[.func (.func 330) #[] #[.pointer (some ⟨a,0,none⟩)]] w λ e w'=>∃log:Nat,e=.returned (.int .i64 log)/\3<=log/\log<=20/\3*lv<=(2 ^ log:Nat)/\Keep No w w':=by
 refine ret_mono (V329_sound _ w (λ r w'=>∃log:Nat,r=.int .i64 log/\3<=log/\log<=20/\3*lv<=(2 ^ log:Nat)/\Keep No w w') ?_) (by rintro _ _ ⟨log,rfl,h⟩;exact ⟨log,rfl,h⟩)
 unfold V329
 refine ⟨λ i w'=>3<=i/\i<=20/\Keep No w w',λ i _=>(21-i).toNat,⟨by omega,by omega,Keep.refl _ _⟩,?_⟩
 rintro j i w1 ⟨h3,h20,hk1⟩
 obtain ⟨n,rfl⟩:=Int.eq_ofNat_of_zero_le (show 0<=i by omega)
 refine bsel_pos (by simp;omega) ⟨callFunc330 _ _ _,(C330 (by omega) (hk1.nblk ha) (hk1.cell hlv id) (by omega)).mono ?_⟩
 rintro _ w2 ⟨rfl,hk2⟩
 refine ⟨_,rfl,bsel_split (λ hc=>?_) λ hc=>?_⟩
 ·have hc:¬3*lv<=(2 ^ n:Nat):=by simpa using hc
  have:n≠20:=by
   rintro rfl
   apply hc
   have:(2 ^ 20:Nat)=1048576:=rfl
   omega
  rw [wrap_i64 (by omega)]
  exact ⟨⟨by omega,by omega,hk1.no hk2⟩,by simp only;omega⟩
 ·have hc:3*lv<=(2 ^ n:Nat):=by simpa using hc
  exact ⟨n,rfl,by omega,by omega,hc,hk1.no hk2⟩
structure TbOk (T:Tb):Prop where
 idx:IdxOk T.es T.log T.cells
 live:∀e ∈ T.es,e.live=true
 cnt:T.live=T.es.length
 num:0<=T.births/\0<=T.made/\0<=T.turns
theorem TabAt.set {T':Tb} {i:Nat} {v:Value} (h:TabAt w R t T) (hb:Blk w' t 315 (T.all.set i v)) (hk:Keep (λ k=>k=t) w w') (he:T'.all=T.all.set i v) (h1:T'.ev=T.ev) (h2:T'.c=T.c) (h3:T'.cg=T.cg) (h4:T'.log=T.log) (h5:T'.es=T.es) (h6:T'.cells=T.cells):TabAt w' R t T':=by
 obtain ⟨n1,n2,n3⟩:=h.ne_t
 refine ⟨he ▸ hb,?_,?_,h.ge,by rw [h4,h5];exact h.len⟩
 ·rw [h1,h5];exact hk.row h.row λ g' hg' e=>n1 (by rw [hg',e])
 ·rw [h2,h3,h4,h6];exact h.cel.keep hk n2 n3
theorem add_tail {a5:Nat} {hash key value:Int} {Q:Value->World->Prop} (h:TabAt w R t T) (ho:TbOk T) (hlt:T.es.length<room T.log) (hR:R<=w.heap.size) (ha:Blk w a5 233 [.pointer (some ⟨t,0,none⟩)]) (hn:T.births<1000000000000/\T.turns<1000000000000)
  (hQ:∀ev cs w',TabAt w' R t { T with ev:=ev,es:=T.es ++ [⟨true,hash,key,value,T.births⟩],cells:=cs,live:=T.live+1,births:=T.births+1,turns:=T.turns+1 }->
   IdxOk (T.es ++ [⟨true,hash,key,value,T.births⟩]) T.log cs->(∀k,ev.ownBlock=some k->T.ev.ownBlock=some k\/w.heap.size<=k)->Keep (T.own t) w w'->Q (.tuple #[.int .i64 T.es.length,.int .i64 0]) w') :
  V286J2 Q hash key value ⟨a5,0,none⟩ w:=by
 have hroom:=room_bound h.cel.lg.2
 obtain ⟨sa,cap,hev⟩:=row_slice h.row
 have hfld:∀{w1:World},TabAt w1 R t T->w1.cell? ((⟨t,0,none⟩:Addr).add 1)=some (.slice sa T.es.length cap):=λ h1=>h1.blk.add 1 (by rw [Tb.all,hev];rfl)
 unfold V286J2
 have hd:=Keep.drawn w
 have h1:=h.no hd
 refine ⟨_,ha.cell rfl,?_⟩
 rw [nilK_some]
 refine ⟨_,_,_,hfld h,_,ha.drew.cell rfl,_,ha.drew.cell rfl,?_⟩
 rw [nilK_some]
 refine ⟨_,_,_,hfld h1,_,ha.drew.cell rfl,?_⟩
 rw [nilK_some]
 refine ⟨_,h1.blk.add 4 rfl,newK_of λ b w2 hs2 hb2 hk2=>?_⟩
 have h2:=h1.no hk2
 have ha2:=hk2.nblk ha.drew
 have hk02:=hd.no hk2
 refine ⟨hfld h2,ha2.cell rfl,ha2.cell rfl,?_⟩
 obtain ⟨ii,zz,q1,q2,q3,q4,q5⟩:=ents_info
 have hrow2:=h2.row
 rw [hev] at hrow2
 refine appendN (m:=1) ents_und q1 q2 q3 q4 q5 (by decide) hrow2 hb2 rfl (by intro u hu;simp at hu;rcases hu with rfl | rfl | rfl | rfl | rfl <;> rfl) (by decide) (by omega) (by decide) (by have:=hk02.size;omega) λ g cap' w3 hrow3 hk3 hat=>?_
 have hne2:=h2.ne_t
 have hnev:=h2.ne_ev
 rw [hev] at hne2 hnev
 have ha3:=hk3.blk ha2 λ e=>ownsRow_ne hrow2 ha2 (by decide) e
 have hblk3:=hk3.blk h2.blk λ e=>hne2.1 e
 have hcel3:=h2.cel.keep hk3 (λ e=>hnev.1 e) λ e=>hnev.2 e
 refine ⟨ha3.cell rfl,?_⟩
 rw [nilK_some]
 refine stK_add hblk3 (by simp [Tb.all]) λ w4 hb4 hk4=>?_
 have ht4:g≠t:=λ e=>ownsRow_ne hrow3 hblk3 (by decide) (by rw [e];rfl)
 generalize hT4:({ T with ev:=.slice (some ⟨g,0,none⟩) (T.es.length+1) cap',es:=T.es ++ [⟨true,hash,key,value,T.births⟩] }:Tb)=T4
 have h4:TabAt w4 R t T4:=by
  subst hT4
  refine ⟨hb4,?_,hcel3.keep hk4 hne2.2.1 hne2.2.2,h.ge,by simp;omega⟩
  have:=hk4.row hrow3 λ g' hg' e=>by cases hg';exact ht4 e
  simpa [Ent.cells] using this
 have hev4:∀k,T4.ev.ownBlock=some k->T.ev.ownBlock=some k\/w.heap.size<=k:=by
  subst hT4
  intro k hk
  cases hk
  rcases hat with hat | hat
  ·exact .inl (by rw [hev];exact hat)
  ·exact .inr (by have:=hk02.size;show w.heap.size<=g;omega)
 have hk04:Keep (T.own t) w w4:=(hk02.of_no.trans hk3 λ k _ e=>.inr (.inl (by rw [hev];exact e))).trans hk4 λ k _ e=>.inl e
 have ha4:=hk4.blk ha3 λ e=>by
  have:=ha3.etype
  rw [e,hblk3.etype] at this
  cases this
 have hes:T4.es=T.es ++ [⟨true,hash,key,value,T.births⟩]:=by subst hT4;rfl
 have hcs4:T4.cells=T.cells/\T4.log=T.log/\T4.cg=T.cg/\T4.c=T.c:=by subst hT4;exact ⟨rfl,rfl,rfl,rfl⟩
 unfold V286J1
 refine ⟨_,ha4.cell rfl,?_⟩
 obtain ⟨k,hk,hemp,hah⟩:=ho.idx.empty h.len hash
 refine (C333 h4 (i:=T.es.length) (e:=⟨true,hash,key,value,T.births⟩) (by rw [hes];simp) (k:=k) (by rw [hcs4.2.1];exact hk) (by rw [hcs4.1,hcs4.2.1];exact hemp) (by rw [hcs4.1,hcs4.2.1];exact hah)).mono ?_
 rintro _ w5 ⟨rfl,h5,hk5⟩
 refine ⟨_,rfl,?_⟩
 have hidx:=ho.idx.lay h.len ⟨true,hash,key,value,T.births⟩ rfl
 rw [hcs4.1,hcs4.2.1] at h5
 have hnot5:¬a5=T4.cg:=λ e=>h4.not_own ha4.etype (by rintro _ ⟨⟩;decide) (.inr (.inr (.inr e)))
 have ha5:=hk5.blk ha4 hnot5
 have hk05:=hk04.trans hk5 λ x _ e=>.inr (.inr (.inr (by rw [e];exact hcs4.2.2.1)))
 have hnum:=ho.num
 have hcnt:=ho.cnt
 have hln:(T.es.length:Int)<2147483648:=by omega
 subst hT4
 refine ⟨_,ha5.cell rfl,?_⟩
 simp only [nilK_some]
 refine ⟨_,h5.blk.add 4 rfl,stK_add h5.blk (by simp [Tb.all]) λ w6 hb6 hk6=>?_⟩
 rw [wrap_i64 (by simp only;omega)] at hb6
 have hna:∀{w1:World} {T1:Tb},TabAt w1 R t T1->Blk w1 a5 233 [.pointer (some ⟨t,0,none⟩)]->a5≠t:=λ q1 q2 e=>by
  have:=q2.etype
  rw [e,q1.blk.etype] at this
  cases this
 have ha6:=hk6.blk ha5 (hna h5 ha5)
 have h6:=h5.set (T':={ T with ev:=.slice (some ⟨g,0,none⟩) (T.es.length+1) cap',es:=T.es ++ [⟨true,hash,key,value,T.births⟩],cells:=lay T.cells T.log hash T.es.length,births:=T.births+1 }) hb6 hk6 rfl rfl rfl rfl rfl rfl rfl
 have hk06:=hk05.trans hk6 λ x _ e=>.inl e
 refine ⟨_,ha6.cell rfl,?_⟩
 simp only [nilK_some]
 refine ⟨_,h6.blk.add 3 rfl,stK_add h6.blk (by simp [Tb.all]) λ w7 hb7 hk7=>?_⟩
 rw [wrap_i64 (by simp only;omega)] at hb7
 have ha7:=hk7.blk ha6 (hna h6 ha6)
 have h7:=h6.set (T':={ T with ev:=.slice (some ⟨g,0,none⟩) (T.es.length+1) cap',es:=T.es ++ [⟨true,hash,key,value,T.births⟩],cells:=lay T.cells T.log hash T.es.length,births:=T.births+1,live:=T.live+1 }) hb7 hk7 rfl rfl rfl rfl rfl rfl rfl
 have hk07:=hk06.trans hk7 λ x _ e=>.inl e
 refine ⟨_,ha7.cell rfl,?_⟩
 simp only [nilK_some]
 refine ⟨_,h7.blk.add 6 rfl,stK_add h7.blk (by simp [Tb.all]) λ w8 hb8 hk8=>?_⟩
 rw [wrap_i64 (by simp only;omega)] at hb8
 have h8:=h7.set (T':={ T with ev:=.slice (some ⟨g,0,none⟩) (T.es.length+1) cap',es:=T.es ++ [⟨true,hash,key,value,T.births⟩],cells:=lay T.cells T.log hash T.es.length,births:=T.births+1,live:=T.live+1,turns:=T.turns+1 }) hb8 hk8 rfl rfl rfl rfl rfl rfl rfl
 have hk08:=hk07.trans hk8 λ x _ e=>.inl e
 exact hQ _ _ _ h8 hidx hev4 hk08
end
end Go.Fw

namespace Go.Fw
open Go.Proofs Go.RowKit
section
variable {w w':World} {R t:Nat} {T:Tb}
theorem Tb.own_mono {T T':Tb} {B:Nat} {t k:Nat} (h:T'.own t k) (h1:∀k,T'.ev.ownBlock=some k->T.ev.ownBlock=some k\/B<=k) (h2:T'.c=T.c\/B<=T'.c) (h3:T'.cg=T.cg\/B<=T'.cg):T.own t k\/B<=k:=by
 rcases h with rfl | h | rfl | rfl
 ·exact .inl (.inl rfl)
 ·rcases h1 k h with h | h
  ·exact .inl (.inr (.inl h))
  ·exact .inr h
 ·rcases h2 with h | h
  ·exact .inl (.inr (.inr (.inl h)))
  ·exact .inr h
 ·rcases h3 with h | h
  ·exact .inl (.inr (.inr (.inr h)))
  ·exact .inr h
theorem C286 {hash key value:Int} (h:TabAt w R t T) (ho:TbOk T) (hR:R<=w.heap.size) (hl:3*T.es.length<=1048576) (hn:T.births<1000000000000/\T.turns<1000000000000/\T.made<1000000000000) :
  Calls Tryz.prog 286 #[.pointer (some ⟨t,0,none⟩),.int .i64 hash,.int .i64 key,.int .i64 value] w λ r w'=>r=.returned (.tuple #[.int .i64 T.es.length,.int .i64 0])/\
   ∃T',TabAt w' R t T'/\TbOk T'/\T'.es=T.es ++ [⟨true,hash,key,value,T.births⟩]/\T'.births=T.births+1/\T'.turns=T.turns+1/\T'.made<=T.made+1/\(∀k,T'.own t k->T.own t k\/w.heap.size<=k)/\Keep (T.own t) w w':=by
 refine ret_mono (V286_sound _ hash key value w (λ r w'=>r=.tuple #[.int .i64 T.es.length,.int .i64 0]/\
   ∃T',TabAt w' R t T'/\TbOk T'/\T'.es=T.es ++ [⟨true,hash,key,value,T.births⟩]/\T'.births=T.births+1/\T'.turns=T.turns+1/\T'.made<=T.made+1/\(∀k,T'.own t k->T.own t k\/w.heap.size<=k)/\Keep (T.own t) w w') ?_) (by rintro _ _ ⟨rfl,h⟩;exact ⟨rfl,h⟩)
 have hnum:=ho.num
 have hcnt:=ho.cnt
 have hroom:=room_bound h.cel.lg.2
 unfold V286
 refine newK_of λ a5 w1 hs5 ha hk1=>⟨_,ha.cell rfl,bsel_neg rfl ⟨_,ha.cell rfl,(C287 (h.no hk1)).mono ?_⟩⟩
 rintro _ w1' ⟨rfl,rfl⟩
 have hkd:=hk1.no (Keep.drawn w1')
 have h1:=h.no hkd
 obtain ⟨sa,cap,hev⟩:=row_slice h.row
 have hfld:∀{w1:World},TabAt w1 R t T->w1.cell? ((⟨t,0,none⟩:Addr).add 1)=some (.slice sa T.es.length cap):=λ h1=>h1.blk.add 1 (by rw [Tb.all,hev];rfl)
 refine ⟨_,rfl,_,ha.drew.cell rfl,?_⟩
 rw [nilK_some]
 refine ⟨_,_,_,hfld h1,_,ha.drew.cell rfl,?_⟩
 rw [nilK_some]
 refine ⟨_,h1.blk.add 2 rfl,(C328 h1.cel).mono ?_⟩
 rintro _ w2 ⟨rfl,hk2⟩
 have h2:=h1.no hk2
 have ha2:=hk2.nblk ha.drew
 have hk02:=hkd.no hk2
 have hs2:=hk02.size
 refine ⟨_,rfl,hfld h2,ha2.cell rfl,bsel_split (λ hfull=>?_) λ hfull=>?_⟩
 ·have hfull:T.es.length=room T.log:=Int.ofNat_inj.1 (by simpa using hfull)
  have hrp:=room_pos h.cel.lg.1
  have hne:T.es≠[]:=λ e=>by rw [e] at hfull;simp at hfull;omega
  refine (C329 ha2 (h2.blk.add 3 rfl) (by omega)).mono ?_
  rintro _ w3 ⟨log,rfl,hl3,hl20,hlog,hk3⟩
  have h3:=h2.no hk3
  have ha3:=hk3.nblk ha2
  refine ⟨_,rfl,bsel_neg (by simp;omega) ⟨_,ha3.cell rfl,(C331_live h3 ho.live hne).mono ?_⟩⟩
  rintro _ w4 ⟨rfl,h4,hk4⟩
  have hat:a5≠t:=λ e=>by
   have:=ha3.etype
   rw [e,h3.blk.etype] at this
   cases this
  have ha4:=hk4.blk ha3 hat
  refine ⟨_,rfl,_,ha4.cell rfl,(C276 ⟨hl3,hl20⟩ h4.blk ⟨hnum.2.1,hn.2.2⟩).mono ?_⟩
  rintro _ w5 ⟨rfl,c,g,hb5,hc5,hk5⟩
  have ha5:=hk5.blk ha4 hat
  have hk03:=hk02.no hk3
  have hk04:Keep (λ k=>k=t) w w4:=hk03.of_no.trans hk4 λ _ _ e=>e
  have hk05:Keep (λ k=>k=t) w w5:=hk04.trans hk5 λ _ _ e=>e
  have hs4:=hk04.size
  have hp2:(2*2 ^ log / 3:Nat)=room log:=rfl
  have hgrow:T.es.length<room log:=by
   rw [<-hp2]
   have:3*(T.es.length:Int)<=(2 ^ log:Nat):=by rw [<-hcnt];exact hlog
   generalize 2 ^ log=a at *
   omega
  have h5:TabAt w5 R t { T with c:=c,cg:=g,log:=log,cells:=List.replicate (2 ^ log) (-1),made:=T.made+1 }:=by
   refine ⟨hb5,hk5.row h4.row λ g' hg' e=>h4.ne_t.1 (by rw [hg',e]),⟨hc5.lg,hc5.blk,hc5.row,hc5.len,hc5.rng,?_⟩,h.ge,by simp only;omega⟩
   have:=hc5.ge
   exact ⟨by simp only;omega,by simp only;omega⟩
  refine ⟨_,rfl,_,ha5.cell rfl,(C332 h5 rfl ho.live).mono ?_⟩
  rintro _ w6 ⟨rfl,cs,h6,hidx,hk6⟩
  have ha6:=hk6.blk ha5 λ e=>h5.not_own ha5.etype (by rintro _ ⟨⟩;decide) (.inr (.inr (.inr e)))
  have hcg:=hc5.ge
  have hk06:Keep (λ k=>k=t) w w6:=hk05.news hk6 λ k e=>by simp only at e;omega
  refine ⟨_,rfl,add_tail (hash:=hash) (key:=key) (value:=value) (T:={ T with c:=c,cg:=g,log:=log,cells:=cs,made:=T.made+1 }) h6 ⟨hidx,ho.live,hcnt,⟨hnum.1,by simp only;omega,hnum.2.2⟩⟩ (by simp only;exact hgrow) (by have:=hk06.size;omega) ha6 (by exact ⟨hn.1,hn.2.1⟩) λ ev cs' w7 h7 hidx7 hev7 hk7=>?_⟩
  have hs6:=hk06.size
  refine ⟨rfl,_,h7,⟨hidx7,?_,?_,?_⟩,rfl,rfl,rfl,Int.le_refl _,?_,?_⟩
  ·intro e he
   simp at he
   rcases he with he | rfl
   ·exact ho.live e he
   ·rfl
  ·simp;omega
  ·simp only;omega
  ·intro k hk
   exact Tb.own_mono hk (λ k hk=>by
    rcases hev7 k hk with h | h
    ·exact .inl h
    ·exact .inr (by omega)) (.inr (by simp only;omega)) (.inr (by simp only;omega))
  ·refine (hk06.mono λ k _ e=>.inl e).trans hk7 λ k hk e=>?_
   rcases e with e | e | e | e
   ·exact .inl e
   ·exact .inr (.inl e)
   ·simp only at e;omega
   ·simp only at e;omega
 ·have hfull:T.es.length≠room T.log:=by
   intro e
   rw [e] at hfull
   simp at hfull
  have hlen:=h.len
  refine add_tail (hash:=hash) (key:=key) (value:=value) h2 ho (by omega) (by omega) ha2 ⟨hn.1,hn.2.1⟩ λ ev cs' w7 h7 hidx7 hev7 hk7=>?_
  refine ⟨rfl,_,h7,⟨hidx7,?_,?_,?_⟩,rfl,rfl,rfl,by simp only;omega,?_,?_⟩
  ·intro e he
   simp at he
   rcases he with he | rfl
   ·exact ho.live e he
   ·rfl
  ·simp;omega
  ·simp only;omega
  ·intro k hk
   exact Tb.own_mono hk (λ k hk=>by
    rcases hev7 k hk with h | h
    ·exact .inl h
    ·exact .inr (by omega)) (.inl rfl) (.inl rfl)
  ·exact hk02.of_no.trans hk7 λ k _ e=>e
end
end Go.Fw

namespace Go.Fw
open Go.Proofs Go.RowKit
noncomputable def ghost (J:Nat->World->Prop) (w:World):Nat:=open Classical in if h:∃m,J m w then Classical.choose h else 0
theorem ghost_eq {J:Nat->World->Prop} (hu:∀m m' w,J m w->J m' w->m=m') {m:Nat} {w:World} (h:J m w):ghost J w=m:=by
 unfold ghost
 have hx:∃m,J m w:=⟨m,h⟩
 rw [dif_pos hx]
 exact hu _ _ _ (Classical.choose_spec hx) h
theorem C288 {log:Nat} (hl:log<=20) (h:Int) (w:World):Calls Tryz.prog 288 #[.int .i64 h,.int .i64 log] w λ e w'=>e=.returned (.int .i64 (trStart log h).1)/\w'=w:=by
 refine ret_mono (V288_sound _ _ w (λ r w'=>r=.int .i64 (trStart log h).1/\w'=w) ?_) (by rintro _ _ ⟨rfl,h⟩;exact ⟨rfl,h⟩)
 unfold V288
 refine bsel_neg (by simp) ?_
 unfold V288J1
 refine bsel_neg (by simp;omega) ⟨by omega,?_,rfl⟩
 rw [first_eq hl]
section
variable {w w':World} {R t s:Nat} {T:Tb}
def SeekAt (w:World) (s t:Nat) (hash:Int) (x:Nat × Nat) (turns told:Int) (over:Bool):Prop:=∃vis,Blk w s 395 [.pointer (some ⟨t,0,none⟩),.int .i64 hash,.int .i64 x.1,.int .u64 x.2,.int .i64 turns,.int .i64 vis,.int .i64 told,.bool over]
theorem SeekAt.keep {fp:Nat->Prop} {hash:Int} {x:Nat × Nat} {turns told:Int} {o:Bool} (h:SeekAt w s t hash x turns told o) (hk:Keep fp w w') (hn:¬fp s):SeekAt w' s t hash x turns told o:=by
 obtain ⟨v,h⟩:=h
 exact ⟨v,hk.blk h hn⟩
theorem SeekAt.etype {hash:Int} {x:Nat × Nat} {turns told:Int} {o:Bool} (h:SeekAt w s t hash x turns told o):Fw.etype w s=some 395:=by
 obtain ⟨v,h⟩:=h
 exact h.etype
theorem C218 (h:TabAt w R t T) (hash:Int):Calls Tryz.prog 218 #[.pointer (some ⟨t,0,none⟩),.int .i64 hash] w λ e w'=>∃s,e=.returned (.pointer (some ⟨s,0,none⟩))/\SeekAt w' s t hash (trStart T.log hash) T.turns (-1) false/\w.heap.size<=s/\Keep No w w':=by
 refine ret_mono (V218_sound _ hash w (λ r w'=>∃s,r=.pointer (some ⟨s,0,none⟩)/\SeekAt w' s t hash (trStart T.log hash) T.turns (-1) false/\w.heap.size<=s/\Keep No w w') ?_) (by rintro _ _ ⟨s,rfl,h⟩;exact ⟨s,rfl,h⟩)
 unfold V218
 refine bsel_neg rfl ((C287 h).mono ?_)
 rintro _ w1 ⟨rfl,rfl⟩
 have hd:=Keep.drawn w1
 have h1:=h.no hd
 refine ⟨_,rfl,?_⟩
 simp only [nilK_some]
 refine ⟨_,h1.blk.add 2 rfl,_,h1.blk.add 6 rfl,(C289 h1.cel).mono ?_⟩
 rintro _ w2 ⟨rfl,rfl⟩
 refine ⟨_,rfl,h1.blk.add 6 rfl,(C288 h.cel.lg.2 hash _).mono ?_⟩
 rintro _ w2 ⟨rfl,rfl⟩
 refine ⟨_,rfl,h1.blk.add 6 rfl,newK_of λ s w2 hs hb hk=>⟨s,rfl,⟨0,?_⟩,by simp at hs;omega,hd.no hk⟩⟩
 rw [wrap_hash] at hb
 exact hb
theorem C292 (h:TabAt w R t T) {hash turns told:Int} {x:Nat × Nat} (hx:x.1<2 ^ T.log/\x.2<18446744073709551616) (hs:SeekAt w s t hash x turns told false) :
  Calls Tryz.prog 292 #[.pointer (some ⟨s,0,none⟩)] w λ e w'=>e=.returned (.tuple #[])/\SeekAt w' s t hash (trNext T.log x) turns told false/\Keep (λ k=>k=s) w w':=by
 refine ret_mono (V292_sound _ w (λ r w'=>r=.tuple #[]/\SeekAt w' s t hash (trNext T.log x) turns told false/\Keep (λ k=>k=s) w w') ?_) (by rintro _ _ ⟨rfl,h⟩;exact ⟨rfl,h⟩)
 have hns:¬T.own t s:=h.not_own hs.etype (by rintro _ ⟨⟩;decide)
 obtain ⟨vis,hb⟩:=hs
 unfold V292
 simp only [nilK_some]
 refine ⟨_,hb.add 3 rfl,by decide,stK_add hb (by simp) λ w1 hb1 hk1=>?_⟩
 have hk1d:=hk1.no (Keep.drawn w1)
 have h1:=h.keep hk1d λ k hk e=>hns (by rw [<-e];exact hk)
 refine ⟨_,hb1.drew.add 2 rfl,_,hb1.drew.add 3 rfl,_,hb1.drew.add 0 rfl,?_⟩
 simp only [nilK_some]
 refine ⟨_,h1.blk.add 2 rfl,(C289 h1.cel).mono ?_⟩
 rintro _ w2 ⟨rfl,rfl⟩
 refine ⟨_,rfl,hb1.drew.add 3 rfl,hb1.drew.add 2 rfl,by omega,stK_add hb1.drew (by simp) λ w3 hb3 hk3=>⟨by trivial,⟨vis,?_⟩,hk1d.trans hk3 λ _ _ e=>e⟩⟩
 have hx1:IntKind.wrap .u64 (x.1:Int)=(x.1:Int):=by
  have h2:=pow_le20 h.cel.lg.2
  rw [wrap_u64]
  have:=hx.1
  generalize 2 ^ T.log=a at *
  omega
 rw [shr_five hx.2,hx1,next_mask h.cel.lg.2,wrap_i64 (by
  have h1:=trNext_fst (log:=T.log) x
  have h2:=pow_le20 h.cel.lg.2
  have h3:(5*x.1+x.2 / 32+1) % 2 ^ T.log<2 ^ T.log:=h1
  generalize 2 ^ T.log=a at *
  omega)] at hb3
 exact hb3
theorem C220 (h:TabAt w R t T) (hI:IdxOk T.es T.log T.cells) {hash told:Int} {x:Nat × Nat} (hx:x.1<2 ^ T.log/\x.2<18446744073709551616) (hs:SeekAt w s t hash x T.turns told false) (ht:-1<=told) {m:Nat} {l:List Nat} (hsc:Scan T.es T.log T.cells hash m x told l) :
  Calls Tryz.prog 220 #[.pointer (some ⟨s,0,none⟩)] w λ e w'=>Keep (λ k=>k=s) w w'/\((l=[]/\e=.returned (.tuple #[.int .i64 (-1),.bool false]))\/
   ∃i l' x' m',l=i :: l'/\e=.returned (.tuple #[.int .i64 (i:Nat),.bool true])/\(x'.1<2 ^ T.log/\x'.2<18446744073709551616)/\SeekAt w' s t hash x' T.turns i false/\Scan T.es T.log T.cells hash m' x' i l'):=by
 refine ret_mono (V220_sound _ w (λ r w'=>Keep (λ k=>k=s) w w'/\((l=[]/\r=.tuple #[.int .i64 (-1),.bool false])\/
   ∃i l' x' m',l=i :: l'/\r=.tuple #[.int .i64 (i:Nat),.bool true]/\(x'.1<2 ^ T.log/\x'.2<18446744073709551616)/\SeekAt w' s t hash x' T.turns i false/\Scan T.es T.log T.cells hash m' x' i l')) ?_)
   (by rintro _ _ ⟨hk,⟨h1,rfl⟩ | ⟨i,l',x',m',h1,rfl,h2⟩⟩;exact ⟨hk,.inl ⟨h1,rfl⟩⟩;exact ⟨hk,.inr ⟨i,l',x',m',h1,rfl,h2⟩⟩)
 have hns:¬T.own t s:=h.not_own hs.etype (by rintro _ ⟨⟩;decide)
 have hT:∀{w1:World},Keep (λ k=>k=s) w w1->TabAt w1 R t T:=λ hk1=>h.keep hk1 λ k hk e=>hns (by rw [<-e];exact hk)
 obtain ⟨vis,hb⟩:=hs
 unfold V220
 refine bsel_neg rfl ?_
 simp only [nilK_some]
 refine ⟨_,hb.add 0 rfl,?_⟩
 unfold V220J2
 refine bsel_neg rfl ?_
 simp only [nilK_some]
 refine ⟨_,hb.drew.add 7 rfl,bsel_neg rfl ⟨_,hb.drew.add 4 rfl,_,hb.drew.add 0 rfl,?_⟩⟩
 simp only [nilK_some]
 refine ⟨_,(h.no (Keep.drawn w)).blk.add 6 rfl,stK_add hb.drew (by simp) λ w1 hb1 hk1=>?_⟩
 have hk01:Keep (λ k=>k=s) w w1:=(Keep.drawn w).of_no.trans hk1 λ _ _ e=>e
 have hs1:SeekAt w1 s t hash x T.turns told false:=⟨vis,by
  have:(T.turns != T.turns)=false:=by simp
  rw [this] at hb1
  exact hb1⟩
 unfold V220J1
 have hJu:∀m m' w1,(∃x,SeekAt w1 s t hash x T.turns told false/\Scan T.es T.log T.cells hash m x told l/\(x.1<2 ^ T.log/\x.2<18446744073709551616)/\Keep (λ k=>k=s) w w1)->(∃x,SeekAt w1 s t hash x T.turns told false/\Scan T.es T.log T.cells hash m' x told l/\(x.1<2 ^ T.log/\x.2<18446744073709551616)/\Keep (λ k=>k=s) w w1)->m=m':=by
  rintro m m' w1 ⟨x,⟨v,hb⟩,h1,_⟩ ⟨y,⟨v',hb'⟩,h2,_⟩
  have:=(hb.uniq hb').2
  simp at this
  obtain ⟨e1,e2,_⟩:=this
  have e1:x.1=y.1:=Int.ofNat_inj.1 e1
  have e2:x.2=y.2:=Int.ofNat_inj.1 e2
  obtain rfl:x=y:=Prod.ext e1 e2
  exact (h1.uniq h2).1
 refine ⟨λ w1=>∃m,∃x,SeekAt w1 s t hash x T.turns told false/\Scan T.es T.log T.cells hash m x told l/\(x.1<2 ^ T.log/\x.2<18446744073709551616)/\Keep (λ k=>k=s) w w1,
  ghost λ m w1=>∃x,SeekAt w1 s t hash x T.turns told false/\Scan T.es T.log T.cells hash m x told l/\(x.1<2 ^ T.log/\x.2<18446744073709551616)/\Keep (λ k=>k=s) w w1,⟨m,x,hs1,hsc,hx,hk01⟩,?_⟩
 clear hs1 hk01 hk1 hb1 hsc hx hb
 rintro j w2 ⟨m,x,hs2,hsc,hx,hk2⟩
 have hg2:=ghost_eq hJu (m:=m) (w:=w2) ⟨x,hs2,hsc,hx,hk2⟩
 rw [hg2]
 obtain ⟨vis,hb⟩:=hs2
 refine ⟨_,hb.add 7 rfl,bsel_pos rfl ?_⟩
 have hk2d:=hk2.no (Keep.drawn w2)
 have h2:=hT hk2d
 refine ⟨_,hb.drew.add 0 rfl,?_⟩
 simp only [nilK_some]
 obtain ⟨v,hv⟩:∃v,T.cells[x.1]?=some v:=⟨_,List.getElem?_eq_getElem (by rw [h.cel.len];exact hx.1)⟩
 refine ⟨_,h2.blk.add 2 rfl,_,hb.drew.add 2 rfl,(C290 h2.cel hv).mono ?_⟩
 rintro _ w3 ⟨rfl,hk3⟩
 have hk3':=hk2d.no hk3
 have hb3:=hk3.nblk hb.drew
 refine ⟨_,_,rfl,_,hb3.add 5 rfl,stK_add hb3 (by simp) λ w4 hb4 hk4=>?_⟩
 have hk4':=hk3'.trans hk4 λ _ _ e=>e
 have h4:=hT hk4'
 refine ⟨_,hb4.add 0 rfl,?_⟩
 simp only [nilK_some]
 refine ⟨_,h4.blk.add 0 rfl,(C291_nil _ w4).mono ?_⟩
 rintro _ w4' ⟨rfl,rfl⟩
 refine ⟨_,rfl,bsel_split (λ hc=>?_) λ hc=>?_⟩
 ·have hv1:v=-1:=by simpa using hc
  subst hv1
  have hl:l=[]:=by
   cases hsc with
   | stop=>rfl
   | skip q1 q2=>rw [hv] at q1;simp at q1;exact absurd q1.symm q2
   | hit q1=>rw [hv] at q1;simp at q1
  exact stK_add hb4 (by simp) λ w5 hb5 hk5=>⟨hk4'.trans hk5 λ _ _ e=>e,.inl ⟨hl,by trivial⟩⟩
 ·have hv1:v≠-1:=by simpa using hc
  have hnx:(trNext T.log x).1<2 ^ T.log/\(trNext T.log x).2<18446744073709551616:=⟨trNext_fst x,trNext_snd x hx.2⟩
  refine (C292 h4 hx ⟨_,hb4⟩).mono ?_
  rintro _ w5 ⟨rfl,hs5,hk5⟩
  have hk5':=(hk4'.trans hk5 λ _ _ e=>e).no (Keep.drawn w5)
  have h5:=hT hk5'
  have hs5d:=hs5.keep (Keep.drawn w5) id
  obtain ⟨vis5,hb5⟩:=hs5d
  refine ⟨_,rfl,_,hb5.add 6 rfl,?_⟩
  have hskip:(told<v->¬hashIs T.es v hash)->(∃m,∃x,SeekAt w5.drew s t hash x T.turns told false/\Scan T.es T.log T.cells hash m x told l/\(x.1<2 ^ T.log/\x.2<18446744073709551616)/\Keep (λ k=>k=s) w w5.drew)/\
    ghost (λ m w1=>∃x,SeekAt w1 s t hash x T.turns told false/\Scan T.es T.log T.cells hash m x told l/\(x.1<2 ^ T.log/\x.2<18446744073709551616)/\Keep (λ k=>k=s) w w1) w5.drew<m:=by
   intro hn
   cases hsc with
   | stop q=>rw [hv] at q;simp at q;exact absurd q hv1
   | skip q1 q2 q3 q4=>
    rename_i n v'
    have hJ:∃x,SeekAt w5.drew s t hash x T.turns told false/\Scan T.es T.log T.cells hash n x told l/\(x.1<2 ^ T.log/\x.2<18446744073709551616)/\Keep (λ k=>k=s) w w5.drew:=⟨_,⟨vis5,hb5⟩,q4,hnx,hk5'⟩
    refine ⟨⟨n,hJ⟩,?_⟩
    rw [ghost_eq hJu hJ]
    omega
   | hit q1 q2 q3 q4=>
    rw [hv] at q1
    simp at q1
    subst q1
    exact absurd q3 (hn q2)
  refine bsel_split (λ hlt=>?_) λ hge=>?_
  ·have hlt:told<v:=by simpa using hlt
   obtain ⟨i,e,rfl,he,hel⟩:∃(i:Nat) (e:Ent),v=(i:Nat)/\T.es[i]?=some e/\e.live=true:=by
    rcases hI.ent _ _ hv with q | q | q
    ·exact absurd q hv1
    ·omega
    ·exact q
   refine ⟨_,hb5.add 0 rfl,?_⟩
   simp only [nilK_some]
   obtain ⟨g,cap,hev,hi,hent⟩:=h5.ent_add he
   refine ⟨_,_,_,h5.blk.add 1 (by rw [Tb.all,hev];rfl),idxK_of hi ⟨_,hent.get 1 rfl,_,hb5.add 1 rfl,?_⟩⟩
   refine bsel_split (λ hh=>?_) λ hh=>?_
   ·have hh:e.hash=hash:=by simpa using hh
    refine stK_add hb5 (by simp) λ w6 hb6 hk6=>⟨hk5'.trans hk6 λ _ _ e=>e,.inr ?_⟩
    have hhi:hashIs T.es (i:Nat) hash:=⟨e,by simpa using he,hh⟩
    cases hsc with
    | stop q=>rw [hv] at q;simp at q
    | skip q1 q2 q3 q4=>
     rw [hv] at q1
     simp at q1
     subst q1
     exact absurd hhi (q3 hlt)
    | hit q1 q2 q3 q4=>
     rw [hv] at q1
     simp at q1
     have q1:=Int.ofNat_inj.1 q1
     subst q1
     exact ⟨_,_,_,_,rfl,rfl,hnx,⟨vis5,hb6⟩,q4⟩
   ·have hh:e.hash≠hash:=by simpa using hh
    exact hskip λ _ ⟨e',q1,q2⟩=>by
     simp at q1
     rw [he] at q1
     cases q1
     exact hh q2
  ·exact hskip λ hc=>absurd hc (by simpa using hge)
end
end Go.Fw

namespace Go.Fw
open Go.Proofs Go.RowKit
theorem own_len (a:Option Addr) (l l' c c':Nat):(Value.slice a l c).ownBlock=(Value.slice a l' c').ownBlock:=by cases a <;> rfl
theorem rowU32:RowT 38 45 4 (.int .u32 0):=⟨by kernel_rfl,info_of (by kernel_rfl),rfl,by decide⟩
theorem pieces_loop {w0 w:World} {n0:Nat} {a0:Option Addr} {c0:Nat} {ws0:List Nat} (hrow0:w.ownsRow w0.heap.size 45 1 (.slice a0 n0 c0) n0 ((u32s ws0).map (.int .u32))) (hlen0:n0=ws0.length) (hlt0:∀m ∈ ws0,m<4294967296) (hn0:n0<1000000000000) (htr:ws0≠[]->valW ws0≠0) (hk0:Keep No w0 w) {K:Option Addr->Nat->Nat->World->Prop}
  (hK:∀a' n' c' w' k,isLen (valW ws0) k->n'=k->w'.ownsRow w0.heap.size 45 1 (.slice a' n' c') k ((u32s (pieces (valW ws0) k)).map (.int .u32))->Keep No w0 w'->k<=32*n0->K a' n' c' w') :
  ∃(I20:Option Addr->Nat->Nat->Option Addr->Nat->Nat->World->Prop) (μ21:Option Addr->Nat->Nat->Option Addr->Nat->Nat->World->Nat),I20 a0 n0 c0 none 0 0 w/\∀(j29:Fr) (i22:Option Addr) (i23:Nat) (i24:Nat) (i25:Option Addr) (i26:Nat) (i27:Nat) (w28:World),I20 i22 i23 i24 i25 i26 i27 w28->
  bsel (decide ((i23:Int)>0)) (
  ∃(I30:Int->Int->World->Prop) (μ31:Int->Int->World->Nat),I30 0 (IntKind.wrap .i64 ((i23:Int)-1)) w28/\∀(j35:Fr) (i32:Int) (i33:Int) (w34:World),I30 i32 i33 w34->
  bsel (decide (i33>=0)) (
  idxK i22 i23 i33 1 λ a36=>
  ∃t37:Int,w34.cell? a36=some (.int .u32 t37)/\
  Calls Tryz.prog 125 #[.int .u32 i32,.int .u32 t37,.int .u32 1000000000] w34 λ e38 w39=>∃t40:Int,∃t41:Int,e38=.returned (.tuple #[.int .u32 t40,.int .u32 t41])/\
  idxK i22 i23 i33 1 λ a42=>
  stK w39 a42 (.int .u32 t40) λ w43=>
  (I30 t41 (IntKind.wrap .i64 (i33-1)) w43/\μ31 t41 (IntKind.wrap .i64 (i33-1)) w43<μ31 i32 i33 w34)) (
  newK w34 #[.int .u32 i32] 45 λ a44 w45=>
  ∃w46:World,∃t47:Option Addr,∃t48:Nat,∃t49:Nat,(vcEff.bltV .append #[38,38] 38 #[.slice i25 i26 i27,.slice (some a44) 1 1]).run Tryz.prog w45=.ok (.slice t47 t48 t49) w46/\
  Calls Tryz.prog 124 #[.slice i22 i23 i24] w46 λ e50 w51=>∃t52:Option Addr,∃t53:Nat,∃t54:Nat,e50=.returned (.slice t52 t53 t54)/\
  (I20 t52 t53 t54 t47 t48 t49 w51/\μ21 t52 t53 t54 t47 t48 t49 w51<μ21 i22 i23 i24 i25 i26 i27 w28))) (K i25 i26 i27 w28):=by
 have hV:valW ws0<2 ^ (32*n0):=by rw [hlen0];exact valW_lt ws0 hlt0
 have hJu:∀(a:Option Addr) (n c:Nat) (m m':Nat) (wx:World),(∃ws,wx.ownsRow w0.heap.size 45 1 (.slice a n c) n ((u32s ws).map (.int .u32))/\m=valW ws)->(∃ws,wx.ownsRow w0.heap.size 45 1 (.slice a n c) n ((u32s ws).map (.int .u32))/\m'=valW ws)->m=m':=by
  rintro a n c m m' wx ⟨ws,h1,rfl⟩ ⟨ws',h2,rfl⟩
  rw [u32s_inj (row_uniq h1 h2)]
 refine ⟨λ a n c a' n' c' w'=>∃k ws,w'.ownsRow w0.heap.size 45 1 (.slice a n c) n ((u32s ws).map (.int .u32))/\n=ws.length/\n<=n0/\(∀m ∈ ws,m<4294967296)/\(ws≠[]->valW ws≠0)/\valW ws=pieceAt (valW ws0) k/\(∀j,j<k->pieceAt (valW ws0) j≠0)/\
   n'=k/\w'.ownsRow w0.heap.size 45 1 (.slice a' n' c') k ((u32s (pieces (valW ws0) k)).map (.int .u32))/\Keep No w0 w'/\(∀g,(Value.slice a n c).ownBlock=some g->(Value.slice a' n' c').ownBlock≠some g),
  λ a n c _ _ _ w'=>ghost (λ m wx=>∃ws,wx.ownsRow w0.heap.size 45 1 (.slice a n c) n ((u32s ws).map (.int .u32))/\m=valW ws) w',
  ⟨0,ws0,hrow0,hlen0,Nat.le_refl _,hlt0,htr,rfl,λ j hj=>by omega,rfl,World.ownsRow_nil _ _ _ _,hk0,λ g _ h=>by cases h⟩,?_⟩
 rintro j a n c a' n' c' w1 ⟨k,ws,hrow,hlen,hnle,hlt,hne,hval,hpos,rfl,hpr,hk1,hdis⟩
 refine bsel_split (λ hgt=>?_) λ hng=>?_
 ·have hn1:0<n:=by simpa using hgt
  have hwne:ws≠[]:=λ e=>by subst e;simp at hlen;omega
  have hvne:=hne hwne
  refine inner_pass hrow hlen (by omega) hlt (Nat.le_refl _) hk1 λ w2 hrow2 hk2=>?_
  have hk02:Keep No w0 w2:=hk1.news hk2 λ g hg=>(hrow.lt g hg).1
  have hpr2:=hk2.row hpr λ g hg hg'=>hdis g hg' hg
  have hp:=pass_spec ws
  have hpl:=pass_lt ws hlt
  have hkb:n'+1<=32*n0+1:=by
   have:=piece_bound hV hpos
   omega
  refine newK_of λ b w3 hs3 hb3 hk3=>?_
  refine appendRow rowU32 (hk3.nrow hpr2) hb3 rfl (by omega) (by have:=(hk02.no hk3).size;omega) λ g cap w4 hrow4 hk4 hat=>?_
  have hk03:=hk02.no hk3
  have hrow3:=hk3.nrow hrow2
  have hrowA:w4.ownsRow w0.heap.size 45 1 (.slice a n c) n ((u32s (pass ws).1).map (.int .u32)):=hk4.row hrow3 λ g hg hg'=>hdis g hg hg'
  have hk04:Keep No w0 w4:=hk03.news hk4 λ x hx=>((hk3.nrow hpr2).lt x hx).1
  obtain ⟨hwords,hl1,hl2⟩:=row_words hrowA
  rw [hl1]
  refine (C124 hwords hl2 (by rw [<-hl1];omega)).mono ?_
  rintro _ w5 ⟨rfl,rfl⟩
  refine ⟨_,_,_,rfl,?_⟩
  rw [tw_u32,u32s_len]
  have htl:(tw (pass ws).1).length<=n:=by
   unfold tw
   rw [List.length_take,hp.2.2];omega
  have hsh:=row_shrink hrowA htl
  have etk:((u32s (pass ws).1).map (Value.int .u32)).take (tw (pass ws).1).length=(u32s (tw (pass ws).1)).map (.int .u32):=by
   unfold tw u32s
   rw [<-List.map_take,<-List.map_take,List.length_take]
   congr 2
   rw [List.take_eq_take_iff]
   omega
  rw [etk] at hsh
  have hvn:valW (tw (pass ws).1)=pieceAt (valW ws0) (n'+1):=by rw [tw_val,hp.1,hval,pieceAt_succ]
  refine ⟨⟨n'+1,tw (pass ws).1,hsh,rfl,by omega,tw_lt hpl.2,tw_ne _,hvn,λ j hj=>?_,rfl,?_,hk04,λ x hx hx'=>?_⟩,?_⟩
  ·by_cases hjn:j=n'
   ·subst hjn;rw [<-hval];exact hvne
   ·exact hpos j (by omega)
  ·rw [pieces_succ]
   have e:(pass ws).2=pieceAt (valW ws0) n' % 1000000000:=by rw [hp.2.1,hval]
   rw [<-e]
   simpa [u32s] using hrow4
  ·cases hx'
   rcases hat with hat | hat
   ·exact hdis _ ((own_len a _ _ c c).trans hx) hat
   ·have hx2:(Value.slice a n c).ownBlock=some w3.heap.size:=by rw [<-hat];exact (own_len a _ _ c c).trans hx
    have:=(hrow3.lt _ hx2).2
    omega
  ·have g1:=ghost_eq (hJu a (tw (pass ws).1).length c) (m:=valW (tw (pass ws).1)) (w:=w5) ⟨_,hsh,rfl⟩
   have g2:=ghost_eq (hJu a n c) (m:=valW ws) (w:=w1) ⟨ws,hrow,rfl⟩
   rw [hl1] at g2
   refine Nat.lt_of_le_of_lt (Nat.le_of_eq g1) (Nat.lt_of_lt_of_le ?_ (Nat.le_of_eq g2.symm))
   rw [tw_val,hp.1]
   omega
 ·have hn:n=0:=by simpa using hng
  have hws:ws=[]:=List.length_eq_zero_iff.1 (by omega)
  subst hws
  exact hK a' n' c' w1 n' ⟨by rw [<-hval];rfl,hpos⟩ rfl hpr hk1 (piece_bound hV hpos)
end Go.Fw

namespace Go.Fw
open Go.Proofs Go.RowKit
def d2b (d:Nat):UInt8:=UInt8.ofNat (48+d)
def bytes9 (n:Nat):List UInt8:=(dig9 n).map d2b
theorem d2b_nat {d:Nat} (h:d<10):(d2b d).toNat=48+d:=by unfold d2b;rw [UInt8.toNat_ofNat'];omega
theorem bytes9_cells (n:Nat):Lib.byteCells (bytes9 n)=[.int .u8 ((48+n / 10 ^ 8 % 10:Nat):Int),.int .u8 ((48+n / 10 ^ 7 % 10:Nat):Int),.int .u8 ((48+n / 10 ^ 6 % 10:Nat):Int),.int .u8 ((48+n / 10 ^ 5 % 10:Nat):Int),.int .u8 ((48+n / 10 ^ 4 % 10:Nat):Int),.int .u8 ((48+n / 10 ^ 3 % 10:Nat):Int),.int .u8 ((48+n / 10 ^ 2 % 10:Nat):Int),.int .u8 ((48+n / 10 ^ 1 % 10:Nat):Int),.int .u8 ((48+n / 10 ^ 0 % 10:Nat):Int)]:=by
 unfold Lib.byteCells bytes9 dig9
 have h:∀m:Nat,(d2b (m % 10)).toNat=48+m % 10:=λ m=>d2b_nat (Nat.mod_lt _ (by decide))
 simp only [List.map_cons,List.map_nil,h]
 simp
theorem digC9 (n:Nat):digC n 9=Lib.byteCells (bytes9 n):=by
 rw [bytes9_cells]
 rfl
theorem sliceAll (p:Nat):∀w:World,(Instr.sliceAt 246 (.pointer (some ⟨p,0,none⟩)) none none none).run Tryz.prog w=.ok (.slice (some ⟨p,0,none⟩) 9 9) w:=by
 intro w
 kernel_rfl
open Classical in
noncomputable def lenP (V:Nat):Nat:=if h:∃k,isLen V k then Classical.choose h else 0
theorem lenP_eq {V k:Nat} (h:isLen V k):lenP V=k:=by
 unfold lenP
 have hx:∃k,isLen V k:=⟨k,h⟩
 rw [dif_pos hx]
 exact isLen_uniq (Classical.choose_spec hx) h
noncomputable def textB (V:Nat):List UInt8:=Lib.trimLeftB ((digitsOf V (lenP V)).map d2b) 48
noncomputable def textW (neg:Bool) (V:Nat):ByteArray:=if V=0 then ⟨#[48]⟩ else if neg then ⟨#[45]⟩ ++ ⟨(textB V).toArray⟩ else ⟨(textB V).toArray⟩
def valI (ms:List Int):Nat:=valW ((trimmed ms).map Int.toNat)
theorem pieces_len (V:Nat):∀k,(pieces V k).length=k
 | 0=>rfl
 | k+1=>by
  show (pieces (V / 1000000000) k).length+1=k+1
  rw [pieces_len _ k]
theorem pieces_lt (V:Nat):∀k,∀m ∈ pieces V k,m<1000000000
 | 0,m,h=>by cases h
 | k+1,m,h=>by
  rcases List.mem_cons.1 h with rfl | h
  ·exact Nat.mod_lt _ (by decide)
  ·exact pieces_lt _ k m h
def outB (ps:List Nat) (k:Nat):List UInt8:=(ps.reverse.take k).flatMap bytes9
theorem outB_succ {ps:List Nat} {k m:Nat} (hk:k<ps.length) (h:ps[ps.length-1-k]?=some m):outB ps (k+1)=outB ps k ++ bytes9 m:=by
 unfold outB
 have hr:ps.reverse[k]?=some m:=by rw [List.getElem?_reverse hk];exact h
 obtain ⟨h1,h2⟩:=List.getElem?_eq_some_iff.1 hr
 rw [List.take_succ_eq_append_getElem h1,h2,List.flatMap_append]
 simp
theorem outB_len (ps:List Nat) (k:Nat) (hk:k<=ps.length):(outB ps k).length=9*k:=by
 unfold outB
 have:∀l:List Nat,(l.flatMap bytes9).length=9*l.length:=by
  intro l
  induction l with
  | nil=>rfl
  | cons m l ih=>rw [List.flatMap_cons,List.length_append,ih,List.length_cons];show 9+_=_;omega
 rw [this]
 simp;omega
theorem outB_all (V k:Nat):outB (pieces V k) k=(digitsOf V k).map d2b:=by
 unfold outB digitsOf
 rw [List.take_of_length_le (by simp [pieces_len]),List.map_flatMap]
 rfl
end Go.Fw

namespace Go.Fw
open Go.Proofs Go.RowKit
theorem copy9 {w:World} {e:TypeId} {z0 z1 z2 z3 z4 z5 z6 z7 z8 v0 v1 v2 v3 v4 v5 v6 v7 v8:Value} {K:Addr->World->Prop} (h:∀b w',Blk w' b e [v0,v1,v2,v3,v4,v5,v6,v7,v8]->Keep No w w'->b=w.heap.size->K ⟨b,0,none⟩ w') :
  newK w #[z0,z1,z2,z3,z4,z5,z6,z7,z8] e λ a w1=>stK w1 (a.add 0) v0 λ w2=>stK w2 (a.add 1) v1 λ w3=>stK w3 (a.add 2) v2 λ w4=>stK w4 (a.add 3) v3 λ w5=>stK w5 (a.add 4) v4 λ w6=>stK w6 (a.add 5) v5 λ w7=>stK w7 (a.add 6) v6 λ w8=>stK w8 (a.add 7) v7 λ w9=>stK w9 (a.add 8) v8 λ w10=>K a w10:=by
 refine newK_of λ b w1 hs hb hk=>?_
 refine stK_add hb (by simp) λ w2 hb hk2=>?_
 replace hk:=hk.news hk2 (by rintro k rfl;omega)
 refine stK_add hb (by simp) λ w3 hb hk2=>?_
 replace hk:=hk.news hk2 (by rintro k rfl;omega)
 refine stK_add hb (by simp) λ w4 hb hk2=>?_
 replace hk:=hk.news hk2 (by rintro k rfl;omega)
 refine stK_add hb (by simp) λ w5 hb hk2=>?_
 replace hk:=hk.news hk2 (by rintro k rfl;omega)
 refine stK_add hb (by simp) λ w6 hb hk2=>?_
 replace hk:=hk.news hk2 (by rintro k rfl;omega)
 refine stK_add hb (by simp) λ w7 hb hk2=>?_
 replace hk:=hk.news hk2 (by rintro k rfl;omega)
 refine stK_add hb (by simp) λ w8 hb hk2=>?_
 replace hk:=hk.news hk2 (by rintro k rfl;omega)
 refine stK_add hb (by simp) λ w9 hb hk2=>?_
 replace hk:=hk.news hk2 (by rintro k rfl;omega)
 refine stK_add hb (by simp) λ w10 hb hk2=>?_
 replace hk:=hk.news hk2 (by rintro k rfl;omega)
 exact h b w10 hb hk hs
theorem dropWhile_len {α:Type} (p:α->Bool):∀l:List α,(l.dropWhile p).length<=l.length
 | []=>by simp
 | a :: l=>by
  have:=dropWhile_len p l
  rw [List.dropWhile_cons]
  split
  ·simp;omega
  ·simp
theorem C75 {w:World} {neg:Bool} {a:Option Addr} {ms:List Int} {c:Nat} (h:WordsAt w a ms) (hc:ms.length<=c) (hl:ms.length<10000000000) (hr:∀m ∈ ms,0<=m/\m<4294967296) :
  Calls Tryz.prog 75 #[.agg #[.bool neg,.slice a ms.length c]] w λ e w'=>e=.returned (.string (textW neg (valI ms)))/\Keep No w w':=by
 refine ret_mono (V75_sound neg a ms.length c w (λ r w'=>r=.string (textW neg (valI ms))/\Keep No w w') ?_) (by rintro _ _ ⟨rfl,h⟩;exact ⟨rfl,h⟩)
 have htl:=trimmed_length_le ms
 obtain ⟨ws0,hws0⟩:∃ws0,(trimmed ms).map Int.toNat=ws0:=⟨_,rfl⟩
 have hmem:∀m ∈ trimmed ms,0<=m/\m<4294967296:=λ m hm=>hr m (List.mem_of_mem_take hm)
 have hu:u32s ws0=trimmed ms:=by
  rw [<-hws0]
  unfold u32s
  rw [List.map_map]
  conv=>rhs;rw [<-List.map_id (trimmed ms)]
  refine List.map_congr_left λ m hm=>?_
  have:=(hmem m hm).1
  simp
  omega
 have hwl:ws0.length=(trimmed ms).length:=by rw [<-hws0];simp
 have hlt0:∀m ∈ ws0,m<4294967296:=λ m hm=>by
  rw [<-hws0,List.mem_map] at hm
  obtain ⟨x,hx,rfl⟩:=hm
  have:=hmem x hx
  omega
 have hVV:valI ms=valW ws0:=by unfold valI;rw [hws0]
 have htr:ws0≠[]->valW ws0≠0:=by
  intro hne
  have e1:tw ws0=ws0:=by
   have:=tw_u32 ws0
   rw [hu,trimmed_trimmed,<-hu] at this
   have h2:(u32s ws0).map (Value.int .u32)=(u32s (tw ws0)).map (Value.int .u32):=by rw [this]
   exact (u32s_inj h2).symm
  rw [<-e1] at hne ⊢
  rw [e1] at hne
  exact tw_ne ws0 (by rw [e1];exact hne)
 unfold V75
 refine newK_of λ b5 w1 hs1 h5 hk1=>⟨_,_,_,h5.add 1 rfl,(C124 (h.no hk1) hc (by omega)).mono ?_⟩
 rintro _ w1' ⟨rfl,rfl⟩
 have hwt:WordsAt w1' a (trimmed ms):=(h.no hk1).take _
 refine ⟨_,_,_,rfl,(C123_row hwt (by omega)).mono ?_⟩
 rintro _ w2 ⟨v,rfl,hrow,hk2⟩
 have hk02:=hk1.no hk2
 obtain ⟨a2,c2,rfl⟩:=ownsRow_slice hrow
 have hs01:=hk1.size
 refine ⟨_,_,_,rfl,bsel_split (λ h0=>?_) λ h0=>?_⟩
 ·have h0:(trimmed ms).length=0:=by simpa using h0
  have:ws0=[]:=List.length_eq_zero_iff.1 (by omega)
  refine ⟨?_,hk02⟩
  rw [hVV,this]
  simp [textW,valW]
 have h0:(trimmed ms).length≠0:=by simpa using h0
 have hV0:valW ws0≠0:=htr λ e=>by rw [e] at hwl;simp at hwl;omega
 have hrow':w2.ownsRow w1'.heap.size 45 1 (.slice a2 (trimmed ms).length c2) (trimmed ms).length ((u32s ws0).map (.int .u32)):=by rw [hu];exact hrow
 have hb5w:w.heap.size<=b5:=by omega
 refine pieces_loop (w0:=w1') hrow' hwl.symm hlt0 (by omega) htr hk2 λ a' n' c' w3 k hisl hn' hprow hk3 hkb=>?_
 subst hn'
 have h53:=hk3.nblk h5
 refine newK_of λ bb w4 hs4 hbb4 hk4=>?_
 have hk14:=hk3.no hk4
 have hs14:=hk14.size
 have hs13:=hk3.size
 have hbuf4:BufAt w4 bb w1'.heap.size []:=bufAt_new hbb4 (by omega)
 have hpl:(pieces (valW ws0) n').length=n':=pieces_len _ _
 have hup:(u32s (pieces (valW ws0) n')).length=n':=by rw [u32s_len,hpl]
 have hprow4:=hk4.nrow hprow
 refine (C126 a' n' c' w4).mono ?_
 rintro _ W ⟨cb,rfl,hcb,hcbs,hkW⟩
 have hprowW:=hkW.nrow hprow4
 have hbufW:=hbuf4.no hkW
 have h5W:=hkW.nblk (hk4.nblk h53)
 have hk1W:=hk14.no hkW
 have hkw:Keep No w W:=hk1.no hk1W
 refine ⟨_,rfl,?_⟩
 intro Rec hnc hround
 generalize hw3:(W.alloc (.deferred (some []))).alloc (Rec .ready none)=W' at *
 have hkd:Keep No W W':=by subst hw3;exact (Keep.fresh W _).no (Keep.fresh _ _)
 have hl':W'.heap[W.heap.size+1]?=some (Rec .ready none):=by
  subst hw3
  rw [heap_alloc,if_pos (by simp)]
 have hdf:W'.heap[W.heap.size]?=some (.deferred (some [])):=by
  subst hw3
  rw [heap_alloc,if_neg (by simp),heap_alloc,if_pos rfl]
 clear hw3
 have hbufW':=hbufW.no hkd
 have hsW:=hk1W.size
 have hsd:=hkd.size
 have hWsz:W.heap.size+1<W'.heap.size:=(Array.getElem?_eq_some_iff.1 hl').1
 obtain ⟨hwords,_,_⟩:=row_words (hkd.nrow hprowW)
 have hno:∀{w5:World} {b:Nat} {e:TypeId} {cs:List Value},Keep (λ x=>x=W.heap.size+1\/Bfp bb w1'.heap.size W' x) W' w5->Blk W b e cs->b≠bb->e≠5->Blk w5 b e cs:=λ hk hb h1 h2=>hk.blk (hkd.nblk hb) (by
  rintro (q | q | ⟨_,q⟩)
  ·have:=hb.lt;omega
  ·exact h1 q
  ·rw [(hkd.nblk hb).etype] at q;cases q;exact h2 rfl)
 let Inv:Nat->World->Prop:=λ j w5=>w5.heap[W.heap.size+1]?=some (Rec .ready none)/\BufAt w5 bb w1'.heap.size (outB (pieces (valW ws0) n') j)/\Keep (λ x=>x=W.heap.size+1\/Bfp bb w1'.heap.size W' x) W' w5
 have hcbne:cb≠bb:=by have:=hbb4.lt;omega
 have hInvs:∀j w5,Inv j w5->w5.cell? ⟨cb,0,none⟩=some (.slice a' (u32s (pieces (valW ws0) n')).length c')/\WordsAt w5 a' (u32s (pieces (valW ws0) n')):=by
  rintro j w5 ⟨_,_,hk5⟩
  refine ⟨by rw [hup];exact (hno hk5 hcb hcbne (by decide)).cell rfl,?_⟩
  have hrow5:=hk5.row (hkd.nrow hprowW) λ g hg=>by
   rintro (q | q | ⟨_,q⟩)
   ·have:=(hprowW.lt g hg).2;omega
   ·exact ownsRow_ne (hkd.nrow hprowW) (hkd.nblk (hkW.nblk hbb4)) (by decide) (by rw [hg,q])
   ·rw [ownsRow_etype (hkd.nrow hprowW) hg] at q;cases q
  exact (row_words hrow5).1
 refine ⟨callFunc202 _ _ _,(C202 (ms:=u32s (pieces (valW ws0) n')) (c:=c') (by rw [hup];omega) Inv ⟨hl',by simpa [outB] using hbufW',Keep.refl _ _⟩ hInvs ?_).mono ?_⟩
 ·rintro j w5 m hj ⟨hI1,hI2,hI3⟩ hm
  rw [hup] at hj hm ⊢
  obtain ⟨q,hq,rfl⟩:∃q:Nat,(pieces (valW ws0) n')[n'-1-j]?=some q/\(q:Int)=m:=by
   unfold u32s at hm
   rw [List.getElem?_map] at hm
   exact Option.map_eq_some_iff.1 hm
  have hqlt:=pieces_lt _ _ q (List.mem_of_getElem? hq)
  refine hround w5 _ hI1 _ _ ⟨hI1,?_⟩
  have hll:=(Array.getElem?_eq_some_iff.1 hI1).1
  have hkp:=Keep.put (w:=w5) (l:=W.heap.size+1) (x:=Rec .busy none)
  have hbusy:=put_get (x:=Rec .busy none) hll
  have hk6:Keep (λ x=>x=W.heap.size+1\/Bfp bb w1'.heap.size W' x) W' (w5.putObj (W.heap.size+1) (Rec .busy none)):=hI3.trans hkp λ _ _ e=>.inl e
  have hnr:∀{wx:World} {st:LoopState} {pd:Option Code},wx.heap[W.heap.size+1]?=some (Rec st pd)->etype wx (W.heap.size+1)=none:=λ hx=>etype_none hx λ _ _ _=>hnc _ _ _ _ _
  have hb6:=hI2.keep hkp λ x _ e=>by subst e;rw [hnr hI1];exact ⟨by decide,by decide⟩
  generalize w5.putObj (W.heap.size+1) (Rec .busy none)=w6 at *
  refine (C127 (by omega) w6).mono ?_
  rintro _ w7 ⟨rfl,hk7⟩
  rw [digC9,bytes9_cells]
  refine ⟨_,_,_,_,_,_,_,_,_,rfl,copy9 λ g w8 hg8 hk8 hs8=>⟨_,_,_,sliceAll g,?_⟩⟩
  rw [<-bytes9_cells] at hg8
  have hb8:=(hb6.no hk7).no hk8
  have hs6:=hk6.size
  have hs7:=hk7.size
  have hs88:=hk8.size
  have hgb:g≠bb:=by have:=hbb4.lt;have:=hkW.size;omega
  have hlen9:(bytes9 q).length=9:=rfl
  refine (C128 (c:=9) hb8 hg8 hgb (by rw [hlen9];decide) (by rw [hlen9,outB_len _ _ (by rw [hpl];omega)];omega) (by omega)).mono ?_
  rintro _ w9 ⟨rfl,hb9,hk9⟩
  have hk78:=hk7.no hk8
  have hl8:w8.heap[W.heap.size+1]?=some (Rec .busy none):=by rw [hk78.block _ (Array.getElem?_eq_some_iff.1 hbusy).1 id,hbusy]
  have hnb:¬Bfp bb w1'.heap.size w8 (W.heap.size+1):=by
   rintro (q | ⟨_,q⟩)
   ·have:=hbb4.lt;have:=hkW.size;omega
   ·rw [hnr hl8] at q;cases q
  have hb9l:w9.heap[W.heap.size+1]?=some (Rec .busy none):=by rw [hk9.block _ (Array.getElem?_eq_some_iff.1 hl8).1 hnb,hl8]
  have hp10:=Keep.put (w:=w9) (l:=W.heap.size+1) (x:=Rec .ready none)
  refine ⟨_,_,rfl,⟨_,_,hb9l⟩,rfl,put_get (Array.getElem?_eq_some_iff.1 hb9l).1,?_,?_⟩
  ·rw [outB_succ (by rw [hpl];exact hj) (by rw [hpl];exact hq)]
   exact hb9.keep hp10 λ x _ e=>by subst e;rw [hnr hb9l];exact ⟨by decide,by decide⟩
  ·refine ((hk6.no hk78).trans hk9 λ x hx e=>?_).trans hp10 λ x _ e=>.inl e
   by_cases hxl:x=W.heap.size+1
   ·exact .inl hxl
   rcases e with e | ⟨e1,e2⟩
   ·exact .inr (.inl e)
   ·by_cases hf:Bfp bb w1'.heap.size W' x
    ·exact .inr hf
    ·refine .inr (.inr ⟨e1,?_⟩)
     rw [<-e2]
     exact ((hk6.no hk78).ett hx (by
      rintro (q | q)
      ·exact hxl q
      ·exact hf q)).symm
 ·rintro _ w5 ⟨rfl,hI1,hI2,hI3⟩
  rw [hup] at hI2
  have hp6:=Keep.put (w:=w5) (l:=W.heap.size+1) (x:=Rec .exhausted none)
  have hk6:Keep (λ x=>x=W.heap.size+1\/Bfp bb w1'.heap.size W' x) W' (w5.putObj (W.heap.size+1) (Rec .exhausted none)):=hI3.trans hp6 λ _ _ e=>.inl e
  have hb6:=hI2.keep hp6 λ x _ e=>by subst e;rw [etype_none hI1 λ _ _ _=>hnc _ _ _ _ _];exact ⟨by decide,by decide⟩
  generalize w5.putObj (W.heap.size+1) (Rec .exhausted none)=w6 at *
  have hs6:=hk6.size
  refine ⟨⟨_,rfl⟩,.inl ⟨hI1,(C70 hb6 (by omega)).mono ?_⟩⟩
  rintro _ w7 ⟨rfl,hk7⟩
  refine ⟨_,rfl,(Tryz.strings_TrimLeft_one _ 48 (by decide) w7).mono ?_⟩
  rintro _ w8 ⟨rfl,rfl⟩
  have etext:Lib.trimLeftB (outB (pieces (valW ws0) n') n') 48=textB (valW ws0):=by rw [outB_all];unfold textB;rw [lenP_eq hisl]
  have hlenT:(textB (valW ws0)).length<=9*n':=by
   rw [<-etext]
   refine Nat.le_trans (dropWhile_len _ _) ?_
   rw [outB_len _ _ (by rw [hpl];omega)];omega
  have hd6:w6.heap[W.heap.size]?=some (.deferred (some [])):=by
   rw [hk6.block _ (Array.getElem?_eq_some_iff.1 hdf).1 (by
    rintro (q | q | ⟨_,q⟩)
    ·omega
    ·have:=hbb4.lt;have:=hkW.size;omega
    ·rw [etype_none hdf (by intros;simp)] at q;cases q),hdf]
  have hd7:w8.heap[W.heap.size]?=some (.deferred (some [])):=by
   rw [hk7.block _ (Array.getElem?_eq_some_iff.1 hd6).1 (by
    rintro (q | ⟨_,q⟩)
    ·have:=hbb4.lt;have:=hkW.size;omega
    ·rw [etype_none hd6 (by intros;simp)] at q;cases q),hd6]
  have hb5ne:b5≠bb:=by have:=h5.lt;omega
  have h57:Blk w8 b5 40 _:=hk7.blk (hno hk6 h5W hb5ne (by decide)) (by
   rintro (q | ⟨_,q⟩)
   ·exact hb5ne q
   ·rw [(hno hk6 h5W hb5ne (by decide)).etype] at q;cases q)
  have hkend:Keep No w (w8.putObj W.heap.size (.deferred none)):=by
   have hsz0:=hkw.size
   have hs1':=hk1.size
   have hbw:w.heap.size<=bb:=by omega
   refine (((hkw.no hkd).news hk6 λ x e=>?_).news hk7 λ x e=>?_).news Keep.put λ x e=>by omega
   ·rcases e with e | e | ⟨e,_⟩ <;> omega
   ·rcases e with e | ⟨e,_⟩ <;> omega
  refine ⟨_,rfl,_,h57.add 0 rfl,bsel_split (λ hng=>⟨?_,hd7,?_,hkend⟩) λ hng=>⟨hd7,?_,hkend⟩⟩
  ·show (((⟨#[45]⟩:ByteArray).size+(⟨(Lib.trimLeftB (outB (pieces (valW ws0) n') n') 48).toArray⟩:ByteArray).size:Nat):Int)<=_
   rw [etext]
   have e1:(⟨#[45]⟩:ByteArray).size=1:=rfl
   have e2:(⟨(textB (valW ws0)).toArray⟩:ByteArray).size=(textB (valW ws0)).length:=by show (textB (valW ws0)).toArray.size=_;simp
   rw [e1,e2]
   omega
  ·rw [hVV]
   unfold textW
   rw [if_neg hV0,if_pos hng,<-etext]
  ·rw [hVV]
   unfold textW
   rw [if_neg hV0,if_neg (by simp [hng]),<-etext]
end Go.Fw

namespace Go.Fw
open Go.Proofs Go.RowKit
section
variable {w w':World} {R t:Nat} {T:Tb}
theorem C293 (h:TabAt w R t T) {i:Nat} {e:Ent} (he:T.es[i]?=some e) (hl:e.live=true):Calls Tryz.prog 293 #[.pointer (some ⟨t,0,none⟩),.int .i64 i] w λ r w'=>r=.returned (.int .i64 0)/\w'=w:=by
 refine ret_mono (V293_sound _ _ w (λ r w'=>r=.int .i64 0/\w'=w) ?_) (by rintro _ _ ⟨rfl,h⟩;exact ⟨rfl,h⟩)
 obtain ⟨g,cap,hev,hi,hent⟩:=h.ent_add he
 unfold V293
 refine bsel_neg rfl (bsel_neg (by simp) ?_)
 simp only [nilK_some]
 have hf:=h.blk.add 1 (v:=.slice (some ⟨g,0,none⟩) T.es.length cap) (by rw [Tb.all,hev];rfl)
 exact ⟨_,_,_,hf,bsel_neg (by simp;omega) ⟨_,_,_,hf,idxK_of hi ⟨_,hent.get 0 rfl,bsel_neg (by simp [hl]) ⟨by trivial,by trivial⟩⟩⟩⟩
theorem C222 (h:TabAt w R t T) {i:Nat} {e:Ent} (he:T.es[i]?=some e) (hl:e.live=true):Calls Tryz.prog 222 #[.pointer (some ⟨t,0,none⟩),.int .i64 i] w λ r w'=>r=.returned (.tuple #[.agg #[.bool e.live,.int .i64 e.hash,.int .i64 e.key,.int .i64 e.value,.int .i64 e.birth],.int .i64 0])/\Keep No w w':=by
 refine ret_mono (V222_sound _ _ w (λ r w'=>r=.tuple #[.agg #[.bool e.live,.int .i64 e.hash,.int .i64 e.key,.int .i64 e.value,.int .i64 e.birth],.int .i64 0]/\Keep No w w') ?_) (by rintro _ _ ⟨rfl,h⟩;exact ⟨rfl,h⟩)
 unfold V222
 refine newK_of λ b w1 hs hb hk=>(C293 (h.no hk) he hl).mono ?_
 rintro _ w1' ⟨rfl,rfl⟩
 have h1:=h.no hk
 obtain ⟨g,cap,hev,hi,hent⟩:=h1.ent_add he
 refine ⟨_,rfl,bsel_neg rfl ?_⟩
 simp only [nilK_some]
 refine ⟨_,_,_,h1.blk.add 1 (by rw [Tb.all,hev];rfl),idxK_of hi ⟨_,_,_,_,_,hent,set5 hb λ w2 hb2 hk2=>⟨_,_,_,_,_,hb2.cells0,rfl,hk.news hk2 λ k e=>by omega⟩⟩⟩
theorem flat_set5 {L:List Ent} {i k:Nat} {e e':Ent} {u:Value} (hk:k<5) (h:L[i]?=some e) (he:e'.cells=e.cells.set k u):(L.flatMap Ent.cells).set (i*5+k) u=(L.set i e').flatMap Ent.cells:=flat_set ent_len hk L i e e' h he
def Ent.put (e:Ent) (v:Int):Ent:={ e with value:=v }
def Tb.put (T:Tb) (i:Nat) (e:Ent) (v:Int):Tb:={ T with es:=T.es.set i (e.put v) }
theorem IdxOk.put {es:List Ent} {log:Nat} {cells:List Int} (h:IdxOk es log cells) {i:Nat} {e:Ent} (he:es[i]?=some e) (v:Int):IdxOk (es.set i (e.put v)) log cells:=by
 have hx:∀(j:Nat) (e':Ent),(es.set i (e.put v))[j]?=some e'->∃e0:Ent,es[j]?=some e0/\e'.live=e0.live/\e'.hash=e0.hash:=by
  intro j e' hj
  rw [List.getElem?_set] at hj
  split at hj
  ·subst_vars
   split at hj
   ·cases hj;exact ⟨e,he,rfl,rfl⟩
   ·cases hj
  ·exact ⟨e',hj,rfl,rfl⟩
 obtain ⟨p,hp,hq⟩:=h.pos
 refine ⟨h.lg,h.len,by simpa using h.full,λ c v' hc=>?_,p,λ j e' hj hl=>?_,λ j j' e1 e2 hjj h1 h2 l1 l2 hh=>?_⟩
 ·rcases h.ent c v' hc with q | q | ⟨j,e',q1,q2,q3⟩
  ·exact .inl q
  ·exact .inr (.inl q)
  ·by_cases hij:i=j
   ·subst hij
    rw [he] at q2;cases q2
    exact .inr (.inr ⟨i,e.put v,q1,by rw [List.getElem?_set_self (List.getElem?_eq_some_iff.1 he).1],q3⟩)
   ·exact .inr (.inr ⟨j,e',q1,by rw [List.getElem?_set_ne hij];exact q2,q3⟩)
 ·obtain ⟨e0,q1,q2,q3⟩:=hx j e' hj
  rw [q3]
  exact hp j e0 q1 (by rw [<-q2];exact hl)
 ·obtain ⟨a,a1,a2,a3⟩:=hx j e1 h1
  obtain ⟨b,b1,b2,b3⟩:=hx j' e2 h2
  exact hq j j' a b hjj a1 b1 (by rw [<-a2];exact l1) (by rw [<-b2];exact l2) (by rw [<-a3,<-b3];exact hh)
theorem TbOk.put (h:TbOk T) {i:Nat} {e:Ent} (he:T.es[i]?=some e) (v:Int):TbOk (T.put i e v):=by
 refine ⟨h.idx.put he v,λ x hx=>?_,by simp [Tb.put,h.cnt],h.num⟩
 rcases List.mem_or_eq_of_mem_set hx with hx | hx
 ·exact h.live x hx
 ·subst hx;exact h.live e (List.mem_of_getElem? he)
theorem C280 (h:TabAt w R t T) {i:Nat} {e:Ent} (he:T.es[i]?=some e) (hl:e.live=true) (v:Int):Calls Tryz.prog 280 #[.pointer (some ⟨t,0,none⟩),.int .i64 i,.int .i64 v] w λ r w'=>r=.returned (.int .i64 0)/\TabAt w' R t (T.put i e v)/\Keep (λ k=>T.ev.ownBlock=some k) w w':=by
 refine ret_mono (V280_sound _ _ _ w (λ r w'=>r=.int .i64 0/\TabAt w' R t (T.put i e v)/\Keep (λ k=>T.ev.ownBlock=some k) w w') ?_) (by rintro _ _ ⟨rfl,h⟩;exact ⟨rfl,h⟩)
 unfold V280
 refine (C293 h he hl).mono ?_
 rintro _ w1 ⟨rfl,rfl⟩
 obtain ⟨g,cap,hev,hi,hent⟩:=h.ent_add he
 refine ⟨_,rfl,bsel_pos rfl ?_⟩
 rw [nilK_some]
 refine ⟨_,_,_,h.blk.add 1 (by rw [Tb.all,hev];rfl),idxK_of hi ?_⟩
 rw [add_mk,add_mk,Nat.zero_add]
 have hrow:=h.row
 rw [hev] at hrow
 have hx:(T.es.flatMap Ent.cells)[i*5+3]?=some (.int .i64 e.value):=(flat_get ent_len (by decide) _ _ _ he).trans rfl
 refine stRow hrow hx λ w2 hr2 hk2=>⟨rfl,?_,hk2.mono λ k _ e=>by rw [hev,e];rfl⟩
 obtain ⟨n1,n2,n3⟩:=h.ne_t
 obtain ⟨m1,m2⟩:=h.ne_ev
 rw [hev] at n1 m1 m2
 refine ⟨hk2.blk h.blk (λ e=>n1 (by rw [<-e];rfl)),?_,h.cel.keep hk2 (λ e=>m1 (by rw [<-e];rfl)) (λ e=>m2 (by rw [<-e];rfl)),h.ge,by simp [Tb.put];exact h.len⟩
 rw [flat_set5 (e':=e.put v) (by decide) he rfl] at hr2
 simp only [Tb.put,List.length_set]
 rw [hev]
 exact hr2
theorem C121 (h:TabAt w R t T):Calls Tryz.prog 121 #[.pointer (some ⟨t,0,none⟩)] w λ r w'=>r=.returned (.int .i64 T.live)/\w'=w:=by
 refine ret_mono (V121_sound _ w (λ r w'=>r=.int .i64 T.live/\w'=w) ?_) (by rintro _ _ ⟨rfl,h⟩;exact ⟨rfl,h⟩)
 unfold V121
 refine bsel_neg rfl ?_
 rw [nilK_some]
 exact ⟨_,h.blk.add 3 rfl,rfl,rfl⟩
end
structure Dc where
 t:Nat
 most:Int
 ver:Int
 T:Tb
def Dc.own (D:Dc) (d:Nat):Nat->Prop:=λ k=>k=d\/D.T.own D.t k
structure DictAt (w:World) (R d:Nat) (D:Dc):Prop where
 blk:Blk w d 235 [.pointer (some ⟨D.t,0,none⟩),.int .i64 D.most,.int .u64 D.ver]
 tab:TabAt w R D.t D.T
 ge:R<=d
def dictTy:List TypeId:=[235,315,295,440,505,506,21]
section
variable {w w':World} {R d:Nat} {D:Dc} {fp:Nat->Prop}
theorem DictAt.keep (h:DictAt w R d D) (hk:Keep fp w w') (hn:∀k,D.own d k->¬fp k):DictAt w' R d D:=
 ⟨hk.blk h.blk (hn d (.inl rfl)),h.tab.keep hk λ k hk=>hn k (.inr hk),h.ge⟩
theorem DictAt.no (h:DictAt w R d D) (hk:Keep No w w'):DictAt w' R d D:=h.keep hk λ _ _=>id
theorem DictAt.ty (h:DictAt w R d D) {k:Nat} (hk:D.own d k):R<=k/\k<w.heap.size/\∃e,etype w k=some e/\e ∈ dictTy:=by
 rcases hk with rfl | hk
 ·exact ⟨h.ge,h.blk.lt,_,h.blk.etype,by decide⟩
 ·obtain ⟨h1,h2,e,h3,h4⟩:=h.tab.ty hk
  exact ⟨h1,h2,e,h3,List.mem_cons_of_mem _ h4⟩
theorem DictAt.not_own (h:DictAt w R d D) {b:Nat} {x:Option TypeId} (hb:etype w b=x) (hx:∀e,x=some e->e ∉ dictTy):¬D.own d b:=λ hk=>by
 obtain ⟨_,_,e,he,hm⟩:=h.ty hk
 rw [he] at hb
 exact hx e hb.symm hm
theorem DictAt.not_tab (h:DictAt w R d D):¬D.T.own D.t d:=h.tab.not_own h.blk.etype (by rintro _ ⟨⟩;decide)
theorem C72_dict (h:DictAt w R d D):Calls Tryz.prog 72 #[.pointer (some ⟨d,0,none⟩)] w λ r w'=>r=.returned (.int .i64 D.T.live)/\w'=w:=by
 refine ret_mono (V72_sound _ w (λ r w'=>r=.int .i64 D.T.live/\w'=w) ?_) (by rintro _ _ ⟨rfl,h⟩;exact ⟨rfl,h⟩)
 unfold V72
 refine bsel_neg rfl ?_
 rw [nilK_some]
 refine ⟨_,h.blk.add 0 rfl,(C121 h.tab).mono ?_⟩
 rintro _ w1 ⟨rfl,rfl⟩
 exact ⟨_,rfl,rfl,rfl⟩
theorem C281 (h:DictAt w R d D):Calls Tryz.prog 281 #[.pointer (some ⟨d,0,none⟩)] w λ r w'=>r=.returned (.tuple #[])/\DictAt w' R d { D with ver:=IntKind.wrap .u64 (D.ver+1) }/\Keep (λ k=>k=d) w w':=by
 refine ret_mono (V281_sound _ w (λ r w'=>r=.tuple #[]/\DictAt w' R d { D with ver:=IntKind.wrap .u64 (D.ver+1) }/\Keep (λ k=>k=d) w w') ?_) (by rintro _ _ ⟨rfl,h⟩;exact ⟨rfl,h⟩)
 unfold V281
 simp only [nilK_some]
 exact ⟨_,h.blk.add 2 rfl,stK_add h.blk (by simp) λ w1 hb1 hk1=>⟨by trivial,⟨hb1,h.tab.keep hk1 λ k hk e=>h.not_tab (by rw [<-e];exact hk),h.ge⟩,hk1⟩⟩
theorem C217 (h:DictAt w R d D):Calls Tryz.prog 217 #[.pointer (some ⟨d,0,none⟩)] w λ r w'=>r=.returned (.pointer (some ⟨D.t,0,none⟩))/\w'=w:=by
 refine ret_mono (V217_sound _ w (λ r w'=>r=.pointer (some ⟨D.t,0,none⟩)/\w'=w) ?_) (by rintro _ _ ⟨rfl,h⟩;exact ⟨rfl,h⟩)
 unfold V217
 rw [nilK_some]
 refine ⟨_,h.blk.add 0 rfl,bsel_neg rfl ?_⟩
 rw [nilK_some]
 exact ⟨_,h.blk.add 0 rfl,rfl,rfl⟩
theorem C143 {most:Int} (hm:0<=most/\most<=65536) (w:World):Calls Tryz.prog 143 #[.int .i64 most,.pointer none] w λ r w'=>∃d D,r=.returned (.tuple #[.pointer (some ⟨d,0,none⟩),.int .i64 0])/\DictAt w' w.heap.size d D/\TbOk D.T/\D.T.es=[]/\D.most=most/\D.ver=0/\D.T.births=0/\D.T.turns=0/\D.T.made=1/\Keep No w w':=by
 refine ret_mono (V143_sound _ _ w (λ r w'=>∃d D,r=.tuple #[.pointer (some ⟨d,0,none⟩),.int .i64 0]/\DictAt w' w.heap.size d D/\TbOk D.T/\D.T.es=[]/\D.most=most/\D.ver=0/\D.T.births=0/\D.T.turns=0/\D.T.made=1/\Keep No w w') ?_) (by rintro _ _ ⟨d,D,rfl,h⟩;exact ⟨d,D,rfl,h⟩)
 unfold V143
 refine bsel_neg (by simp;omega) ?_
 unfold V143J1
 refine bsel_neg (by simp;omega) ((C214 w).mono ?_)
 rintro _ w1 ⟨t,c,g,rfl,ht,hk1⟩
 refine ⟨_,rfl,newK_of λ d w2 hs hb hk2=>⟨d,⟨t,most,0,_⟩,rfl,⟨hb,ht.no hk2,by have:=hk1.size;omega⟩,⟨IdxOk.fresh (log:=3) (by decide),by simp,rfl,⟨Int.le_refl _,by simp only;omega,Int.le_refl _⟩⟩,rfl,rfl,rfl,rfl,rfl,rfl,hk1.no hk2⟩⟩
end
structure Trn where
 kind:Int
 key:Int
 found:Bool
 value:Int
 entry:Int
def Trn.cells (t:Trn):List Value:=[.int .i64 t.kind,.int .i64 t.key,.bool t.found,.int .i64 t.value,.int .i64 t.entry]
def Trn.val (t:Trn):Value:=.agg #[.int .i64 t.kind,.int .i64 t.key,.bool t.found,.int .i64 t.value,.int .i64 t.entry]
def Ent.val (e:Ent):Value:=.agg #[.bool e.live,.int .i64 e.hash,.int .i64 e.key,.int .i64 e.value,.int .i64 e.birth]
def foundT (i:Nat) (e:Ent):Trn:=⟨2,0,true,e.value,i⟩
theorem C278 (i:Nat) (e:Ent) (w:World):Calls Tryz.prog 278 #[.int .i64 i,e.val] w λ r w'=>r=.returned (foundT i e).val/\Keep No w w':=by
 refine ret_mono (V278_sound i e.live e.hash e.key e.value e.birth w (λ r w'=>r=(foundT i e).val/\Keep No w w') ?_) (by rintro _ _ ⟨rfl,h⟩;exact ⟨rfl,h⟩)
 unfold V278
 refine newK_of λ a w1 hs1 ha hk1=>newK_of λ b w2 hs2 hb hk2=>⟨_,(hk2.nblk ha).add 3 rfl,?_⟩
 exact set5 hb λ w3 hb3 hk3=>⟨_,_,_,_,_,hb3.cells0,rfl,(hk1.no hk2).news hk3 λ k e=>by have:=hk1.size;omega⟩
structure Mc where
 sk:Value
 d:Nat
 hit:Value
 miss:Value
 hash:Int
 key:Int
 value:Int
 state:Int
 entry:Int
 scans:Int
 ver:Int
 turn:Trn
def Mc.cells (M:Mc):List Value:=[M.sk,.pointer (some ⟨M.d,0,none⟩),M.hit,M.miss,.int .i64 M.hash,.int .i64 M.key,.int .i64 M.value,.int .i64 M.state,.int .i64 M.entry,.int .i64 M.scans,.int .u64 M.ver,
 .int .i64 M.turn.kind,.int .i64 M.turn.key,.bool M.turn.found,.int .i64 M.turn.value,.int .i64 M.turn.entry]
def MachAt (w:World) (m:Nat) (M:Mc):Prop:=Blk w m 348 M.cells
def Dc.put (D:Dc) (i:Nat) (e:Ent) (v:Int):Dc:={ D with T:=D.T.put i e v,ver:=IntKind.wrap .u64 (D.ver+1) }
section
variable {w w':World} {R m:Nat} {D:Dc} {M:Mc}
theorem C279 (h:DictAt w R M.d D) (hm:MachAt w m M) {i:Nat} {e:Ent} (he:D.T.es[i]?=some e) (hl:e.live=true) :
  Calls Tryz.prog 279 #[.pointer (some ⟨m,0,none⟩),.int .i64 i,e.val] w λ r w'=>r=.returned (foundT i e).val/\DictAt w' R M.d (D.put i e M.value)/\Keep (D.own M.d) w w':=by
 refine ret_mono (V279_sound _ i e.live e.hash e.key e.value e.birth w (λ r w'=>r=(foundT i e).val/\DictAt w' R M.d (D.put i e M.value)/\Keep (D.own M.d) w w') ?_) (by rintro _ _ ⟨rfl,h⟩;exact ⟨rfl,h⟩)
 unfold V279
 refine newK_of λ a w1 hs1 ha hk1=>newK_of λ b w2 hs2 hb hk2=>?_
 have hk02:=(hk1.no hk2).no (Keep.drawn w2)
 have h2:=h.no hk02
 have hm2:Blk w2.drew m 348 M.cells:=hk02.nblk hm
 have ha2:=hk2.nblk ha
 simp only [nilK_some]
 refine ⟨_,hm2.add 1 rfl,?_⟩
 simp only [nilK_some]
 refine ⟨_,h2.blk.add 0 rfl,_,hm2.add 6 rfl,(C280 h2.tab he hl M.value).mono ?_⟩
 rintro _ w3 ⟨rfl,h3,hk3⟩
 have hn348:¬D.own M.d m:=h2.not_own hm2.etype (by rintro _ ⟨⟩;decide)
 have hev:∀{b:Nat} {e:TypeId} {cs:List Value},Blk w2.drew b e cs->e ∉ dictTy->¬D.T.ev.ownBlock=some b:=λ hb he hx=>h2.not_own hb.etype (by rintro _ ⟨⟩;exact he) (.inr (.inr (.inl hx)))
 have hm3:Blk w3 m 348 M.cells:=hk3.blk hm2 (hev hm2 (by decide))
 have hd3:DictAt w3 R M.d { D with T:=D.T.put i e M.value }:=⟨hk3.blk h2.blk λ hx=>h2.not_tab (.inr (.inl hx)),h3,h.ge⟩
 refine ⟨_,rfl,_,hm3.add 1 rfl,(C281 hd3).mono ?_⟩
 rintro _ w4 ⟨rfl,h4,hk4⟩
 have hne:∀{b':Nat} {e:TypeId} {cs:List Value},Blk w3 b' e cs->e≠235->b'≠M.d:=λ hb he=>hb.ne hd3.blk he
 have hown:∀k,D.T.ev.ownBlock=some k->k<w.heap.size:=λ k hk=>(h.ty (.inr (.inr (.inl hk)))).2.1
 have h02:=hk02.size
 have hsa:w.heap.size<=a:=by omega
 have hsb:w.heap.size<=b:=by have:=hk1.size;omega
 have ha3:=hk3.blk ha2.drew λ hx=>by have:=hown _ hx;omega
 have hb3:=hk3.blk hb.drew λ hx=>by have:=hown _ hx;omega
 have hdlt:M.d<w.heap.size:=h.blk.lt
 have ha4:=hk4.blk ha3 (by omega)
 have hb4:=hk4.blk hb3 (by omega)
 have hk04:Keep (D.own M.d) w w4:=(hk02.of_no.trans hk3 λ k _ e=>.inr (.inr (.inl e))).trans hk4 λ k _ e=>.inl e
 refine ⟨_,rfl,_,_,_,_,_,ha4.cells0,(C278 i e w4).mono ?_⟩
 rintro _ w5 ⟨rfl,hk5⟩
 refine ⟨_,_,_,_,_,rfl,set5 (hk5.nblk hb4) λ w6 hb6 hk6=>⟨_,_,_,_,_,hb6.cells0,rfl,?_,(hk04.no hk5).news hk6 λ k e=>by omega⟩⟩
 have h5:=h4.no hk5
 exact h5.keep hk6 λ k hk e=>by
  subst e
  exact h5.not_own (hk5.nblk hb4).etype (by rintro _ ⟨⟩;decide) hk
theorem C285 (h:DictAt w R M.d D) (hm:MachAt w m M) (ho:TbOk D.T) (hR:R<=w.heap.size) (hl:3*D.T.es.length<=1048576) (hn:D.T.births<1000000000000/\D.T.turns<1000000000000/\D.T.made<1000000000000) :
  Calls Tryz.prog 285 #[.pointer (some ⟨m,0,none⟩)] w λ r w'=>((D.most<=D.T.es.length/\r=.returned (Trn.val ⟨3,0,false,0,0⟩)/\DictAt w' R M.d D/\Keep No w w')\/
   ((D.T.es.length:Int)<D.most/\r=.returned (Trn.val ⟨2,0,false,M.value,D.T.es.length⟩)/\∃D',DictAt w' R M.d D'/\TbOk D'.T/\D'.T.es=D.T.es ++ [⟨true,M.hash,M.key,M.value,D.T.births⟩]/\D'.t=D.t/\D'.most=D.most/\D'.ver=IntKind.wrap .u64 (D.ver+1)/\
    D'.T.births=D.T.births+1/\D'.T.turns=D.T.turns+1/\D'.T.made<=D.T.made+1/\(∀k,D'.own M.d k->D.own M.d k\/w.heap.size<=k)/\Keep (D.own M.d) w w')):=by
 refine (V285_sound _ w (λ r w'=>(D.most<=D.T.es.length/\r=Trn.val ⟨3,0,false,0,0⟩/\DictAt w' R M.d D/\Keep No w w')\/
   ((D.T.es.length:Int)<D.most/\r=Trn.val ⟨2,0,false,M.value,D.T.es.length⟩/\∃D',DictAt w' R M.d D'/\TbOk D'.T/\D'.T.es=D.T.es ++ [⟨true,M.hash,M.key,M.value,D.T.births⟩]/\D'.t=D.t/\D'.most=D.most/\D'.ver=IntKind.wrap .u64 (D.ver+1)/\
    D'.T.births=D.T.births+1/\D'.T.turns=D.T.turns+1/\D'.T.made<=D.T.made+1/\(∀k,D'.own M.d k->D.own M.d k\/w.heap.size<=k)/\Keep (D.own M.d) w w')) ?_).mono
    (by
     rintro _ _ ⟨r,rfl,⟨h1,rfl,h2⟩ | ⟨h1,rfl,h2⟩⟩
     ·exact .inl ⟨h1,rfl,h2⟩
     ·exact .inr ⟨h1,rfl,h2⟩)
 have hcnt:=ho.cnt
 unfold V285
 refine newK_of λ a w1 hs1 ha hk1=>?_
 have hk1d:=hk1.no (Keep.drawn w1)
 have h1:=h.no hk1d
 have hm1:Blk w1.drew m 348 M.cells:=hk1d.nblk hm
 simp only [nilK_some]
 refine ⟨_,hm1.add 1 rfl,_,hm1.add 1 rfl,?_⟩
 simp only [nilK_some]
 refine ⟨_,h1.blk.add 1 rfl,(C72_dict h1).mono ?_⟩
 rintro _ w1' ⟨rfl,rfl⟩
 refine ⟨_,rfl,h1.blk.add 1 rfl,hm1.add 1 rfl,bsel_split (λ hc=>?_) λ hc=>?_⟩
 ·have hc:D.most<=D.T.live:=by simpa using hc
  refine set5 ha.drew λ w2 hb2 hk2=>⟨_,_,_,_,_,hb2.cells0,.inl ⟨by omega,rfl,?_,?_⟩⟩
  ·exact h1.keep hk2 λ k hk e=>by
    subst e
    exact h1.not_own ha.drew.etype (by rintro _ ⟨⟩;decide) hk
  ·exact hk1d.news hk2 λ k e=>by omega
 ·have hc:D.T.live<D.most:=by simpa using hc
  have hk2d:=hk1d.no (Keep.drawn w1.drew)
  have h2:=h.no hk2d
  have hm2:Blk w1.drew.drew m 348 M.cells:=hk2d.nblk hm
  refine ⟨_,hm2.add 1 rfl,?_⟩
  simp only [nilK_some]
  refine ⟨_,h2.blk.add 0 rfl,_,hm2.add 4 rfl,_,hm2.add 5 rfl,_,hm2.add 6 rfl,(C286 h2.tab ho (by have:=hk2d.size;omega) hl hn).mono ?_⟩
  rintro _ w3 ⟨rfl,T',hT',ho',hes,hb',ht',hm',hown',hk3⟩
  have hn348:¬D.T.own D.t m:=λ hx=>h2.not_own hm2.etype (by rintro _ ⟨⟩;decide) (.inr hx)
  have hm3:Blk w3 m 348 M.cells:=hk3.blk hm2 hn348
  have hd3:DictAt w3 R M.d { D with T:=T' }:=⟨hk3.blk h2.blk h2.not_tab,hT',h.ge⟩
  refine ⟨_,_,rfl,_,hm3.add 1 rfl,(C281 hd3).mono ?_⟩
  rintro _ w4 ⟨rfl,h4,hk4⟩
  have hm4:Blk w4 m 348 M.cells:=hk4.blk hm3 (hm3.ne hd3.blk (by decide))
  refine ⟨_,rfl,_,hm4.add 6 rfl,?_⟩
  have hs2:=hk2d.size
  have ha3:Blk w3 a 272 _:=hk3.blk ha.drew.drew λ hx=>h2.not_own (ha.drew.drew).etype (by rintro _ ⟨⟩;decide) (.inr hx)
  have ha4:=hk4.blk ha3 (ha3.ne hd3.blk (by decide))
  have hk04:Keep (D.own M.d) w w4:=(hk2d.of_no.trans hk3 λ k _ e=>.inr e).trans hk4 λ k _ e=>.inl e
  refine set5 ha4 λ w5 hb5 hk5=>⟨_,_,_,_,_,hb5.cells0,.inr ⟨by omega,rfl,{ D with T:=T',ver:=IntKind.wrap .u64 (D.ver+1) },?_,ho',hes,rfl,rfl,rfl,hb',ht',hm',?_,hk04.news hk5 λ k e=>by omega⟩⟩
  ·exact h4.keep hk5 λ k hk e=>by
    subst e
    exact h4.not_own ha4.etype (by rintro _ ⟨⟩;decide) hk
  ·intro k hk
   rcases hk with rfl | hk
   ·exact .inl (.inl rfl)
   ·rcases hown' k hk with hk | hk
    ·exact .inl (.inr hk)
    ·exact .inr (by omega)
end
end Go.Fw
