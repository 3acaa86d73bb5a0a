/- Part of a proof over the given program: texts of lemmas (conditions: none beyond each lemma as stated). -/
import Derived.Test.YtdmoefbfepeeaaaGreatDoorN22
import Derived.SizedLaws
set_option linter.unnecessarySimpa false
set_option linter.unusedVariables false
set_option linter.unusedSimpArgs false

namespace Go.Fw
open Go.Proofs Go.RowKit
section
variable {H:Type} {P:Program}
theorem weights_all {e:TypeId} {d:DataW H} {n:Nat} (hn:n ∈ d.weights P e):∀{l:List (DataW H)},d ∈ l->n ∈ DataW.weightsAll P e l
 | a :: r,hd=>by
  simp only [DataW.weightsAll,List.mem_append]
  rcases List.mem_cons.1 hd with rfl | h
  ·exact .inl hn
  ·exact .inr (weights_all hn h)
def Light (P:Program) (t:TypeId) (d:DataW H):Prop:=∀n ∈ d.weights P t,n<=reachBytes
theorem Light.slice {t e:TypeId} (ht:P.underlying t=some (.slice e)) {l r:List (DataW H)} (h:Light P t (.slice l r)):(l.length+r.length)*P.bytesOf e<=reachBytes/\∀d ∈ l,Light P e d:=by
 have hm:(DataW.slice l r).weights P t=(l.length+r.length)*P.bytesOf e :: (DataW.weightsAll P e l ++ DataW.weightsAll P e r):=by simp [DataW.weights,ht]
 unfold Light at h
 rw [hm] at h
 exact ⟨h _ (List.mem_cons_self ..),λ d hd n hn=>h n (List.mem_cons_of_mem _ (List.mem_append_left _ (weights_all hn hd)))⟩
theorem Light.str {t:TypeId} {b:List UInt8} (h:Light (H:=H) P t (.lit (.string b))):b.length<=reachBytes:=h _ (by simp [DataW.weights])
theorem Light.field {t:TypeId} {fs:Array Field} (ht:P.underlying t=some (.struct fs)) {xs:List (DataW H)} (h:Light P t (.agg xs)) {j:Nat} {f:Field} {d:DataW H} (hf:fs[j]?=some f) (hd:xs[j]?=some d):Light P f.type d:=λ n hn=>h n (by
 have hm:(DataW.agg xs).weights P t=DataW.weightsEach P (fs.toList.map (·.type)) xs:=by simp [DataW.weights,ht]
 rw [hm]
 exact DataW.weights_mem_each (by simp [hf]) hd n hn)
theorem row_low {a:Addr} {n N:Nat} {l:List MemPlace} (h:∀y ∈ MemPlace.row a n ++ l,y.block<N) (hn:0<n):a.block<N:=
 h (.cell a.block (a.off+0)) (List.mem_append_left _ (by unfold MemPlace.row;exact List.mem_map.2 ⟨0,List.mem_range.2 hn,rfl⟩))
end
section
variable {H:Type} {enc:TypeId × Value->H} {w:World} {base:Nat} {spare:Nat->Bool} {held:Bool} {fuel N:Nat} {cs:List Value} {x:DataW H × List MemPlace}
theorem bounds_u32 {n:Int} (h:(Lit.int .u32 n).wf=true):0<=n/\n<4294967296:=by
 simp [Lit.wf,IntKind.min,IntKind.max,IntKind.signed,IntKind.bits] at h
 omega
theorem ints_of_trodW (h:DataW.trod enc Tryz.prog w base spare held fuel 30 cs=some x) (hL:Light Tryz.prog 30 x.1) (hN:∀y ∈ x.2,y.block<N):∃a l c ks,cs=[.slice a l c]/\IntsAt w a l ks/\l*8<=reachBytes/\∀p,a=some p->0<l->p.block<N:=by
 rcases Deep.open_slice Tryz.underlying30 h with ⟨rfl,_⟩ | ⟨a,len,cap,m,n,D,Pl,rfl,_,hle,hcap,hm,rfl,hel⟩
 ·exact ⟨none,0,0,[],rfl,⟨rfl,λ j k h=>by simp at h⟩,by simp,λ p hp=>by cases hp⟩
 ·have hlm:len<=m:=by split at hm <;> omega
  have hc3:Tryz.prog.cellsOf 3=1:=by kernel_rfl
  have hint:∀i,i<len->∃k,w.cell? (a.add i)=some (.int .i64 k):=by
   intro i hi
   obtain ⟨cs',h1,h2⟩:=hel i (by omega)
   obtain ⟨k,rfl,_⟩:=DataW.trod_int Tryz.underlying3 h2
   rw [hc3,Nat.mul_one] at h1
   exact ⟨k,ChangeShapes.cell_of_cells?_one h1⟩
  obtain ⟨ks,hl,hr⟩:=list_of len hint
  refine ⟨some a,len,cap,ks,rfl,⟨hl,λ j k hj=>⟨a,rfl,hr j k hj⟩⟩,?_,λ p hp h0=>?_⟩
  ·have:=(hL.slice Tryz.underlying30).1
   rw [show Tryz.prog.bytesOf 3=8 by kernel_rfl] at this
   simp at this
   have:len*8<=(len+(m-len))*8:=by omega
   omega
  ·cases hp
   exact row_low hN (by rw [hc3];omega)
theorem words_of_trodW (h:DataW.trod enc Tryz.prog w base spare held fuel 38 cs=some x) (hL:Light Tryz.prog 38 x.1) (hN:∀y ∈ x.2,y.block<N):∃a c ms,cs=[.slice a (List.length ms) c]/\WordsAt w a ms/\ms.length<=c/\(∀m ∈ ms,0<=m/\m<4294967296)/\ms.length*4<=reachBytes/\∀p,a=some p->0<ms.length->p.block<N:=by
 rcases Deep.open_slice Tryz.underlying38 h with ⟨rfl,_⟩ | ⟨a,len,cap,m,n,D,Pl,rfl,_,hle,hcap,hm,rfl,hel⟩
 ·exact ⟨none,0,[],rfl,λ j k h=>by simp at h,by simp,λ m hm=>by simp at hm,by simp,λ p hp=>by cases hp⟩
 ·have hlm:len<=m:=by split at hm <;> omega
  have hc3:Tryz.prog.cellsOf 45=1:=by kernel_rfl
  have hint:∀i,i<len->∃k,w.cell? (a.add i)=some (.int .u32 k)/\0<=k/\k<4294967296:=by
   intro i hi
   obtain ⟨cs',h1,h2⟩:=hel i (by omega)
   obtain ⟨k,rfl,_,hwf⟩:=DataW.trod_int (k:=.u32) (by kernel_rfl) h2
   rw [hc3,Nat.mul_one] at h1
   exact ⟨k,ChangeShapes.cell_of_cells?_one h1,bounds_u32 hwf⟩
  obtain ⟨ks,hl,hr⟩:=list_of len hint
  subst hl
  refine ⟨some a,cap,ks,rfl,λ j k hj=>⟨a,rfl,(hr j k hj).1⟩,by omega,λ k hk=>?_,?_,λ p hp h0=>?_⟩
  ·obtain ⟨j,hj⟩:=List.mem_iff_getElem?.1 hk
   exact (hr j k hj).2
  ·have:=(hL.slice Tryz.underlying38).1
   rw [show Tryz.prog.bytesOf 45=4 by kernel_rfl] at this
   simp at this
   omega
  ·cases hp
   exact row_low hN (by rw [hc3];omega)
structure TermIn (w:World) (N:Nat) (t:Tm) (ks ms:List Int):Prop where
 kids:KidsAt w t ks
 kb:∀p,t.ka=some p->0<t.kl->p.block<N
 words:WordsAt w t.ma ms
 ml:t.ml=ms.length
 mc:ms.length<=t.mc
 mr:∀m ∈ ms,0<=m/\m<4294967296
 mb:∀p,t.ma=some p->0<t.ml->p.block<N
 kz:t.kl*8<=reachBytes
 mz:t.ml*4<=reachBytes
 tz:t.text.size<=reachBytes
theorem term_of_trodW (h:DataW.trod enc Tryz.prog w base spare held fuel 42 cs=some x) (hL:Light Tryz.prog 42 x.1) (hN:∀y ∈ x.2,y.block<N):∃t:Tm,cs=t.cells/\∃ks ms,TermIn w N t ks ms:=by
 obtain ⟨xs,n,_,rfl,hl,hxl,hf⟩:=DataW.trod_struct Tryz.underlying42 h
 rw [show Tryz.prog.cellsOf 42=8 by kernel_rfl] at hl
 obtain ⟨c0,c1,c2,c3,c4,c5,c6,c7,rfl⟩:=cells8 hl
 have hxl:xs.length=7:=hxl
 have e1:Tryz.prog.cellsOf 3=1:=by kernel_rfl
 have e2:Tryz.prog.cellsOf 4=1:=by kernel_rfl
 have e3:Tryz.prog.cellsOf 40=2:=by kernel_rfl
 have e4:Tryz.prog.cellsOf 9=1:=by kernel_rfl
 have e5:Tryz.prog.cellsOf 30=1:=by kernel_rfl
 have e6:Tryz.prog.cellsOf 38=1:=by kernel_rfl
 have f0:DataW.trod enc Tryz.prog w base spare held n 3 (([c0,c1,c2,c3,c4,c5,c6,c7].drop 0).take (Tryz.prog.cellsOf 3))=xs[0]?:=hf 0 _ rfl
 have f1:DataW.trod enc Tryz.prog w base spare held n 4 (([c0,c1,c2,c3,c4,c5,c6,c7].drop 1).take (Tryz.prog.cellsOf 4))=xs[1]?:=hf 1 _ rfl
 have f2:DataW.trod enc Tryz.prog w base spare held n 40 (([c0,c1,c2,c3,c4,c5,c6,c7].drop 2).take (Tryz.prog.cellsOf 40))=xs[2]?:=hf 2 _ rfl
 have f3:DataW.trod enc Tryz.prog w base spare held n 9 (([c0,c1,c2,c3,c4,c5,c6,c7].drop 4).take (Tryz.prog.cellsOf 9))=xs[3]?:=hf 3 _ rfl
 have f4:DataW.trod enc Tryz.prog w base spare held n 30 (([c0,c1,c2,c3,c4,c5,c6,c7].drop 5).take (Tryz.prog.cellsOf 30))=xs[4]?:=hf 4 _ rfl
 have f5:DataW.trod enc Tryz.prog w base spare held n 4 (([c0,c1,c2,c3,c4,c5,c6,c7].drop 6).take (Tryz.prog.cellsOf 4))=xs[5]?:=hf 5 _ rfl
 have f6:DataW.trod enc Tryz.prog w base spare held n 4 (([c0,c1,c2,c3,c4,c5,c6,c7].drop 7).take (Tryz.prog.cellsOf 4))=xs[6]?:=hf 6 _ rfl
 simp only [e1,e2,e3,e4,e5,List.drop_zero,List.drop_succ_cons,List.take_succ_cons,List.take_zero] at f0 f1 f2 f3 f4 f5 f6
 have gx:∀i,i<7->∃y,xs[i]?=some y:=λ i hi=>⟨_,List.getElem?_eq_getElem (by omega)⟩
 have hin:∀{i:Nat} {y:DataW H × List MemPlace},xs[i]?=some y->∀z ∈ y.2,z.block<N:=λ hy z hz=>hN z (List.mem_flatMap.2 ⟨_,List.mem_of_getElem? hy,hz⟩)
 have hlf:∀{i:Nat} {y:DataW H × List MemPlace},xs[i]?=some y->(xs.map (·.1))[i]?=some y.1:=λ hy=>by rw [List.getElem?_map,hy];rfl
 obtain ⟨y0,g0⟩:=gx 0 (by decide);rw [g0] at f0
 obtain ⟨y1,g1⟩:=gx 1 (by decide);rw [g1] at f1
 obtain ⟨y2,g2⟩:=gx 2 (by decide);rw [g2] at f2
 obtain ⟨y3,g3⟩:=gx 3 (by decide);rw [g3] at f3
 obtain ⟨y4,g4⟩:=gx 4 (by decide);rw [g4] at f4
 obtain ⟨y5,g5⟩:=gx 5 (by decide);rw [g5] at f5
 obtain ⟨y6,g6⟩:=gx 6 (by decide);rw [g6] at f6
 have l2:Light Tryz.prog 40 y2.1:=hL.field Tryz.underlying42 (j:=2) rfl (hlf g2)
 have l3:Light Tryz.prog 9 y3.1:=hL.field Tryz.underlying42 (j:=3) rfl (hlf g3)
 have l4:Light Tryz.prog 30 y4.1:=hL.field Tryz.underlying42 (j:=4) rfl (hlf g4)
 obtain ⟨kind,k0,_⟩:=DataW.trod_int Tryz.underlying3 f0
 obtain ⟨bo,k1,_⟩:=DataW.trod_bool Tryz.underlying4 f1
 obtain ⟨tx,k3,z3,htx⟩:=DataW.trod_string Tryz.underlying9 f3
 obtain ⟨ka,kl,kc,ks,k4,hks,hkl,hkb⟩:=ints_of_trodW f4 l4 (hin g4)
 obtain ⟨ha,k5,_⟩:=DataW.trod_bool Tryz.underlying4 f5
 obtain ⟨sa,k6,_⟩:=DataW.trod_bool Tryz.underlying4 f6
 obtain ⟨zs,n2,_,hz2,hl2,hzl,hf2⟩:=DataW.trod_struct Tryz.underlying40 f2
 have hzl:zs.length=2:=hzl
 have p0:DataW.trod enc Tryz.prog w base spare held n2 4 (([c2,c3].drop 0).take (Tryz.prog.cellsOf 4))=zs[0]?:=hf2 0 _ rfl
 have p1:DataW.trod enc Tryz.prog w base spare held n2 38 (([c2,c3].drop 1).take (Tryz.prog.cellsOf 38))=zs[1]?:=hf2 1 _ rfl
 simp only [e2,e6,List.drop_zero,List.drop_succ_cons,List.take_succ_cons,List.take_zero] at p0 p1
 obtain ⟨z0,q0⟩:∃y,zs[0]?=some y:=⟨_,List.getElem?_eq_getElem (by omega)⟩
 obtain ⟨z1,q1⟩:∃y,zs[1]?=some y:=⟨_,List.getElem?_eq_getElem (by omega)⟩
 rw [q0] at p0;rw [q1] at p1
 obtain ⟨ng,k7,_⟩:=DataW.trod_bool Tryz.underlying4 p0
 rw [hz2] at l2
 have l21:Light Tryz.prog 38 z1.1:=l2.field Tryz.underlying40 (j:=1) rfl (by rw [List.getElem?_map,q1];rfl)
 have hy2:=hin g2
 rw [hz2] at hy2
 obtain ⟨ma,mc,ms,k8,hw,hmc,hmr,hmz,hmb⟩:=words_of_trodW p1 l21 (λ z hz=>hy2 z (List.mem_flatMap.2 ⟨_,List.mem_of_getElem? q1,hz⟩))
 rw [z3] at l3
 have hts:=l3.str
 cases k0;cases k1;cases k3;cases k4;cases k5;cases k6;cases k7;cases k8
 exact ⟨⟨kind,bo,ng,ma,ms.length,mc,tx,ka,kl,kc,ha,sa⟩,rfl,ks,ms,hks,hkb,hw,rfl,hmc,hmr,hmb,hkl,hmz,by simpa using hts⟩
theorem terms_of_trodW (h:DataW.trod enc Tryz.prog w base spare held fuel 22 cs=some x) (hL:Light Tryz.prog 22 x.1) (hN:∀y ∈ x.2,y.block<N):∃a c,∃ts:List Tm,cs=[.slice a ts.length c]/\TermsAt w a ts/\ts.length<=maxLen/\(∀p,a=some p->0<ts.length->p.block<N)/\∃kss mss:Nat->List Int,∀(i:Nat) (t:Tm),ts[i]?=some t->TermIn w N t (kss i) (mss i):=by
 rcases Deep.open_slice Tryz.underlying22 h with ⟨rfl,_⟩ | ⟨a,len,cap,m,n,D,Pl,rfl,_,hle,hcap,hm,rfl,hel⟩
 ·exact ⟨none,0,[],rfl,(λ i t h=>by simp at h),by simp,(λ p hp=>by cases hp),λ _=>[],λ _=>[],(λ i t h=>by simp at h)⟩
 ·have hlm:len<=m:=by split at hm <;> omega
  have hc8:Tryz.prog.cellsOf 42=8:=by kernel_rfl
  have hint:∀i,i<len->∃t:Tm × List Int × List Int,CellsAt w (a.add (i*8)) t.1.cells/\TermIn w N t.1 t.2.1 t.2.2:=by
   intro i hi
   obtain ⟨cs',h1,h2⟩:=hel i (by omega)
   obtain ⟨t,rfl,ks,ms,h3⟩:=term_of_trodW (N:=N) h2 ((hL.slice Tryz.underlying22).2 _ (List.mem_map.2 ⟨i,List.mem_range.2 hi,rfl⟩)) (λ y hy=>hN y (List.mem_append_right _ (List.mem_flatMap.2 ⟨i,List.mem_range.2 (by omega),hy⟩)))
   rw [hc8] at h1
   obtain ⟨_,_,hc⟩:=World.cells?_some h1
   refine ⟨(t,ks,ms),cellsFrom_of _ 0 λ j v hj=>?_,h3⟩
   rw [Nat.zero_add,hc j (by
    have:=(List.getElem?_eq_some_iff.1 hj).1
    simpa [Tm.cells] using this),hj]
  obtain ⟨ys,hl,hr⟩:=list_of len hint
  refine ⟨some a,cap,ys.map (·.1),by simp [hl],λ i t ht=>?_,by simp;omega,λ p hp h0=>?_,λ i=>((ys[i]?).map (·.2.1)).getD [],λ i=>((ys[i]?).map (·.2.2)).getD [],λ i t ht=>?_⟩
  ·rw [List.getElem?_map] at ht
   obtain ⟨y,hy,rfl⟩:=Option.map_eq_some_iff.1 ht
   exact ⟨a,rfl,(hr i y hy).1⟩
  ·cases hp
   simp at h0
   exact row_low hN (by rw [hc8];omega)
  ·rw [List.getElem?_map] at ht
   obtain ⟨y,hy,rfl⟩:=Option.map_eq_some_iff.1 ht
   simp only [hy,Option.map_some,Option.getD_some]
   exact (hr i y hy).2
end
end Go.Fw

namespace Go.Fw
open Go.Proofs Go.RowKit
theorem reach_small {n k:Nat} (h:n*k<=reachBytes) (hk:1<=k):n<200000000000000:=by
 have h1:n<=n*k:=Nat.le_mul_of_pos_right n (by omega)
 have:reachBytes<200000000000000:=by decide
 omega
noncomputable def errN (ts:List Tm) (mss kss:Nat->List Int) (its:Nat->ByteArray) (pairs:Int) (i:Nat):Int:=match ts[i]? with
 | some t=>errT ts mss its pairs i t (kss i)
 | none=>0
theorem errN_of {ts:List Tm} {mss kss:Nat->List Int} {its:Nat->ByteArray} {pairs:Int} {i:Nat} {t:Tm} (h:ts[i]?=some t):errN ts mss kss its pairs i=errT ts mss its pairs i t (kss i):=by unfold errN;rw [h]
def itsS (x:Nat):ByteArray:=⟨(Lib.decDigits x).toArray⟩
structure SmallIn (w:World) (N:Nat) (ta:Option Addr) (ts:List Tm) (kss mss:Nat->List Int):Prop where
 tm:TermsAt w ta ts
 low:∀p,ta=some p->p.block<N
 inp:∀(i:Nat) (t:Tm),ts[i]?=some t->TermIn w N t (kss i) (mss i)
 sz:∀(i:Nat) (t:Tm),ts[i]?=some t->t.kl<=20000/\t.ml<=20000/\t.text.size<=20000
theorem SmallIn.no {w w':World} {N M:Nat} {ta:Option Addr} {ts:List Tm} {kss mss:Nat->List Int} (h:SmallIn w N ta ts kss mss) (hk:Keep No w w') (hN:N<=M):SmallIn w' M ta ts kss mss:=
 ⟨h.tm.no hk,λ p hp=>Nat.lt_of_lt_of_le (h.low p hp) hN,λ i t ht=>by
  have g:=h.inp i t ht
  exact ⟨g.kids.no hk,λ p hp h0=>Nat.lt_of_lt_of_le (g.kb p hp h0) hN,g.words.no hk,g.ml,g.mc,g.mr,λ p hp h0=>Nat.lt_of_lt_of_le (g.mb p hp h0) hN,g.kz,g.mz,g.tz⟩,h.sz⟩
theorem SmallIn.lowAt {w:World} {B:Nat} {ta:Option Addr} {ts:List Tm} {kss mss:Nat->List Int} (h:SmallIn w B ta ts kss mss):LowAt w B ta ts mss:=
 ⟨h.tm,h.low,λ x u hu=>by
  have g:=h.inp x u hu
  have z:=h.sz x u hu
  have:=g.ml
  exact ⟨⟨⟨g.words,g.ml,g.mc,by omega⟩,by omega⟩,g.mb⟩⟩
section
variable {w0:World} {s B b:Nat} {S:St} {ts:List Tm} {mss kss:Nat->List Int} {its:Nat->ByteArray} {ta:Option Addr} {tc:Nat}
theorem small_laws (hb:b=w0.heap.size) (hB:B<=w0.heap.size) (hS:StAt w0 s B S) (hm:S.m=none) (hp:0<=S.pairs/\S.pairs<=65536) (hsh:0<=S.shared/\S.shared<=256) (hin:SmallIn w0 B ta ts kss mss) (hn:ts.length<1000000) (hT:Lib.Utf8Tabs 1 2 w0)
  (hit:∀(x:Nat),x<ts.length->(∀w1,Keep No w0 w1->Calls Tryz.prog 77 #[.int .i64 x] w1 λ e w'=>e=.returned (.string (its x))/\Keep No w1 w')/\(its x).size<1000) :
  Laws w0 s b ta tc ts (λ k=>Ty B storeTy w0 k) (errN ts mss kss its S.pairs) (λ i=>GInv w0 s B S ts mss kss i 0 0) (λ i j=>GInv w0 s B S ts mss kss ts.length i j):=by
 refine gen_laws hb hB hm hp hsh hin.lowAt hn (λ i t ht=>⟨(hin.inp i t ht).kids,(hin.inp i t ht).kb⟩) ?_ ?_
 ·intro i w hi hk hbb
  obtain ⟨t,ht⟩:∃t,ts[i]?=some t:=⟨_,List.getElem?_eq_getElem hi⟩
  have hin2:=hin.no hk (Nat.le_refl _)
  have g:=hin2.inp i t ht
  have z:=hin.sz i t ht
  rw [errN_of ht]
  have hpair:w.cell? ⟨s,1,none⟩=some (.int .i64 S.pairs):=(hS.no hk).blk.cell rfl
  refine C39_gen hbb hin2.lowAt (by have:=hk.size;omega) hpair (tabs_no hT hk) hn ht g.kids g.kb (by omega) (by omega) (λ x u hu=>?_) (λ x hx=>⟨λ w1 hk1=>(hit x hx).1 w1 (hk.no hk1),(hit x hx).2⟩)
  have g2:=hin2.inp x u hu
  have z2:=hin.sz x u hu
  have:=g2.ml
  exact ⟨by omega,g2.mr,by omega⟩
 ·intro herr i t ht
  have hi:=(List.getElem?_eq_some_iff.1 ht).1
  have h0:=herr i hi
  rw [errN_of ht] at h0
  exact fine_of_err (by have:=hin.sz i t ht;omega) h0
theorem C13_small (hB:B<=w0.heap.size) (hS:StAt w0 s B S) (hv:S.vals=val0) (hl0:S.last=0/\S.live=0) (hm:S.m=none) (hp:0<=S.pairs/\S.pairs<=65536) (hsh:0<=S.shared/\S.shared<=256) (hin:SmallIn w0 B ta ts kss mss) (hn:ts.length<1000000) (hT:Lib.Utf8Tabs 1 2 w0)
  (hit:∀(x:Nat),x<ts.length->(∀w1,Keep No w0 w1->Calls Tryz.prog 77 #[.int .i64 x] w1 λ e w'=>e=.returned (.string (its x))/\Keep No w1 w')/\(its x).size<1000) :
  Calls Tryz.prog 13 #[.pointer (some ⟨s,0,none⟩),.slice ta ts.length tc] w0 λ e w'=>∃r,e=.returned r/\(BadEnd w0 ts (errN ts mss kss its S.pairs) r w'\/GoodEnd w0 ts (λ k=>Ty B storeTy w0 k) (errN ts mss kss its S.pairs) (λ i j=>GInv w0 s B S ts mss kss ts.length i j) r w'):=by
 have e:({ S with due:=S.due,last:=0,live:=0 }:St)=S:=by cases S;simp_all
 have hlaw:=small_laws (b:=w0.heap.size) (tc:=tc) (its:=its) rfl hB hS hm hp hsh hin hn hT hit
 refine C13_gen (Inv:=λ i=>GInv w0 s B S ts mss kss i 0 0) rfl hin.tm ?_ hn ?_ ?_ ?_ hlaw |>.mono ?_
 ·intro p hp h
  have:=hin.low p hp
  have:=h.1
  omega
 ·intro i t ht
  have:=hin.sz i t ht
  omega
 ·rintro k ⟨_,e,he,_⟩
  unfold etype at he
  rcases Nat.lt_or_ge k w0.heap.size with h | h
  ·exact h
  ·rw [Array.getElem?_eq_none h] at he;cases he
 ·exact ginv_start ⟨S.due,by rw [e];exact hS⟩ hv
 ·rintro _ w' ⟨r,rfl,h⟩
  exact ⟨r,rfl,h⟩
end
section
variable {W:World} {ta:Option Addr} {tc:Nat} {ts:List Tm} {kss mss:Nat->List Int}
end
end Go.Fw
