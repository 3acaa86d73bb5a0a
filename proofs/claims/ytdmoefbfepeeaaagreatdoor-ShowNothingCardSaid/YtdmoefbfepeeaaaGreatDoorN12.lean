/- Part of a proof over the given program: texts of lemmas (conditions: none beyond each lemma as stated). -/
import Derived.Test.YtdmoefbfepeeaaaGreatDoorN11
import Derived.Lib.RuneCount
set_option linter.unnecessarySimpa false
set_option linter.unusedVariables false
set_option linter.unusedSimpArgs false

set_option maxRecDepth 100000
namespace Go.Fw
open Go.Proofs Go.RowKit
theorem Keep.of_below {w w':World} (h:Below w.heap.size w w'):Keep No w w':=⟨h.os,h.tape,h.output,h.size,λ k hk _=>h.block k hk⟩
def IterAt (w:World) (r:Nat) (s:ByteArray) (pos:Nat):Prop:=w.heap[r]?=some (.stringIter s pos)
theorem IterAt.lt {w:World} {r pos:Nat} {s:ByteArray} (h:IterAt w r s pos):r<w.heap.size:=(Array.getElem?_eq_some_iff.1 h).1
theorem IterAt.etype {w:World} {r pos:Nat} {s:ByteArray} (h:IterAt w r s pos):Fw.etype w r=none:=by
 unfold IterAt at h
 simp [Fw.etype,h]
theorem Keep.iter {fp:Nat->Prop} {w w':World} {r pos:Nat} {s:ByteArray} (hk:Keep fp w w') (h:IterAt w r s pos) (hn:¬fp r):IterAt w' r s pos:=(hk.block r h.lt hn).trans h
theorem range_of {w:World} {s:ByteArray} {K:World->Option Addr->Prop} (h:∀r w',IterAt w' r s 0->Keep No w w'->r=w.heap.size->K w' (some ⟨r,0,none⟩)) :
  ∃w':World,∃p:Option Addr,(Instr.range 9 (.string s)).run Tryz.prog w=.ok (.pointer p) w'/\K w' p:=
 ⟨_,_,run_range_string w 9 s Tryz.underlying9,h _ _ (World.iter_heap w s 0) (Keep.fresh w _) rfl⟩
theorem nextSK_of {w:World} {r pos:Nat} {s:ByteArray} {Kd:World->Prop} {K:Int->Int->World->Prop} (h:IterAt w r s pos)
  (h1:pos<s.size->∀w',IterAt w' r s (pos+(Utf8.decode s pos).2)->Keep (λ k=>k=r) w w'->K pos (Utf8.decode s pos).1 w') (h2:¬pos<s.size->Kd w):nextSK (.pointer (some ⟨r,0,none⟩)) w Kd K:=by
 refine ⟨r,s,pos,⟨rfl,h⟩,λ hp=>h1 hp _ ?_ ?_,h2⟩
 ·unfold IterAt
  simp [h.lt]
 ·refine ⟨rfl,rfl,rfl,by simp,λ k hk hn=>?_⟩
  simp only
  rw [Array.getElem?_setIfInBounds_ne (λ e=>hn e.symm)]
theorem runeCountFrom_fuel (s:ByteArray):∀(f g pos:Nat),s.size<=f+pos->s.size<=g+pos->Lib.runeCountFrom s f pos=Lib.runeCountFrom s g pos
 | 0,g,pos,hf,_=>by rw [Lib.runeCountFrom_end s 0 pos (by omega),Lib.runeCountFrom_end s g pos (by omega)]
 | f+1,0,pos,_,hg=>by rw [Lib.runeCountFrom_end s 0 pos (by omega),Lib.runeCountFrom_end s (f+1) pos (by omega)]
 | f+1,g+1,pos,hf,hg=>by
  by_cases hp:pos<s.size
  ·have:=Lib.decode_width_pos s pos hp
   show (if pos<s.size then _ else _)=(if pos<s.size then _ else _)
   rw [if_pos hp,if_pos hp,runeCountFrom_fuel s f g _ (by omega) (by omega)]
  ·rw [Lib.runeCountFrom_end s _ pos hp,Lib.runeCountFrom_end s _ pos hp]
theorem C71 (s:ByteArray) (hs:s.size<1000000000000000) (w:World):Calls Tryz.prog 71 #[.string s] w λ e w'=>e=.returned (.int .i64 (Lib.runeCount s))/\Keep No w w':=by
 refine ret_mono (V71_sound s w (λ r w'=>r=.int .i64 (Lib.runeCount s)/\Keep No w w') ?_) (by rintro _ _ ⟨rfl,h⟩;exact ⟨rfl,h⟩)
 unfold V71
 refine range_of λ r w1 hi hk hr=>?_
 refine ⟨λ n w'=>0<=n/\∃pos,IterAt w' r s pos/\n<=pos/\n+Lib.runeCountFrom s s.size pos=Lib.runeCount s/\(n:Int)<=s.size/\Keep No w w',λ n _=>s.size-n.toNat,⟨by omega,0,hi,by omega,by simp [Lib.runeCount],by omega,hk⟩,?_⟩
 rintro j n w2 ⟨hn0,pos,hi,hnp,hn,hns,hk⟩
 have hle:=Lib.runeCountFrom_le s s.size pos
 have hle2:=Lib.runeCount_le s
 refine nextSK_of hi (λ hp w3 hi3 hk3=>?_) λ hp=>?_
 ·have hw:=Lib.decode_width_pos s pos hp
  have hstep:Lib.runeCountFrom s s.size pos=1+Lib.runeCountFrom s s.size (pos+(Utf8.decode s pos).2):=by
   rw [runeCountFrom_fuel s s.size (s.size+1) pos (by omega) (by omega)]
   show (if pos<s.size then _ else _)=_
   rw [if_pos hp]
  rw [wrap_i64 (by omega)]
  refine ⟨⟨by omega,_,hi3,by omega,by omega,by omega,hk.news hk3 (by rintro k rfl;omega)⟩,by simp only;omega⟩
 ·have:=Lib.runeCountFrom_end s s.size pos hp
  exact ⟨by congr 1;omega,hk⟩
theorem C70 {w:World} {b B:Nat} {l:List UInt8} (h:BufAt w b B l) (hB:B<=w.heap.size) :
  Calls Tryz.prog 70 #[.pointer (some ⟨b,0,none⟩)] w λ e w'=>e=.returned (.string ⟨l.toArray⟩)/\Keep (Bfp b B w) w w':=by
 obtain ⟨⟨p,v,h1,h2,h3⟩,hge⟩:=h
 have hat:Lib.BuilderAtF 150 5 B b (.pointer p) (Lib.byteCells l) w:=⟨hge,v,h2,World.ownsRowF_of (by rw [Lib.byteCells_length];exact h3),ownsRow_ne h3 h2 (by decide)⟩
 refine (Tryz.Builder_String_any_k B b l w ?_ hB).mono ?_
 ·rcases h1 with rfl | rfl
  ·exact .inl hat
  ·exact .inr hat
 ·rintro _ w' ⟨rfl,_,hb,ho⟩
  refine ⟨rfl,hb.os,hb.tape,hb.output,hb.size,λ k hk hn=>?_⟩
  by_cases hkB:k<B
  ·exact hb.block k hkB
  ·cases hc:w.heap[k]? with
   | none=>simp at hc;omega
   | some o=>
    refine ho k o hc (λ e=>hn (.inl (by simpa using e))) λ c fz e=>hn (.inr ⟨by omega,?_⟩)
    subst e
    unfold etype
    rw [hc]
end Go.Fw

set_option maxRecDepth 100000
namespace Go.Fw
open Go.Proofs Go.RowKit
theorem conv97 (w:World):(Go.convert 21 9 (.int .i32 97)).run Tryz.prog w=.ok (.string ⟨#[97]⟩) w:=by kernel_rfl
theorem C131_a (w:World):Calls Tryz.prog 131 #[.int .i32 97] w λ e w'=>e=.returned (.string ⟨#[97]⟩)/\w'=w:=by
 refine ret_mono (V131_sound 97 w (λ r w'=>r=.string ⟨#[97]⟩/\w'=w) ?_) (by rintro _ _ ⟨rfl,h⟩;exact ⟨rfl,h⟩)
 unfold V131
 refine bsel_neg rfl ?_
 unfold V131J3
 refine bsel_neg rfl (bsel_neg rfl (bsel_neg rfl (bsel_neg (by decide) ?_)))
 unfold V131J2
 refine bsel_neg rfl (bsel_neg (by decide) (bsel_neg rfl (bsel_neg rfl ?_)))
 unfold V131J1
 exact bsel_neg rfl ⟨_,_,conv97 w,rfl,rfl⟩
theorem Keep.of_bfp {w w1 w2:World} {b B:Nat} (h:Keep No w w1) (hk:Keep (Bfp b B w1) w1 w2) (hb:w.heap.size<=b) (hB:w.heap.size<=B):Keep No w w2:=
 h.news hk λ k hf=>by rcases hf with rfl | ⟨h,_⟩ <;> omega
def iterPos (w:World) (r:Nat):Nat:=match w.heap[r]? with | some (.stringIter _ p)=>p | _=>0
theorem IterAt.pos {w:World} {r pos:Nat} {s:ByteArray} (h:IterAt w r s pos):iterPos w r=pos:=by
 unfold IterAt at h
 simp [iterPos,h]
theorem C76_a (w:World):Calls Tryz.prog 76 #[.string ⟨#[97]⟩] w λ e w'=>e=.returned (.string ⟨#[39,97,39]⟩)/\Keep No w w':=by
 refine ret_mono (V76_sound _ w (λ r w'=>r=.string ⟨#[39,97,39]⟩/\Keep No w w') ?_) (by rintro _ _ ⟨rfl,h⟩;exact ⟨rfl,h⟩)
 unfold V76
 refine newK_of λ b w1 hs1 hb1 hk1=>?_
 have hbu:=bufAt_new hb1 (B:=w.heap.size) (by omega)
 refine (C130 39 hbu (by simp) hk1.size).mono ?_
 rintro _ w2 ⟨rfl,hbu,hk2⟩
 have hk:Keep No w w2:=hk1.of_bfp hk2 (by omega) (by omega)
 refine ⟨_,rfl,range_of λ r w3 hi hk3 hr=>?_⟩
 replace hbu:=hbu.no hk3
 replace hk:=hk.no hk3
 refine ⟨λ w'=>Keep No w w'/\((IterAt w' r ⟨#[97]⟩ 0/\BufAt w' b w.heap.size [39])\/(IterAt w' r ⟨#[97]⟩ 1/\BufAt w' b w.heap.size [39,97])),λ w'=>1-iterPos w' r,⟨hk,.inl ⟨hi,hbu⟩⟩,?_⟩
 rintro j w4 ⟨hk,⟨hi,hbu⟩ | ⟨hi,hbu⟩⟩
 ·refine nextSK_of hi (λ hp w5 hi5 hk5=>?_) λ hp=>absurd (by decide) hp
  have hd:Utf8.decode ⟨#[97]⟩ 0=(97,1):=by decide
  rw [hd] at hi5 ⊢
  refine (C131_a w5).mono ?_
  rintro _ w5' ⟨rfl,hw5⟩
  subst hw5
  have hrw:w.heap.size<=r:=by have:=hk1.size;have:=hk2.size;omega
  have hbu5:=hbu.keep hk5 λ k _ e=>by subst e;rw [hi.etype];exact ⟨by simp,by simp⟩
  replace hk:=hk.news hk5 (by rintro k rfl;exact hrw)
  refine ⟨_,rfl,(C69 ⟨#[97]⟩ hbu5 (by decide) hk.size).mono ?_⟩
  rintro _ w6 ⟨rfl,hbu6,hk6⟩
  have hrb:¬Bfp b w.heap.size w5' r:=by
   rintro (e | ⟨_,e⟩)
   ·rw [e] at hi5;have:=hi5.etype;rw [hbu5.etype] at this;cases this
   ·rw [hi5.etype] at e;cases e
  have hi6:=hk6.iter hi5 hrb
  refine ⟨_,_,rfl,⟨hk.of_bfp hk6 (by omega) (by omega),.inr ⟨hi6,hbu6⟩⟩,?_⟩
  simp only
  rw [hi6.pos,hi.pos]
  decide
 ·refine nextSK_of hi (λ hp w5 hi5 hk5=>absurd hp (by decide)) λ hp=>?_
  refine (C130 39 hbu (by simp) hk.size).mono ?_
  rintro _ w6 ⟨rfl,hbu6,hk6⟩
  replace hk:=hk.of_bfp hk6 (by omega) (by omega)
  refine ⟨_,rfl,(C70 hbu6 hk.size).mono ?_⟩
  rintro _ w7 ⟨rfl,hk7⟩
  exact ⟨_,rfl,rfl,hk.of_bfp hk7 (by omega) (by omega)⟩
end Go.Fw

namespace Go.Fw
open Go.Proofs Go.RowKit
structure Tm where
 kind:Int
 b:Bool
 neg:Bool
 ma:Option Addr
 ml:Nat
 mc:Nat
 text:ByteArray
 ka:Option Addr
 kl:Nat
 kc:Nat
 hash:Bool
 same:Bool
def Tm.cells (t:Tm):List Value:=[.int .i64 t.kind,.bool t.b,.bool t.neg,.slice t.ma t.ml t.mc,.string t.text,.slice t.ka t.kl t.kc,.bool t.hash,.bool t.same]
def TermsAt (w:World) (a:Option Addr) (ts:List Tm):Prop:=∀i t,ts[i]?=some t->∃p,a=some p/\CellsAt w (p.add (i*8)) t.cells
theorem cellsFrom_keep {fp:Nat->Prop} {w w':World} (hk:Keep fp w w') {a:Addr} (hn:¬fp a.block):∀(vs:List Value) (i:Nat),cellsFrom w a vs i->cellsFrom w' a vs i
 | [],_,_=>trivial
 | v :: vs,i,h=>by
  obtain ⟨h1,h2⟩:=cellsFrom_cons.1 h
  have hb:(a.add i).block=a.block:=by
   unfold Addr.add
   split <;> rfl
  exact cellsFrom_cons.2 ⟨hk.cell h1 (by rw [hb];exact hn),cellsFrom_keep hk hn vs (i+1) h2⟩
theorem Keep.cellsAt {fp:Nat->Prop} {w w':World} (hk:Keep fp w w') {a:Addr} {vs:List Value} (h:CellsAt w a vs) (hn:¬fp a.block):CellsAt w' a vs:=cellsFrom_keep hk hn vs 0 h
theorem add_block (a:Addr) (i:Nat):(a.add i).block=a.block:=by
 unfold Addr.add
 split <;> rfl
theorem TermsAt.keep {fp:Nat->Prop} {w w':World} {a:Option Addr} {ts:List Tm} (h:TermsAt w a ts) (hk:Keep fp w w') (hn:∀p,a=some p->¬fp p.block):TermsAt w' a ts:=by
 intro i t ht
 obtain ⟨p,rfl,hc⟩:=h i t ht
 exact ⟨p,rfl,hk.cellsAt hc (by rw [add_block];exact hn p rfl)⟩
theorem TermsAt.no {w w':World} {a:Option Addr} {ts:List Tm} (h:TermsAt w a ts) (hk:Keep No w w'):TermsAt w' a ts:=h.keep hk λ _ _=>id
theorem termCopy {w:World} {t:Tm} {K:Addr->World->Prop} (h:∀b w',Blk w' b 42 t.cells->Keep No w w'->b=w.heap.size->K ⟨b,0,none⟩ w') :
  newK w #[.int .i64 0,.bool false,.bool false,.slice none 0 0,.string ⟨#[]⟩,.slice none 0 0,.bool false,.bool false] 42 λ a w1=>
  stK w1 (a.add 0) (.int .i64 t.kind) λ w2=>stK w2 (a.add 1) (.bool t.b) λ w3=>stK w3 (a.add 2) (.bool t.neg) λ w4=>stK w4 (a.add 3) (.slice t.ma t.ml t.mc) λ w5=>
  stK w5 (a.add 4) (.string t.text) λ w6=>stK w6 (a.add 5) (.slice t.ka t.kl t.kc) λ w7=>stK w7 (a.add 6) (.bool t.hash) λ w8=>stK w8 (a.add 7) (.bool t.same) λ w9=>K a w9:=by
 refine newK_of λ b w1 hs hb hk=>?_
 refine stK_add hb (by simp) λ w2 hb hk2=>?_
 replace hk:=hk.news hk2 (by rintro k rfl;omega)
 refine stK_add hb (by simp) λ w3 hb hk2=>?_
 replace hk:=hk.news hk2 (by rintro k rfl;omega)
 refine stK_add hb (by simp) λ w4 hb hk2=>?_
 replace hk:=hk.news hk2 (by rintro k rfl;omega)
 refine stK_add hb (by simp) λ w5 hb hk2=>?_
 replace hk:=hk.news hk2 (by rintro k rfl;omega)
 refine stK_add hb (by simp) λ w6 hb hk2=>?_
 replace hk:=hk.news hk2 (by rintro k rfl;omega)
 refine stK_add hb (by simp) λ w7 hb hk2=>?_
 replace hk:=hk.news hk2 (by rintro k rfl;omega)
 refine stK_add hb (by simp) λ w8 hb hk2=>?_
 replace hk:=hk.news hk2 (by rintro k rfl;omega)
 refine stK_add hb (by simp) λ w9 hb hk2=>?_
 replace hk:=hk.news hk2 (by rintro k rfl;omega)
 exact h b w9 hb hk hs
def ints (l:List Int):List Value:=l.map (.int .i64)
theorem ints_get {l:List Int} {i:Nat} {n:Int} (h:l[i]?=some n):(ints l)[i]?=some (.int .i64 n):=by simp [ints,h]
structure Laws (w0:World) (s b:Nat) (ta:Option Addr) (tc:Nat) (ts:List Tm) (own0:Nat->Prop) (err:Nat->Int) (Inv:Nat->List Int->(Nat->Prop)->World->Prop) (Fil:Nat->Nat->List Int->(Nat->Prop)->World->Prop):Prop where
 wrong:∀i w,i<ts.length->Keep No w0 w->Blk w b 92 [.pointer (some ⟨s,0,none⟩),.slice ta ts.length tc,.slice none 0 0]->
  Calls Tryz.prog 39 #[.pointer (some ⟨b,0,none⟩),.int .i64 i] w λ e w'=>e=.returned (.int .i64 (err i))/\Keep No w w'
 stab:∀i refs own w w' X,Inv i refs own w->Keep X w w'->(∀k,X k->k<w.heap.size->(etype w k=some 3\/etype w k=some 92)/\¬own k)->Inv i refs own w'
 make:∀i t refs own w v,(∀j,j<ts.length->err j=0)->ts[i]?=some t->refs.length=i->Inv i refs own w->Keep own0 w0 w->TermsAt w ta ts->Blk w b 92 [.pointer (some ⟨s,0,none⟩),.slice ta ts.length tc,v]->w.ownsRow w0.heap.size 3 1 v i (ints refs)->
  (∀k,own k->¬(k=b\/v.ownBlock=some k))->
  Calls Tryz.prog 40 #[.pointer (some ⟨b,0,none⟩),.agg t.cells.toArray] w λ e w'=>∃ref own',e=.returned (.int .i64 ref)/\Inv (i+1) (refs ++ [ref]) own' w'/\Keep (λ k=>k≠b/\v.ownBlock≠some k/\(k<w0.heap.size->own0 k)) w w'/\(∀k,own' k->own k\/(w.heap.size<=k/\k<w'.heap.size))
 start:∀refs own w,(∀j,j<ts.length->err j=0)->refs.length=ts.length->Inv ts.length refs own w->Fil 0 0 refs own w
 fstab:∀i j refs own w w' X,Fil i j refs own w->Keep X w w'->(∀k,X k->k<w.heap.size->(etype w k=some 3\/etype w k=some 92)/\¬own k)->Fil i j refs own w'
 get:∀i t refs own w ref,(∀j,j<ts.length->err j=0)->ts[i]?=some t->refs[i]?=some ref->refs.length=ts.length->Keep own0 w0 w->Fil i 0 refs own w->∃x,Calls Tryz.prog 41 #[.pointer (some ⟨s,0,none⟩),.int .i64 ref] w (λ e w'=>e=.returned x/\w'=w)/\
  (((∀w:World,(Instr.typeAssert x 77 94 true).run Tryz.prog w=.ok (.tuple #[.pointer none,.bool false]) w)/\∀w1,Fil i 0 refs own w1->Fil (i+1) 0 refs own w1)\/
   (∃r,x=.iface 94 (.pointer (some ⟨r,0,none⟩))/\(∀w1,Fil i t.kl refs own w1->Fil (i+1) 0 refs own w1)/\
    ∀j w1,j<t.kl->Keep own0 w0 w1->Keep own w w1->Fil i j refs own w1->∃g l c p kid,w1.cell? ⟨r,1,none⟩=some (.slice (some ⟨g,0,none⟩) l c)/\j<l/\own g/\w0.heap.size<=g/\(w1.cell? ⟨g,j,none⟩).isSome=true/\w1.frozen? ⟨g,j,none⟩=false/\
     t.ka=some p/\w1.cell? (p.add j)=some (.int .i64 kid)/\0<=kid/\kid<ts.length/\∀v,refs[kid.toNat]?=some v->Fil i (j+1) refs own (w1.setCell ⟨g,j,none⟩ (.int .i64 v))))
section
variable {w0:World} {s b:Nat} {ta:Option Addr} {tc:Nat} {ts:List Tm} {own0:Nat->Prop} {err:Nat->Int} {Inv:Nat->List Int->(Nat->Prop)->World->Prop} {Fil:Nat->Nat->List Int->(Nat->Prop)->World->Prop}
def BadEnd (w0:World) (ts:List Tm) (err:Nat->Int) (r:Value) (w':World):Prop:=
 ∃i,i<ts.length/\(∀j,j<i->err j=0)/\err i≠0/\r=.tuple #[.slice none 0 0,.int .i64 (err i)]/\Keep No w0 w'
def GoodEnd (w0:World) (ts:List Tm) (own0:Nat->Prop) (err:Nat->Int) (Fil:Nat->Nat->List Int->(Nat->Prop)->World->Prop) (r:Value) (w':World):Prop:=
 (∀j,j<ts.length->err j=0)/\∃refs own v,refs.length=ts.length/\r=.tuple #[v,.int .i64 0]/\Fil ts.length 0 refs own w'/\Keep own0 w0 w'/\w'.ownsRow w0.heap.size 3 1 v ts.length (ints refs)/\(∀k,own k->v.ownBlock≠some k)
theorem ownsRow_slice {w:World} {base e size n:Nat} {v:Value} {xs:List Value} (h:w.ownsRow base e size v n xs):∃a c,v=.slice a n c:=by
 rcases h.2 with ⟨h1,h2⟩ | ⟨g,cap,cur,h1,_⟩
 ·exact ⟨_,_,by rw [h1,h2]⟩
 ·exact ⟨_,_,h1⟩
theorem C13_gen (hb:b=w0.heap.size) (hts:TermsAt w0 ta ts) (hta:∀p,ta=some p->¬own0 p.block) (hn:ts.length<1000000) (hkl:∀(i:Nat) (t:Tm),ts[i]?=some t->t.kl<1000000000000) (ho0:∀k,own0 k->k<w0.heap.size)
  (hI:Inv 0 [] No w0) (L:Laws w0 s b ta tc ts own0 err Inv Fil) :
  Calls Tryz.prog 13 #[.pointer (some ⟨s,0,none⟩),.slice ta ts.length tc] w0 λ e w'=>∃r,e=.returned r/\(BadEnd w0 ts err r w'\/GoodEnd w0 ts own0 err Fil r w'):=by
 refine (V13_sound _ ta ts.length tc w0 (λ r w'=>BadEnd w0 ts err r w'\/GoodEnd w0 ts own0 err Fil r w') ?_)
 unfold V13
 refine bsel_neg rfl (newK_of λ b' w1 hb' hbb hk1=>?_)
 obtain rfl:b'=b:=by omega
 refine ⟨λ i w=>0<=i/\i<=ts.length/\(∀j:Nat,(j:Int)<i->err j=0)/\Keep No w0 w/\Blk w b' 92 [.pointer (some ⟨s,0,none⟩),.slice ta ts.length tc,.slice none 0 0],λ i _=>(ts.length-i).toNat,
  ⟨by omega,by omega,λ j hj=>by omega,hk1,hbb⟩,?_⟩
 rintro j0 i w ⟨hi0,hin,herr,hk,hbb⟩
 refine bsel_split (λ hlt=>?_) λ hge=>?_
 ·simp at hlt
  obtain ⟨n,rfl⟩:=Int.eq_ofNat_of_zero_le hi0
  refine (L.wrong n w (by omega) hk hbb).mono ?_
  rintro _ w' ⟨rfl,hk'⟩
  refine ⟨_,rfl,bsel_split (λ he=>?_) λ he=>?_⟩
  ·refine .inl ⟨n,by omega,λ j hj=>herr j (by omega),by simpa using he,rfl,hk.no hk'⟩
  ·rw [wrap_i64 (by omega)]
   refine ⟨⟨by omega,by omega,λ j hj=>?_,hk.no hk',hk'.nblk hbb⟩,by simp only;omega⟩
   by_cases hjn:j=n
   ·subst hjn;simpa using he
   ·exact herr j (by omega)
 simp at hge
 replace herr:∀j,j<ts.length->err j=0:=λ j hj=>herr j (by omega)
 clear hi0 hin hge i j0
 have hbw:b'<w.heap.size:=hbb.lt
 refine ⟨λ i w=>0<=i/\i<=ts.length/\∃refs own v,(refs.length:Int)=i/\Inv refs.length refs own w/\Keep own0 w0 w/\Blk w b' 92 [.pointer (some ⟨s,0,none⟩),.slice ta ts.length tc,v]/\w.ownsRow w0.heap.size 3 1 v refs.length (ints refs)/\
   (∀k,own k->¬(k=b'\/v.ownBlock=some k))/\(∀k,own k->k<w.heap.size),λ i _=>(ts.length-i).toNat,
  ⟨by omega,by omega,[],No,_,rfl,L.stab _ _ _ _ _ _ hI hk (λ _ h=>h.elim),Keep.of_no hk,hbb,World.ownsRow_nil _ _ _ _,λ _ h=>h.elim,λ _ h=>h.elim⟩,?_⟩
 clear hbb hbw hk w
 rintro j0 i w ⟨hi0,hin,refs,own,v,hrl,hInv,hk,hbb,hrow,hown,hownlt⟩
 have hts':=hts.keep hk hta
 refine bsel_split (λ hlt=>?_) λ hge=>?_
 ·simp at hlt
  subst hrl
  obtain ⟨t,ht⟩:∃t,ts[refs.length]?=some t:=⟨_,List.getElem?_eq_getElem (by omega)⟩
  obtain ⟨p,rfl,hc⟩:=hts' _ t ht
  refine idxK_of (by omega) ⟨_,_,_,_,_,_,_,_,_,_,_,_,hc,termCopy λ c w2 hc2 hk2 hcs=>?_⟩
  have hbb2:=hk2.nblk hbb
  obtain ⟨va,vc,rfl⟩:=ownsRow_slice hrow
  refine ⟨_,_,_,hbb2.drew.add 2 rfl,_,_,_,_,_,_,_,_,_,_,_,_,hc2.drew.cells0,?_⟩
  have hk2:=hk2.no (Keep.drawn w2)
  have hk02:=hk.no hk2
  refine (L.make refs.length t refs own _ _ herr ht rfl (L.stab _ _ _ _ _ _ hInv hk2 λ _ h=>h.elim) hk02 (hts.keep hk02 hta) hbb2.drew (hk2.nrow hrow) hown).mono ?_
  rintro _ w3 ⟨ref,own',rfl,hInv3,hk3,hown3⟩
  have hbb3:=hk3.blk hbb2.drew λ h=>h.1 rfl
  have hrow3:=hk3.row (hk2.nrow hrow) λ g hg h=>h.2.1 hg
  have hk03:Keep own0 w0 w3:=hk02.trans hk3 λ k h1 h2=>h2.2.2 h1
  refine ⟨_,rfl,hbb3.add 2 rfl,newK_of λ d w4 hd hbd hk4=>⟨(hk4.nblk hbb3).add 2 rfl,?_⟩⟩
  have hown3':∀k,own' k->¬(k=b'\/(Value.slice va refs.length vc).ownBlock=some k):=by
   intro k hk' h
   rcases hown3 k hk' with h' | ⟨h',_⟩
   ·exact hown k h' h
   ·have h1:=hk2.size
    rcases h with rfl | h
    ·have:=hbb.lt;omega
    ·have:=(hrow.lt k h).2;omega
  have hownlt3:∀k,own' k->k<w3.heap.size:=by
   intro k hk'
   rcases hown3 k hk' with h' | ⟨_,h'⟩
   ·have:=hownlt k h';have:=hk2.size;have:=hk3.size;omega
   ·exact h'
  refine appendRow rowInts (hk4.nrow hrow3) hbd rfl (by omega) (by have:=(hk03.no hk4).size;omega) λ g cap w5 hrow5 hk5 hat=>?_
  have hne5:=ownsRow_ne (hk4.nrow hrow3) (hk4.nblk hbb3) (by decide)
  have hbb5:=hk5.blk (hk4.nblk hbb3) λ e=>hne5 e
  refine stK_add hbb5 (by simp) λ w6 hbb6 hk6=>?_
  have hgb:g≠b':=λ e=>ownsRow_ne hrow5 hbb5 (by decide) (by rw [e];rfl)
  rw [wrap_i64 (by omega)]
  have hg4:g=w4.heap.size\/(Value.slice va refs.length vc).ownBlock=some g:=hat.elim (λ h=>.inr h) .inl
  have hInv6:Inv (refs.length+1) (refs ++ [ref]) own' w6:=by
   refine L.stab _ _ _ _ _ _ (L.stab _ _ _ _ _ _ (L.stab _ _ _ _ _ _ hInv3 hk4 λ _ h=>h.elim) hk5 λ k h _=>⟨.inl (ownsRow_etype (hk4.nrow hrow3) h),λ h'=>hown3' k h' (.inr h)⟩) hk6 λ k h _=>?_
   subst h
   exact ⟨.inr hbb5.etype,λ h'=>hown3' _ h' (.inl rfl)⟩
  have hk06:Keep own0 w0 w6:=((hk03.no hk4).news hk5 λ k h=>(hrow.lt k h).1).news hk6 λ k h=>by subst h;omega
  refine ⟨⟨by omega,by omega,refs ++ [ref],own',_,by simp,by simpa using hInv6,hk06,hbb6,?_,?_,?_⟩,by simp only;omega⟩
  ·have:=hk6.row hrow5 λ g' hg' e=>hgb (by cases hg';exact e)
   simpa [ints] using this
  ·intro k hk' h
   rcases h with h | h
   ·exact hown3' k hk' (.inl h)
   ·cases h
    rcases hg4 with h | h
    ·have:=hownlt3 g hk';have:=hk4.size;omega
    ·exact hown3' g hk' (.inr h)
  ·intro k hk'
   have:=hownlt3 k hk';have:=hk4.size;have:=hk5.size;have:=hk6.size;omega
 simp at hge
 obtain rfl:i=refs.length:=by omega
 have hrl:refs.length=ts.length:=by omega
 rw [hrl] at hInv hrow
 have hFil:=L.start refs own w herr hrl hInv
 clear hInv hi0 hin hge j0 hts'
 obtain ⟨va,vc,rfl⟩:=ownsRow_slice hrow
 have hne:=ownsRow_ne hrow hbb (by decide)
 refine ⟨λ i w'=>0<=i/\i<=ts.length/\Fil i.toNat 0 refs own w'/\Keep own0 w0 w'/\Blk w' b' 92 [.pointer (some ⟨s,0,none⟩),.slice ta ts.length tc,.slice va ts.length vc]/\w'.ownsRow w0.heap.size 3 1 (.slice va ts.length vc) ts.length (ints refs)/\w.heap.size<=w'.heap.size,λ i _=>(ts.length-i).toNat,
  ⟨by omega,by omega,hFil,hk,hbb,hrow,Nat.le_refl _⟩,?_⟩
 clear hFil hk hbb hrow
 rintro j0 i w1 ⟨hi0,hin,hFil,hk,hbb,hrow,hsz⟩
 have hts':=hts.keep hk hta
 have hstp:∀{w1 w':World} {X:Nat->Prop} {i j:Nat},Fil i j refs own w1->Keep X w1 w'->(∀k,X k->k<w1.heap.size->(etype w1 k=some 3\/etype w1 k=some 92)/\¬own k)->Fil i j refs own w':=λ h hk hX=>L.fstab _ _ _ _ _ _ _ h hk hX
 refine bsel_split (λ hlt=>?_) λ hge=>?_
 ·simp at hlt
  obtain ⟨n,rfl⟩:=Int.eq_ofNat_of_zero_le hi0
  simp only [Int.toNat_natCast] at hFil
  obtain ⟨t,ht⟩:∃t,ts[n]?=some t:=⟨_,List.getElem?_eq_getElem (by omega)⟩
  have hkl':=hkl n t ht
  obtain ⟨ref,href⟩:∃r,refs[n]?=some r:=⟨_,List.getElem?_eq_getElem (by omega)⟩
  obtain ⟨p,rfl,hc⟩:=hts' _ t ht
  refine idxK_of (by omega) ⟨_,_,_,_,_,_,_,_,_,_,_,_,hc,termCopy λ c w2 hc2 hk2 hcs=>?_⟩
  have hbb2:=hk2.nblk hbb
  have hrow2:=hk2.nrow hrow
  have hk02:=hk.no hk2
  have hsz2:w.heap.size<=w2.heap.size:=by have:=hk2.size;omega
  obtain ⟨g,cap,hv,_,hcell⟩:=row_cell hrow2 (ints_get href)
  have hva:va=some ⟨g,0,none⟩/\vc=cap:=by
   simp at hv
   exact hv
  obtain ⟨rfl,rfl⟩:=hva
  refine ⟨_,_,_,hbb2.add 2 rfl,idxK_of (by omega) ⟨_,by simpa using hcell,?_⟩⟩
  have hFil2:=hstp hFil hk2 λ _ h=>h.elim
  have hnext:∀{w':World},Fil (n+1) 0 refs own w'->Keep own0 w0 w'->Blk w' b' 92 [.pointer (some ⟨s,0,none⟩),.slice (some p) ts.length tc,.slice (some ⟨g,0,none⟩) ts.length vc]->w'.ownsRow w0.heap.size 3 1 (.slice (some ⟨g,0,none⟩) ts.length vc) ts.length (ints refs)->w.heap.size<=w'.heap.size->True:=λ _ _ _ _ _=>trivial
  obtain ⟨x,hget,hx⟩:=L.get n t refs own w2 ref herr ht href hrl hk02 hFil2
  refine hget.mono ?_
  rintro _ w3 ⟨rfl,rfl⟩
  rcases hx with ⟨hno,hf⟩ | ⟨r,rfl,hfin,hstep⟩
  ·refine ⟨_,rfl,_,_,hno,bsel_neg rfl ?_⟩
   rw [wrap_i64 (by omega)]
   refine ⟨⟨by omega,by omega,?_,hk02,hbb2,hrow2,hsz2⟩,by simp only;omega⟩
   have e:((n:Int)+1).toNat=n+1:=by omega
   rw [e]
   exact hf _ hFil2
  ·refine ⟨_,rfl,_,_,yes80 _ _,bsel_pos rfl ?_⟩
   refine ⟨_,_,_,hc2.add 5 rfl,?_⟩
   refine ⟨λ j w'=>0<=j/\j<=t.kl/\Fil n j.toNat refs own w'/\Keep own0 w0 w'/\Blk w' b' 92 [.pointer (some ⟨s,0,none⟩),.slice (some p) ts.length tc,.slice (some ⟨g,0,none⟩) ts.length vc]/\w'.ownsRow w0.heap.size 3 1 (.slice (some ⟨g,0,none⟩) ts.length vc) ts.length (ints refs)/\Blk w' c 42 t.cells/\w.heap.size<=w'.heap.size/\Keep own w3 w',λ j _=>(t.kl-j).toNat,
    ⟨by omega,by omega,hFil2,hk02,hbb2,hrow2,hc2,hsz2,Keep.refl _ _⟩,?_⟩
   clear hFil2 hk02 hbb2 hrow2 hc2 hsz2 hcell hv hget
   rintro j1 j w4 ⟨hj0,hjn,hFil4,hk4,hbb4,hrow4,hc4,hsz4,hko⟩
   refine bsel_split (λ hlt=>?_) λ hge=>?_
   ·simp at hlt
    obtain ⟨m,rfl⟩:=Int.eq_ofNat_of_zero_le hj0
    simp only [Int.toNat_natCast] at hFil4
    have hd:=Keep.drawn w4
    obtain ⟨g2,l2,c2,q,kid,hg1,hg2,hg3,hg3',hg4,hg5,hq1,hq2,hq3,hq4,hset⟩:=hstep m w4.drew (by omega) (hk4.no hd) (hko.no hd) (hstp hFil4 hd λ _ h=>h.elim)
    obtain ⟨kn,rfl⟩:=Int.eq_ofNat_of_zero_le hq3
    simp only [Int.toNat_natCast] at hset
    obtain ⟨v,hv⟩:∃v,refs[kn]?=some v:=⟨_,List.getElem?_eq_getElem (by omega)⟩
    rw [hq1]
    refine idxK_of (by omega) ⟨_,by rw [Nat.mul_one];exact hq2,?_⟩
    rw [nilK_some]
    refine ⟨_,_,_,by simpa using hg1,_,_,_,hbb4.drew.add 2 rfl,idxK_of (by omega) ?_⟩
    obtain ⟨g',cap',hv',_,hcell'⟩:=row_cell (hd.nrow hrow4) (ints_get hv)
    have hva:g'=g:=by
     simp at hv'
     exact hv'.1.symm
    subst hva
    refine ⟨_,by simpa using hcell',idxK_of hg2 ⟨⟨by simpa using hg4,by simpa using hg5⟩,?_⟩⟩
    have hset:=hset v hv
    have hone:=Keep.one w4.drew ⟨g2,m,none⟩ (.int .i64 v)
    simp only [add_mk,Nat.zero_add,Nat.mul_one]
    rw [wrap_i64 (by omega)]
    have hcg:c≠g2:=by have:=hownlt g2 hg3;have:=hc4.lt;omega
    have hbg:b'≠g2:=λ e=>hown g2 hg3 (.inl e.symm)
    have hgg:g'≠g2:=λ e=>hown g2 hg3 (.inr (by rw [e];rfl))
    refine ⟨⟨by omega,by omega,?_,(hk4.no hd).news hone λ k e=>by subst e;exact hg3',hone.blk hbb4.drew hbg,hone.row (hd.nrow hrow4) λ k hk e=>hgg (by cases hk;exact e),hone.blk hc4.drew hcg,by have h1:=hone.size;have h2:w4.drew.heap.size=w4.heap.size:=rfl;omega,(hko.no hd).trans hone λ k _ e=>by subst e;exact hg3⟩,by omega⟩
    have e:((m:Int)+1).toNat=m+1:=by omega
    rw [e]
    exact hset
   ·simp at hge
    have hjm:j=t.kl:=by omega
    subst hjm
    rw [wrap_i64 (by omega)]
    refine ⟨⟨by omega,by omega,?_,hk4,hbb4,hrow4,hsz4⟩,by simp only;omega⟩
    have e:((n:Int)+1).toNat=n+1:=by omega
    rw [e]
    exact hfin _ (by simpa using hFil4)
 ·simp at hge
  obtain rfl:i=ts.length:=by omega
  simp only [Int.toNat_natCast] at hFil
  have hd:=Keep.drawn w1
  refine ⟨_,_,_,hbb.drew.add 2 rfl,_,_,_,hbb.drew.add 2 rfl,?_⟩
  obtain ⟨i3,hi3,hz3,hs3,hb3⟩:=rowInts.info
  obtain ⟨w2,hr2,ho2,hg2⟩:=run_make_own (P:=Tryz.prog) w1.drew w0.heap.size 30 3 i3 _ 1 rowInts.und hi3 hz3 hs3 .i64 .i64 ts.length (by rw [hb3];omega) (by unfold maxLen;omega) ((hk.no hd).size)
  have hk2:Keep No w1.drew w2:=(Keep.of_grown hg2).mono λ _ _ h=>by cases h
  refine ⟨_,_,_,_,hr2,(hk2.nblk hbb.drew).add 2 rfl,?_⟩
  have hrow2:=hk2.nrow (hd.nrow hrow)
  have hFil2:=hstp (hstp hFil hd λ _ h=>h.elim) hk2 λ _ h=>h.elim
  have hk02:=(hk.no hd).no hk2
  rcases hrow2.2 with ⟨hv,h0⟩ | ⟨g,cap,cur,hv,hg,hh,hle,_⟩
  ·have hr:=run_append_owned_none (P:=Tryz.prog) w2 w0.heap.size 30 30 3 i3 1 rowInts.und hi3 _ _ _ ho2
   rw [hv]
   refine ⟨_,_,_,_,hr,.inr ⟨herr,refs,own,_,hrl,rfl,hFil2,hk02,?_,?_⟩⟩
   ·have:refs=[]:=by rw [<-List.length_eq_zero_iff];omega
    subst this
    rw [h0] at ho2 ⊢
    exact ho2
   ·intro k hk' h
    cases h
    have:=hownlt _ hk'
    simp at this
    omega
  ·have hva:va=some ⟨g,0,none⟩/\vc=cap:=by
    simp at hv
    exact hv
   obtain ⟨rfl,rfl⟩:=hva
   obtain ⟨w3,hr3,ho3,hg3⟩:=run_append_fits (P:=Tryz.prog) w2 w0.heap.size 30 30 3 i3 1 rowInts.und hi3 hs3 _ _ _ _ ho2 ⟨g,0,none⟩ ts.length vc (ints refs) (by simp [ints,hrl])
    (λ j u hj=>by
     have hjl:j<ts.length:=by
      have:=(List.getElem?_eq_some_iff.1 hj).1
      simp [ints] at this
      omega
     rw [add_mk,Nat.zero_add,hrow2.cellAt j (by omega),hj]) (λ u hu=>by simp [ints] at hu;obtain ⟨_,_,rfl⟩:=hu;rfl) (by omega)
   have hk3:=Keep.of_grown hg3
   refine ⟨_,_,_,_,hr3,.inr ⟨herr,refs,own,_,hrl,rfl,?_,hk02.news hk3 λ k h=>by cases h;have:=(hk.no hd).size;exact this,by simp only [Nat.zero_add,List.nil_append] at ho3 ⊢;exact ho3,?_⟩⟩
   ·refine hstp hFil2 hk3 λ k h _=>⟨.inl (ownsRow_etype ho2 h),λ hk'=>?_⟩
    cases h
    have:=hownlt _ hk'
    simp at this
    omega
   ·intro k hk' h
    cases h
    have:=hownlt _ hk'
    simp at this
    omega
end
end Go.Fw

namespace Go.Fw
open Go.Proofs Go.RowKit
theorem add_zero' (a:Addr):a.add 0=a:=by
 simp [Addr.add]
def WordsAt (w:World) (a:Option Addr) (ms:List Int):Prop:=∀i m,ms[i]?=some m->∃p,a=some p/\w.cell? (p.add i)=some (.int .u32 m)
theorem WordsAt.keep {fp:Nat->Prop} {w w':World} {a:Option Addr} {ms:List Int} (h:WordsAt w a ms) (hk:Keep fp w w') (hn:∀p,a=some p->¬fp p.block):WordsAt w' a ms:=by
 intro i m hm
 obtain ⟨p,rfl,hc⟩:=h i m hm
 exact ⟨p,rfl,hk.cell hc (by rw [add_block];exact hn p rfl)⟩
theorem WordsAt.no {w w':World} {a:Option Addr} {ms:List Int} (h:WordsAt w a ms) (hk:Keep No w w'):WordsAt w' a ms:=h.keep hk λ _ _=>id
theorem WordsAt.take {w:World} {a:Option Addr} {ms:List Int} (h:WordsAt w a ms) (n:Nat):WordsAt w a (ms.take n):=by
 intro i m hm
 rw [List.getElem?_take] at hm
 split at hm
 ·exact h i m hm
 ·cases hm
def trimN (ms:List Int):Nat->Nat
 | 0=>0
 | n+1=>if ms[n]?=some 0 then trimN ms n else n+1
def trimmed (ms:List Int):List Int:=ms.take (trimN ms ms.length)
theorem trimN_le (ms:List Int):∀n,trimN ms n<=n
 | 0=>Nat.le_refl _
 | n+1=>by
  unfold trimN
  split
  ·have:=trimN_le ms n;omega
  ·exact Nat.le_refl _
theorem C124 {w:World} {a:Option Addr} {ms:List Int} {c:Nat} (h:WordsAt w a ms) (hc:ms.length<=c) (hl:ms.length<1000000000000) :
  Calls Tryz.prog 124 #[.slice a ms.length c] w λ e w'=>e=.returned (.slice a (trimmed ms).length c)/\w'=w:=by
 refine (V124_sound a ms.length c w (λ r w'=>r=.slice a (trimmed ms).length c/\w'=w) ?_).mono ?_
 ·unfold V124
  refine ⟨λ a' n' c' w'=>a'=a/\c'=c/\w'=w/\n'<=ms.length/\trimN ms n'=trimN ms ms.length,λ _ n _ _=>n,⟨rfl,rfl,rfl,Nat.le_refl _,rfl⟩,?_⟩
  rintro _ a' n c' w' ⟨rfl,rfl,rfl,hn,ht⟩
  refine bsel_split (λ hp=>?_) λ hp=>?_
  ·simp at hp
   obtain ⟨k,rfl⟩:∃k,n=k+1:=⟨n-1,by omega⟩
   obtain ⟨m,hm⟩:∃m,ms[k]?=some m:=⟨_,List.getElem?_eq_getElem (by omega)⟩
   obtain ⟨p,rfl,hcell⟩:=h k m hm
   have hw:IntKind.wrap .i64 (((k+1:Nat):Int)-1)=((k:Nat):Int):=by rw [wrap_i64 (by omega)];omega
   rw [hw]
   refine idxK_of (by omega) ⟨m,by simpa using hcell,?_⟩
   unfold V124J1
   rw [hw]
   refine bsel_split (λ h0=>?_) λ h0=>?_
   ·simp at h0
    subst h0
    refine ⟨⟨by omega,by omega,by omega⟩,?_⟩
    refine ⟨⟨?_,by simp,rfl,by simp;omega,?_⟩,by simp⟩
    ·split
     ·rfl
     ·simp [add_zero']
    ·rw [<-ht]
     simp only [trimN,hm,if_true]
     congr 1
   ·simp at h0
    refine ⟨?_,rfl⟩
    have:(trimmed ms).length=k+1:=by
     unfold trimmed
     rw [List.length_take,<-ht]
     unfold trimN
     rw [hm,if_neg (by simpa using h0)]
     omega
    rw [this]
  ·simp at hp
   subst hp
   unfold V124J1
   refine bsel_neg rfl ⟨?_,rfl⟩
   have:(trimmed ms).length=0:=by
    unfold trimmed
    rw [List.length_take,<-ht]
    simp [trimN]
   rw [this]
 ·rintro e w' ⟨v,rfl,rfl,rfl⟩
  exact ⟨rfl,rfl⟩
def NewWords (B:Nat) (w:World) (v:Value) (ms:List Int):Prop:=
 ∃a c,v=.slice a ms.length c/\WordsAt w a ms/\ms.length<=c/\∀p,a=some p->B<=p.block/\p.block<w.heap.size/\etype w p.block=some 45
theorem NewWords.of_row {B:Nat} {w:World} {v:Value} {ms:List Int} {n:Nat} (h:w.ownsRow B 45 1 v n (ms.map (.int .u32))) (hn:n=ms.length):NewWords B w v ms:=by
 subst hn
 rcases h.2 with ⟨h1,h2⟩ | ⟨g,cap,cur,h1,hB,hg,hc,hm,hs,ht⟩
 ·subst h1
  have:ms=[]:=List.eq_nil_of_length_eq_zero h2
  subst this
  exact ⟨none,0,rfl,λ i m hm=>by simp at hm,Nat.le_refl _,λ p hp=>by cases hp⟩
 ·subst h1
  refine ⟨_,_,rfl,λ i m hm=>⟨_,rfl,?_⟩,hc,?_⟩
  ·rw [add_mk]
   have h1:(ms.map (Value.int .u32))[i]?=some (.int .u32 m):=by simp [hm]
   rw [<-ht,List.getElem?_take] at h1
   split at h1
   ·simp only [World.cell?,hg]
    simpa using h1
   ·cases h1
  ·rintro p hp
   cases hp
   refine ⟨hB,(Array.getElem?_eq_some_iff.1 hg).1,by simp [etype,hg]⟩
theorem infoU32:∃i,Tryz.prog.info? 45=some i/\i.size=1/\i.bytes=4/\∃z,i.zero=some z/\z.cells.size=1:=by
 obtain ⟨i,hi,hj⟩:=Option.map_eq_some_iff.1 (show (Tryz.prog.info? 45).map (λ i=>(i.zero,i.size,i.bytes))=some (some (.int .u32 0),1,4) by kernel_rfl)
 simp at hj
 exact ⟨i,hi,hj.2.1,hj.2.2,_,hj.1,rfl⟩
theorem C123 {w:World} {a:Option Addr} {ms:List Int} {c:Nat} (h:WordsAt w a ms) (hl:ms.length<1000000000000) :
  Calls Tryz.prog 123 #[.slice a ms.length c] w λ e w'=>∃v,e=.returned v/\NewWords w.heap.size w' v (if a.isNone then [] else ms)/\Keep No w w':=by
 refine V123_sound a ms.length c w (λ v w'=>NewWords w.heap.size w' v (if a.isNone then [] else ms)/\Keep No w w') ?_
 unfold V123
 cases a with
 | none=>exact bsel_pos rfl ⟨⟨none,0,rfl,λ i m hm=>by simp at hm,Nat.le_refl _,λ p hp=>by cases hp⟩,Keep.refl _ _⟩
 | some p=>
  refine bsel_neg rfl (newK_of λ b w1 hb hbb hk=>?_)
  obtain ⟨i,hi,hi1,hi2,z,hz,hz1⟩:∃i,Tryz.prog.info? 45=some i/\i.size=1/\i.bytes=4/\∃z,i.zero=some z/\z.cells.size=1:=infoU32
  have hown:w1.ownsRow w.heap.size 45 1 (.slice (some ⟨b,0,none⟩) 0 0) 0 []:=⟨rfl,.inr ⟨b,0,#[],rfl,by omega,hbb,by omega,by simp [maxLen],rfl,rfl⟩⟩
  obtain ⟨v',w',hr,h2,h3,h4,h5⟩:=run_append_own_at (P:=Tryz.prog) w1 w.heap.size 38 38 45 i z 1 4 Tryz.underlying38 hi hz hi1 hi2 hz1 (by omega) _ 0 [] hown p ms.length c (ms.map (.int .u32)) (by simp)
   (by
    intro j u hj
    obtain ⟨m,hm,rfl⟩:∃m,ms[j]?=some m/\Value.int .u32 m=u:=by simpa using hj
    obtain ⟨q,hq,hc⟩:=h j m hm
    cases hq
    exact hk.cell hc id) (by intro u hu;obtain ⟨m,_,rfl⟩:=List.mem_map.1 hu;rfl) (by simp [maxLen];omega) (by omega) (by have:=hk.size;omega)
  rw [Nat.zero_add,List.nil_append] at h2
  obtain ⟨a',c',rfl⟩:=ownsRow_slice h2
  refine ⟨w',_,_,_,hr,NewWords.of_row h2 rfl,?_⟩
  refine hk.news (Keep.of_grown h3) λ k hk'=>?_
  simp [Value.ownBlock] at hk'
  omega
theorem trimmed_length_le (ms:List Int):(trimmed ms).length<=ms.length:=by unfold trimmed;simp;omega
theorem C147 {w:World} {x:Bool} {a:Option Addr} {ms:List Int} {c:Nat} (h:WordsAt w a ms) (hc:ms.length<=c) (hl:ms.length<1000000000000) :
  Calls Tryz.prog 147 #[.bool x,.slice a ms.length c] w λ e w'=>e=.returned (if (trimmed ms).length=0 then .agg #[.bool false,.slice none 0 0] else .agg #[.bool x,.slice a (trimmed ms).length c])/\Keep No w w':=by
 refine (V147_sound x a ms.length c w (λ v w'=>v=(if (trimmed ms).length=0 then .agg #[.bool false,.slice none 0 0] else .agg #[.bool x,.slice a (trimmed ms).length c])/\Keep No w w') ?_).mono (by rintro _ _ ⟨_,rfl,rfl,h⟩;exact ⟨rfl,h⟩)
 unfold V147
 refine newK_of λ b w1 hb hbb hk=>?_
 refine (C124 (h.no hk) hc hl).mono ?_
 rintro _ w2 ⟨rfl,rfl⟩
 refine ⟨_,_,_,rfl,bsel_split (λ h0=>?_) λ h0=>?_⟩
 ·simp at h0
  refine stK_add hbb (by simp) λ w3 hb3 hk3=>stK_add hb3 (by simp) λ w4 hb4 hk4=>?_
  refine ⟨_,_,_,_,hb4.cells0,?_,(hk.news hk3 (by rintro k rfl;omega)).news hk4 (by rintro k rfl;omega)⟩
  rw [if_pos (by simp [h0])]
 ·simp at h0
  refine stK_add hbb (by simp) λ w3 hb3 hk3=>stK_add hb3 (by simp) λ w4 hb4 hk4=>?_
  refine ⟨_,_,_,_,hb4.cells0,?_,(hk.news hk3 (by rintro k rfl;omega)).news hk4 (by rintro k rfl;omega)⟩
  rw [if_neg (by simpa using h0)]
theorem trimN_succ (ms:List Int) (n:Nat):trimN ms (n+1)=if ms[n]?=some 0 then trimN ms n else n+1:=rfl
theorem trimN_idem (ms:List Int):∀n,n<=ms.length->trimN (ms.take (trimN ms n)) (trimN ms n)=trimN ms n
 | 0,_=>rfl
 | n+1,h=>by
  by_cases h0:ms[n]?=some 0
  ·rw [trimN_succ,if_pos h0]
   exact trimN_idem ms n (by omega)
  ·have e:(List.take (n+1) ms)[n]?=ms[n]?:=by rw [List.getElem?_take,if_pos (by omega)]
   rw [trimN_succ ms n,if_neg h0,trimN_succ,e,if_neg h0]
theorem trimmed_trimmed (ms:List Int):trimmed (trimmed ms)=trimmed ms:=by
 have hle:=trimN_le ms ms.length
 unfold trimmed
 rw [show (ms.take (trimN ms ms.length)).length=trimN ms ms.length by simp;omega,trimN_idem ms ms.length (Nat.le_refl _),List.take_take]
 simp
def FormAt (B:Nat) (w:World) (v:Value) (neg:Bool) (ms:List Int):Prop:=
 ∃s,NewWords B w s (trimmed ms)/\v=.agg #[.bool (neg && !(trimmed ms).isEmpty),s]
theorem WordsAt.none_nil {w:World} {ms:List Int} (h:WordsAt w none ms):ms=[]:=by
 cases ms with
 | nil=>rfl
 | cons m l=>obtain ⟨p,hp,_⟩:=h 0 m rfl;cases hp
theorem NewWords.no {B:Nat} {w w':World} {v:Value} {ms:List Int} (h:NewWords B w v ms) (hk:Keep No w w'):NewWords B w' v ms:=by
 obtain ⟨a,c,rfl,h1,h2,h3⟩:=h
 refine ⟨a,c,rfl,h1.no hk,h2,λ p hp=>?_⟩
 obtain ⟨h4,h5,h6⟩:=h3 p hp
 refine ⟨h4,Nat.lt_of_lt_of_le h5 hk.size,?_⟩
 unfold etype at h6 ⊢
 rw [hk.block _ h5 id]
 exact h6
theorem NewWords.mono {B B':Nat} {w:World} {v:Value} {ms:List Int} (h:NewWords B w v ms) (hB:B'<=B):NewWords B' w v ms:=by
 obtain ⟨a,c,rfl,h1,h2,h3⟩:=h
 exact ⟨a,c,rfl,h1,h2,λ p hp=>⟨Nat.le_trans hB (h3 p hp).1,(h3 p hp).2⟩⟩
theorem C211 {w:World} {x:Bool} {a:Option Addr} {ms:List Int} {c:Nat} (h:WordsAt w a ms) (hc:ms.length<=c) (hl:ms.length<1000000000000) :
  Calls Tryz.prog 211 #[.agg #[.bool x,.slice a ms.length c]] w λ e w'=>∃v,e=.returned v/\FormAt w.heap.size w' v x ms/\Keep No w w':=by
 refine V211_sound x a ms.length c w (λ v w'=>FormAt w.heap.size w' v x ms/\Keep No w w') ?_
 unfold V211
 refine newK_of λ b w1 hb hbb hk=>newK_of λ b2 w2 hb2 hbb2 hk2=>?_
 have hkk:=hk.no hk2
 have hbb':=hk2.nblk hbb
 refine ⟨_,hbb'.drew.add 0 rfl,_,_,_,hbb'.drew.add 1 rfl,(C124 ((h.no hkk).no (Keep.drawn w2)) hc hl).mono ?_⟩
 rintro _ w3 ⟨rfl,rfl⟩
 have ht:(trimmed ms).length<=ms.length:=trimmed_length_le ms
 refine ⟨_,_,_,rfl,hbb'.drew.add 0 rfl,(C123 (ms:=trimmed ms) (((h.no hkk).no (Keep.drawn w2)).take _) (by omega)).mono ?_⟩
 rintro _ w4 ⟨v,rfl,hv,hk4⟩
 have hv:NewWords w2.drew.heap.size w4 v (trimmed ms):=by
  cases a with
  | none=>
   have:=h.none_nil
   subst this
   exact hv
  | some p=>exact hv
 obtain ⟨a',c',rfl,h1,h2,h3⟩:=hv
 have hk5:=(hkk.no (Keep.drawn w2)).no hk4
 refine ⟨_,_,_,rfl,(hk4.nblk hbb'.drew).add 0 rfl,(C147 h1 h2 (by omega)).mono ?_⟩
 rintro _ w5 ⟨rfl,hk6⟩
 have hb5:Blk w5 b2 40 _:=hk6.nblk (hk4.nblk hbb2.drew)
 have hk7:=hk5.no hk6
 rw [trimmed_trimmed]
 have hsz:w.heap.size<=w2.drew.heap.size:=hkk.size
 by_cases h0:(trimmed ms).length=0
 ·rw [if_pos h0]
  have h0':trimmed ms=[]:=List.eq_nil_of_length_eq_zero h0
  refine ⟨_,_,_,_,rfl,stK_add hb5 (by simp) λ w6 hb6 hk8=>stK_add hb6 (by simp) λ w7 hb7 hk9=>?_⟩
  refine ⟨_,_,_,_,hb7.cells0,⟨_,⟨none,0,rfl,λ i m hm=>by rw [h0'] at hm;simp at hm,by omega,λ p hp=>by cases hp⟩,by simp [h0']⟩,(hk7.news hk8 (by rintro k rfl;have:=hk.size;omega)).news hk9 (by rintro k rfl;have:=hk.size;omega)⟩
 ·rw [if_neg h0]
  have hne:(trimmed ms).isEmpty=false:=by
   cases hq:trimmed ms with
   | nil=>rw [hq] at h0;exact absurd rfl h0
   | cons=>rfl
  refine ⟨_,_,_,_,rfl,stK_add hb5 (by simp) λ w6 hb6 hk8=>stK_add hb6 (by simp) λ w7 hb7 hk9=>?_⟩
  have hkn:Keep (λ k=>k=b2) w5 w7:=hk8.trans hk9 λ k hk he=>he
  refine ⟨_,_,_,_,hb7.cells0,⟨_,⟨a',c',rfl,(h1.no hk6).keep hkn (λ p hp e=>?_),h2,λ p hp=>?_⟩,by simp [hne]⟩,(hk7.news hk8 (by rintro k rfl;have:=hk.size;omega)).news hk9 (by rintro k rfl;have:=hk.size;omega)⟩
  ·have:=(h3 p hp).1
   have:=hbb2.lt
   have:w2.drew.heap.size=w2.heap.size:=rfl
   omega
  ·obtain ⟨h4,h5,h6⟩:=h3 p hp
   refine ⟨by omega,Nat.lt_of_lt_of_le h5 (Nat.le_trans hk6.size hkn.size),?_⟩
   unfold etype at h6 ⊢
   rw [hkn.block _ (Nat.lt_of_lt_of_le h5 hk6.size) (by have:=hbb2.lt;have:w2.drew.heap.size=w2.heap.size:=rfl;omega),hk6.block _ h5 id]
   exact h6
theorem NewWords.keep {fp:Nat->Prop} {B:Nat} {w w':World} {v:Value} {ms:List Int} (h:NewWords B w v ms) (hk:Keep fp w w') (hn:∀k,B<=k->etype w k=some 45->¬fp k):NewWords B w' v ms:=by
 obtain ⟨a,c,rfl,h1,h2,h3⟩:=h
 refine ⟨a,c,rfl,h1.keep hk (λ p hp=>hn _ (h3 p hp).1 (h3 p hp).2.2),h2,λ p hp=>?_⟩
 obtain ⟨h4,h5,h6⟩:=h3 p hp
 refine ⟨h4,Nat.lt_of_lt_of_le h5 hk.size,?_⟩
 have:=hn _ h4 h6
 unfold etype at h6 ⊢
 rw [hk.block _ h5 this]
 exact h6
theorem NewWords.one {b:Nat} {B:Nat} {w w':World} {v:Value} {ms:List Int} {cs:List Value} {e:TypeId} (h:NewWords B w v ms) (hb:Blk w b e cs) (he:e≠45) (hk:Keep (λ k=>k=b) w w'):NewWords B w' v ms:=
 h.keep hk λ k _ hk' e'=>by
  subst e'
  rw [hb.etype] at hk'
  cases hk'
  exact he rfl
theorem FormAt.cells {B:Nat} {w:World} {v:Value} {neg:Bool} {ms:List Int} (h:FormAt B w v neg ms):∃a c,v=.agg #[.bool (neg && !(trimmed ms).isEmpty),.slice a (trimmed ms).length c]/\WordsAt w a (trimmed ms)/\(trimmed ms).length<=c:=by
 obtain ⟨_,⟨a,c,rfl,h1,h2,_⟩,rfl⟩:=h
 exact ⟨a,c,rfl,h1,h2⟩
theorem C147' {B:Nat} {w:World} {y:Bool} {s:Value} {ms:List Int} (h:NewWords B w s (trimmed ms)) (hl:ms.length<1000000000000) :
  Calls Tryz.prog 147 #[.bool y,s] w λ e w'=>∃v,e=.returned v/\FormAt B w' v y ms/\Keep No w w':=by
 have ht:(trimmed ms).length<=ms.length:=trimmed_length_le ms
 obtain ⟨a,c,rfl,h1,h2,h3⟩:=id h
 refine (C147 h1 h2 (by omega)).mono ?_
 rintro _ w' ⟨rfl,hk⟩
 refine ⟨_,rfl,?_,hk⟩
 rw [trimmed_trimmed]
 by_cases h0:(trimmed ms).length=0
 ·have h0':trimmed ms=[]:=List.eq_nil_of_length_eq_zero h0
  rw [if_pos h0]
  exact ⟨_,⟨none,0,rfl,λ i m hm=>by rw [h0'] at hm;simp at hm,by omega,λ p hp=>by cases hp⟩,by simp [h0']⟩
 ·rw [if_neg h0]
  have hne:(trimmed ms).isEmpty=false:=by
   cases hq:trimmed ms with
   | nil=>rw [hq] at h0;exact absurd rfl h0
   | cons=>rfl
  exact ⟨_,h.no hk,by simp [hne]⟩
theorem FormAt.one {b:Nat} {B:Nat} {w w':World} {v:Value} {neg:Bool} {ms:List Int} {cs:List Value} {e:TypeId} (h:FormAt B w v neg ms) (hb:Blk w b e cs) (he:e≠45) (hk:Keep (λ k=>k=b) w w'):FormAt B w' v neg ms:=by
 obtain ⟨s,h1,h2⟩:=h
 exact ⟨s,h1.one hb he hk,h2⟩
theorem FormAt.mono {B B':Nat} {w:World} {v:Value} {neg:Bool} {ms:List Int} (h:FormAt B w v neg ms) (hB:B'<=B):FormAt B' w v neg ms:=by
 obtain ⟨s,h1,h2⟩:=h
 exact ⟨s,h1.mono hB,h2⟩
theorem C139 {w:World} {x:Bool} {a:Option Addr} {ms:List Int} {c:Nat} (h:WordsAt w a ms) (hc:ms.length<=c) (hl:ms.length<1000000000000) :
  Calls Tryz.prog 139 #[.agg #[.bool x,.slice a ms.length c]] w λ e w'=>∃v,e=.returned v/\FormAt w.heap.size w' v (!x) ms/\Keep No w w':=by
 refine V139_sound x a ms.length c w (λ v w'=>FormAt w.heap.size w' v (!x) ms/\Keep No w w') ?_
 unfold V139
 refine newK_of λ b w1 hb hbb hk=>newK_of λ b2 w2 hb2 hbb2 hk2=>?_
 have hkk:=hk.no hk2
 refine ⟨_,_,_,_,(hk2.nblk hbb).cells0,(C211 (h.no hkk) hc hl).mono ?_⟩
 rintro _ w3 ⟨v,rfl,hf,hk3⟩
 obtain ⟨s,hs,rfl⟩:=hf
 obtain ⟨a',c',rfl,_⟩:=id hs
 refine ⟨_,_,_,_,rfl,newK_of λ b4 w4 hb4 hbb4 hk4=>stK_add hbb4 (by simp) λ w5 hb5 hk5=>stK_add hb5 (by simp) λ w6 hb6 hk6=>?_⟩
 have hkn:Keep No w3 w6:=(hk4.news hk5 (by rintro k rfl;omega)).news hk6 (by rintro k rfl;omega)
 have hs6:=hs.no hkn
 refine ⟨_,hb6.add 0 rfl,_,_,_,hb6.add 1 rfl,(C147' hs6 hl).mono ?_⟩
 rintro _ w7 ⟨v,rfl,hf,hk7⟩
 obtain ⟨a7,c7,hv,_⟩:=hf.cells
 subst hv
 have hbb7:Blk w7 b2 40 _:=hk7.nblk (hkn.nblk (hk3.nblk hbb2))
 have hK:=(((hkk.no hk3).no hkn).no hk7)
 refine ⟨_,_,_,_,rfl,stK_add hbb7 (by simp) λ w8 hb8 hk8=>stK_add hb8 (by simp) λ w9 hb9 hk9=>?_⟩
 refine ⟨_,_,_,_,hb9.cells0,?_,(hK.news hk8 (by rintro k rfl;have:=hk.size;omega)).news hk9 (by rintro k rfl;have:=hk.size;omega)⟩
 have:=((hf.one hbb7 (by decide) hk8).one hb8 (by decide) hk9).mono (B':=w.heap.size) hkk.size
 obtain ⟨s,h1,h2⟩:=this
 refine ⟨s,h1,?_⟩
 rw [List.set_cons_zero,List.set_cons_succ,List.set_cons_zero] at *
 simp only [Value.agg.injEq,Array.mk.injEq,List.cons.injEq] at h2
 cases (trimmed ms).isEmpty <;> cases x <;> simp_all
theorem C85 {w:World} {x:Bool} {a:Option Addr} {ms:List Int} {c:Nat} (h:WordsAt w a ms) (hc:ms.length<=c) (hl:ms.length<1000000000000) :
  Calls Tryz.prog 85 #[.agg #[.bool x,.slice a ms.length c]] w λ e w'=>∃v,e=.returned v/\FormAt w.heap.size w' v x ms/\Keep No w w':=by
 refine V85_sound x a ms.length c w (λ v w'=>FormAt w.heap.size w' v x ms/\Keep No w w') ?_
 unfold V85
 refine newK_of λ b w1 hb hbb hk=>newK_of λ b2 w2 hb2 hbb2 hk2=>?_
 have hkk:=hk.no hk2
 refine ⟨_,_,_,_,(hk2.nblk hbb).cells0,(C139 (h.no hkk) hc hl).mono ?_⟩
 rintro _ w3 ⟨v,rfl,hf,hk3⟩
 obtain ⟨a',c',rfl,h1,h2⟩:=hf.cells
 have ht:(trimmed ms).length<=ms.length:=trimmed_length_le ms
 refine ⟨_,_,_,_,rfl,(C139 h1 h2 (by omega)).mono ?_⟩
 rintro _ w4 ⟨v,rfl,hf,hk4⟩
 obtain ⟨a7,c7,hv,_⟩:=hf.cells
 subst hv
 have hbb4:Blk w4 b2 40 _:=hk4.nblk (hk3.nblk hbb2)
 have hK:=(hkk.no hk3).no hk4
 refine ⟨_,_,_,_,rfl,stK_add hbb4 (by simp) λ w8 hb8 hk8=>stK_add hb8 (by simp) λ w9 hb9 hk9=>?_⟩
 refine ⟨_,_,_,_,hb9.cells0,?_,(hK.news hk8 (by rintro k rfl;have:=hk.size;omega)).news hk9 (by rintro k rfl;have:=hk.size;omega)⟩
 have hsz:w.heap.size<=w3.heap.size:=(hkk.no hk3).size
 have:=((hf.one hbb4 (by decide) hk8).one hb8 (by decide) hk9).mono (B':=w.heap.size) hsz
 obtain ⟨s,h1,h2⟩:=this
 rw [trimmed_trimmed] at h1 h2
 refine ⟨s,h1,?_⟩
 rw [List.set_cons_zero,List.set_cons_succ,List.set_cons_zero] at *
 simp only [trimmed_trimmed]
 rw [h2]
 cases (trimmed ms).isEmpty <;> cases x <;> simp_all
theorem FormAt.no {B:Nat} {w w':World} {v:Value} {neg:Bool} {ms:List Int} (h:FormAt B w v neg ms) (hk:Keep No w w'):FormAt B w' v neg ms:=by
 obtain ⟨s,h1,h2⟩:=h
 exact ⟨s,h1.no hk,h2⟩
theorem C93 (w:World) (one:Bool) :
  Calls Tryz.prog 93 #[.int .i64 (if one then 1 else 0)] w λ e w'=>∃v,e=.returned v/\FormAt w.heap.size w' v false [if one then 1 else 0,0]/\Keep No w w':=by
 refine V93_sound (if one then 1 else 0) w (λ v w'=>FormAt w.heap.size w' v false [if one then 1 else 0,0]/\Keep No w w') ?_
 unfold V93
 refine newK_of λ b w1 hb hbb hk=>bsel_neg (by cases one <;> rfl) ?_
 unfold V93J1
 refine ⟨by omega,newK_of λ b2 w2 hb2 hbb2 hk2=>?_⟩
 have hkk:=hk.no hk2
 have h0:(decide ((if one then 1 else 0:Int)<0))=false:=by cases one <;> rfl
 rw [h0]
 have hbb2:Blk w2 b2 45 (([if one then 1 else 0,0]:List Int).map (.int .u32)):=by cases one <;> exact hbb2
 have hw:WordsAt w2 (some ⟨b2,0,none⟩) [if one then 1 else 0,0]:=by
  intro i m hm
  exact ⟨_,rfl,hbb2.add i (by simp only [List.getElem?_map,hm];rfl)⟩
 refine (C147 hw (c:=2) (by simp) (by simp)).mono ?_
 rintro _ w3 ⟨rfl,hk3⟩
 have hbb3:=hk3.nblk (hk2.nblk hbb)
 cases one with
 | true=>
  refine ⟨_,_,_,_,rfl,stK_add hbb3 (by simp) λ w8 hb8 hk8=>stK_add hb8 (by simp) λ w9 hb9 hk9=>?_⟩
  have hne:b2≠b:=by have:=hbb.lt;omega
  have hkn:Keep (λ k=>k=b) w3 w9:=hk8.trans hk9 λ k hk he=>he
  have hb29:Blk w9 b2 45 _:=hkn.blk (hk3.nblk hbb2) hne
  refine ⟨_,_,_,_,hb9.cells0,⟨_,⟨some ⟨b2,0,none⟩,2,rfl,λ i m hm=>⟨_,rfl,?_⟩,by decide,λ p hp=>?_⟩,rfl⟩,((hkk.no hk3).news hk8 (by rintro k rfl;omega)).news hk9 (by rintro k rfl;omega)⟩
  ·refine hb29.add i ?_
   rcases i with _ | i
   ·cases hm;rfl
   ·simp [trimmed,trimN] at hm
  ·cases hp
   exact ⟨by have:=hk.size;simp only;omega,hb29.lt,hb29.etype⟩
 | false=>
  refine ⟨_,_,_,_,rfl,stK_add hbb3 (by simp) λ w8 hb8 hk8=>stK_add hb8 (by simp) λ w9 hb9 hk9=>?_⟩
  refine ⟨_,_,_,_,hb9.cells0,⟨_,⟨none,0,rfl,λ i m hm=>?_,by decide,λ p hp=>by cases hp⟩,rfl⟩,((hkk.no hk3).news hk8 (by rintro k rfl;omega)).news hk9 (by rintro k rfl;omega)⟩
  simp [trimmed,trimN] at hm
def sgnI (neg:Bool) (ms:List Int):Int:=if (trimmed ms).length=0 then 0 else if neg then -1 else 1
theorem C94 {w:World} {x:Bool} {a:Option Addr} {ms:List Int} {c:Nat} (h:WordsAt w a ms) (hc:ms.length<=c) (hl:ms.length<1000000000000) :
  Calls Tryz.prog 94 #[.agg #[.bool x,.slice a ms.length c]] w λ e w'=>e=.returned (.int .i64 (sgnI x ms))/\Keep No w w':=by
 refine (V94_sound x a ms.length c w (λ v w'=>v=.int .i64 (sgnI x ms)/\Keep No w w') ?_).mono (by rintro _ _ ⟨_,rfl,rfl,h⟩;exact ⟨rfl,h⟩)
 unfold V94
 refine newK_of λ b w1 hb hbb hk=>⟨_,_,_,hbb.add 1 rfl,(C124 (h.no hk) hc hl).mono ?_⟩
 rintro _ w2 ⟨rfl,rfl⟩
 refine ⟨_,_,_,rfl,bsel_split (λ h0=>?_) λ h0=>⟨_,hbb.add 0 rfl,bsel_split (λ hx=>?_) λ hx=>?_⟩⟩
 ·simp at h0
  exact ⟨by simp [sgnI,h0],hk⟩
 ·simp at h0
  exact ⟨by simp [sgnI,h0,hx],hk⟩
 ·simp at h0
  exact ⟨by simp [sgnI,h0,hx],hk⟩
theorem C95 {w:World} {a a2:Option Addr} {ms ms2:List Int} {c c2:Nat} (h:WordsAt w a ms) (hc:ms.length<=c) (hl:ms.length<1000000000000) (h2:WordsAt w a2 ms2) (hc2:ms2.length<=c2) (hl2:ms2.length<1000000000000) :
  Calls Tryz.prog 95 #[.slice a ms.length c,.slice a2 ms2.length c2] w λ e w'=>∃r:Int,e=.returned (.int .i64 r)/\(r=0↔trimmed ms=trimmed ms2)/\(-1<=r/\r<=1)/\Keep No w w':=by
 refine (V95_sound a ms.length c a2 ms2.length c2 w (λ v w'=>∃r:Int,v=.int .i64 r/\(r=0↔trimmed ms=trimmed ms2)/\(-1<=r/\r<=1)/\Keep No w w') ?_).mono (by rintro _ _ ⟨_,rfl,r,rfl,h⟩;exact ⟨r,rfl,h⟩)
 unfold V95
 refine (C124 h hc hl).mono ?_
 rintro _ w1 ⟨rfl,rfl⟩
 refine ⟨_,_,_,rfl,(C124 h2 hc2 hl2).mono ?_⟩
 rintro _ w2 ⟨rfl,rfl⟩
 have ht1:=trimmed_length_le ms
 have ht2:=trimmed_length_le ms2
 refine ⟨_,_,_,rfl,bsel_split (λ hne=>?_) λ heq=>?_⟩
 ·have hne:trimmed ms≠trimmed ms2:=by
   intro e
   simp [e] at hne
  exact bsel_split (λ _=>⟨-1,rfl,by simp [hne],by omega,Keep.refl _ _⟩) λ _=>⟨1,rfl,by simp [hne],by omega,Keep.refl _ _⟩
 ·simp at heq
  replace heq:(trimmed ms).length=(trimmed ms2).length:=by omega
  refine ⟨λ i w'=>-1<=i/\i<(trimmed ms).length/\(∀j:Nat,i<j->(trimmed ms)[j]?=(trimmed ms2)[j]?)/\Keep No w2 w',λ i _=>(i+1).toNat,⟨?_,?_,λ j hj=>?_,Keep.refl _ _⟩,?_⟩
  ·rw [wrap_i64 (by omega)];omega
  ·rw [wrap_i64 (by omega)];omega
  ·rw [wrap_i64 (by omega)] at hj
   rw [List.getElem?_eq_none (by omega),List.getElem?_eq_none (by omega)]
  rintro _ i w' ⟨hi1,hi2,hall,hk⟩
  refine bsel_split (λ hge=>?_) λ hlt=>?_
  ·simp at hge
   obtain ⟨n,rfl⟩:=Int.eq_ofNat_of_zero_le hge
   have hn:n<(trimmed ms).length:=by omega
   obtain ⟨x,hx⟩:∃x,(trimmed ms)[n]?=some x:=⟨_,List.getElem?_eq_getElem hn⟩
   obtain ⟨y,hy⟩:∃y,(trimmed ms2)[n]?=some y:=⟨_,List.getElem?_eq_getElem (by omega)⟩
   obtain ⟨p,rfl,hcx⟩:=h.take (trimN ms ms.length) n x hx
   obtain ⟨q,rfl,hcy⟩:=h2.take (trimN ms2 ms2.length) n y hy
   have hkd:=hk.no (Keep.drawn w')
   have hkdd:=hkd.no (Keep.drawn w'.drew)
   refine idxK_of hn ⟨x,by simpa using hkd.cell hcx id,idxK_of (by omega) ⟨y,by simpa using hkd.cell hcy id,?_⟩⟩
   have hne:x≠y->trimmed ms≠trimmed ms2:=λ hxy e=>by
    rw [e,hy] at hx
    exact hxy (Option.some.inj hx).symm
   refine bsel_split (λ hl=>⟨-1,rfl,?_,by omega,hkd⟩) λ hnl=>?_
   ·simp at hl
    simp [hne (by omega)]
   ·refine idxK_of hn ⟨x,by simpa using hkdd.cell hcx id,idxK_of (by omega) ⟨y,by simpa using hkdd.cell hcy id,?_⟩⟩
    refine bsel_split (λ hl=>⟨1,rfl,?_,by omega,hkdd⟩) λ hng=>?_
    ·simp at hl
     simp [hne (by omega)]
    ·simp at hnl hng
     have hxy:x=y:=by omega
     rw [wrap_i64 (by omega)]
     refine ⟨⟨by omega,by omega,λ j hj=>?_,hkdd⟩,by simp only;omega⟩
     by_cases hjn:j=n
     ·subst hjn;rw [hx,hy,hxy]
     ·exact hall j (by omega)
  ·simp at hlt
   refine ⟨0,rfl,⟨λ _=>List.ext_getElem? λ j=>hall j (by omega),λ _=>rfl⟩,by omega,hk⟩
theorem C43 {w:World} {x x2:Bool} {a a2:Option Addr} {ms ms2:List Int} {c c2:Nat} (h:WordsAt w a ms) (hc:ms.length<=c) (hl:ms.length<1000000000000) (h2:WordsAt w a2 ms2) (hc2:ms2.length<=c2) (hl2:ms2.length<1000000000000) :
  Calls Tryz.prog 43 #[.agg #[.bool x,.slice a ms.length c],.agg #[.bool x2,.slice a2 ms2.length c2]] w λ e w'=>∃r:Int,e=.returned (.int .i64 r)/\(r=0↔(sgnI x ms=sgnI x2 ms2/\trimmed ms=trimmed ms2))/\Keep No w w':=by
 refine (V43_sound x a ms.length c x2 a2 ms2.length c2 w (λ v w'=>∃r:Int,v=.int .i64 r/\(r=0↔(sgnI x ms=sgnI x2 ms2/\trimmed ms=trimmed ms2))/\Keep No w w') ?_).mono (by rintro _ _ ⟨_,rfl,r,rfl,h⟩;exact ⟨r,rfl,h⟩)
 unfold V43
 refine newK_of λ b w1 hb hbb hk=>newK_of λ b2 w2 hb2 hbb2 hk2=>?_
 have hkk:=(hk.no hk2).no (Keep.drawn w2)
 have hbb:=(hk2.nblk hbb).drew
 have hbb2:=hbb2.drew
 refine ⟨_,_,_,_,hbb.cells0,_,_,_,_,hbb2.cells0,(C94 (h.no hkk) hc hl).mono ?_⟩
 rintro _ w3 ⟨rfl,hk3⟩
 refine ⟨_,rfl,(hk3.nblk hbb2).cells0,(C94 ((h2.no hkk).no hk3) hc2 hl2).mono ?_⟩
 rintro _ w4 ⟨rfl,hk4⟩
 have hk5:=(hkk.no hk3).no hk4
 refine ⟨_,rfl,?_⟩
 unfold V43J1
 refine bsel_split (λ hlt=>⟨-1,rfl,?_,hk5⟩) λ hlt=>bsel_split (λ hgt=>⟨1,rfl,?_,hk5⟩) λ hgt=>?_
 ·simp at hlt
  constructor
  ·intro h;omega
  ·rintro ⟨h,_⟩;omega
 ·simp at hgt
  constructor
  ·intro h;omega
  ·rintro ⟨h,_⟩;omega
 ·simp at hlt hgt
  have hs:sgnI x ms=sgnI x2 ms2:=by omega
  have hb4:=hk4.nblk (hk3.nblk hbb)
  have hb24:=hk4.nblk (hk3.nblk hbb2)
  refine ⟨_,_,_,hb4.add 1 rfl,_,_,_,hb24.add 1 rfl,(C95 (h.no hk5) hc hl (h2.no hk5) hc2 hl2).mono ?_⟩
  rintro _ w5 ⟨r,rfl,hr,hrb,hk6⟩
  refine ⟨_,rfl,_,rfl,?_,hk5.no hk6⟩
  have hsb:-1<=sgnI x ms/\sgnI x ms<=1:=by unfold sgnI;split;omega;split <;> omega
  have hcase:r=-1\/r=0\/r=1:=by omega
  have hm:sgnI x ms*r=0↔(sgnI x ms=0\/r=0):=Int.mul_eq_zero
  rw [wrap_i64 (by rcases hcase with rfl | rfl | rfl <;> omega),hm]
  constructor
  ·rintro (h0 | h0)
   ·have e1:(trimmed ms).length=0:=by
     unfold sgnI at h0
     split at h0
     ·assumption
     ·split at h0 <;> omega
    have e2:(trimmed ms2).length=0:=by
     rw [hs] at h0
     unfold sgnI at h0
     split at h0
     ·assumption
     ·split at h0 <;> omega
    exact ⟨hs,by rw [List.eq_nil_of_length_eq_zero e1,List.eq_nil_of_length_eq_zero e2]⟩
   ·exact ⟨hs,hr.1 h0⟩
  ·rintro ⟨_,he⟩
   exact .inr (hr.2 he)
end Go.Fw

namespace Go.Fw
theorem Keep.put {w:World} {l:Nat} {x:Obj}:Keep (λ k=>k=l) w (w.putObj l x):=by
 refine ⟨rfl,rfl,rfl,by simp [World.putObj],λ k hk hn=>?_⟩
 simp only [World.putObj]
 rw [Array.getElem?_setIfInBounds_ne λ e=>hn e.symm]
theorem put_get {w:World} {l:Nat} {x:Obj} (h:l<w.heap.size):(w.putObj l x).heap[l]?=some x:=by
 simp [World.putObj,h]
@[simp] theorem size_put (w:World) (l:Nat) (x:Obj):(w.putObj l x).heap.size=w.heap.size:=by simp [World.putObj]
theorem etype_none {w:World} {l:Nat} {x:Obj} (h:w.heap[l]?=some x) (hx:∀c e f,x≠.cells c e f):etype w l=none:=by
 unfold etype
 rw [h]
 cases x <;> first | rfl | exact absurd rfl (hx _ _ _)
end Go.Fw

namespace Go.Fw
open Go.Proofs Go.RowKit
def rstep (r:Nat) (m:Int):Nat:=(r / 4294967296*18446744073709551616+((r % 4294967296*4294967296) ||| u64 m)) % 2305843009213693951
def restW (ms:List Int):Nat:=ms.foldr (λ m r=>rstep r m) 0
theorem rstep_lt (r:Nat) (m:Int):rstep r m<2305843009213693951:=by unfold rstep;exact Nat.mod_lt _ (by omega)
theorem fold_lt (st:Nat->Int->Nat) (L:Nat) (h:∀R m,st R m<L) (h0:0<L):∀l:List Int,l.foldr (λ m r=>st r m) 0<L
 | []=>h0
 | _ :: _=>h _ _
theorem restW_lt (ms:List Int):restW ms<2305843009213693951:=by
 have h:∃L,L=2305843009213693951:=⟨_,rfl⟩
 obtain ⟨L,hL⟩:=h
 have h1:=fold_lt rstep L (λ R m=>by rw [hL];exact rstep_lt R m) (by omega) ms
 rw [<-hL]
 exact h1
def hash64 (n:Int):Int:=if n=-1 then -2 else n
def hWhole (neg:Bool) (ms:List Int):Int:=hash64 (if neg then -(restW (trimmed ms):Int) else restW (trimmed ms))
def fnv (w:Int):List UInt8->Int
 | []=>w
 | b :: l=>fnv (IntKind.wrap .u64 (bXor .u64 w (IntKind.wrap .u64 b.toNat)*1099511628211)) l
def hText (s:ByteArray):Int:=hash64 (IntKind.wrap .i64 (fnv 14695981039346656037 s.data.toList))
def hNumber (n:Int):Int:=hash64 (IntKind.wrap .i64 (bOr .u64 (shl .u64 (IntKind.wrap .u64 n) 60) (shr .u64 (IntKind.wrap .u64 n) 4)))
theorem callFunc224 (x:Value) (w:World):(callFunc 224 #[x]).run Tryz.prog w=.ok (.enter 224 #[x]) w:=by kernel_rfl
theorem callFunc202 (x y:Value) (w:World):(callFunc 202 #[x,y]).run Tryz.prog w=.ok (.enter 202 #[x,y]) w:=by kernel_rfl
theorem C157 (n:Int) (w:World):Calls Tryz.prog 157 #[.int .i64 n] w λ e w'=>∃a,e=.returned (.func (.func 224) #[] #[.pointer (some ⟨a,0,none⟩)])/\Blk w' a 3 [.int .i64 n]/\Keep No w w':=by
 refine ret_mono (V157_sound n w (λ r w'=>∃a,r=.func (.func 224) #[] #[.pointer (some ⟨a,0,none⟩)]/\Blk w' a 3 [.int .i64 n]/\Keep No w w') ?_) (by rintro _ _ ⟨a,rfl,h⟩;exact ⟨a,rfl,h⟩)
 unfold V157
 exact newK_of λ a w1 hs hb hk=>⟨a,rfl,hb,hk⟩
theorem C156 {x n:Int} {a:Nat} {w:World} (ha:Blk w a 3 [.int .i64 n]):Calls Tryz.prog 156 #[.int .u64 x,.func (.func 224) #[] #[.pointer (some ⟨a,0,none⟩)]] w λ e w'=>e=.returned (.int .i64 (if IntKind.wrap .i64 x=-1 then n else IntKind.wrap .i64 x))/\w'=w:=by
 refine ret_mono (V156_sound x _ w (λ r w'=>r=.int .i64 (if IntKind.wrap .i64 x=-1 then n else IntKind.wrap .i64 x)/\w'=w) ?_) (by rintro _ _ ⟨rfl,h⟩;exact ⟨rfl,h⟩)
 unfold V156
 refine bsel_split (λ hc=>?_) λ hc=>?_
 ·have hc:IntKind.wrap .i64 x=-1:=by simpa using hc
  refine ⟨callFunc224 _ _,(V224_sound ⟨a,0,none⟩ w (λ r w'=>r=.int .i64 n/\w'=w) ?_).mono ?_⟩
  ·unfold V224
   exact ⟨n,ha.cell rfl,rfl,rfl⟩
  ·rintro _ w1 ⟨_,rfl,rfl,rfl⟩
   exact ⟨_,rfl,by rw [if_pos hc],rfl⟩
 ·have hc:IntKind.wrap .i64 x≠-1:=by simpa using hc
  rw [if_neg hc]
  exact ⟨rfl,rfl⟩
theorem hash_of {x:Int} {w:World} {Q:Value->World->Prop} (h:∀w',Keep No w w'->Q (.int .i64 (hash64 (IntKind.wrap .i64 x))) w') :
  Calls Tryz.prog 157 #[.int .i64 (-2)] w λ e17 w18=>∃t19:Value,e17=.returned (t19)/\Calls Tryz.prog 156 #[.int .u64 x,t19] w18 λ e20 w21=>∃t22:Int,e20=.returned (.int .i64 t22)/\Q (.int .i64 t22) w21:=by
 refine (C157 _ w).mono ?_
 rintro _ w1 ⟨a,rfl,ha,hk⟩
 refine ⟨_,rfl,(C156 ha).mono ?_⟩
 rintro _ w2 ⟨rfl,rfl⟩
 exact ⟨_,rfl,h _ hk⟩
theorem C104 (s:ByteArray) (hs:s.size<9000000000000000000) (w:World):Calls Tryz.prog 104 #[.string s] w λ e w'=>e=.returned (.int .i64 (hText s))/\Keep No w w':=by
 refine ret_mono (V104_sound s w (λ r w'=>r=.int .i64 (hText s)/\Keep No w w') ?_) (by rintro _ _ ⟨rfl,h⟩;exact ⟨rfl,h⟩)
 unfold V104
 refine ⟨λ x i w'=>0<=i/\i<=s.size/\w'=w/\fnv x (s.data.toList.drop i.toNat)=fnv 14695981039346656037 s.data.toList,λ _ i _=>(s.size-i).toNat,⟨by omega,by omega,rfl,rfl⟩,?_⟩
 rintro j x i w1 ⟨hi0,hin,rfl,hf⟩
 have hsz:s.size=s.data.toList.length:=by rw [Array.length_toList];rfl
 refine bsel_split (λ hlt=>?_) λ hge=>?_
 ·have hlt:i<s.size:=by simpa using hlt
  obtain ⟨n,rfl⟩:=Int.eq_ofNat_of_zero_le hi0
  simp only [Int.toNat_natCast] at hf
  have hn:n<s.data.toList.length:=by omega
  refine ⟨s.data.toList[n],⟨by omega,?_⟩,?_⟩
  ·rw [Int.toNat_natCast]
   exact (getElem?_pos s n (by omega)).trans (by rw [Array.getElem_toList];rfl)
  rw [wrap_i64 (by omega)]
  refine ⟨⟨by omega,by omega,rfl,?_⟩,by simp only;omega⟩
  have e1:((n:Int)+1).toNat=n+1:=by omega
  rw [e1,<-hf,List.drop_eq_getElem_cons hn]
  rfl
 ·have hge:(s.size:Int)<=i:=by simpa using hge
  have:i.toNat=s.data.toList.length:=by omega
  rw [this,List.drop_length] at hf
  refine hash_of (Q:=λ r w'=>r=.int .i64 (hText s)/\Keep No w1 w') λ w2 hk=>⟨?_,hk⟩
  unfold hText
  rw [<-hf]
  rfl
theorem C230 (n:Int) (w:World):Calls Tryz.prog 230 #[.int .u64 (IntKind.wrap .u64 n),.int .i64 (-4)] w λ e w'=>e=.returned (.int .u64 (bOr .u64 (shl .u64 (IntKind.wrap .u64 n) 60) (shr .u64 (IntKind.wrap .u64 n) 4)))/\w'=w:=by
 refine ret_mono (V230_sound _ _ w (λ r w'=>r=.int .u64 (bOr .u64 (shl .u64 (IntKind.wrap .u64 n) 60) (shr .u64 (IntKind.wrap .u64 n) 4))/\w'=w) ?_) (by rintro _ _ ⟨rfl,h⟩;exact ⟨rfl,h⟩)
 unfold V230
 have e1:bAnd .u64 (IntKind.wrap .u64 (-4)) 63=60:=by rfl
 have e2:IntKind.wrap .u64 (64-60)=4:=by rfl
 rw [e1,e2]
 exact ⟨by decide,by decide,rfl,rfl⟩
theorem C164 (n:Int) (w:World):Calls Tryz.prog 164 #[.int .i64 n] w λ e w'=>e=.returned (.int .i64 (hNumber n))/\Keep No w w':=by
 refine ret_mono (V164_sound n w (λ r w'=>r=.int .i64 (hNumber n)/\Keep No w w') ?_) (by rintro _ _ ⟨rfl,h⟩;exact ⟨rfl,h⟩)
 unfold V164
 refine (C230 n w).mono ?_
 rintro _ w1 ⟨rfl,rfl⟩
 exact ⟨_,rfl,hash_of (Q:=λ r w'=>r=.int .i64 (hNumber n)/\Keep No w1 w') λ w2 hk=>⟨rfl,hk⟩⟩
theorem C223 {hi lo:Nat} (h:hi<2305843009213693951) (hl:lo<18446744073709551616) (w:World):Calls Tryz.prog 223 #[.int .u64 hi,.int .u64 lo,.int .u64 2305843009213693951] w λ e w'=>e=.returned (.int .u64 (((hi*18446744073709551616+lo) % 2305843009213693951:Nat):Int))/\Keep No w w':=by
 obtain ⟨res,hres⟩:∃res:Int,res=(((hi*18446744073709551616+lo) % 2305843009213693951:Nat):Int):=⟨_,rfl⟩
 rw [<-hres]
 refine ret_mono (V223_sound _ _ _ w (λ r w'=>r=.int .u64 res/\Keep No w w') ?_) (by rintro _ _ ⟨rfl,h⟩;exact ⟨rfl,h⟩)
 unfold V223
 have e:Int.tmod (hi:Int) 2305843009213693951=hi:=by rw [Int.tmod_eq_emod_of_nonneg (by omega)];omega
 rw [e]
 refine ⟨by decide,(V294_sound hi lo 2305843009213693951 w (λ r w'=>∃q:Int,r=.tuple #[.int .u64 q,.int .u64 res]/\Keep No w w') (V294_m61 hi lo h hl w res hres λ q w' hk=>⟨q,rfl,hk⟩)).mono ?_⟩
 rintro _ w1 ⟨_,rfl,q,rfl,hk⟩
 exact ⟨_,_,rfl,rfl,hk⟩
theorem C126 (a:Option Addr) (n c:Nat) (w:World):Calls Tryz.prog 126 #[.slice a n c] w λ e w'=>∃b,e=.returned (.func (.func 202) #[] #[.pointer (some ⟨b,0,none⟩)])/\Blk w' b 38 [.slice a n c]/\w.heap.size<=b/\Keep No w w':=by
 refine ret_mono (V126_sound a n c w (λ r w'=>∃b,r=.func (.func 202) #[] #[.pointer (some ⟨b,0,none⟩)]/\Blk w' b 38 [.slice a n c]/\w.heap.size<=b/\Keep No w w') ?_) (by rintro _ _ ⟨b,rfl,h⟩;exact ⟨b,rfl,h⟩)
 unfold V126
 exact newK_of λ b w1 hs hb hk=>⟨b,rfl,hb,by omega,hk⟩
theorem C202 {l b:Nat} {a:Option Addr} {ms:List Int} {c:Nat} {w:World} (hl:ms.length<1000000000000) (Inv:Nat->World->Prop) (h0:Inv 0 w) (hsame:∀k w1,Inv k w1->w1.cell? ⟨b,0,none⟩=some (.slice a ms.length c)/\WordsAt w1 a ms)
  (hstep:∀k w1 m,k<ms.length->Inv k w1->ms[ms.length-1-k]?=some m->RoundK Tryz.prog l #[.int .i64 (ms.length-1-k:Nat),.int .u32 m] w1 λ r w2=>r=true/\Inv (k+1) w2) :
  Calls Tryz.prog 202 #[.func (.yield l) #[] #[],.pointer (some ⟨b,0,none⟩)] w λ e w'=>e=.returned (.tuple #[])/\Inv ms.length w':=by
 refine ret_mono (V202_sound _ ⟨b,0,none⟩ w (λ r w'=>r=.tuple #[]/\Inv ms.length w') ?_) (by rintro _ _ ⟨rfl,h⟩;exact ⟨rfl,h⟩)
 unfold V202
 refine ⟨_,_,_,(hsame 0 w h0).1,λ i w'=>∃k:Nat,k<=ms.length/\i=ms.length-1-(k:Int)/\Inv k w',λ i _=>(i+1).toNat,⟨0,by omega,by rw [wrap_i64 (by omega)];omega,h0⟩,?_⟩
 rintro j i w1 ⟨k,hk,rfl,hI⟩
 refine bsel_split (λ hlt=>?_) λ hge=>?_
 ·have hlt:k<ms.length:=by simp at hlt;omega
  obtain ⟨m,hm⟩:∃m,ms[ms.length-1-k]?=some m:=⟨_,List.getElem?_eq_getElem (by omega)⟩
  obtain ⟨h1,h2⟩:=hsame k w1 hI
  obtain ⟨p,hp,hcell⟩:=h2 _ _ hm
  have ei:(ms.length:Int)-1-k=((ms.length-1-k:Nat):Int):=by omega
  rw [ei]
  refine ⟨_,_,_,h1,?_⟩
  rw [hp]
  refine idxK_of (by omega) ⟨m,by rw [Nat.mul_one];exact hcell,?_⟩
  obtain ⟨f,tmps,assign,body,w2,hy,hround⟩:=hstep k w1 m hlt hI hm
  refine ⟨f,tmps,assign,body,w2,hy,hround.mono ?_⟩
  rintro _ w3 ⟨r,rfl,rfl,hI2⟩
  refine ⟨true,rfl,true,rfl,bsel_neg rfl ⟨⟨k+1,by omega,?_,hI2⟩,?_⟩⟩
  ·rw [wrap_i64 (by omega)];omega
  ·simp only
   rw [wrap_i64 (by omega)];omega
 ·have:k=ms.length:=by simp at hge;omega
  subst this
  exact ⟨rfl,hI⟩
theorem fold_drop (st:Nat->Int->Nat) (ms:List Int) {k:Nat} {m:Int} (h:ms[k]?=some m):(ms.drop k).foldr (λ m r=>st r m) 0=st ((ms.drop (k+1)).foldr (λ m r=>st r m) 0) m:=by
 obtain ⟨hk,he⟩:=List.getElem?_eq_some_iff.1 h
 rw [List.drop_eq_getElem_cons hk,he]
 rfl
theorem C155g (y:Int) (L:Nat) (st:Nat->Int->Nat) (hy1:decide (y<1)=false) (hy2:decide (y>4611686018427387904)=false) (hL0:0<L) (hst:∀R m w,R<L->Calls Tryz.prog 223 #[.int .u64 (shr .u64 R 32),.int .u64 (bOr .u64 (shl .u64 R 32) (IntKind.wrap .u64 m)),.int .u64 (IntKind.wrap .u64 y)] w λ e w'=>e=.returned (.int .u64 (st R m))/\Keep No w w')
  (hlt:∀R m,R<L->st R m<L) (hL:∀R:Nat,R<L->IntKind.wrap .i64 (R:Int)=R) {w:World} {a:Option Addr} {ms:List Int} {c:Nat} (h:WordsAt w a ms) (hc:ms.length<=c) (hl:ms.length<1000000000000) :
  Calls Tryz.prog 155 #[.agg #[.bool false,.slice a ms.length c],.int .i64 y] w λ e w'=>e=.returned (.tuple #[.int .i64 ((trimmed ms).foldr (λ m r=>st r m) 0:Nat),.int .i64 0])/\Keep No w w':=by
 have hfl:∀l:List Int,l.foldr (λ m r=>st r m) 0<L:=by
  intro l
  induction l with
  | nil=>exact hL0
  | cons m l ih=>exact hlt _ _ ih
 refine ret_mono (V155_sound false a ms.length c y w (λ r w'=>r=.tuple #[.int .i64 ((trimmed ms).foldr (λ m r=>st r m) 0:Nat),.int .i64 0]/\Keep No w w') ?_) (by rintro _ _ ⟨rfl,h⟩;exact ⟨rfl,h⟩)
 unfold V155
 refine newK_of λ b6 w1 hs1 h6 hk1=>newK_of λ b8 w2 hs2 h8 hk2=>⟨_,h8.cell rfl,bsel_neg hy1 ⟨_,h8.cell rfl,?_⟩⟩
 replace h6:=hk2.nblk h6
 have hk02:=hk1.no hk2
 unfold V155J3
 refine bsel_neg hy2 (newK_of λ r w3 hs3 hr hk3=>?_)
 rw [show (⟨r,0,none⟩:Addr)=(⟨r,0,none⟩:Addr).add 0 by simp]
 refine stK_add hr (by simp) λ w4 hr4 hk4=>?_
 have hk23:Keep No w2 w4:=hk3.news hk4 λ k e=>by omega
 have h64:=hk23.nblk h6
 have h84:=hk23.nblk h8
 have hk04:=hk02.no hk23
 refine ⟨_,_,_,h64.add 1 rfl,(C124 (h.no hk04) hc hl).mono ?_⟩
 rintro _ w5 ⟨rfl,rfl⟩
 refine ⟨_,_,_,rfl,(C126 _ _ _ _).mono ?_⟩
 rintro _ W ⟨bb,rfl,hbb,hbbs,hkW⟩
 have hkW0:=hk04.no hkW
 have htl:(trimmed ms).length<1000000000000:=by have:=trimmed_length_le ms;omega
 have hW:WordsAt W a (trimmed ms):=(h.no hkW0).take _
 have h6W:=hkW.nblk h64
 have h8W:=hkW.nblk h84
 have hrW:=hkW.nblk hr4
 refine ⟨_,rfl,?_⟩
 intro Rec hnc hround
 generalize hw3:(W.alloc (.deferred (some []))).alloc (Rec .ready none)=W' at *
 have hkd:Keep No W W':=by subst hw3;exact (Keep.fresh W _).no (Keep.fresh _ _)
 have hl':W'.heap[W.heap.size+1]?=some (Rec .ready none):=by
  subst hw3
  rw [heap_alloc,if_pos (by simp)]
 have hdf:W'.heap[W.heap.size]?=some (.deferred (some [])):=by
  subst hw3
  rw [heap_alloc,if_neg (by simp),heap_alloc,if_pos rfl]
 clear hw3
 have hrlt:=hrW.lt
 have hs0:=hk02.size
 have hrw:w.heap.size<=r:=by omega
 have hbne:bb≠r:=hbb.ne hrW (by decide)
 have hb8ne:b8≠r:=by have:=h8.lt;omega
 have hpn:∀p,a=some p->p.block<w.heap.size\/trimmed ms=[]:=by
  intro p hp
  cases hm:trimmed ms with
  | nil=>exact .inr rfl
  | cons m l=>
   obtain ⟨q,hq,hcell⟩:=h.take (trimN ms ms.length) 0 m (by
    have:(trimmed ms)[0]?=some m:=by rw [hm];rfl
    exact this)
   rw [hp] at hq
   cases hq
   exact .inl (by simpa [add_block] using World.block_lt_of_cell? w _ hcell)
 let Inv:Nat->World->Prop:=λ k w1=>w1.heap[W.heap.size+1]?=some (Rec .ready none)/\Blk w1 r 44 [.int .u64 (((trimmed ms).drop ((trimmed ms).length-k)).foldr (λ m r=>st r m) 0:Nat)]/\Keep (λ x=>x=W.heap.size+1\/x=r) W' w1
 have hInvs:∀k w1,Inv k w1->w1.cell? ⟨bb,0,none⟩=some (.slice a (trimmed ms).length c)/\WordsAt w1 a (trimmed ms):=by
  rintro k w1 ⟨_,_,hk1⟩
  refine ⟨(hk1.blk (hkd.nblk hbb) ?_).cell rfl,?_⟩
  ·rintro (e | e)
   ·have:=hbb.lt;omega
   ·exact hbne e
  ·intro i m hm
   obtain ⟨p,hp,hcell⟩:=(hW.no hkd) i m hm
   refine ⟨p,hp,hk1.cell hcell ?_⟩
   rw [add_block]
   rcases hpn p hp with q | q
   ·have:=hkW0.size
    rintro (e | e) <;> omega
   ·rw [q] at hm;simp at hm
 refine ⟨callFunc202 _ _ _,(C202 htl Inv ⟨hl',by rw [Nat.sub_zero,List.drop_length];exact hkd.nblk hrW,Keep.refl _ _⟩ hInvs ?_).mono ?_⟩
 ·rintro k w1 m hk ⟨hI1,hI2,hI3⟩ hm
  refine hround w1 _ hI1 _ _ ⟨hI1,?_⟩
  have hll:=(Array.getElem?_eq_some_iff.1 hI1).1
  have hkp:=Keep.put (w:=w1) (l:=W.heap.size+1) (x:=Rec .busy none)
  have hbusy:=put_get (x:=Rec .busy none) hll
  have hk2:Keep (λ x=>x=W.heap.size+1\/x=r) W' (w1.putObj (W.heap.size+1) (Rec .busy none)):=hI3.trans hkp λ _ _ e=>.inl e
  have hr2:=hkp.blk hI2 (by omega)
  generalize w1.putObj (W.heap.size+1) (Rec .busy none)=w2 at *
  have h82:=hk2.blk (hkd.nblk h8W) (by
   rintro (e | e)
   ·have:=h8W.lt;omega
   ·exact hb8ne e)
  have hRlt:=hfl ((trimmed ms).drop ((trimmed ms).length-k))
  have estep:=fold_drop st (trimmed ms) hm
  rw [show (trimmed ms).length-1-k+1=(trimmed ms).length-k by omega] at estep
  rw [show (trimmed ms).length-1-k=(trimmed ms).length-(k+1) by omega] at estep
  generalize ((trimmed ms).drop ((trimmed ms).length-k)).foldr (λ m r=>st r m) 0=R at *
  refine ⟨_,hr2.cell rfl,by decide,_,hr2.cell rfl,by decide,_,h82.cell rfl,(hst R m w2 hRlt).mono ?_⟩
  rintro _ w3 ⟨rfl,hk3⟩
  have hr3:=hk3.nblk hr2
  refine ⟨_,rfl,?_⟩
  rw [show (⟨r,0,none⟩:Addr)=(⟨r,0,none⟩:Addr).add 0 by simp]
  refine stK_add hr3 (by simp) λ w4 hr4 hk4=>?_
  have hb4:w4.heap[W.heap.size+1]?=some (Rec .busy none):=by
   rw [hk4.block _ (by have:=hk3.size;have:=(Array.getElem?_eq_some_iff.1 hbusy).1;omega) (by omega),hk3.block _ (Array.getElem?_eq_some_iff.1 hbusy).1 id,hbusy]
  have hp5:=Keep.put (w:=w4) (l:=W.heap.size+1) (x:=Rec .ready none)
  refine ⟨⟨_,_,hb4⟩,rfl,put_get (Array.getElem?_eq_some_iff.1 hb4).1,?_,?_⟩
  ·have:=hp5.blk hr4 (by omega)
   rw [estep]
   exact this
  ·exact ((hk2.no hk3).trans hk4 λ x _ e=>.inr e).trans hp5 λ x _ e=>.inl e
 ·rintro _ w5 ⟨rfl,hI1,hI2,hI3⟩
  rw [Nat.sub_self,List.drop_zero] at hI2
  have hp6:=Keep.put (w:=w5) (l:=W.heap.size+1) (x:=Rec .exhausted none)
  have hk6:Keep (λ x=>x=W.heap.size+1\/x=r) W' (w5.putObj (W.heap.size+1) (Rec .exhausted none)):=hI3.trans hp6 λ _ _ e=>.inl e
  have hr6:=hp6.blk hI2 (by omega)
  generalize w5.putObj (W.heap.size+1) (Rec .exhausted none)=w6 at *
  have h66:=hk6.blk (hkd.nblk h6W) (by
   rintro (e | e)
   ·have:=h6W.lt;omega
   ·have:=h6.lt;omega)
  refine ⟨⟨_,rfl⟩,.inl ⟨hI1,_,h66.add 0 rfl,bsel_neg rfl ?_⟩⟩
  unfold V155J2
  refine bsel_neg rfl ?_
  unfold V155J1
  have hsz:W'.heap.size<=w6.heap.size:=hk6.size
  have hd6:w6.heap[W.heap.size]?=some (.deferred (some [])):=by
   rw [hk6.block _ (Array.getElem?_eq_some_iff.1 hdf).1 (by rintro (e | e) <;> omega),hdf]
  refine ⟨_,hr6.cell rfl,hd6,?_,?_⟩
  ·rw [hL _ (hfl _)]
  ·have hsW:=hkW0.size
   exact ((hkW0.no hkd).news hk6 λ x e=>by rcases e with e | e <;> omega).news Keep.put λ x e=>by omega
theorem C223_word (R:Nat) (m:Int) (w:World) (hR:R<2305843009213693951):Calls Tryz.prog 223 #[.int .u64 (shr .u64 R 32),.int .u64 (bOr .u64 (shl .u64 R 32) (IntKind.wrap .u64 m)),.int .u64 (IntKind.wrap .u64 2305843009213693951)] w λ e w'=>e=.returned (.int .u64 (rstep R m))/\Keep No w w':=by
 have e1:shr .u64 R 32=((R / 4294967296:Nat):Int):=by
  rw [show (32:Int)=((32:Nat):Int) from rfl,shrn _ 32 (by decide)];omega
 have e2:shl .u64 R 32=((R % 4294967296*4294967296:Nat):Int):=by
  rw [show (32:Int)=((32:Nat):Int) from rfl,shln _ 32 (by decide)];omega
 have e3:IntKind.wrap .u64 2305843009213693951=2305843009213693951:=wu _ (by decide)
 have hu:=u64_lt' m
 have h1:R % 4294967296*4294967296<18446744073709551616:=by omega
 rw [e1,e2,e3,wrap_hash,bOr_nat _ _ h1 hu]
 have hor:(R % 4294967296*4294967296) ||| u64 m<18446744073709551616:=Nat.or_lt_two_pow (n:=64) h1 hu
 exact C223 (by omega) hor w
theorem C155 {w:World} {a:Option Addr} {ms:List Int} {c:Nat} (h:WordsAt w a ms) (hc:ms.length<=c) (hl:ms.length<1000000000000) :
  Calls Tryz.prog 155 #[.agg #[.bool false,.slice a ms.length c],.int .i64 2305843009213693951] w λ e w'=>e=.returned (.tuple #[.int .i64 (restW (trimmed ms)),.int .i64 0])/\Keep No w w':=
 C155g 2305843009213693951 2305843009213693951 rstep (by decide) (by decide) (by decide) C223_word (λ _ _ _=>rstep_lt _ _) (λ R hR=>wrap_i64 (by omega)) h hc hl
theorem C103 {w:World} {neg:Bool} {a:Option Addr} {ms:List Int} {c:Nat} (h:WordsAt w a ms) (hc:ms.length<=c) (hl:ms.length<1000000000000) :
  Calls Tryz.prog 103 #[.agg #[.bool neg,.slice a ms.length c]] w λ e w'=>e=.returned (.int .i64 (hWhole neg ms))/\Keep No w w':=by
 refine ret_mono (V103_sound neg a ms.length c w (λ r w'=>r=.int .i64 (hWhole neg ms)/\Keep No w w') ?_) (by rintro _ _ ⟨rfl,h⟩;exact ⟨rfl,h⟩)
 unfold V103
 refine newK_of λ b w1 hs1 hb hk1=>⟨_,_,_,hb.add 1 rfl,(C155 (h.no hk1) hc hl).mono ?_⟩
 rintro _ w2 ⟨rfl,hk2⟩
 have hlt:=restW_lt (trimmed ms)
 have ew:∀x:Int,-2305843009213693951<x/\x<2305843009213693951->IntKind.wrap .i64 (IntKind.wrap .u64 x)=x:=by
  intro x hx
  rw [wrap_u64]
  have h1:IntKind.bits .i64=64:=rfl
  have h2:IntKind.signed .i64=true:=rfl
  unfold IntKind.wrap
  simp only [h1,h2,Bool.true_and,decide_eq_true_eq]
  split <;> omega
 refine ⟨_,_,rfl,_,(hk2.nblk hb).add 0 rfl,bsel_split (λ hn=>?_) λ hn=>?_⟩
 ·unfold V103J1
  refine hash_of (Q:=λ r w'=>r=.int .i64 (hWhole neg ms)/\Keep No w w') λ w3 hk3=>⟨?_,(hk1.no hk2).no hk3⟩
  rw [wrap_i64 (n:=0-(restW (trimmed ms):Int)) (by omega),ew _ (by omega)]
  unfold hWhole
  rw [if_pos hn,Int.zero_sub]
 ·unfold V103J1
  refine hash_of (Q:=λ r w'=>r=.int .i64 (hWhole neg ms)/\Keep No w w') λ w3 hk3=>⟨?_,(hk1.no hk2).no hk3⟩
  rw [ew _ (by omega)]
  unfold hWhole
  rw [if_neg (by simp [hn])]
end Go.Fw

namespace Go.Fw
open Go.Proofs Go.RowKit
theorem wrap_u32 (n:Int):IntKind.wrap .u32 n=n % 4294967296:=by
 have h1:IntKind.bits .u32=32:=rfl
 have h2:IntKind.signed .u32=false:=rfl
 unfold IntKind.wrap
 simp only [h1,h2,Bool.false_and]
 rfl
theorem wrap_u8 (n:Int):IntKind.wrap .u8 n=n % 256:=by
 have h1:IntKind.bits .u8=8:=rfl
 have h2:IntKind.signed .u8=false:=rfl
 unfold IntKind.wrap
 simp only [h1,h2,Bool.false_and]
 rfl
theorem C125_bil {hi lo:Nat} (h:hi<1000000000) (hl:lo<4294967296) (w:World):Calls Tryz.prog 125 #[.int .u32 hi,.int .u32 lo,.int .u32 1000000000] w λ e w'=>e=.returned (.tuple #[.int .u32 (((hi*4294967296+lo) / 1000000000:Nat):Int),.int .u32 (((hi*4294967296+lo) % 1000000000:Nat):Int)])/\Keep No w w':=by
 refine ret_mono (V125_sound _ _ _ w (λ r w'=>r=.tuple #[.int .u32 (((hi*4294967296+lo) / 1000000000:Nat):Int),.int .u32 (((hi*4294967296+lo) % 1000000000:Nat):Int)]/\Keep No w w') ?_) (by rintro _ _ ⟨rfl,h⟩;exact ⟨rfl,h⟩)
 unfold V125
 refine bsel_pos rfl ?_
 unfold V125J2
 refine bsel_neg (by simp;omega) ?_
 unfold V125J1
 have e1:shl .u64 (IntKind.wrap .u64 (hi:Int)) 32=((hi*4294967296:Nat):Int):=by
  rw [wu _ (by omega),show (32:Int)=((32:Nat):Int) from rfl,shln _ 32 (by decide)];omega
 have e2:bOr .u64 (shl .u64 (IntKind.wrap .u64 (hi:Int)) 32) (IntKind.wrap .u64 (lo:Int))=((hi*4294967296+lo:Nat):Int):=by
  rw [e1,wu _ (by omega),bOr_nat _ _ (by omega) (by omega)]
  have:=or_add hi lo 32 (by omega)
  rw [show (2:Nat) ^ 32=4294967296 from rfl] at this
  rw [this]
 have e3:IntKind.wrap .u64 1000000000=1000000000:=rfl
 rw [e2,e3]
 have hb:hi*4294967296+lo<4294967296000000000:=by omega
 generalize hi*4294967296+lo=N at hb ⊢
 refine ⟨by decide,by decide,by decide,?_,Keep.drawn w⟩
 rw [Int.tdiv_eq_ediv_of_nonneg (by omega),Int.tmod_eq_emod_of_nonneg (by omega),wu _ (by omega),wrap_u32,wrap_u32]
 have h1:((N:Int) / 1000000000) % 4294967296=((N / 1000000000:Nat):Int):=by omega
 have h2:((N:Int) % 1000000000) % 4294967296=((N % 1000000000:Nat):Int):=by omega
 rw [h1,h2]
def digC (n i:Nat):List Value:=(List.range 9).map λ p=>if 9-i<=p then .int .u8 ((48+n / 10 ^ (8-p) % 10:Nat):Int) else .int .u8 0
theorem digC_set (n i:Nat) (hi:i<9):(digC n i).set (8-i) (.int .u8 ((48+n / 10 ^ i % 10:Nat):Int))=digC n (i+1):=by
 apply List.ext_getElem?
 intro p
 unfold digC
 rw [List.getElem?_set]
 by_cases hp:p<9
 ·by_cases he:8-i=p
  ·subst he
   rw [if_pos rfl,if_pos (by simp;omega),List.getElem?_map,List.getElem?_range (by omega),Option.map_some,if_pos (by omega)]
   have:8-(8-i)=i:=by omega
   rw [this]
  ·rw [if_neg he]
   simp [hp]
   by_cases hc:9<=p+i
   ·rw [if_pos hc,if_pos (by omega)]
   ·rw [if_neg hc,if_neg (by omega)]
 ·have:¬8-i=p:=by omega
  rw [if_neg this]
  simp [hp]
theorem C127 {n:Nat} (hn:n<4294967296) (w:World):Calls Tryz.prog 127 #[.int .u32 n] w λ e w'=>e=.returned (.agg (digC n 9).toArray)/\Keep No w w':=by
 refine ret_mono (V127_sound _ w (λ r w'=>r=.agg (digC n 9).toArray/\Keep No w w') ?_) (by rintro _ _ ⟨rfl,h⟩;exact ⟨rfl,h⟩)
 unfold V127
 refine newK_of λ a w1 hs1 ha hk1=>newK_of λ b w2 hs2 hb hk2=>?_
 refine ⟨λ x i w'=>∃m:Nat,i=m/\m<=9/\x=((n / 10 ^ m:Nat):Int)/\Blk w' b 246 (digC n m)/\Keep (λ k=>k=b) w2 w',λ _ i _=>(9-i).toNat,⟨0,rfl,by omega,by simp,by exact hb,Keep.refl _ _⟩,?_⟩
 rintro j x i w3 ⟨m,rfl,hm,rfl,hb3,hk3⟩
 have hlt10:n / 10 ^ m<=n:=Nat.div_le_self _ _
 refine bsel_split (λ hlt=>?_) λ hge=>?_
 ·have hlt:m<9:=by simp at hlt;omega
  refine ⟨by decide,?_,?_⟩
  ·rw [wrap_i64 (by omega)];omega
  have ew:(IntKind.wrap .i64 (8-(m:Int))).toNat*1=8-m:=by rw [wrap_i64 (by omega)];omega
  rw [ew]
  refine stK_add hb3 (by simp [digC];omega) λ w4 hb4 hk4=>⟨by decide,?_⟩
  have e1:IntKind.wrap .u8 (IntKind.wrap .u32 (48+Int.tmod ((n / 10 ^ m:Nat):Int) 10))=((48+n / 10 ^ m % 10:Nat):Int):=by
   obtain ⟨q,hq⟩:∃q,n / 10 ^ m=q:=⟨_,rfl⟩
   rw [hq] at hlt10 ⊢
   rw [Int.tmod_eq_emod_of_nonneg (Int.natCast_nonneg _),wrap_u32,wrap_u8]
   clear hb4 hk4 hb3 hk3 hq
   omega
  have e2:IntKind.wrap .u32 (Int.tdiv ((n / 10 ^ m:Nat):Int) 10)=((n / 10 ^ (m+1):Nat):Int):=by
   rw [Nat.pow_succ,<-Nat.div_div_eq_div_mul]
   obtain ⟨q,hq⟩:∃q,n / 10 ^ m=q:=⟨_,rfl⟩
   rw [hq] at hlt10 ⊢
   rw [Int.tdiv_eq_ediv_of_nonneg (Int.natCast_nonneg _),wrap_u32]
   clear hb4 hk4 hb3 hk3 hq e1
   omega
  rw [e1,digC_set n m hlt] at hb4
  rw [e2,wrap_i64 (by omega)]
  exact ⟨⟨m+1,by omega,by omega,rfl,hb4,hk3.trans hk4 λ _ _ e=>e⟩,by simp only;omega⟩
 ·have:m=9:=by simp at hge;omega
  subst this
  have ha3:=hk3.blk (hk2.nblk ha) (by have:=ha.lt;omega)
  refine ⟨_,_,_,_,_,_,_,_,_,hb3.cells0,?_⟩
  refine stK_add ha3 (by simp) λ w4 hb4 hk4=>stK_add hb4 (by simp) λ w5 hb5 hk5=>stK_add hb5 (by simp) λ w6 hb6 hk6=>stK_add hb6 (by simp) λ w7 hb7 hk7=>stK_add hb7 (by simp) λ w8 hb8 hk8=>stK_add hb8 (by simp) λ w9 hb9 hk9=>stK_add hb9 (by simp) λ w10 hb10 hk10=>stK_add hb10 (by simp) λ w11 hb11 hk11=>stK_add hb11 (by simp) λ w12 hb12 hk12=>?_
  refine ⟨_,_,_,_,_,_,_,_,_,hb12.cells0,rfl,?_⟩
  have hs:=hk1.size
  have hk03:Keep No w w3:=(hk1.no hk2).news hk3 λ k e=>by omega
  exact ((((((((hk03.news hk4 λ k e=>by omega).news hk5 λ k e=>by omega).news hk6 λ k e=>by omega).news hk7 λ k e=>by omega).news hk8 λ k e=>by omega).news hk9 λ k e=>by omega).news hk10 λ k e=>by omega).news hk11 λ k e=>by omega).news hk12 λ k e=>by omega
end Go.Fw

namespace Go.Fw
open Go.RowKit
theorem flat_get {α:Type} {f:α->List Value} {n:Nat} (hf:∀a,(f a).length=n) {k:Nat} (hk:k<n):∀(L:List α) (i:Nat) (a:α),L[i]?=some a->(L.flatMap f)[i*n+k]?=(f a)[k]?
 | [],i,a,h=>by simp at h
 | b :: L,0,a,h=>by
  simp at h
  subst h
  rw [List.flatMap_cons,Nat.zero_mul,Nat.zero_add,List.getElem?_append_left (by rw [hf];exact hk)]
 | b :: L,i+1,a,h=>by
  have:=flat_get hf hk L i a (by simpa using h)
  rw [List.flatMap_cons,List.getElem?_append_right (by rw [hf,Nat.add_mul];omega),hf,show (i+1)*n+k-n=i*n+k by rw [Nat.add_mul];omega,this]
theorem flat_set {α:Type} {f:α->List Value} {n:Nat} (hf:∀a,(f a).length=n) {k:Nat} (hk:k<n) {u:Value}:∀(L:List α) (i:Nat) (a a':α),L[i]?=some a->f a'=(f a).set k u->(L.flatMap f).set (i*n+k) u=(L.set i a').flatMap f
 | [],i,a,a',h,_=>by simp at h
 | b :: L,0,a,a',h,he=>by
  simp at h
  subst h
  rw [List.flatMap_cons,List.set_cons_zero,List.flatMap_cons,he,Nat.zero_mul,Nat.zero_add,List.set_append_left _ _ (by rw [hf];exact hk)]
 | b :: L,i+1,a,a',h,he=>by
  have:=flat_set hf hk (u:=u) L i a a' (by simpa using h) he
  rw [List.flatMap_cons,List.set_cons_succ,List.flatMap_cons,List.set_append_right _ _ (by rw [hf,Nat.add_mul];omega),hf,show (i+1)*n+k-n=i*n+k by rw [Nat.add_mul];omega,this]
theorem row_at {w:World} {base e size n j:Nat} {v:Value} {xs:List Value} {x:Value} (h:w.ownsRow base e size v n xs) (hx:xs[j]?=some x):∃g cap,v=.slice (some ⟨g,0,none⟩) n cap/\base<=g/\w.cell? ⟨g,j,none⟩=some x/\w.frozen? ⟨g,j,none⟩=false:=by
 have hj:j<n*size:=by
  have:=(List.getElem?_eq_some_iff.1 hx).1
  have:=h.1
  omega
 rcases h.2 with ⟨_,h0⟩ | ⟨g,cap,cur,rfl,hb,hg,hc,hm,hs,ht⟩
 ·subst h0;omega
 ·exact ⟨g,cap,rfl,hb,by rw [h.cellAt j hj,hx],h.frozenAt j⟩
theorem row_set {w:World} {base e size n j g cap:Nat} {xs:List Value} {u:Value} (h:w.ownsRow base e size (.slice (some ⟨g,0,none⟩) n cap) n xs) :
  (w.setCell ⟨g,j,none⟩ u).ownsRow base e size (.slice (some ⟨g,0,none⟩) n cap) n (xs.set j u):=(h.stored j u).1
theorem stRow {w:World} {base e size n j g cap:Nat} {xs:List Value} {u x:Value} {K:World->Prop} (h:w.ownsRow base e size (.slice (some ⟨g,0,none⟩) n cap) n xs) (hx:xs[j]?=some x)
  (hK:∀w',w'.ownsRow base e size (.slice (some ⟨g,0,none⟩) n cap) n (xs.set j u)->Keep (λ k=>k=g) w w'->K w'):stK w ⟨g,j,none⟩ u K:=by
 obtain ⟨g',cap',hv,_,hc,hf⟩:=row_at h hx
 cases hv
 exact ⟨⟨by rw [hc];rfl,hf⟩,hK _ (row_set h) (Keep.one w ⟨g,j,none⟩ u)⟩
theorem appendN {P:Program} {t e:TypeId} {i:TypeInfo} {z:Value} {size bytes:Nat} (ht:P.underlying t=some (.slice e)) (hi:P.info? e=some i) (hz:i.zero=some z) (hsize:i.size=size) (hby:i.bytes=bytes) (hzs:z.cells.size=size) (hsz:0<size)
  {w:World} {base:Nat} {v:Value} {n m c:Nat} {xs news:List Value} (hown:w.ownsRow base e size v n xs) {b:Nat} {e':TypeId} (hb:Blk w b e' news) (hl:news.length=m*size) (h1:∀u ∈ news,u.oneCell'=true) (hm:0<m)
  (hbytes:(n+m)*bytes<=140737488355328) (hbp:0<bytes) (hbase:base<=w.heap.size) {K:World->Option Addr->Nat->Nat->Prop}
  (h:∀g cap w',w'.ownsRow base e size (.slice (some ⟨g,0,none⟩) (n+m) cap) (n+m) (xs ++ news)->Keep (λ k=>v.ownBlock=some k) w w'->(v.ownBlock=some g\/g=w.heap.size)->K w' (some ⟨g,0,none⟩) (n+m) cap) :
  ∃w':World,∃a:Option Addr,∃l:Nat,∃c':Nat,(vcEff.bltV .append #[t,t] t #[v,.slice (some ⟨b,0,none⟩) m c]).run P w=.ok (.slice a l c') w'/\K w' a l c':=by
 have h63:n+m<=maxLen:=by
  have h1:(n+m)*1<=(n+m)*bytes:=Nat.mul_le_mul_left _ hbp
  unfold maxLen;omega
 obtain ⟨g,cap,w',hr,ho,hg,hat,hlt⟩:=run_append_lies (P:=P) w t t base e i z size bytes ht hi hz hsize hby hzs hsz v n xs hown ⟨b,0,none⟩ m c news hl
  (by
    intro j u hj
    rw [add_mk,Nat.zero_add]
    exact hb.cell hj)
  h1 hm h63 hbytes hbase _ rfl
 refine ⟨w',_,_,_,hr,h g cap w' ho (Keep.of_grown hg) hat⟩
theorem cellsFrom_get {w:World} {a:Addr}:∀{vs:List Value} {i:Nat},cellsFrom w a vs i->∀{j:Nat} {v:Value},vs[j]?=some v->w.cell? (a.add (i+j))=some v
 | [],_,_,j,v,hj=>by simp at hj
 | u :: vs,i,h,j,v,hj=>by
  obtain ⟨h1,h2⟩:=cellsFrom_cons.1 h
  rcases j with _ | j
  ·cases hj;exact h1
  ·have:=cellsFrom_get h2 (j:=j) (by simpa using hj)
   rw [show i+(j+1)=i+1+j by omega]
   exact this
theorem CellsAt.get {w:World} {a:Addr} {vs:List Value} (h:CellsAt w a vs) (j:Nat) {v:Value} (hj:vs[j]?=some v):w.cell? (a.add j)=some v:=by
 simpa using cellsFrom_get h hj
theorem add_add (a:Addr) (n m:Nat):(a.add n).add m=a.add (n+m):=by
 unfold Addr.add
 by_cases hn:n=0
 ·subst hn;simp
 ·by_cases hm:m=0
  ·subst hm;simp
  ·simp [hn,hm,Nat.add_assoc]
theorem CellsAt.get2 {w:World} {a:Addr} {vs:List Value} (h:CellsAt w a vs) (j k:Nat) {v:Value} (hj:vs[j+k]?=some v):w.cell? ((a.add j).add k)=some v:=by
 rw [add_add];exact h.get (j+k) hj
end Go.Fw

namespace Go.Fw
open Go.Proofs Go.RowKit
theorem u8_info:∃i z,Tryz.prog.info? 5=some i/\i.zero=some z/\i.size=1/\i.bytes=1/\z.cells.size=1:=by
 have h:(Tryz.prog.info? 5).map (λ i=>(i.zero.map (λ z=>z.cells.size),i.size,i.bytes))=some (some 1,1,1):=by kernel_rfl
 obtain ⟨i,hi,hj⟩:=Option.map_eq_some_iff.1 h
 simp at hj
 obtain ⟨⟨z,hz,hzz⟩,h1,h2⟩:=hj
 exact ⟨i,z,hi,hz,h1,h2,by simpa using hzz⟩
theorem C128 {w:World} {b B g:Nat} {l bs:List UInt8} {e':TypeId} {c:Nat} (h:BufAt w b B l) (hg:Blk w g e' (Lib.byteCells bs)) (hne:g≠b) (hbs:0<bs.length) (hl:l.length+bs.length<100000000000000) (hB:B<=w.heap.size) :
  Calls Tryz.prog 128 #[.pointer (some ⟨b,0,none⟩),.slice (some ⟨g,0,none⟩) bs.length c] w λ e w'=>e=.returned (.tuple #[.int .i64 bs.length,.nilIface])/\BufAt w' b B (l ++ bs)/\Keep (Bfp b B w) w w':=by
 refine (V128_sound _ _ _ _ w (λ r w'=>r=.tuple #[.int .i64 bs.length,.nilIface]/\BufAt w' b B (l ++ bs)/\Keep (Bfp b B w) w w') ?_).mono (by rintro _ _ ⟨_,rfl,rfl,h⟩;exact ⟨rfl,h⟩)
 have hge:=h.ge
 unfold V128
 refine (C120 h).mono ?_
 rintro _ w1 ⟨rfl,⟨v,hb1,ho1⟩,hk1⟩
 refine ⟨_,rfl,?_⟩
 simp only [nilK_some]
 obtain ⟨a,cp,rfl⟩:=ownsRow_slice ho1
 refine ⟨_,_,_,hb1.add 1 rfl,?_⟩
 have hg1:=hk1.blk hg hne
 obtain ⟨i,z,q1,q2,q3,q4,q5⟩:=u8_info
 have hkk:Keep (Bfp b B w) w w1:=hk1.mono λ _ _ e=>.inl e
 refine appendN (m:=bs.length) Tryz.underlying148 q1 q2 q3 q4 q5 (by decide) ho1 hg1 (by rw [Nat.mul_one];simp [Lib.byteCells]) (by intro u hu;simp [Lib.byteCells] at hu;obtain ⟨_,_,rfl⟩:=hu;rfl) hbs (by omega) (by decide) (by have:=hkk.size;omega) λ g' cap w3 ho3 hk3 hat=>?_
 have hb3:=hk3.blk hb1 λ e=>ownsRow_ne ho1 hb1 (by decide) e
 refine stK_add hb3 (by simp) λ w4 hb4 hk4=>⟨trivial,⟨⟨_,_,.inr rfl,hb4,?_⟩,hge⟩,?_⟩
 ·have:=hk4.row ho3 λ g hg e=>ownsRow_ne ho3 hb3 (by decide) (e ▸ hg)
  rw [List.length_append,Lib.byteCells_append]
  exact this
 ·refine (hkk.bfp (hk3.mono λ k _ hg=>.inr ⟨(ho1.lt k hg).1,?_⟩)).trans hk4 λ _ _ e=>.inl e
  exact ownsRow_etype ho1 hg
end Go.Fw
