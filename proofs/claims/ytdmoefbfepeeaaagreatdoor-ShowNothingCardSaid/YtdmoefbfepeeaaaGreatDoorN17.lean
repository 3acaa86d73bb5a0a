/- Part of a proof over the given program: texts of lemmas (conditions: none beyond each lemma as stated). -/
import Derived.Test.YtdmoefbfepeeaaaGreatDoorN16
import Derived.WalkSmall
set_option linter.unnecessarySimpa false
set_option linter.unusedVariables false
set_option linter.unusedSimpArgs false

namespace Go.Fw
open Go.Proofs Go.RowKit
def bs (s:ByteArray):List UInt8:=s.data.toList
theorem bs_len (s:ByteArray):(bs s).length=s.size:=by unfold bs;rw [Array.length_toList];rfl
structure YSt (N b l:Nat) (Rec:LoopState->Option Code->Obj) (o:Out) (w:World):Prop where
 buf:BufAt w b N o.1
 st:w.heap[l]?=some (if o.2 then Rec .ready none else Rec .done (some (.exit 0)))
 len:o.1.length<=10000000004096+(if o.2 then 0 else 3)
def Yfp (N b l:Nat) (w:World):Nat->Prop:=λ k=>k=l\/Bfp b N w k
structure Yld (N b l:Nat) (Rec:LoopState->Option Code->Obj):Prop where
 nc:∀s p c e f,Rec s p≠.cells c e f
 old:N<=l
 rule:∀(w:World) (o:Out) (y:ByteArray) (K:Bool->World->Prop),o.2=true->y.size<=10000000000000->N<=w.heap.size->YSt N b l Rec o w->
  (∀w',YSt N b l Rec (emit (bs y) o) w'->Keep (Yfp N b l w) w w'->K (emit (bs y) o).2 w')->RoundK Tryz.prog l #[.string y] w K
section
variable {N b l p:Nat} {Rec:LoopState->Option Code->Obj} {w0:World} {s:Option Addr}
theorem YSt.etl {o:Out} {w:World} (h:YSt N b l Rec o w) (hr:∀s p c e f,Rec s p≠.cells c e f):etype w l=none:=by
 unfold etype
 rw [h.st]
 split
 ·rename_i c e f hc
  split at hc
  ·exact absurd (Option.some.inj hc) (hr _ _ _ _ _)
  ·exact absurd (Option.some.inj hc) (hr _ _ _ _ _)
 ·rfl
theorem YSt.lt {o:Out} {w:World} (h:YSt N b l Rec o w):l<w.heap.size:=(Array.getElem?_eq_some_iff.1 h.st).1
theorem YSt.keep {o:Out} {w w':World} {X:Nat->Prop} (h:YSt N b l Rec o w) (hk:Keep X w w') (hl:¬X l) (hn:∀k,N<=k->X k->etype w k≠some 150/\etype w k≠some 5):YSt N b l Rec o w':=
 ⟨h.buf.keep hk hn,by rw [hk.block l h.lt hl];exact h.st,h.len⟩
structure PSt (N b l p:Nat) (Rec:LoopState->Option Code->Obj) (w0:World) (s:Option Addr) (op:List Nat) (o:Out) (w:World):Prop where
 keep:Keep No w0 w
 y:YSt N b l Rec o w
 ex:∃ov,Blk w p 231 [.pointer s,.func (.yield l) #[] #[],ov,.bool o.2]/\w.ownsRow N 3 1 ov op.length (op.map λ (x:Nat)=>Value.int .i64 x)
 old:N<=p/\N<=b/\N=w0.heap.size
def Pfp (N b l p:Nat) (w:World):Nat->Prop:=λ k=>k=l\/k=p\/k=b\/(N<=k/\(etype w k=some 5\/etype w k=some 3))
theorem Keep.pfp {w w' w'':World} (h:Keep (Pfp N b l p w) w w') (h':Keep (Pfp N b l p w') w' w''):Keep (Pfp N b l p w) w w'':=
 h.trans h' λ k hk hf=>by
  by_cases hc:Pfp N b l p w k
  ·exact hc
  ·rcases hf with rfl | rfl | rfl | ⟨hB,he⟩
   ·exact .inl rfl
   ·exact .inr (.inl rfl)
   ·exact .inr (.inr (.inl rfl))
   ·refine .inr (.inr (.inr ⟨hB,?_⟩))
    unfold etype at he ⊢
    rw [<-h.block k hk hc]
    exact he
theorem Keep.pblk {w w':World} (hk:Keep (Pfp N b l p w) w w') {k:Nat} {e:TypeId} {cs:List Value} (hb:Blk w k e cs) (h1:k≠l) (h2:k≠p) (h3:k≠b) (h4:e≠5) (h5:e≠3):Blk w' k e cs:=
 hk.blk hb λ h=>by
  rcases h with h | h | h | ⟨_,h⟩
  ·exact h1 h
  ·exact h2 h
  ·exact h3 h
  ·rw [hb.etype] at h
   rcases h with h | h
   ·cases h;exact h4 rfl
   ·cases h;exact h5 rfl
theorem PSt.no {op:List Nat} {o:Out} {w w':World} (h:PSt N b l p Rec w0 s op o w) (hk:Keep No w w'):PSt N b l p Rec w0 s op o w':=by
 obtain ⟨h1,h2,⟨ov,h3,h4⟩,h5⟩:=h
 exact ⟨h1.no hk,h2.keep hk id λ _ _ h=>h.elim,⟨ov,hk.nblk h3,hk.nrow h4⟩,h5⟩
structure Mine (b l p:Nat) (w:World) (k:Nat) (e:TypeId) (cs:List Value):Prop where
 blk:Blk w k e cs
 ne:k≠l/\k≠p/\k≠b/\e≠5/\e≠3
theorem PSt.mine {op:List Nat} {o:Out} {w w':World} (h:PSt N b l p Rec w0 s op o w) (hY:Yld N b l Rec) {k:Nat} {e:TypeId} {cs:List Value} (hb:Blk w' k e cs) (hk:w.heap.size<=k) (h5:e≠5) (h3:e≠3):Mine b l p w' k e cs:=by
 obtain ⟨h1,h2,⟨ov,hp,h4⟩,_⟩:=h
 have:=hp.lt
 have:=h2.lt
 have:b<w.heap.size:=by
  obtain ⟨⟨_,_,_,hb,_⟩,_⟩:=h2.buf
  exact hb.lt
 exact ⟨hb,by omega,by omega,by omega,h5,h3⟩
theorem Mine.keep {w w':World} {k:Nat} {e:TypeId} {cs:List Value} (h:Mine b l p w k e cs) (hk:Keep (Pfp N b l p w) w w'):Mine b l p w' k e cs:=
 ⟨hk.pblk h.blk h.ne.1 h.ne.2.1 h.ne.2.2.1 h.ne.2.2.2.1 h.ne.2.2.2.2,h.ne⟩
theorem Mine.no {w w':World} {k:Nat} {e:TypeId} {cs:List Value} (h:Mine b l p w k e cs) (hk:Keep No w w'):Mine b l p w' k e cs:=⟨hk.nblk h.blk,h.ne⟩
theorem emit_snd_off {y:List UInt8} {o:Out} (h:o.2=false):emit y o=o:=emit_off y o h
theorem C199 (hY:Yld N b l Rec) {op:List Nat} {o:Out} {w:World} {a:Nat} {y:ByteArray} (h:PSt N b l p Rec w0 s op o w) (ha:Mine b l p w a 9 [.string y]) (hy:y.size<=10000000000000) :
  Calls Tryz.prog 199 #[.pointer (some ⟨p,0,none⟩),.slice (some ⟨a,0,none⟩) 1 1] w λ e w'=>e=.returned (.tuple #[])/\PSt N b l p Rec w0 s op (emit (bs y) o) w'/\Keep (Pfp N b l p w) w w':=by
 refine ret_mono (V199_sound _ _ 1 1 w (λ r w'=>r=.tuple #[]/\PSt N b l p Rec w0 s op (emit (bs y) o) w'/\Keep (Pfp N b l p w) w w') ?_) (by rintro _ _ ⟨rfl,h⟩;exact ⟨rfl,h⟩)
 unfold V199
 refine ⟨λ i w'=>(i=0/\w'=w)\/(i=1/\PSt N b l p Rec w0 s op (emit (bs y) o) w'/\Keep (Pfp N b l p w) w w'),λ i _=>(1-i).toNat,.inl ⟨rfl,rfl⟩,?_⟩
 rintro j i w1 (⟨rfl,rfl⟩ | ⟨rfl,h1,hk1⟩)
 ·refine bsel_pos (by decide) (idxK_of (i:=0) (by decide) ⟨y,by simpa using ha.blk.cell (o:=0) rfl,?_⟩)
  obtain ⟨h0,hy0,⟨ov,hp,hrow⟩,hold⟩:=id h
  have hpne:∀k,etype w1 k≠some 231->k≠p:=λ k hk e=>hk (by rw [e];exact hp.etype)
  simp only [nilK_some]
  refine ⟨o.2,hp.add 3 rfl,bsel_split (λ ho=>?_) λ ho=>?_⟩
  ·refine ⟨_,hp.add 1 rfl,?_⟩
   refine hY.rule w1 o y _ ho hy (by have:=h0.size;omega) hy0 λ w2 hy2 hk2=>?_
   have hp2:Blk w2 p 231 [.pointer s,.func (.yield l) #[] #[],ov,.bool o.2]:=hk2.blk hp λ e=>by
    rcases e with e | e | ⟨_,e⟩
    ·have:=hy0.etl hY.nc;rw [<-e,hp.etype] at this;cases this
    ·have:=hy0.buf.etype;rw [<-e,hp.etype] at this;cases this
    ·rw [hp.etype] at e;cases e
   have hrow2:=hk2.row hrow λ g hg e=>by
    have he:=ownsRow_etype hrow hg
    rcases e with e | e | ⟨_,e⟩
    ·have:=hy0.etl hY.nc;rw [<-e,he] at this;cases this
    ·have:=hy0.buf.etype;rw [<-e,he] at this;cases this
    ·rw [he] at e;cases e
   refine ⟨_,rfl,stK_add hp2 (by simp) λ w3 hp3 hk3=>?_⟩
   have hne:p≠l:=λ e=>by have:=hy2.etl hY.nc;rw [<-e,hp2.etype] at this;cases this
   refine ⟨.inr ⟨by decide,⟨?_,?_,⟨ov,hp3,?_⟩,hold⟩,?_⟩,by decide⟩
   ·have hkn:Keep No w0 w2:=h0.news hk2 λ k e=>by
     rcases e with e | e | ⟨e,_⟩
     ·have:=hY.old;omega
     ·omega
     ·omega
    exact hkn.news hk3 (by rintro k rfl;omega)
   ·refine hy2.keep hk3 (λ e=>hne e.symm) ?_
    rintro k _ rfl
    rw [hp2.etype];exact ⟨by decide,by decide⟩
   ·exact hk3.row hrow2 λ g hg e=>ownsRow_ne hrow2 hp2 (by decide) (e ▸ hg)
   ·refine Keep.trans (fp':=λ k=>k=p) (hk2.mono λ k _ e=>?_) hk3 λ k _ e=>.inr (.inl e)
    rcases e with e | e | ⟨e1,e2⟩
    ·exact .inl e
    ·exact .inr (.inr (.inl e))
    ·exact .inr (.inr (.inr ⟨e1,.inl e2⟩))
  ·rw [emit_snd_off ho]
   refine stK_add hp (by simp) λ w3 hp3 hk3=>?_
   have hne:p≠l:=λ e=>by have:=hy0.etl hY.nc;rw [<-e,hp.etype] at this;cases this
   refine ⟨.inr ⟨by decide,⟨h0.news hk3 (by rintro k rfl;omega),?_,⟨ov,by rw [ho] at hp3 ⊢;exact hp3,?_⟩,hold⟩,hk3.mono λ k _ e=>.inr (.inl e)⟩,by decide⟩
   ·refine hy0.keep hk3 (λ e=>hne e.symm) ?_
    rintro k _ rfl
    rw [hp.etype];exact ⟨by decide,by decide⟩
   ·exact hk3.row hrow λ g hg e=>ownsRow_ne hrow hp (by decide) (e ▸ hg)
 ·exact bsel_neg (by decide) ⟨rfl,h1,hk1⟩
end
end Go.Fw
