/- Part of a proof over the given program: texts of lemmas (conditions: none beyond each lemma as stated). -/
import Derived.Test.YtdmoefbfepeeaaaGreatDoorN24
import Derived.Laws.Cover4
set_option linter.unnecessarySimpa false
set_option linter.unusedVariables false
set_option linter.unusedSimpArgs false

namespace Go.Fw
open Go.Proofs Go.RowKit
theorem info21:∃i,Tryz.prog.info? 21=some i/\i.zero=some (.int .i32 0)/\i.size=1/\i.bytes=4:=by
 obtain ⟨i,hi,hj⟩:=Option.map_eq_some_iff.1 (show (Tryz.prog.info? 21).map (λ i=>(i.zero,i.size,i.bytes))=some (some (.int .i32 0),1,4) by kernel_rfl)
 simp at hj
 exact ⟨i,hi,hj⟩
section
variable {w:World} {ta:Option Addr} {tc:Nat} {ts:List Tm}
end
end Go.Fw

namespace Go.Fw
open Go.Proofs Go.RowKit
def runesGo:Nat->List UInt8->List Int
 | 0,_=>[]
 | n+1,l=>if l=[] then [] else ((Lib.decodeL l).1:Int) :: runesGo n (l.drop (Lib.decodeL l).2)
def runesD (l:List UInt8):List Int:=runesGo l.length l
theorem runesGo_nil:∀n,runesGo n []=[]
 | 0=>rfl
 | _+1=>by simp [runesGo]
theorem runesGo_fuel:∀(n m:Nat) (l:List UInt8),l.length<=n->l.length<=m->runesGo n l=runesGo m l
 | 0,m,l,hn,_=>by
  have:l=[]:=List.eq_nil_of_length_eq_zero (by omega)
  subst this
  rw [runesGo_nil,runesGo_nil]
 | n+1,0,l,_,hm=>by
  have:l=[]:=List.eq_nil_of_length_eq_zero (by omega)
  subst this
  rw [runesGo_nil,runesGo_nil]
 | n+1,m+1,l,hn,hm=>by
  unfold runesGo
  by_cases hne:l=[]
  ·simp [hne]
  ·have hw:=Lib.decodeL_width l
   have hl:0<l.length:=List.length_pos_iff.2 hne
   rw [if_neg hne,if_neg hne,runesGo_fuel n m (l.drop (Lib.decodeL l).2) (by rw [List.length_drop];omega) (by rw [List.length_drop];omega)]
theorem runesD_step (l:List UInt8) (hne:l≠[]):runesD l=((Lib.decodeL l).1:Int) :: runesD (l.drop (Lib.decodeL l).2):=by
 have hl:0<l.length:=List.length_pos_iff.2 hne
 have hw:=Lib.decodeL_width l
 obtain ⟨n,hn⟩:∃n,l.length=n+1:=⟨l.length-1,by omega⟩
 unfold runesD
 rw [hn]
 show (if l=[] then [] else _)=_
 rw [if_neg hne,runesGo_fuel n (l.drop (Lib.decodeL l).2).length _ (by rw [List.length_drop];omega) (Nat.le_refl _)]
theorem runesD_len (s:ByteArray):∀(fuel pos:Nat),s.size-pos<=fuel->Lib.runeCountFrom s fuel pos=(runesD (s.data.toList.drop pos)).length
 | 0,pos,h=>by
  have:s.data.toList.drop pos=[]:=List.drop_eq_nil_of_le (by have:s.data.toList.length=s.size:=rfl;omega)
  rw [this];rfl
 | n+1,pos,h=>by
  have hsz:s.data.toList.length=s.size:=rfl
  unfold Lib.runeCountFrom
  by_cases hp:pos<s.size
  ·have hne:s.data.toList.drop pos≠[]:=by
    intro hc
    have:=congrArg List.length hc
    rw [List.length_drop] at this
    simp at this
    have:s.data.size=s.size:=rfl
    omega
   have hw:=Lib.decode_width_pos s pos hp
   rw [if_pos hp,runesD_step _ hne,Lib.decodeL_drop,List.drop_drop,runesD_len s n _ (by omega)]
   simp;omega
  ·have:s.data.toList.drop pos=[]:=List.drop_eq_nil_of_le (by omega)
   rw [if_neg hp,this];rfl
theorem runeCount_runes (s:ByteArray):Lib.runeCount s=(runesD s.data.toList).length:=runesD_len s _ 0 (by omega)
theorem byte_of (n:Nat) (z:Int) (h:z=n):z.toNat.toUInt8=UInt8.ofNat n:=by subst h;rfl
theorem encode_list (r:Nat):(Utf8.encode (r:Int)).data.toList=Lib.encodeRune (r:Int):=by
 unfold Lib.encodeRune
 by_cases hb:(55296<=r/\r<=57343)\/1114111<r
 ·have v:Utf8.valid (r:Int)=false:=by simp [Utf8.valid];omega
  rw [Lib.encodeRuneZ_bad (by omega)]
  simp [Utf8.encode,v,Utf8.runeError]
 have v:Utf8.valid (r:Int)=true:=by simp [Utf8.valid];omega
 by_cases c1:r<128
 ·have e:(Utf8.encode (r:Int)).data.toList=[UInt8.ofNat r]:=by simp [Utf8.encode,v,c1]
  rw [Lib.encodeRuneZ_one (by omega) (by omega),e]
  simp only [List.map_cons,List.map_nil]
  rw [byte_of r _ rfl]
 by_cases c2:r<2048
 ·have e:(Utf8.encode (r:Int)).data.toList=[UInt8.ofNat (192+r / 64),UInt8.ofNat (128+r % 64)]:=by simp [Utf8.encode,v,c1,c2]
  rw [Lib.encodeRuneZ_two (by omega) (by omega),e]
  simp only [List.map_cons,List.map_nil]
  rw [byte_of (192+r / 64) _ (by omega),byte_of (128+r % 64) _ (by omega)]
 by_cases c3:r<65536
 ·have e:(Utf8.encode (r:Int)).data.toList=[UInt8.ofNat (224+r / 4096),UInt8.ofNat (128+r / 64 % 64),UInt8.ofNat (128+r % 64)]:=by simp [Utf8.encode,v,c1,c2,c3]
  rw [Lib.encodeRuneZ_three (by omega),e]
  simp only [List.map_cons,List.map_nil]
  rw [byte_of (224+r / 4096) _ (by omega),byte_of (128+r / 64 % 64) _ (by omega),byte_of (128+r % 64) _ (by omega)]
 ·have e:(Utf8.encode (r:Int)).data.toList=[UInt8.ofNat (240+r / 262144),UInt8.ofNat (128+r / 4096 % 64),UInt8.ofNat (128+r / 64 % 64),UInt8.ofNat (128+r % 64)]:=by simp [Utf8.encode,v,c1,c2,c3]
  rw [Lib.encodeRuneZ_four (by omega) (by omega),e]
  simp only [List.map_cons,List.map_nil]
  rw [byte_of (240+r / 262144) _ (by omega),byte_of (128+r / 4096 % 64) _ (by omega),byte_of (128+r / 64 % 64) _ (by omega),byte_of (128+r % 64) _ (by omega)]
def encL (rs:List Int):List UInt8:=rs.flatMap λ r=>(Utf8.encode r).data.toList
theorem runesBytes_list (rs:List Int):(runesBytes rs).data.toList=encL rs:=by
 have key:∀(rs:List Int) (s:ByteArray),(rs.foldl (λ r n=>r ++ Utf8.encode n) s).data.toList=s.data.toList ++ encL rs:=by
  intro rs
  induction rs with
  | nil=>intro s;simp [encL]
  | cons r rs ih=>
   intro s
   rw [List.foldl_cons,ih]
   simp [encL,ByteArray.data_append]
 unfold runesBytes
 rw [key]
 rfl
theorem encL_cons (r:Int) (rs:List Int):encL (r :: rs)=(Utf8.encode r).data.toList ++ encL rs:=rfl
theorem encL_runes:∀(n:Nat) (l:List UInt8),l.length<=n->(Lib.validD l=true->encL (runesD l)=l)/\l.length<=(encL (runesD l)).length/\(Lib.validD l=false->l.length<(encL (runesD l)).length)
 | 0,l,hn=>by
  have:l=[]:=List.eq_nil_of_length_eq_zero (by omega)
  subst this
  exact ⟨λ _=>rfl,Nat.zero_le _,λ h=>absurd h (by decide)⟩
 | n+1,l,hn=>by
  by_cases hne:l=[]
  ·subst hne
   exact ⟨λ _=>rfl,Nat.zero_le _,λ h=>absurd h (by decide)⟩
  have hl:0<l.length:=List.length_pos_iff.2 hne
  have hw:=Lib.decodeL_width l
  have hle:=Lib.decodeL_le l hne
  obtain ⟨i1,i2,i3⟩:=encL_runes n (l.drop (Lib.decodeL l).2) (by rw [List.length_drop];omega)
  rw [runesD_step l hne,Lib.validD_step l hne,encL_cons,encode_list]
  rw [List.length_append]
  rw [List.length_drop] at i2 i3
  by_cases hb:(Lib.decodeL l).1=65533/\(Lib.decodeL l).2=1
  ·rw [if_pos hb]
   have e3:(Lib.encodeRune ((Lib.decodeL l).1:Int)).length=3:=by rw [hb.1];rfl
   obtain ⟨_,b2⟩:=hb
   refine ⟨λ h=>absurd h (by decide),by omega,λ _=>by omega⟩
  ·rw [if_neg hb]
   have e:=Lib.encode_decode l hne hb
   have e3:(Lib.encodeRune ((Lib.decodeL l).1:Int)).length=(Lib.decodeL l).2:=by rw [e,List.length_take];omega
   refine ⟨λ h=>?_,by omega,λ h=>by have:=i3 h;omega⟩
   rw [i1 h,e,List.take_append_drop]
theorem good_iff (s:ByteArray):((runesBytes (runesD s.data.toList)).toList == s.toList)=Lib.validD s.data.toList:=by
 rw [ByteArray.toList_eq,ByteArray.toList_eq,runesBytes_list]
 obtain ⟨h1,h2,h3⟩:=encL_runes _ s.data.toList (Nat.le_refl _)
 cases hv:Lib.validD s.data.toList
 ·have:=h3 hv
  rw [beq_eq_false_iff_ne]
  intro hc
  rw [hc] at this
  omega
 ·rw [h1 hv];simp
theorem C242_gen (s:ByteArray) (hs:s.size<9000000000000) (w:World):Calls Tryz.prog 242 #[.string s] w λ e w'=>∃v,e=.returned v/\w'.ownsRow w.heap.size 21 1 v (runesD s.data.toList).length ((runesD s.data.toList).map (.int .i32))/\Keep No w w':=by
 refine (V242_sound _ w (λ v w'=>w'.ownsRow w.heap.size 21 1 v (runesD s.data.toList).length ((runesD s.data.toList).map (.int .i32))/\Keep No w w') ?_)
 have hsz:s.data.toList.length=s.size:=rfl
 unfold V242
 refine range_of λ r w1 hi hk hr=>?_
 refine ⟨λ a n c w'=>∃(pos:Nat) (pre:List Int),IterAt w' r s pos/\pos<=s.size/\pre.length=n/\pre.length<=pos/\pre ++ runesD (s.data.toList.drop pos)=runesD s.data.toList/\w'.ownsRow w.heap.size 21 1 (.slice a n c) n (pre.map (.int .i32))/\Keep No w w',λ _ _ _ w'=>s.size-iterPos w' r,⟨0,[],hi,by omega,rfl,by simp,rfl,World.ownsRow_nil _ _ _ _,hk⟩,?_⟩
 rintro j a n c w2 ⟨pos,pre,hi,hp,rfl,hpl,he,hrow,hk⟩
 refine nextSK_of hi (λ hps w3 hi3 hk3=>?_) λ hps=>?_
 ·have hne:s.data.toList.drop pos≠[]:=by
   intro hc
   have:=congrArg List.length hc
   rw [List.length_drop] at this
   simp at this
   have:s.data.size=s.size:=rfl
   omega
  have hw:=Lib.decode_width_pos s pos hps
  have hle:=Lib.decodeL_le _ hne
  rw [List.length_drop,Lib.decodeL_drop] at hle
  rw [runesD_step _ hne,Lib.decodeL_drop,List.drop_drop] at he
  have hkk:Keep No w w3:=hk.news hk3 (by rintro k rfl;omega)
  have hrow3:=hk3.row hrow λ g hg e=>by
   have:=ownsRow_etype hrow hg
   rw [e,hi.etype] at this
   cases this
  refine newK_of λ b w4 hs4 hb4 hk4=>?_
  obtain ⟨i,h1,h2,h3,h4⟩:=info21
  have hk04:=hkk.no hk4
  refine append_of (P:=Tryz.prog) (t:=365) (e:=21) Tryz.underlying365 h1 h2 h3 h4 rfl (base:=w.heap.size) (hk4.nrow hrow3) hb4 rfl (by omega) (by omega) hk04.size λ g cap w5 hrow5 hk5 hat=>?_
  have hi5:=hk5.iter (hk4.iter hi3 id) λ e=>by
   have:=ownsRow_etype (hk4.nrow hrow3) e
   rw [(hk4.iter hi3 id).etype] at this
   cases this
  refine ⟨⟨pos+(Utf8.decode s pos).2,pre ++ [((Utf8.decode s pos).1:Int)],hi5,by omega,by simp,by simp;omega,by rw [List.append_assoc];exact he,by simpa using hrow5,hk04.news hk5 λ k e=>(hrow.lt k e).1⟩,?_⟩
  simp only
  rw [hi5.pos,hi.pos]
  omega
 ·have hn:s.data.toList.drop pos=[]:=List.drop_eq_nil_of_le (by omega)
  rw [hn] at he
  have he:pre=runesD s.data.toList:=by rw [<-he];simp [runesD,runesGo]
  rw [<-he]
  exact ⟨hrow,hk⟩
theorem C179_gen (s:ByteArray) (hs:s.size<9000000000000) (w:World):Calls Tryz.prog 179 #[.string s] w λ e w'=>e=.returned (.int .i64 (Lib.runeCount s))/\Keep No w w':=by
 refine ret_mono (V179_sound _ w (λ r w'=>r=.int .i64 (Lib.runeCount s)/\Keep No w w') ?_) (by rintro _ _ ⟨rfl,h⟩;exact ⟨rfl,h⟩)
 unfold V179
 refine (C242_gen s hs w).mono ?_
 rintro _ w1 ⟨v,rfl,hrow,hk⟩
 obtain ⟨a,c,rfl⟩:=ownsRow_slice hrow
 exact ⟨_,_,_,rfl,by rw [runeCount_runes],hk⟩
theorem C178_gen (s:ByteArray) (hs:s.size<9000000000000) (w:World):Calls Tryz.prog 178 #[.string s] w λ e w'=>e=.returned (.bool (Lib.validD s.data.toList))/\Keep No w w':=by
 refine ret_mono (V178_sound _ w (λ r w'=>r=.bool (Lib.validD s.data.toList)/\Keep No w w') ?_) (by rintro _ _ ⟨rfl,h⟩;exact ⟨rfl,h⟩)
 unfold V178
 refine (C242_gen s hs w).mono ?_
 rintro _ w1 ⟨v,rfl,hrow,hk⟩
 obtain ⟨a,c,rfl⟩:=ownsRow_slice hrow
 refine ⟨_,_,_,rfl,w1,runesBytes (runesD s.data.toList),?_,?_,hk⟩
 ·by_cases h0:runesD s.data.toList=[]
  ·cases ha:a with
   | none=>
    rw [run_convert_runes_nil w1 365 9 21 _ _ Tryz.underlying365 Tryz.underlying21 Tryz.underlying9,h0]
    rfl
   | some p=>
    have:=run_convert_runes (P:=Tryz.prog) w1 365 9 21 p (runesD s.data.toList).length c (runesD s.data.toList) (Nat.le_refl _) Tryz.underlying365 Tryz.underlying21 Tryz.underlying9 (λ j hj=>by rw [h0] at hj;simp at hj)
    rw [List.take_length] at this
    exact this
  ·obtain ⟨x,l,hxl⟩:=List.exists_cons_of_ne_nil h0
   obtain ⟨g,cap,hv,_,hc0⟩:=row_cell hrow (i:=0) (x:=.int .i32 x) (by rw [hxl];rfl)
   cases hv
   have:=run_convert_runes (P:=Tryz.prog) w1 365 9 21 ⟨g,0,none⟩ (runesD s.data.toList).length c (runesD s.data.toList) (Nat.le_refl _) Tryz.underlying365 Tryz.underlying21 Tryz.underlying9 (λ j hj=>by
    obtain ⟨g',cap',hv',_,hcj⟩:=row_cell hrow (i:=j) (x:=.int .i32 ((runesD s.data.toList).getD j 0)) (by rw [List.getElem?_map,List.getD_eq_getElem?_getD,List.getElem?_eq_getElem hj];rfl)
    cases hv'
    rw [add_mk,Nat.zero_add];exact hcj)
   rw [List.take_length] at this
   exact this
 ·rw [good_iff]
end Go.Fw

set_option maxRecDepth 100000
namespace Go.Fw
open Go.Proofs
def V181J1 (I25:Int->Int->World->Prop) (μ26:Int->Int->World->Nat) (i27 i28:Int) (w29:World) (I34:Bool->Int->World->Prop) (μ35:Bool->Int->World->Nat) (i36:Bool) (i37:Int) (w38:World) (x40:Option Addr) (x41 x42:Nat) (x43:Addr) (x44 x45 x46:Int) (x47:Bool) (x48:Int) (x49:Bool) (w50:World):Prop:=
bsel x49 (
∃t51 t52 t53,w50.drew.cell? (x43.add 5)=some (.slice t51 t52 t53)/\
idxK t51 t52 x48 1 λ a54=>
∃t55,w50.drew.cell? a54=some (.int .i64 t55)/\
∃t56 t57 t58,w50.drew.cell? (x43.add 5)=some (.slice t56 t57 t58)/\
idxK t56 t57 x46 1 λ a59=>
∃t60,w50.drew.cell? a59=some (.int .i64 t60)/\
Calls Tryz.prog 244 #[.slice x40 x41 x42,.int .i64 t55,.int .i64 t60] w50.drew λ e61 w62=>∃t63,e61=.returned (.bool t63)/\
(I34 (!t63) (IntKind.wrap .i64 (x48+x44)) w62/\μ35 (!t63) (IntKind.wrap .i64 (x48+x44)) w62<μ35 i36 i37 w38)) (
bsel x47 (
(I25 (IntKind.wrap .i64 (x45+1)) (IntKind.wrap .i64 (x46+x44)) w50/\μ26 (IntKind.wrap .i64 (x45+1)) (IntKind.wrap .i64 (x46+x44)) w50<μ26 i27 i28 w29)) (
(I25 x45 (IntKind.wrap .i64 (x46+x44)) w50/\μ26 x45 (IntKind.wrap .i64 (x46+x44)) w50<μ26 i27 i28 w29)))
def V181J2 (Q:Value->World->Prop) (x19:Option Addr) (x20 x21:Nat) (x22:Addr) (x23:Int) (w24:World):Prop:=
∃(I25:Int->Int->World->Prop) (μ26:Int->Int->World->Nat),I25 0 0 w24/\∀(j30:Fr) (i27:Int) (i28:Int) (w29:World),I25 i27 i28 w29->
∃t31 t32 t33,w29.cell? (x22.add 5)=some (.slice t31 t32 t33)/\
bsel (decide (i28<(t32:Int))) (
∃(I34:Bool->Int->World->Prop) (μ35:Bool->Int->World->Nat),I34 true 0 w29/\∀(j39:Fr) (i36:Bool) (i37:Int) (w38:World),I34 i36 i37 w38->
bsel (decide (i37<i28)) (
V181J1 I25 μ26 i27 i28 w29 I34 μ35 i36 i37 w38 x19 x20 x21 x22 x23 i27 i28 i36 i37 i36 w38) (
V181J1 I25 μ26 i27 i28 w29 I34 μ35 i36 i37 w38 x19 x20 x21 x22 x23 i27 i28 i36 i37 false w38)) (
Q (.int .i64 i27) w29)
def V181 (x1:Option Addr) (x2 x3:Nat) (x4:Int) (x5 x6:Bool) (x7:Option Addr) (x8 x9:Nat) (x10:ByteArray) (x11:Option Addr) (x12 x13:Nat) (x14 x15:Bool) (w:World) (Q:Value->World->Prop):Prop:=
newK w #[.int .i64 x4,.bool x5,.bool x6,.slice x7 x8 x9,.string x10,.slice x11 x12 x13,.bool x14,.bool x15] 42 λ a16 w17=>
∃t18,w17.cell? (a16.add 0)=some (.int .i64 t18)/\
bsel (t18 == 7) (
V181J2 Q x1 x2 x3 a16 2 w17) (
V181J2 Q x1 x2 x3 a16 1 w17)
def V181_ann:Nat->Ann:=λ k=>match k with | 0=>⟨[0,3,5],[(6,.int .i64),(7,.int .i64)]⟩ | 1=>⟨[0,3,5,6,7],[(8,.bool),(9,.int .i64)]⟩ | _=>⟨[],[]⟩
theorem V181_sound (x1 x2 x3 x4 x5 x6 x7 x8 x9 x10 x11 x12 x13 x14 x15 w Q) (h:V181 x1 x2 x3 x4 x5 x6 x7 x8 x9 x10 x11 x12 x13 x14 x15 w Q):Calls Tryz.prog 181 #[.slice x1 x2 x3,.agg #[.int .i64 x4,.bool x5,.bool x6,.slice x7 x8 x9,.string x10,.slice x11 x12 x13,.bool x14,.bool x15]] w λ e w'=>∃v,e=.returned v/\Q v w':=
 sound_of Tryz.func181 V181_ann rfl (Eq.mpr (by kernel_rfl) h)
def V244J1 (Q:Value->World->Prop) (x102 x103:Addr) (x104:Bool) (w105:World):Prop:=
bsel x104 (
Q (.bool false) w105) (
∃t106,w105.cell? (x102.add 0)=some (.int .i64 t106)/\
bsel (t106 == 1) (
Q (.bool true) w105) (
∃t109,w105.cell? (x102.add 4)=some (.string t109)/\
∃t110,w105.cell? (x103.add 4)=some (.string t110)/\
Q (.bool (t109.toList == t110.toList)) w105))
def V244J2 (Q:Value->World->Prop) (x67 x68:Addr) (x69:Bool) (w70:World):Prop:=
bsel x69 (
∃t71,w70.drew.cell? (x67.add 0)=some (.int .i64 t71)/\
∃t72,w70.drew.cell? (x67.add 1)=some (.bool t72)/\
∃t73 t74 t75 t76,CellsAt w70.drew (x67.add 2) [.bool t73,.slice t74 t75 t76]/\
∃t77,w70.drew.cell? (x68.add 0)=some (.int .i64 t77)/\
∃t78,w70.drew.cell? (x68.add 1)=some (.bool t78)/\
∃t79 t80 t81 t82,CellsAt w70.drew (x68.add 2) [.bool t79,.slice t80 t81 t82]/\
Calls Tryz.prog 251 #[.agg #[.int .i64 t71,.int .i64 0,.bool false,.bool t72,.bool t73,.slice t74 t75 t76,.string ⟨#[]⟩,.slice none 0 0,.pointer none,.int .i64 0,.slice none 0 0,.int .i64 0,.int .i64 0,.int .i64 0,.int .i64 0,.pointer none,.pointer none,.int .i64 0,.pointer none,.bool false,.bool false,.bool false]] w70.drew λ e83 w84=>∃t85 t86 t87 t88,e83=.returned (.agg #[.bool t85,.slice t86 t87 t88])/\
(CellsAt w84 (x68.add 2) [.bool t79,.slice t80 t81 t82])/\
(w84.cell? (x68.add 1)=some (.bool t78))/\
(w84.cell? (x68.add 0)=some (.int .i64 t77))/\
Calls Tryz.prog 251 #[.agg #[.int .i64 t77,.int .i64 0,.bool false,.bool t78,.bool t79,.slice t80 t81 t82,.string ⟨#[]⟩,.slice none 0 0,.pointer none,.int .i64 0,.slice none 0 0,.int .i64 0,.int .i64 0,.int .i64 0,.int .i64 0,.pointer none,.pointer none,.int .i64 0,.pointer none,.bool false,.bool false,.bool false]] w84 λ e89 w90=>∃t91 t92 t93 t94,e89=.returned (.agg #[.bool t91,.slice t92 t93 t94])/\
Calls Tryz.prog 303 #[.agg #[.bool t85,.slice t86 t87 t88],.agg #[.bool t91,.slice t92 t93 t94]] w90 λ e95 w96=>∃t97,e95=.returned (.int .i64 t97)/\
Q (.bool (t97 == 0)) w96) (
∃t100,w70.cell? (x67.add 0)=some (.int .i64 t100)/\
∃t101,w70.cell? (x68.add 0)=some (.int .i64 t101)/\
bsel (t100 != t101) (
V244J1 Q x67 x68 true w70) (
∃t111,w70.cell? (x67.add 0)=some (.int .i64 t111)/\
V244J1 Q x67 x68 (t111 == 14) w70))
def V244J3 (Q:Value->World->Prop) (x60 x61:Int) (x62 x63:Addr) (x64 x65:Bool) (w66:World):Prop:=
bsel (x60 == x61) (
Q (.bool true) w66) (
bsel x64 (
V244J2 Q x62 x63 x65 w66) (
V244J2 Q x62 x63 false w66))
def V244J4 (Q:Value->World->Prop) (x53 x54:Int) (x55 x56:Addr) (x57:Bool) (w58:World):Prop:=
∃t59,w58.cell? (x56.add 0)=some (.int .i64 t59)/\
bsel (t59 == 3) (
V244J3 Q x53 x54 x55 x56 x57 true w58) (
∃t112,w58.cell? (x56.add 0)=some (.int .i64 t112)/\
V244J3 Q x53 x54 x55 x56 x57 (t112 == 2) w58)
def V244 (x1:Option Addr) (x2 x3:Nat) (x4 x5:Int) (w:World) (Q:Value->World->Prop):Prop:=
idxK x1 x2 x4 8 λ a6=>
∃t7 t8 t9 t10 t11 t12 t13 t14 t15 t16 t17 t18,CellsAt w a6 [.int .i64 t7,.bool t8,.bool t9,.slice t10 t11 t12,.string t13,.slice t14 t15 t16,.bool t17,.bool t18]/\
newK w #[.int .i64 0,.bool false,.bool false,.slice none 0 0,.string ⟨#[]⟩,.slice none 0 0,.bool false,.bool false] 42 λ a19 w20=>
stK w20 (a19.add 0) (.int .i64 t7) λ w21=>
stK w21 (a19.add 1) (.bool t8) λ w22=>
stK w22 (a19.add 2) (.bool t9) λ w23=>
stK w23 (a19.add 3) (.slice t10 t11 t12) λ w24=>
stK w24 (a19.add 4) (.string t13) λ w25=>
stK w25 (a19.add 5) (.slice t14 t15 t16) λ w26=>
stK w26 (a19.add 6) (.bool t17) λ w27=>
stK w27 (a19.add 7) (.bool t18) λ w28=>
idxK x1 x2 x5 8 λ a29=>
∃t30 t31 t32 t33 t34 t35 t36 t37 t38 t39 t40 t41,CellsAt w28 a29 [.int .i64 t30,.bool t31,.bool t32,.slice t33 t34 t35,.string t36,.slice t37 t38 t39,.bool t40,.bool t41]/\
newK w28 #[.int .i64 0,.bool false,.bool false,.slice none 0 0,.string ⟨#[]⟩,.slice none 0 0,.bool false,.bool false] 42 λ a42 w43=>
stK w43 (a42.add 0) (.int .i64 t30) λ w44=>
stK w44 (a42.add 1) (.bool t31) λ w45=>
stK w45 (a42.add 2) (.bool t32) λ w46=>
stK w46 (a42.add 3) (.slice t33 t34 t35) λ w47=>
stK w47 (a42.add 4) (.string t36) λ w48=>
stK w48 (a42.add 5) (.slice t37 t38 t39) λ w49=>
stK w49 (a42.add 6) (.bool t40) λ w50=>
stK w50 (a42.add 7) (.bool t41) λ w51=>
∃t52,w51.cell? (a19.add 0)=some (.int .i64 t52)/\
bsel (t52 == 3) (
V244J4 Q x4 x5 a19 a42 true w51) (
∃t113,w51.cell? (a19.add 0)=some (.int .i64 t113)/\
V244J4 Q x4 x5 a19 a42 (t113 == 2) w51)
def V244_ann:Nat->Ann:=λ _=>⟨[],[]⟩
theorem V244_sound (x1 x2 x3 x4 x5 w Q) (h:V244 x1 x2 x3 x4 x5 w Q):Calls Tryz.prog 244 #[.slice x1 x2 x3,.int .i64 x4,.int .i64 x5] w λ e w'=>∃v,e=.returned v/\Q v w':=
 sound_of Tryz.func244 V244_ann rfl (Eq.mpr (by kernel_rfl) h)
def V183 (x1:Option Addr) (x2:Bool) (x3:Option Addr) (x4 x5:Nat) (w:World) (Q:Value->World->Prop):Prop:=
newK w #[.bool x2,.slice x3 x4 x5] 40 λ a6 w7=>
∃t8 t9 t10 t11,CellsAt w7 a6 [.bool t8,.slice t9 t10 t11]/\
Calls Tryz.prog 180 #[.agg #[.bool t8,.slice t9 t10 t11]] w7 λ e12 w13=>∃t14 t15 t16 t17,e12=.returned (.agg #[.bool t14,.slice t15 t16 t17])/\
Calls Tryz.prog 245 #[.pointer x1,.agg #[.int .i64 3,.int .i64 0,.bool false,.bool false,.bool t14,.slice t15 t16 t17,.string ⟨#[]⟩,.slice none 0 0,.pointer none,.int .i64 0,.slice none 0 0,.int .i64 0,.int .i64 0,.int .i64 0,.int .i64 0,.pointer none,.pointer none,.int .i64 0,.pointer none,.bool false,.bool false,.bool false]] w13 λ e18 w19=>∃t20,e18=.returned (.int .i64 t20)/\
Q (.int .i64 t20) w19
def V183_ann:Nat->Ann:=λ _=>⟨[],[]⟩
theorem V183_sound (x1 x2 x3 x4 x5 w Q) (h:V183 x1 x2 x3 x4 x5 w Q):Calls Tryz.prog 183 #[.pointer x1,.agg #[.bool x2,.slice x3 x4 x5]] w λ e w'=>∃v,e=.returned v/\Q v w':=
 sound_of Tryz.func183 V183_ann rfl (Eq.mpr (by kernel_rfl) h)
def V186 (x1:Option Addr) (x2:ByteArray) (x3:Int) (w:World) (Q:Value->World->Prop):Prop:=
nilK x1 λ a4=>
∃t5,w.drew.cell? ((a4.add 2).add 1)=some (.int .i64 t5)/\
nilK x1 λ a6=>
∃t7,w.drew.cell? (a6.add 7)=some (.pointer t7)/\
Calls Tryz.prog 246 #[.int .i64 t5,.pointer t7] w.drew λ e8 w9=>∃t10 t11,e8=.returned (.tuple #[.pointer t10,.int .i64 t11])/\
nilK x1 λ a12=>
∃t13,w9.drew.cell? ((a12.add 2).add 2)=some (.int .i64 t13)/\
nilK x1 λ a14=>
∃t15,w9.drew.cell? ((a14.add 2).add 1)=some (.int .i64 t15)/\
nilK x1 λ a16=>
∃t17,w9.drew.cell? (a16.add 7)=some (.pointer t17)/\
Calls Tryz.prog 247 #[.int .i64 t13,.int .i64 t15,.pointer t17] w9.drew λ e18 w19=>∃t20 t21,e18=.returned (.tuple #[.pointer t20,.int .i64 t21])/\
Calls Tryz.prog 185 #[.pointer x1,.agg #[.int .i64 13,.int .i64 0,.bool false,.bool false,.bool false,.slice none 0 0,.string x2,.slice none 0 0,.pointer t10,.int .i64 0,.slice none 0 0,.int .i64 0,.int .i64 0,.int .i64 0,.int .i64 x3,.pointer t20,.pointer none,.int .i64 0,.pointer none,.bool false,.bool false,.bool false]] w19 λ e22 w23=>∃t24,e22=.returned (.int .i64 t24)/\
Q (.int .i64 t24) w23
def V186_ann:Nat->Ann:=λ _=>⟨[],[]⟩
theorem V186_sound (x1 x2 x3 w Q) (h:V186 x1 x2 x3 w Q):Calls Tryz.prog 186 #[.pointer x1,.string x2,.int .i64 x3] w λ e w'=>∃v,e=.returned v/\Q v w':=
 sound_of Tryz.func186 V186_ann rfl (Eq.mpr (by kernel_rfl) h)
def V187 (x1:Option Addr) (x2:Int) (w:World) (Q:Value->World->Prop):Prop:=
nilK x1 λ a3=>
∃t4 t5 t6,w.cell? (a3.add 0)=some (.slice t4 t5 t6)/\
idxK t4 t5 x2 22 λ a7=>
∃t8,w.cell? (a7.add 15)=some (.pointer t8)/\
Calls Tryz.prog 248 #[.pointer t8] w λ e9 w10=>∃t11,e9=.returned (.pointer t11)/\
Calls Tryz.prog 185 #[.pointer x1,.agg #[.int .i64 14,.int .i64 0,.bool false,.bool false,.bool false,.slice none 0 0,.string ⟨#[]⟩,.slice none 0 0,.pointer none,.int .i64 0,.slice none 0 0,.int .i64 0,.int .i64 0,.int .i64 x2,.int .i64 0,.pointer none,.pointer t11,.int .i64 0,.pointer none,.bool false,.bool false,.bool false]] w10 λ e12 w13=>∃t14,e12=.returned (.int .i64 t14)/\
Q (.int .i64 t14) w13
def V187_ann:Nat->Ann:=λ _=>⟨[],[]⟩
theorem V187_sound (x1 x2 w Q) (h:V187 x1 x2 w Q):Calls Tryz.prog 187 #[.pointer x1,.int .i64 x2] w λ e w'=>∃v,e=.returned v/\Q v w':=
 sound_of Tryz.func187 V187_ann rfl (Eq.mpr (by kernel_rfl) h)
def V188 (x1:Option Addr) (x2:Int) (w:World) (Q:Value->World->Prop):Prop:=
nilK x1 λ a3=>
∃t4,w.drew.cell? ((a3.add 2).add 1)=some (.int .i64 t4)/\
nilK x1 λ a5=>
∃t6,w.drew.cell? (a5.add 7)=some (.pointer t6)/\
Calls Tryz.prog 246 #[.int .i64 t4,.pointer t6] w.drew λ e7 w8=>∃t9 t10,e7=.returned (.tuple #[.pointer t9,.int .i64 t10])/\
Calls Tryz.prog 185 #[.pointer x1,.agg #[.int .i64 x2,.int .i64 0,.bool false,.bool false,.bool false,.slice none 0 0,.string ⟨#[]⟩,.slice none 0 0,.pointer t9,.int .i64 0,.slice none 0 0,.int .i64 0,.int .i64 0,.int .i64 0,.int .i64 0,.pointer none,.pointer none,.int .i64 0,.pointer none,.bool false,.bool false,.bool false]] w8 λ e11 w12=>∃t13,e11=.returned (.int .i64 t13)/\
Q (.int .i64 t13) w12
def V188_ann:Nat->Ann:=λ _=>⟨[],[]⟩
theorem V188_sound (x1 x2 w Q) (h:V188 x1 x2 w Q):Calls Tryz.prog 188 #[.pointer x1,.int .i64 x2] w λ e w'=>∃v,e=.returned v/\Q v w':=
 sound_of Tryz.func188 V188_ann rfl (Eq.mpr (by kernel_rfl) h)
def V189J1 (Q:Value->World->Prop) (x27:Option Addr) (x28:Int) (x29:Addr) (x30:Int) (x31:Bool) (w32:World):Prop:=
bsel x31 (
nilK x27 λ a33=>
∃t34 t35 t36,w32.cell? (a33.add 0)=some (.slice t34 t35 t36)/\
idxK t34 t35 x28 22 λ a37=>
∃t38 t39 t40 t41 t42 t43 t44 t45 t46 t47 t48 t49 t50 t51 t52 t53 t54 t55 t56 t57 t58 t59 t60 t61 t62 t63 t64 t65,CellsAt w32 a37 [.int .i64 t38,.int .i64 t39,.bool t40,.bool t41,.bool t42,.slice t43 t44 t45,.string t46,.slice t47 t48 t49,.pointer t50,.int .i64 t51,.slice t52 t53 t54,.int .i64 t55,.int .i64 t56,.int .i64 t57,.int .i64 t58,.pointer t59,.pointer t60,.int .i64 t61,.pointer t62,.bool t63,.bool t64,.bool t65]/\
Calls Tryz.prog 251 #[.agg #[.int .i64 t38,.int .i64 t39,.bool t40,.bool t41,.bool t42,.slice t43 t44 t45,.string t46,.slice t47 t48 t49,.pointer t50,.int .i64 t51,.slice t52 t53 t54,.int .i64 t55,.int .i64 t56,.int .i64 t57,.int .i64 t58,.pointer t59,.pointer t60,.int .i64 t61,.pointer t62,.bool t63,.bool t64,.bool t65]] w32 λ e66 w67=>∃t68 t69 t70 t71,e66=.returned (.agg #[.bool t68,.slice t69 t70 t71])/\
Calls Tryz.prog 249 #[.agg #[.bool t68,.slice t69 t70 t71]] w67 λ e72 w73=>∃t74,e72=.returned (.int .i64 t74)/\
Q (.tuple #[.int .i64 t74,.bool true]) w73) (
bsel (x30 == 4) (
∃t75,w32.cell? (x29.add 4)=some (.string t75)/\
Calls Tryz.prog 252 #[.string t75] w32 λ e76 w77=>∃t78,e76=.returned (.int .i64 t78)/\
Q (.tuple #[.int .i64 t78,.bool true]) w77) (
bsel (x30 == 14) (
∃t79,w32.cell? (x29.add 6)=some (.bool t79)/\
bsel t79 (
∃t80 t81 t82 t83,CellsAt w32 (x29.add 2) [.bool t80,.slice t81 t82 t83]/\
Calls Tryz.prog 249 #[.agg #[.bool t80,.slice t81 t82 t83]] w32 λ e84 w85=>∃t86,e84=.returned (.int .i64 t86)/\
Q (.tuple #[.int .i64 t86,.bool true]) w85) (
nilK x27 λ a87=>
∃t88 t89 t90,w32.drew.cell? (a87.add 0)=some (.slice t88 t89 t90)/\
idxK t88 t89 x28 22 λ a91=>
∃t92,w32.drew.cell? (a91.add 1)=some (.int .i64 t92)/\
∃t93,w32.drew.cell? (x29.add 7)=some (.bool t93)/\
Calls Tryz.prog 253 #[.int .i64 t92] w32.drew λ e94 w95=>∃t96,e94=.returned (.int .i64 t96)/\
(w95.cell? (x29.add 7)=some (.bool t93))/\
Q (.tuple #[.int .i64 t96,.bool (!t93)]) w95)) (
Q (.tuple #[.int .i64 0,.bool false]) w32)))
def V189 (x1:Int) (x2 x3:Bool) (x4:Option Addr) (x5 x6:Nat) (x7:ByteArray) (x8:Option Addr) (x9 x10:Nat) (x11 x12:Bool) (x13:Option Addr) (x14:Int) (w:World) (Q:Value->World->Prop):Prop:=
newK w #[.int .i64 x1,.bool x2,.bool x3,.slice x4 x5 x6,.string x7,.slice x8 x9 x10,.bool x11,.bool x12] 42 λ a15 w16=>
∃t17,w16.cell? (a15.add 0)=some (.int .i64 t17)/\
bsel (t17 == 1) (
Calls Tryz.prog 250 #[.int .i64 (-7)] w16 λ e18 w19=>∃t20 t21 t22 t23,e18=.returned (.agg #[.bool t20,.slice t21 t22 t23])/\
Calls Tryz.prog 249 #[.agg #[.bool t20,.slice t21 t22 t23]] w19 λ e24 w25=>∃t26,e24=.returned (.int .i64 t26)/\
Q (.tuple #[.int .i64 t26,.bool true]) w25) (
bsel (t17 == 2) (
V189J1 Q x13 x14 a15 t17 true w16) (
V189J1 Q x13 x14 a15 t17 (t17 == 3) w16))
def V189_ann:Nat->Ann:=λ _=>⟨[],[]⟩
theorem V189_sound (x1 x2 x3 x4 x5 x6 x7 x8 x9 x10 x11 x12 x13 x14 w Q) (h:V189 x1 x2 x3 x4 x5 x6 x7 x8 x9 x10 x11 x12 x13 x14 w Q):Calls Tryz.prog 189 #[.agg #[.int .i64 x1,.bool x2,.bool x3,.slice x4 x5 x6,.string x7,.slice x8 x9 x10,.bool x11,.bool x12],.pointer x13,.int .i64 x14] w λ e w'=>∃v,e=.returned v/\Q v w':=
 sound_of Tryz.func189 V189_ann rfl (Eq.mpr (by kernel_rfl) h)
def V190 (x1:Option Addr) (x2 x3:Int) (x4 x5:Int) (w:World) (Q:Value->World->Prop):Prop:=
nilK x1 λ a6=>
∃t7 t8 t9,w.cell? (a6.add 0)=some (.slice t7 t8 t9)/\
idxK t7 t8 x2 22 λ a10=>
∃t11,w.cell? (a10.add 8)=some (.pointer t11)/\
Calls Tryz.prog 254 #[.pointer t11,.int .i64 2,.int .i64 x3,.int .i64 x4,.int .i64 x5] w λ e12 w13=>∃t14,e12=.returned (.pointer t14)/\
∃(I15:World->Prop) (μ16:World->Nat),I15  w13/\∀(j18:Fr)  (w17:World),I15  w17->
Calls Tryz.prog 255 #[.pointer t14] w17 λ e19 w20=>∃t21 t22 t23 t24 t25,e19=.returned (.agg #[.int .i64 t21,.int .i64 t22,.bool t23,.int .i64 t24,.int .i64 t25])/\
newK w20 #[.int .i64 0,.int .i64 0,.bool false,.int .i64 0,.int .i64 0] 272 λ a26 w27=>
stK w27 (a26.add 0) (.int .i64 t21) λ w28=>
stK w28 (a26.add 1) (.int .i64 t22) λ w29=>
stK w29 (a26.add 2) (.bool t23) λ w30=>
stK w30 (a26.add 3) (.int .i64 t24) λ w31=>
stK w31 (a26.add 4) (.int .i64 t25) λ w32=>
∃t33,w32.cell? (a26.add 0)=some (.int .i64 t33)/\
bsel (t33 != 1) (
Q (.tuple #[]) w32) (
∃t34,w32.cell? (a26.add 1)=some (.int .i64 t34)/\
Calls Tryz.prog 257 #[.pointer x1,.int .i64 t34,.int .i64 x4] w32 λ e35 w36=>∃t37,e35=.returned (.bool t37)/\
Calls Tryz.prog 256 #[.pointer t14,.bool t37] w36 λ e38 w39=>∃t40,e38=.returned (.int .i64 t40)/\
(I15  w39/\μ16  w39<μ16  w17))
def V190_ann:Nat->Ann:=λ k=>match k with | 0=>⟨[0,3,11],[]⟩ | _=>⟨[],[]⟩
theorem V190_sound (x1 x2 x3 x4 x5 w Q) (h:V190 x1 x2 x3 x4 x5 w Q):Calls Tryz.prog 190 #[.pointer x1,.int .i64 x2,.int .i64 x3,.int .i64 x4,.int .i64 x5] w λ e w'=>∃v,e=.returned v/\Q v w':=
 sound_of Tryz.func190 V190_ann rfl (Eq.mpr (by kernel_rfl) h)
def V247J1 (Q:Value->World->Prop) (x4 x5:Int) (x6:Option Addr) (x7:Bool) (w8:World):Prop:=
bsel x7 (
Q (.tuple #[.pointer none,.int .i64 1]) w8) (
Calls Tryz.prog 304 #[.pointer x6] w8 λ e9 w10=>∃t11,e9=.returned (.pointer t11)/\
newK w10 #[.int .i64 x4,.int .i64 x5,.pointer t11,.slice none 0 0,.pointer x6] 407 λ a12 w13=>
Q (.tuple #[.pointer (some a12),.int .i64 0]) w13)
def V247 (x1 x2:Int) (x3:Option Addr) (w:World) (Q:Value->World->Prop):Prop:=
bsel (decide (x1<0)) (
V247J1 Q x1 x2 x3 true w) (
bsel (decide (x1>256)) (
V247J1 Q x1 x2 x3 true w) (
bsel (decide (x2<0)) (
V247J1 Q x1 x2 x3 true w) (
V247J1 Q x1 x2 x3 (decide (x2>65536)) w)))
def V247_ann:Nat->Ann:=λ _=>⟨[],[]⟩
theorem V247_sound (x1 x2 x3 w Q) (h:V247 x1 x2 x3 w Q):Calls Tryz.prog 247 #[.int .i64 x1,.int .i64 x2,.pointer x3] w λ e w'=>∃v,e=.returned v/\Q v w':=
 sound_of Tryz.func247 V247_ann rfl (Eq.mpr (by kernel_rfl) h)
def V248 (x1:Option Addr) (w:World) (Q:Value->World->Prop):Prop:=
newK w #[.pointer x1,.slice none 0 0,.pointer none,.int .i64 0] 409 λ a2 w3=>
Q (.pointer (some a2)) w3
def V248_ann:Nat->Ann:=λ _=>⟨[],[]⟩
theorem V248_sound (x1 w Q) (h:V248 x1 w Q):Calls Tryz.prog 248 #[.pointer x1] w λ e w'=>∃v,e=.returned v/\Q v w':=
 sound_of Tryz.func248 V248_ann rfl (Eq.mpr (by kernel_rfl) h)
def V257J1 (Q:Value->World->Prop) (x159 x160:Addr) (x161:Bool) (w162:World):Prop:=
bsel x161 (
∃t163 t164 t165 t166 t167 t168 t169 t170 t171 t172 t173 t174 t175 t176 t177 t178 t179 t180 t181 t182 t183 t184 t185 t186 t187 t188 t189 t190,CellsAt w162.drew x159 [.int .i64 t163,.int .i64 t164,.bool t165,.bool t166,.bool t167,.slice t168 t169 t170,.string t171,.slice t172 t173 t174,.pointer t175,.int .i64 t176,.slice t177 t178 t179,.int .i64 t180,.int .i64 t181,.int .i64 t182,.int .i64 t183,.pointer t184,.pointer t185,.int .i64 t186,.pointer t187,.bool t188,.bool t189,.bool t190]/\
∃t191 t192 t193 t194 t195 t196 t197 t198 t199 t200 t201 t202 t203 t204 t205 t206 t207 t208 t209 t210 t211 t212 t213 t214 t215 t216 t217 t218,CellsAt w162.drew x160 [.int .i64 t191,.int .i64 t192,.bool t193,.bool t194,.bool t195,.slice t196 t197 t198,.string t199,.slice t200 t201 t202,.pointer t203,.int .i64 t204,.slice t205 t206 t207,.int .i64 t208,.int .i64 t209,.int .i64 t210,.int .i64 t211,.pointer t212,.pointer t213,.int .i64 t214,.pointer t215,.bool t216,.bool t217,.bool t218]/\
Calls Tryz.prog 251 #[.agg #[.int .i64 t163,.int .i64 t164,.bool t165,.bool t166,.bool t167,.slice t168 t169 t170,.string t171,.slice t172 t173 t174,.pointer t175,.int .i64 t176,.slice t177 t178 t179,.int .i64 t180,.int .i64 t181,.int .i64 t182,.int .i64 t183,.pointer t184,.pointer t185,.int .i64 t186,.pointer t187,.bool t188,.bool t189,.bool t190]] w162.drew λ e219 w220=>∃t221 t222 t223 t224,e219=.returned (.agg #[.bool t221,.slice t222 t223 t224])/\
(CellsAt w220 x160 [.int .i64 t191,.int .i64 t192,.bool t193,.bool t194,.bool t195,.slice t196 t197 t198,.string t199,.slice t200 t201 t202,.pointer t203,.int .i64 t204,.slice t205 t206 t207,.int .i64 t208,.int .i64 t209,.int .i64 t210,.int .i64 t211,.pointer t212,.pointer t213,.int .i64 t214,.pointer t215,.bool t216,.bool t217,.bool t218])/\
Calls Tryz.prog 251 #[.agg #[.int .i64 t191,.int .i64 t192,.bool t193,.bool t194,.bool t195,.slice t196 t197 t198,.string t199,.slice t200 t201 t202,.pointer t203,.int .i64 t204,.slice t205 t206 t207,.int .i64 t208,.int .i64 t209,.int .i64 t210,.int .i64 t211,.pointer t212,.pointer t213,.int .i64 t214,.pointer t215,.bool t216,.bool t217,.bool t218]] w220 λ e225 w226=>∃t227 t228 t229 t230,e225=.returned (.agg #[.bool t227,.slice t228 t229 t230])/\
Calls Tryz.prog 303 #[.agg #[.bool t221,.slice t222 t223 t224],.agg #[.bool t227,.slice t228 t229 t230]] w226 λ e231 w232=>∃t233,e231=.returned (.int .i64 t233)/\
Q (.bool (t233 == 0)) w232) (
∃t236,w162.cell? (x159.add 0)=some (.int .i64 t236)/\
∃t237,w162.cell? (x160.add 0)=some (.int .i64 t237)/\
bsel (t236 == t237) (
∃t238,w162.cell? (x159.add 6)=some (.string t238)/\
∃t239,w162.cell? (x160.add 6)=some (.string t239)/\
bsel (t238.toList == t239.toList) (
∃t240,w162.cell? (x159.add 11)=some (.int .i64 t240)/\
∃t241,w162.cell? (x160.add 11)=some (.int .i64 t241)/\
Q (.bool (t240 == t241)) w162) (
Q (.bool false) w162)) (
Q (.bool false) w162))
def V257J2 (Q:Value->World->Prop) (x130:Option Addr) (x131 x132:Int) (x133 x134:Addr) (x135:Bool) (w136:World):Prop:=
bsel x135 (
Q (.bool false) w136) (
Calls Tryz.prog 313 #[.pointer x130,.int .i64 x131] w136 λ e137 w138=>∃t139 t140 t141 t142 t143,e137=.returned (.tuple #[.agg #[.bool t139,.slice t140 t141 t142],.bool t143])/\
newK w138 #[.bool false,.slice none 0 0] 40 λ a144 w145=>
stK w145 (a144.add 0) (.bool t139) λ w146=>
stK w146 (a144.add 1) (.slice t140 t141 t142) λ w147=>
Calls Tryz.prog 313 #[.pointer x130,.int .i64 x132] w147 λ e148 w149=>∃t150 t151 t152 t153 t154,e148=.returned (.tuple #[.agg #[.bool t150,.slice t151 t152 t153],.bool t154])/\
newK w149 #[.bool false,.slice none 0 0] 40 λ a155 w156=>
stK w156 (a155.add 0) (.bool t150) λ w157=>
stK w157 (a155.add 1) (.slice t151 t152 t153) λ w158=>
bsel t143 (
V257J1 Q x133 x134 t154 w158) (
V257J1 Q x133 x134 false w158))
def V257J3 (Q:Value->World->Prop) (x7:Option Addr) (x8 x9:Int) (x10:Bool) (w11:World):Prop:=
bsel x10 (
Q (.bool false) w11) (
bsel (x8 == x9) (
Q (.bool true) w11) (
nilK x7 λ a12=>
∃t13 t14 t15,w11.cell? (a12.add 0)=some (.slice t13 t14 t15)/\
idxK t13 t14 x8 22 λ a16=>
∃t17 t18 t19 t20 t21 t22 t23 t24 t25 t26 t27 t28 t29 t30 t31 t32 t33 t34 t35 t36 t37 t38 t39 t40 t41 t42 t43 t44,CellsAt w11 a16 [.int .i64 t17,.int .i64 t18,.bool t19,.bool t20,.bool t21,.slice t22 t23 t24,.string t25,.slice t26 t27 t28,.pointer t29,.int .i64 t30,.slice t31 t32 t33,.int .i64 t34,.int .i64 t35,.int .i64 t36,.int .i64 t37,.pointer t38,.pointer t39,.int .i64 t40,.pointer t41,.bool t42,.bool t43,.bool t44]/\
newK w11 #[.int .i64 0,.int .i64 0,.bool false,.bool false,.bool false,.slice none 0 0,.string ⟨#[]⟩,.slice none 0 0,.pointer none,.int .i64 0,.slice none 0 0,.int .i64 0,.int .i64 0,.int .i64 0,.int .i64 0,.pointer none,.pointer none,.int .i64 0,.pointer none,.bool false,.bool false,.bool false] 226 λ a45 w46=>
stK w46 (a45.add 0) (.int .i64 t17) λ w47=>
stK w47 (a45.add 1) (.int .i64 t18) λ w48=>
stK w48 (a45.add 2) (.bool t19) λ w49=>
stK w49 (a45.add 3) (.bool t20) λ w50=>
stK w50 (a45.add 4) (.bool t21) λ w51=>
stK w51 (a45.add 5) (.slice t22 t23 t24) λ w52=>
stK w52 (a45.add 6) (.string t25) λ w53=>
stK w53 (a45.add 7) (.slice t26 t27 t28) λ w54=>
stK w54 (a45.add 8) (.pointer t29) λ w55=>
stK w55 (a45.add 9) (.int .i64 t30) λ w56=>
stK w56 (a45.add 10) (.slice t31 t32 t33) λ w57=>
stK w57 (a45.add 11) (.int .i64 t34) λ w58=>
stK w58 (a45.add 12) (.int .i64 t35) λ w59=>
stK w59 (a45.add 13) (.int .i64 t36) λ w60=>
stK w60 (a45.add 14) (.int .i64 t37) λ w61=>
stK w61 (a45.add 15) (.pointer t38) λ w62=>
stK w62 (a45.add 16) (.pointer t39) λ w63=>
stK w63 (a45.add 17) (.int .i64 t40) λ w64=>
stK w64 (a45.add 18) (.pointer t41) λ w65=>
stK w65 (a45.add 19) (.bool t42) λ w66=>
stK w66 (a45.add 20) (.bool t43) λ w67=>
stK w67 (a45.add 21) (.bool t44) λ w68=>
nilK x7 λ a69=>
∃t70 t71 t72,w68.cell? (a69.add 0)=some (.slice t70 t71 t72)/\
idxK t70 t71 x9 22 λ a73=>
∃t74 t75 t76 t77 t78 t79 t80 t81 t82 t83 t84 t85 t86 t87 t88 t89 t90 t91 t92 t93 t94 t95 t96 t97 t98 t99 t100 t101,CellsAt w68 a73 [.int .i64 t74,.int .i64 t75,.bool t76,.bool t77,.bool t78,.slice t79 t80 t81,.string t82,.slice t83 t84 t85,.pointer t86,.int .i64 t87,.slice t88 t89 t90,.int .i64 t91,.int .i64 t92,.int .i64 t93,.int .i64 t94,.pointer t95,.pointer t96,.int .i64 t97,.pointer t98,.bool t99,.bool t100,.bool t101]/\
newK w68 #[.int .i64 0,.int .i64 0,.bool false,.bool false,.bool false,.slice none 0 0,.string ⟨#[]⟩,.slice none 0 0,.pointer none,.int .i64 0,.slice none 0 0,.int .i64 0,.int .i64 0,.int .i64 0,.int .i64 0,.pointer none,.pointer none,.int .i64 0,.pointer none,.bool false,.bool false,.bool false] 226 λ a102 w103=>
stK w103 (a102.add 0) (.int .i64 t74) λ w104=>
stK w104 (a102.add 1) (.int .i64 t75) λ w105=>
stK w105 (a102.add 2) (.bool t76) λ w106=>
stK w106 (a102.add 3) (.bool t77) λ w107=>
stK w107 (a102.add 4) (.bool t78) λ w108=>
stK w108 (a102.add 5) (.slice t79 t80 t81) λ w109=>
stK w109 (a102.add 6) (.string t82) λ w110=>
stK w110 (a102.add 7) (.slice t83 t84 t85) λ w111=>
stK w111 (a102.add 8) (.pointer t86) λ w112=>
stK w112 (a102.add 9) (.int .i64 t87) λ w113=>
stK w113 (a102.add 10) (.slice t88 t89 t90) λ w114=>
stK w114 (a102.add 11) (.int .i64 t91) λ w115=>
stK w115 (a102.add 12) (.int .i64 t92) λ w116=>
stK w116 (a102.add 13) (.int .i64 t93) λ w117=>
stK w117 (a102.add 14) (.int .i64 t94) λ w118=>
stK w118 (a102.add 15) (.pointer t95) λ w119=>
stK w119 (a102.add 16) (.pointer t96) λ w120=>
stK w120 (a102.add 17) (.int .i64 t97) λ w121=>
stK w121 (a102.add 18) (.pointer t98) λ w122=>
stK w122 (a102.add 19) (.bool t99) λ w123=>
stK w123 (a102.add 20) (.bool t100) λ w124=>
stK w124 (a102.add 21) (.bool t101) λ w125=>
∃t126,w125.cell? (a45.add 0)=some (.int .i64 t126)/\
Calls Tryz.prog 312 #[.int .i64 t126] w125 λ e127 w128=>∃t129,e127=.returned (.bool t129)/\
bsel (!t129) (
V257J2 Q x7 x8 x9 a45 a102 true w128) (
∃t244,w128.cell? (a102.add 0)=some (.int .i64 t244)/\
Calls Tryz.prog 312 #[.int .i64 t244] w128 λ e245 w246=>∃t247,e245=.returned (.bool t247)/\
V257J2 Q x7 x8 x9 a45 a102 (!t247) w246)))
def V257 (x1:Option Addr) (x2 x3:Int) (w:World) (Q:Value->World->Prop):Prop:=
Calls Tryz.prog 311 #[.pointer x1,.int .i64 x2] w λ e4 w5=>∃t6,e4=.returned (.bool t6)/\
bsel (!t6) (
V257J3 Q x1 x2 x3 true w5) (
Calls Tryz.prog 311 #[.pointer x1,.int .i64 x3] w5 λ e248 w249=>∃t250,e248=.returned (.bool t250)/\
V257J3 Q x1 x2 x3 (!t250) w249)
def V257_ann:Nat->Ann:=λ _=>⟨[],[]⟩
theorem V257_sound (x1 x2 x3 w Q) (h:V257 x1 x2 x3 w Q):Calls Tryz.prog 257 #[.pointer x1,.int .i64 x2,.int .i64 x3] w λ e w'=>∃v,e=.returned v/\Q v w':=
 sound_of Tryz.func257 V257_ann rfl (Eq.mpr (by kernel_rfl) h)
def V311 (x1:Option Addr) (x2:Int) (w:World) (Q:Value->World->Prop):Prop:=
bsel (decide (x2>=0)) (
nilK x1 λ a3=>
∃t4 t5 t6,w.cell? (a3.add 0)=some (.slice t4 t5 t6)/\
bsel (decide (x2<(t5:Int))) (
nilK x1 λ a7=>
∃t8 t9 t10,w.cell? (a7.add 0)=some (.slice t8 t9 t10)/\
idxK t8 t9 x2 22 λ a11=>
∃t12,w.cell? (a11.add 2)=some (.bool t12)/\
Q (.bool (!t12)) w) (
Q (.bool false) w)) (
Q (.bool false) w)
def V311_ann:Nat->Ann:=λ _=>⟨[],[]⟩
theorem V311_sound (x1 x2 w Q) (h:V311 x1 x2 w Q):Calls Tryz.prog 311 #[.pointer x1,.int .i64 x2] w λ e w'=>∃v,e=.returned v/\Q v w':=
 sound_of Tryz.func311 V311_ann rfl (Eq.mpr (by kernel_rfl) h)
def V312 (x1:Int) (w:World) (Q:Value->World->Prop):Prop:=
bsel (decide (x1>=1)) (
bsel (decide (x1<=4)) (
Q (.bool true) w) (
Q (.bool (x1 == 11)) w)) (
Q (.bool (x1 == 11)) w)
def V312_ann:Nat->Ann:=λ _=>⟨[],[]⟩
theorem V312_sound (x1 w Q) (h:V312 x1 w Q):Calls Tryz.prog 312 #[.int .i64 x1] w λ e w'=>∃v,e=.returned v/\Q v w':=
 sound_of Tryz.func312 V312_ann rfl (Eq.mpr (by kernel_rfl) h)
def V313J1 (Q:Value->World->Prop) (x64 x65:Addr) (x66:Bool) (w67:World):Prop:=
bsel x66 (
stK w67 (x64.add 0) (.bool false) λ w68=>
stK w68 (x64.add 1) (.slice none 0 0) λ w69=>
∃t70 t71 t72 t73,CellsAt w69 x64 [.bool t70,.slice t71 t72 t73]/\
Q (.tuple #[.agg #[.bool t70,.slice t71 t72 t73],.bool false]) w69) (
∃t74 t75 t76 t77 t78 t79 t80 t81 t82 t83 t84 t85 t86 t87 t88 t89 t90 t91 t92 t93 t94 t95 t96 t97 t98 t99 t100 t101,CellsAt w67 x65 [.int .i64 t74,.int .i64 t75,.bool t76,.bool t77,.bool t78,.slice t79 t80 t81,.string t82,.slice t83 t84 t85,.pointer t86,.int .i64 t87,.slice t88 t89 t90,.int .i64 t91,.int .i64 t92,.int .i64 t93,.int .i64 t94,.pointer t95,.pointer t96,.int .i64 t97,.pointer t98,.bool t99,.bool t100,.bool t101]/\
Calls Tryz.prog 251 #[.agg #[.int .i64 t74,.int .i64 t75,.bool t76,.bool t77,.bool t78,.slice t79 t80 t81,.string t82,.slice t83 t84 t85,.pointer t86,.int .i64 t87,.slice t88 t89 t90,.int .i64 t91,.int .i64 t92,.int .i64 t93,.int .i64 t94,.pointer t95,.pointer t96,.int .i64 t97,.pointer t98,.bool t99,.bool t100,.bool t101]] w67 λ e102 w103=>∃t104 t105 t106 t107,e102=.returned (.agg #[.bool t104,.slice t105 t106 t107])/\
stK w103 (x64.add 0) (.bool t104) λ w108=>
stK w108 (x64.add 1) (.slice t105 t106 t107) λ w109=>
∃t110 t111 t112 t113,CellsAt w109 x64 [.bool t110,.slice t111 t112 t113]/\
Q (.tuple #[.agg #[.bool t110,.slice t111 t112 t113],.bool true]) w109)
def V313 (x1:Option Addr) (x2:Int) (w:World) (Q:Value->World->Prop):Prop:=
newK w #[.bool false,.slice none 0 0] 40 λ a3 w4=>
nilK x1 λ a5=>
∃t6 t7 t8,w4.cell? (a5.add 0)=some (.slice t6 t7 t8)/\
idxK t6 t7 x2 22 λ a9=>
∃t10 t11 t12 t13 t14 t15 t16 t17 t18 t19 t20 t21 t22 t23 t24 t25 t26 t27 t28 t29 t30 t31 t32 t33 t34 t35 t36 t37,CellsAt w4 a9 [.int .i64 t10,.int .i64 t11,.bool t12,.bool t13,.bool t14,.slice t15 t16 t17,.string t18,.slice t19 t20 t21,.pointer t22,.int .i64 t23,.slice t24 t25 t26,.int .i64 t27,.int .i64 t28,.int .i64 t29,.int .i64 t30,.pointer t31,.pointer t32,.int .i64 t33,.pointer t34,.bool t35,.bool t36,.bool t37]/\
newK w4 #[.int .i64 0,.int .i64 0,.bool false,.bool false,.bool false,.slice none 0 0,.string ⟨#[]⟩,.slice none 0 0,.pointer none,.int .i64 0,.slice none 0 0,.int .i64 0,.int .i64 0,.int .i64 0,.int .i64 0,.pointer none,.pointer none,.int .i64 0,.pointer none,.bool false,.bool false,.bool false] 226 λ a38 w39=>
stK w39 (a38.add 0) (.int .i64 t10) λ w40=>
stK w40 (a38.add 1) (.int .i64 t11) λ w41=>
stK w41 (a38.add 2) (.bool t12) λ w42=>
stK w42 (a38.add 3) (.bool t13) λ w43=>
stK w43 (a38.add 4) (.bool t14) λ w44=>
stK w44 (a38.add 5) (.slice t15 t16 t17) λ w45=>
stK w45 (a38.add 6) (.string t18) λ w46=>
stK w46 (a38.add 7) (.slice t19 t20 t21) λ w47=>
stK w47 (a38.add 8) (.pointer t22) λ w48=>
stK w48 (a38.add 9) (.int .i64 t23) λ w49=>
stK w49 (a38.add 10) (.slice t24 t25 t26) λ w50=>
stK w50 (a38.add 11) (.int .i64 t27) λ w51=>
stK w51 (a38.add 12) (.int .i64 t28) λ w52=>
stK w52 (a38.add 13) (.int .i64 t29) λ w53=>
stK w53 (a38.add 14) (.int .i64 t30) λ w54=>
stK w54 (a38.add 15) (.pointer t31) λ w55=>
stK w55 (a38.add 16) (.pointer t32) λ w56=>
stK w56 (a38.add 17) (.int .i64 t33) λ w57=>
stK w57 (a38.add 18) (.pointer t34) λ w58=>
stK w58 (a38.add 19) (.bool t35) λ w59=>
stK w59 (a38.add 20) (.bool t36) λ w60=>
stK w60 (a38.add 21) (.bool t37) λ w61=>
∃t62,w61.cell? (a38.add 0)=some (.int .i64 t62)/\
bsel (t62 != 3) (
∃t63,w61.cell? (a38.add 0)=some (.int .i64 t63)/\
V313J1 Q a3 a38 (t63 != 2) w61) (
V313J1 Q a3 a38 false w61)
def V313_ann:Nat->Ann:=λ _=>⟨[],[]⟩
theorem V313_sound (x1 x2 w Q) (h:V313 x1 x2 w Q):Calls Tryz.prog 313 #[.pointer x1,.int .i64 x2] w λ e w'=>∃v,e=.returned v/\Q v w':=
 sound_of Tryz.func313 V313_ann rfl (Eq.mpr (by kernel_rfl) h)
end Go.Fw

set_option maxRecDepth 100000
namespace Go.Fw
open Go.Proofs
def V304 (x1:Option Addr) (w:World) (Q:Value->World->Prop):Prop:=
newK w #[.slice none 0 0,.int .i64 0,.slice none 0 0,.int .i64 0,.int .i64 0,.int .i64 0,.int .i64 0,.pointer x1] 420 λ a2 w3=>
Calls Tryz.prog 344 #[.pointer (some a2),.int .i64 3] w3 λ e4 w5=>∃t6,e4=.returned (t6)/\
Q (.pointer (some a2)) w5
def V304_ann:Nat->Ann:=λ _=>⟨[],[]⟩
theorem V304_sound (x1 w Q) (h:V304 x1 w Q):Calls Tryz.prog 304 #[.pointer x1] w λ e w'=>∃v,e=.returned v/\Q v w':=
 sound_of Tryz.func304 V304_ann rfl (Eq.mpr (by kernel_rfl) h)
def V307 (x1:Option Addr) (x2:Int) (w:World) (Q:Value->World->Prop):Prop:=
nilK x1 λ a3=>
∃t4,w.drew.cell? (a3.add 6)=some (.int .i64 t4)/\
nilK x1 λ a5=>
∃t6,w.drew.cell? ((a5.add 1).add 0)=some (.int .i64 t6)/\
Calls Tryz.prog 345 #[.int .i64 x2,.int .i64 t6] w.drew λ e7 w8=>∃t9,e7=.returned (.int .i64 t9)/\
(w8.cell? (a3.add 6)=some (.int .i64 t4))/\
newK w8 #[.pointer x1,.int .i64 x2,.int .i64 t4,.int .i64 t9,.int .u64 (IntKind.wrap .u64 x2),.bool false,.int .i64 0,.int .i64 (-1)] 447 λ a10 w11=>
Q (.pointer (some a10)) w11
def V307_ann:Nat->Ann:=λ _=>⟨[],[]⟩
theorem V307_sound (x1 x2 w Q) (h:V307 x1 x2 w Q):Calls Tryz.prog 307 #[.pointer x1,.int .i64 x2] w λ e w'=>∃v,e=.returned v/\Q v w':=
 sound_of Tryz.func307 V307_ann rfl (Eq.mpr (by kernel_rfl) h)
def V309J1 (Q:Value->World->Prop) (I2:World->Prop) (μ3:World->Nat) (w4:World) (x62:Option Addr) (x63:Int) (w64:World):Prop:=
bsel (x63 == (-1)) (
nilK x62 λ a65=>
stK w64 (a65.add 5) (.bool true) λ w66=>
(I2  w66/\μ3  w66<μ3  w4)) (
nilK x62 λ a69=>
∃t70,w64.drew.cell? (a69.add 7)=some (.int .i64 t70)/\
bsel (decide (x63>t70)) (
nilK x62 λ a71=>
∃t72,w64.drew.cell? (a71.add 0)=some (.pointer t72)/\
nilK t72 λ a73=>
∃t74 t75 t76,w64.drew.cell? (a73.add 0)=some (.slice t74 t75 t76)/\
idxK t74 t75 x63 5 λ a77=>
∃t78,w64.drew.cell? (a77.add 1)=some (.int .i64 t78)/\
nilK x62 λ a79=>
∃t80,w64.drew.cell? (a79.add 1)=some (.int .i64 t80)/\
bsel (t78 == t80) (
nilK x62 λ a87=>
stK w64.drew (a87.add 7) (.int .i64 x63) λ w88=>
Q (.tuple #[.int .i64 x63,.bool true]) w88) (
(I2  w64.drew/\μ3  w64.drew<μ3  w4))) (
(I2  w64.drew/\μ3  w64.drew<μ3  w4)))
def V309J2 (Q:Value->World->Prop) (I2:World->Prop) (μ3:World->Nat) (w4:World) (x43:Option Addr) (x44:Int) (w45:World):Prop:=
nilK x43 λ a46=>
∃t47,w45.drew.cell? (a46.add 3)=some (.int .i64 t47)/\
nilK x43 λ a48=>
∃t49,w45.drew.cell? (a48.add 4)=some (.int .u64 t49)/\
nilK x43 λ a50=>
∃t51,w45.drew.cell? (a50.add 0)=some (.pointer t51)/\
nilK t51 λ a52=>
∃t53,w45.drew.cell? ((a52.add 1).add 0)=some (.int .i64 t53)/\
Calls Tryz.prog 349 #[.int .i64 t47,.int .u64 t49,.int .i64 t53] w45.drew λ e54 w55=>∃t56 t57,e54=.returned (.tuple #[.int .i64 t56,.int .u64 t57])/\
nilK x43 λ a58=>
stK w55 (a58.add 3) (.int .i64 t56) λ w59=>
nilK x43 λ a60=>
stK w59 (a60.add 4) (.int .u64 t57) λ w61=>
V309J1 Q I2 μ3 w4 x43 x44 w61
def V309J3 (Q:Value->World->Prop) (I2:World->Prop) (μ3:World->Nat) (w4:World) (x14:Option Addr) (x15:Bool) (w16:World):Prop:=
bsel x15 (
nilK x14 λ a17=>
∃t18,w16.drew.cell? (a17.add 0)=some (.pointer t18)/\
nilK t18 λ a19=>
∃t20 t21 t22,w16.drew.cell? ((a19.add 1).add 1)=some (.slice t20 t21 t22)/\
nilK x14 λ a23=>
∃t24,w16.drew.cell? (a23.add 3)=some (.int .i64 t24)/\
idxK t20 t21 t24 1 λ a25=>
∃t26,w16.drew.cell? a25=some (.int .i64 t26)/\
nilK x14 λ a27=>
∃t28,w16.drew.cell? (a27.add 6)=some (.int .i64 t28)/\
nilK x14 λ a29=>
stK w16.drew (a29.add 6) (.int .i64 (IntKind.wrap .i64 (t28+1))) λ w30=>
nilK x14 λ a31=>
∃t32,w30.cell? (a31.add 0)=some (.pointer t32)/\
nilK t32 λ a33=>
∃t34,w30.cell? (a33.add 7)=some (.pointer t34)/\
bsel (!(Option.isNone t34)) (
nilK x14 λ a35=>
∃t36,w30.cell? (a35.add 0)=some (.pointer t36)/\
nilK t36 λ a37=>
∃t38,w30.cell? (a37.add 7)=some (.pointer t38)/\
nilK t38 λ a39=>
∃t40,w30.cell? ((a39.add 0).add 1)=some (.int .i64 t40)/\
nilK t38 λ a41=>
stK w30 ((a41.add 0).add 1) (.int .i64 (IntKind.wrap .i64 (t40+1))) λ w42=>
V309J2 Q I2 μ3 w4 x14 t26 w42) (
V309J2 Q I2 μ3 w4 x14 t26 w30)) (
nilK x14 λ a89=>
stK w16 (a89.add 5) (.bool true) λ w90=>
Q (.tuple #[.int .i64 (-1),.bool false]) w90)
def V309 (x1:Option Addr) (w:World) (Q:Value->World->Prop):Prop:=
∃(I2:World->Prop) (μ3:World->Nat),I2  w/\∀(j5:Fr)  (w4:World),I2  w4->
nilK x1 λ a6=>
∃t7,w4.drew.cell? (a6.add 5)=some (.bool t7)/\
bsel (!t7) (
nilK x1 λ a8=>
∃t9,w4.drew.cell? (a8.add 2)=some (.int .i64 t9)/\
nilK x1 λ a10=>
∃t11,w4.drew.cell? (a10.add 0)=some (.pointer t11)/\
nilK t11 λ a12=>
∃t13,w4.drew.cell? (a12.add 6)=some (.int .i64 t13)/\
V309J3 Q I2 μ3 w4 x1 (t9 == t13) w4.drew) (
V309J3 Q I2 μ3 w4 x1 false w4.drew)
def V309_ann:Nat->Ann:=λ k=>match k with | 0=>⟨[0],[]⟩ | _=>⟨[],[]⟩
theorem V309_sound (x1 w Q) (h:V309 x1 w Q):Calls Tryz.prog 309 #[.pointer x1] w λ e w'=>∃v,e=.returned v/\Q v w':=
 sound_of Tryz.func309 V309_ann rfl (Eq.mpr (by kernel_rfl) h)
def V344 (x1:Option Addr) (x2:Int) (w:World) (Q:Value->World->Prop):Prop:=
Calls Tryz.prog 364 #[.int .i64 x2] w λ e3 w4=>∃t5 t6 t7 t8 t9,e3=.returned (.tuple #[.agg #[.int .i64 t5,.slice t6 t7 t8],.int .i64 t9])/\
nilK x1 λ a10=>
stK w4 ((a10.add 1).add 0) (.int .i64 t5) λ w11=>
stK w11 ((a10.add 1).add 1) (.slice t6 t7 t8) λ w12=>
nilK x1 λ a13=>
∃t14,w12.cell? (a13.add 5)=some (.int .i64 t14)/\
nilK x1 λ a15=>
stK w12 (a15.add 5) (.int .i64 (IntKind.wrap .i64 (t14+1))) λ w16=>
nilK x1 λ a17=>
∃t18,w16.cell? (a17.add 7)=some (.pointer t18)/\
bsel (!(Option.isNone t18)) (
nilK x1 λ a19=>
∃t20,w16.cell? (a19.add 7)=some (.pointer t20)/\
nilK t20 λ a21=>
∃t22,w16.cell? ((a21.add 0).add 0)=some (.int .i64 t22)/\
nilK t20 λ a23=>
stK w16 ((a23.add 0).add 0) (.int .i64 (IntKind.wrap .i64 (t22+1))) λ w24=>
Q (.tuple #[]) w24) (
Q (.tuple #[]) w16)
def V344_ann:Nat->Ann:=λ _=>⟨[],[]⟩
theorem V344_sound (x1 x2 w Q) (h:V344 x1 x2 w Q):Calls Tryz.prog 344 #[.pointer x1,.int .i64 x2] w λ e w'=>∃v,e=.returned v/\Q v w':=
 sound_of Tryz.func344 V344_ann rfl (Eq.mpr (by kernel_rfl) h)
def V345J1 (Q:Value->World->Prop) (x3 x4:Int) (x5:Bool) (w6:World):Prop:=
bsel x5 (
Q (.int .i64 0) w6) (
((0:Int)<=x4)/\
((shl .u64 1 x4:Int)≠0)/\
Q (.int .i64 (IntKind.wrap .i64 (Int.tmod (IntKind.wrap .u64 x3) (shl .u64 1 x4)))) w6)
def V345 (x1 x2:Int) (w:World) (Q:Value->World->Prop):Prop:=
bsel (decide (x2<0)) (
V345J1 Q x1 x2 true w) (
V345J1 Q x1 x2 (decide (x2>20)) w)
def V345_ann:Nat->Ann:=λ _=>⟨[],[]⟩
theorem V345_sound (x1 x2 w Q) (h:V345 x1 x2 w Q):Calls Tryz.prog 345 #[.int .i64 x1,.int .i64 x2] w λ e w'=>∃v,e=.returned v/\Q v w':=
 sound_of Tryz.func345 V345_ann rfl (Eq.mpr (by kernel_rfl) h)
def V346 (x1:Option Addr) (x2 x3:Int) (w:World) (Q:Value->World->Prop):Prop:=
Calls Tryz.prog 365 #[.pointer x1,.int .i64 x2] w λ e4 w5=>∃t6,e4=.returned (.bool t6)/\
bsel (!t6) (
Q (.int .i64 7) w5) (
nilK x1 λ a7=>
∃t8 t9 t10,w5.cell? (a7.add 0)=some (.slice t8 t9 t10)/\
idxK t8 t9 x2 5 λ a11=>
stK w5 (a11.add 3) (.int .i64 x3) λ w12=>
Q (.int .i64 0) w12)
def V346_ann:Nat->Ann:=λ _=>⟨[],[]⟩
theorem V346_sound (x1 x2 x3 w Q) (h:V346 x1 x2 x3 w Q):Calls Tryz.prog 346 #[.pointer x1,.int .i64 x2,.int .i64 x3] w λ e w'=>∃v,e=.returned v/\Q v w':=
 sound_of Tryz.func346 V346_ann rfl (Eq.mpr (by kernel_rfl) h)
def V348 (x1:Option Addr) (x2 x3:Int) (x4:Bool) (x5 x6:Int) (w:World) (Q:Value->World->Prop):Prop:=
newK w #[.int .i64 x2,.int .i64 x3,.bool x4,.int .i64 x5,.int .i64 x6] 272 λ a7 w8=>
newK w8 #[.int .i64 0,.int .i64 0,.bool false,.int .i64 0,.int .i64 0] 272 λ a9 w10=>
nilK x1 λ a11=>
stK w10 (a11.add 10) (.bool true) λ w12=>
∃t13 t14 t15 t16 t17,CellsAt w12 a7 [.int .i64 t13,.int .i64 t14,.bool t15,.int .i64 t16,.int .i64 t17]/\
nilK x1 λ a18=>
stK w12 ((a18.add 11).add 0) (.int .i64 t13) λ w19=>
stK w19 ((a18.add 11).add 1) (.int .i64 t14) λ w20=>
stK w20 ((a18.add 11).add 2) (.bool t15) λ w21=>
stK w21 ((a18.add 11).add 3) (.int .i64 t16) λ w22=>
stK w22 ((a18.add 11).add 4) (.int .i64 t17) λ w23=>
∃t24 t25 t26 t27 t28,CellsAt w23 a7 [.int .i64 t24,.int .i64 t25,.bool t26,.int .i64 t27,.int .i64 t28]/\
stK w23 (a9.add 0) (.int .i64 t24) λ w29=>
stK w29 (a9.add 1) (.int .i64 t25) λ w30=>
stK w30 (a9.add 2) (.bool t26) λ w31=>
stK w31 (a9.add 3) (.int .i64 t27) λ w32=>
stK w32 (a9.add 4) (.int .i64 t28) λ w33=>
∃t34 t35 t36 t37 t38,CellsAt w33 a9 [.int .i64 t34,.int .i64 t35,.bool t36,.int .i64 t37,.int .i64 t38]/\
Q (.agg #[.int .i64 t34,.int .i64 t35,.bool t36,.int .i64 t37,.int .i64 t38]) w33
def V348_ann:Nat->Ann:=λ _=>⟨[],[]⟩
theorem V348_sound (x1 x2 x3 x4 x5 x6 w Q) (h:V348 x1 x2 x3 x4 x5 x6 w Q):Calls Tryz.prog 348 #[.pointer x1,.agg #[.int .i64 x2,.int .i64 x3,.bool x4,.int .i64 x5,.int .i64 x6]] w λ e w'=>∃v,e=.returned v/\Q v w':=
 sound_of Tryz.func348 V348_ann rfl (Eq.mpr (by kernel_rfl) h)
def V349 (x1 x2 x3:Int) (w:World) (Q:Value->World->Prop):Prop:=
((0:Int)<=5)/\
((0:Int)<=x3)/\
((shl .u64 1 x3:Int)≠0)/\
Q (.tuple #[.int .i64 (IntKind.wrap .i64 (Int.tmod (IntKind.wrap .u64 (IntKind.wrap .u64 (IntKind.wrap .u64 (IntKind.wrap .u64 x1*5)+shr .u64 x2 5)+1)) (shl .u64 1 x3))),.int .u64 (shr .u64 x2 5)]) w
def V349_ann:Nat->Ann:=λ _=>⟨[],[]⟩
theorem V349_sound (x1 x2 x3 w Q) (h:V349 x1 x2 x3 w Q):Calls Tryz.prog 349 #[.int .i64 x1,.int .u64 x2,.int .i64 x3] w λ e w'=>∃v,e=.returned v/\Q v w':=
 sound_of Tryz.func349 V349_ann rfl (Eq.mpr (by kernel_rfl) h)
def V350 (x1:Option Addr) (w:World) (Q:Value->World->Prop):Prop:=
nilK x1 λ a2=>
∃t3,w.cell? (a2.add 2)=some (.pointer t3)/\
nilK t3 λ a4=>
∃t5,w.cell? (a4.add 3)=some (.int .i64 t5)/\
Q (.int .i64 t5) w
def V350_ann:Nat->Ann:=λ _=>⟨[],[]⟩
theorem V350_sound (x1 w Q) (h:V350 x1 w Q):Calls Tryz.prog 350 #[.pointer x1] w λ e w'=>∃v,e=.returned v/\Q v w':=
 sound_of Tryz.func350 V350_ann rfl (Eq.mpr (by kernel_rfl) h)
def V351J1 (Q:Value->World->Prop) (x47:Option Addr) (x48 x49:Int) (w50:World):Prop:=
nilK x47 λ a51=>
∃t52,w50.cell? (a51.add 4)=some (.int .i64 t52)/\
nilK x47 λ a53=>
stK w50 (a53.add 4) (.int .i64 (IntKind.wrap .i64 (t52+1))) λ w54=>
nilK x47 λ a55=>
∃t56,w54.cell? (a55.add 3)=some (.int .i64 t56)/\
nilK x47 λ a57=>
stK w54 (a57.add 3) (.int .i64 (IntKind.wrap .i64 (t56+1))) λ w58=>
nilK x47 λ a59=>
∃t60,w58.cell? (a59.add 6)=some (.int .i64 t60)/\
nilK x47 λ a61=>
stK w58 (a61.add 6) (.int .i64 (IntKind.wrap .i64 (t60+1))) λ w62=>
Calls Tryz.prog 368 #[.pointer x47,.int .i64 x48,.int .i64 x49] w62 λ e63 w64=>∃t65,e63=.returned (t65)/\
Q (.tuple #[.int .i64 x49,.int .i64 0]) w64
def V351J2 (Q:Value->World->Prop) (x24:Option Addr) (x25 x26 x27:Int) (w28:World):Prop:=
nilK x24 λ a29=>
∃t30 t31 t32,w28.cell? (a29.add 0)=some (.slice t30 t31 t32)/\
nilK x24 λ a33=>
∃t34 t35 t36,w28.drew.cell? (a33.add 0)=some (.slice t34 t35 t36)/\
nilK x24 λ a37=>
∃t38,w28.drew.cell? (a37.add 4)=some (.int .i64 t38)/\
newK w28.drew #[.bool true,.int .i64 x25,.int .i64 x26,.int .i64 x27,.int .i64 t38] 295 λ a39 w40=>
(w40.cell? (a33.add 0)=some (.slice t34 t35 t36))/\
∃w41:World,∃t42 t43 t44,(vcEff.bltV .append #[292,292] 292 #[.slice t34 t35 t36,.slice (some a39) 1 1]).run Tryz.prog w40=.ok (.slice t42 t43 t44) w41/\
nilK x24 λ a45=>
stK w41 (a45.add 0) (.slice t42 t43 t44) λ w46=>
V351J1 Q x24 x25 (t31:Int) w46
def V351 (x1:Option Addr) (x2 x3 x4:Int) (w:World) (Q:Value->World->Prop):Prop:=
nilK x1 λ a5=>
∃t6 t7 t8,w.drew.cell? (a5.add 0)=some (.slice t6 t7 t8)/\
nilK x1 λ a9=>
∃t10,w.drew.cell? ((a9.add 1).add 0)=some (.int .i64 t10)/\
Calls Tryz.prog 366 #[.int .i64 t10] w.drew λ e11 w12=>∃t13,e11=.returned (.int .i64 t13)/\
(w12.cell? (a5.add 0)=some (.slice t6 t7 t8))/\
bsel (decide ((t7:Int)>=t13)) (
∃(I14:Int->World->Prop) (μ15:Int->World->Nat),I14 3 w12/\∀(j18:Fr) (i16:Int) (w17:World),I14 i16 w17->
((0:Int)<=i16)/\
nilK x1 λ a19=>
∃t20,w17.drew.cell? (a19.add 3)=some (.int .i64 t20)/\
bsel (decide (shl .i64 1 i16<IntKind.wrap .i64 (3*t20))) (
(I14 (IntKind.wrap .i64 (i16+1)) w17.drew/\μ15 (IntKind.wrap .i64 (i16+1)) w17.drew<μ15 i16 w17)) (
bsel (decide (i16>20)) (
Q (.tuple #[.int .i64 0,.int .i64 3]) w17.drew) (
Calls Tryz.prog 367 #[.pointer x1,.int .i64 i16] w17.drew λ e21 w22=>∃t23,e21=.returned (t23)/\
V351J2 Q x1 x2 x3 x4 w22))) (
V351J2 Q x1 x2 x3 x4 w12)
def V351_ann:Nat->Ann:=λ k=>match k with | 0=>⟨[0,1,2,3],[(10,.int .i64)]⟩ | _=>⟨[],[]⟩
theorem V351_sound (x1 x2 x3 x4 w Q) (h:V351 x1 x2 x3 x4 w Q):Calls Tryz.prog 351 #[.pointer x1,.int .i64 x2,.int .i64 x3,.int .i64 x4] w λ e w'=>∃v,e=.returned v/\Q v w':=
 sound_of Tryz.func351 V351_ann rfl (Eq.mpr (by kernel_rfl) h)
def V364J1 (Q:Value->World->Prop) (x4:Int) (x5:Addr) (x6:Bool) (w7:World):Prop:=
bsel x6 (
stK w7 (x5.add 0) (.int .i64 0) λ w8=>
stK w8 (x5.add 1) (.slice none 0 0) λ w9=>
∃t10 t11 t12 t13,CellsAt w9 x5 [.int .i64 t10,.slice t11 t12 t13]/\
Q (.tuple #[.agg #[.int .i64 t10,.slice t11 t12 t13],.int .i64 1]) w9) (
((0:Int)<=x4)/\
∃w14:World,∃t15 t16 t17,(Instr.makeSlice 30 (.int .i64 (shl .i64 1 x4)) (.int .i64 (shl .i64 1 x4))).run Tryz.prog w7=.ok (.slice t15 t16 t17) w14/\
newK w14 #[.int .i64 0,.slice none 0 0] 418 λ a18 w19=>
stK w19 (a18.add 0) (.int .i64 x4) λ w20=>
stK w20 (a18.add 1) (.slice t15 t16 t17) λ w21=>
∃(I22:Int->World->Prop) (μ23:Int->World->Nat),I22 0 w21/\∀(j26:Fr) (i24:Int) (w25:World),I22 i24 w25->
∃t27 t28 t29,w25.cell? (a18.add 1)=some (.slice t27 t28 t29)/\
bsel (decide (i24<(t28:Int))) (
∃t30 t31 t32,w25.cell? (a18.add 1)=some (.slice t30 t31 t32)/\
idxK t30 t31 i24 1 λ a33=>
stK w25 a33 (.int .i64 (-1)) λ w34=>
(I22 (IntKind.wrap .i64 (i24+1)) w34/\μ23 (IntKind.wrap .i64 (i24+1)) w34<μ23 i24 w25)) (
∃t35 t36 t37 t38,CellsAt w25 a18 [.int .i64 t35,.slice t36 t37 t38]/\
stK w25 (x5.add 0) (.int .i64 t35) λ w39=>
stK w39 (x5.add 1) (.slice t36 t37 t38) λ w40=>
∃t41 t42 t43 t44,CellsAt w40 x5 [.int .i64 t41,.slice t42 t43 t44]/\
Q (.tuple #[.agg #[.int .i64 t41,.slice t42 t43 t44],.int .i64 0]) w40))
def V364 (x1:Int) (w:World) (Q:Value->World->Prop):Prop:=
newK w #[.int .i64 0,.slice none 0 0] 418 λ a2 w3=>
bsel (decide (x1<3)) (
V364J1 Q x1 a2 true w3) (
V364J1 Q x1 a2 (decide (x1>20)) w3)
def V364_ann:Nat->Ann:=λ k=>match k with | 0=>⟨[2,4],[(5,.int .i64)]⟩ | _=>⟨[],[]⟩
theorem V364_sound (x1 w Q) (h:V364 x1 w Q):Calls Tryz.prog 364 #[.int .i64 x1] w λ e w'=>∃v,e=.returned v/\Q v w':=
 sound_of Tryz.func364 V364_ann rfl (Eq.mpr (by kernel_rfl) h)
def V365 (x1:Option Addr) (x2:Int) (w:World) (Q:Value->World->Prop):Prop:=
bsel (decide (x2>=0)) (
nilK x1 λ a3=>
∃t4 t5 t6,w.cell? (a3.add 0)=some (.slice t4 t5 t6)/\
bsel (decide (x2<(t5:Int))) (
nilK x1 λ a7=>
∃t8 t9 t10,w.cell? (a7.add 0)=some (.slice t8 t9 t10)/\
idxK t8 t9 x2 5 λ a11=>
∃t12,w.cell? (a11.add 0)=some (.bool t12)/\
Q (.bool t12) w) (
Q (.bool false) w)) (
Q (.bool false) w)
def V365_ann:Nat->Ann:=λ _=>⟨[],[]⟩
theorem V365_sound (x1 x2 w Q) (h:V365 x1 x2 w Q):Calls Tryz.prog 365 #[.pointer x1,.int .i64 x2] w λ e w'=>∃v,e=.returned v/\Q v w':=
 sound_of Tryz.func365 V365_ann rfl (Eq.mpr (by kernel_rfl) h)
def V366 (x1:Int) (w:World) (Q:Value->World->Prop):Prop:=
bsel (decide (x1<3)) (
Q (.int .i64 0) w) (
bsel (decide (x1>20)) (
Q (.int .i64 0) w) (
((0:Int)<=x1)/\
((3:Int)≠0)/\
Q (.int .i64 (IntKind.wrap .i64 (Int.tdiv (shl .i64 2 x1) 3))) w))
def V366_ann:Nat->Ann:=λ _=>⟨[],[]⟩
theorem V366_sound (x1 w Q) (h:V366 x1 w Q):Calls Tryz.prog 366 #[.int .i64 x1] w λ e w'=>∃v,e=.returned v/\Q v w':=
 sound_of Tryz.func366 V366_ann rfl (Eq.mpr (by kernel_rfl) h)
def V367 (x1:Option Addr) (x2:Int) (w:World) (Q:Value->World->Prop):Prop:=
Calls Tryz.prog 344 #[.pointer x1,.int .i64 x2] w λ e3 w4=>∃t5,e3=.returned (t5)/\
∃(I6:Option Addr->Nat->Nat->Int->World->Prop) (μ7:Option Addr->Nat->Nat->Int->World->Nat),I6 none 0 0 0 w4/\∀(j13:Fr) (i8:Option Addr) (i9:Nat) (i10:Nat) (i11:Int) (w12:World),I6 i8 i9 i10 i11 w12->
nilK x1 λ a14=>
∃t15 t16 t17,w12.cell? (a14.add 0)=some (.slice t15 t16 t17)/\
bsel (decide (i11<(t16:Int))) (
nilK x1 λ a18=>
∃t19 t20 t21,w12.cell? (a18.add 0)=some (.slice t19 t20 t21)/\
idxK t19 t20 i11 5 λ a22=>
∃t23,w12.cell? (a22.add 0)=some (.bool t23)/\
bsel t23 (
nilK x1 λ a24=>
∃t25 t26 t27,w12.cell? (a24.add 0)=some (.slice t25 t26 t27)/\
idxK t25 t26 i11 5 λ a28=>
∃t29 t30 t31 t32 t33,CellsAt w12 a28 [.bool t29,.int .i64 t30,.int .i64 t31,.int .i64 t32,.int .i64 t33]/\
newK w12 #[.bool t29,.int .i64 t30,.int .i64 t31,.int .i64 t32,.int .i64 t33] 295 λ a34 w35=>
∃w36:World,∃t37 t38 t39,(vcEff.bltV .append #[292,292] 292 #[.slice i8 i9 i10,.slice (some a34) 1 1]).run Tryz.prog w35=.ok (.slice t37 t38 t39) w36/\
(I6 t37 t38 t39 (IntKind.wrap .i64 (i11+1)) w36/\μ7 t37 t38 t39 (IntKind.wrap .i64 (i11+1)) w36<μ7 i8 i9 i10 i11 w12)) (
(I6 i8 i9 i10 (IntKind.wrap .i64 (i11+1)) w12/\μ7 i8 i9 i10 (IntKind.wrap .i64 (i11+1)) w12<μ7 i8 i9 i10 i11 w12))) (
nilK x1 λ a46=>
stK w12 (a46.add 0) (.slice i8 i9 i10) λ w47=>
∃(I48:Int->World->Prop) (μ49:Int->World->Nat),I48 0 w47/\∀(j52:Fr) (i50:Int) (w51:World),I48 i50 w51->
bsel (decide (i50<(i9:Int))) (
idxK i8 i9 i50 5 λ a53=>
∃t54,w51.cell? (a53.add 1)=some (.int .i64 t54)/\
Calls Tryz.prog 368 #[.pointer x1,.int .i64 t54,.int .i64 i50] w51 λ e55 w56=>∃t57,e55=.returned (t57)/\
(I48 (IntKind.wrap .i64 (i50+1)) w56/\μ49 (IntKind.wrap .i64 (i50+1)) w56<μ49 i50 w51)) (
Q (.tuple #[]) w51))
def V367_ann:Nat->Ann:=λ k=>match k with | 0=>⟨[0],[(4,.slice),(5,.int .i64)]⟩ | 1=>⟨[0,4],[(6,.int .i64)]⟩ | _=>⟨[],[]⟩
theorem V367_sound (x1 x2 w Q) (h:V367 x1 x2 w Q):Calls Tryz.prog 367 #[.pointer x1,.int .i64 x2] w λ e w'=>∃v,e=.returned v/\Q v w':=
 sound_of Tryz.func367 V367_ann rfl (Eq.mpr (by kernel_rfl) h)
def V368 (x1:Option Addr) (x2 x3:Int) (w:World) (Q:Value->World->Prop):Prop:=
nilK x1 λ a4=>
∃t5,w.cell? ((a4.add 1).add 0)=some (.int .i64 t5)/\
Calls Tryz.prog 345 #[.int .i64 x2,.int .i64 t5] w λ e6 w7=>∃t8,e6=.returned (.int .i64 t8)/\
∃(I9:Int->Int->World->Prop) (μ10:Int->Int->World->Nat),I9 t8 (IntKind.wrap .u64 x2) w7/\∀(j14:Fr) (i11:Int) (i12:Int) (w13:World),I9 i11 i12 w13->
nilK x1 λ a15=>
∃t16 t17 t18,w13.cell? ((a15.add 1).add 1)=some (.slice t16 t17 t18)/\
idxK t16 t17 i11 1 λ a19=>
∃t20,w13.cell? a19=some (.int .i64 t20)/\
bsel (t20 != (-1)) (
nilK x1 λ a21=>
∃t22,w13.cell? ((a21.add 1).add 0)=some (.int .i64 t22)/\
Calls Tryz.prog 349 #[.int .i64 i11,.int .u64 i12,.int .i64 t22] w13 λ e23 w24=>∃t25 t26,e23=.returned (.tuple #[.int .i64 t25,.int .u64 t26])/\
(I9 t25 t26 w24/\μ10 t25 t26 w24<μ10 i11 i12 w13)) (
nilK x1 λ a27=>
∃t28 t29 t30,w13.cell? ((a27.add 1).add 1)=some (.slice t28 t29 t30)/\
idxK t28 t29 i11 1 λ a31=>
stK w13 a31 (.int .i64 x3) λ w32=>
Q (.tuple #[]) w32)
def V368_ann:Nat->Ann:=λ k=>match k with | 0=>⟨[0,2],[(6,.int .i64),(7,.int .u64)]⟩ | _=>⟨[],[]⟩
theorem V368_sound (x1 x2 x3 w Q) (h:V368 x1 x2 x3 w Q):Calls Tryz.prog 368 #[.pointer x1,.int .i64 x2,.int .i64 x3] w λ e w'=>∃v,e=.returned v/\Q v w':=
 sound_of Tryz.func368 V368_ann rfl (Eq.mpr (by kernel_rfl) h)
def V246J1 (Q:Value->World->Prop) (x3:Int) (x4:Option Addr) (x5:Bool) (w6:World):Prop:=
bsel x5 (
Q (.tuple #[.pointer none,.int .i64 1]) w6) (
Calls Tryz.prog 304 #[.pointer x4] w6 λ e7 w8=>∃t9,e7=.returned (.pointer t9)/\
newK w8 #[.int .i64 x3,.int .i64 0,.pointer t9] 405 λ a10 w11=>
Q (.tuple #[.pointer (some a10),.int .i64 0]) w11)
def V246 (x1:Int) (x2:Option Addr) (w:World) (Q:Value->World->Prop):Prop:=
bsel (decide (x1<0)) (
V246J1 Q x1 x2 true w) (
V246J1 Q x1 x2 (decide (x1>65536)) w)
def V246_ann:Nat->Ann:=λ _=>⟨[],[]⟩
theorem V246_sound (x1 x2 w Q) (h:V246 x1 x2 w Q):Calls Tryz.prog 246 #[.int .i64 x1,.pointer x2] w λ e w'=>∃v,e=.returned v/\Q v w':=
 sound_of Tryz.func246 V246_ann rfl (Eq.mpr (by kernel_rfl) h)
def V254J1 (Q:Value->World->Prop) (x6:Option Addr) (x7 x8:Int) (x9 x10:Int) (x11:Bool) (w12:World):Prop:=
bsel x11 (
Q (.pointer none) w12) (
newK w12 #[.pointer x6,.int .i64 x7,.int .i64 x8,.int .i64 x9,.int .i64 x10,.pointer none,.int .i64 0,.int .i64 0,.bool false,.bool false,.bool false,.int .i64 0,.int .i64 0,.bool false,.int .i64 0,.int .i64 0,.int .i64 0] 415 λ a13 w14=>
Q (.pointer (some a13)) w14)
def V254 (x1:Option Addr) (x2 x3:Int) (x4 x5:Int) (w:World) (Q:Value->World->Prop):Prop:=
bsel (decide (x2<1)) (
V254J1 Q x1 x2 x3 x4 x5 true w) (
V254J1 Q x1 x2 x3 x4 x5 (decide (x2>4)) w)
def V254_ann:Nat->Ann:=λ _=>⟨[],[]⟩
theorem V254_sound (x1 x2 x3 x4 x5 w Q) (h:V254 x1 x2 x3 x4 x5 w Q):Calls Tryz.prog 254 #[.pointer x1,.int .i64 x2,.int .i64 x3,.int .i64 x4,.int .i64 x5] w λ e w'=>∃v,e=.returned v/\Q v w':=
 sound_of Tryz.func254 V254_ann rfl (Eq.mpr (by kernel_rfl) h)
def V255J1 (Q:Value->World->Prop) (x58:Option Addr) (x59:Addr) (w60:World):Prop:=
nilK x58 λ a61=>
∃t62,w60.cell? (a61.add 9)=some (.bool t62)/\
bsel t62 (
Calls Tryz.prog 308 #[.pointer x58] w60 λ e63 w64=>∃t65 t66 t67 t68 t69,e63=.returned (.agg #[.int .i64 t65,.int .i64 t66,.bool t67,.int .i64 t68,.int .i64 t69])/\
stK w64 (x59.add 0) (.int .i64 t65) λ w70=>
stK w70 (x59.add 1) (.int .i64 t66) λ w71=>
stK w71 (x59.add 2) (.bool t67) λ w72=>
stK w72 (x59.add 3) (.int .i64 t68) λ w73=>
stK w73 (x59.add 4) (.int .i64 t69) λ w74=>
∃t75 t76 t77 t78 t79,CellsAt w74 x59 [.int .i64 t75,.int .i64 t76,.bool t77,.int .i64 t78,.int .i64 t79]/\
Q (.agg #[.int .i64 t75,.int .i64 t76,.bool t77,.int .i64 t78,.int .i64 t79]) w74) (
nilK x58 λ a80=>
∃t81,w60.cell? (a80.add 5)=some (.pointer t81)/\
Calls Tryz.prog 309 #[.pointer t81] w60 λ e82 w83=>∃t84 t85,e82=.returned (.tuple #[.int .i64 t84,.bool t85])/\
bsel (!t85) (
Calls Tryz.prog 310 #[.pointer x58] w83 λ e86 w87=>∃t88 t89 t90 t91 t92,e86=.returned (.agg #[.int .i64 t88,.int .i64 t89,.bool t90,.int .i64 t91,.int .i64 t92])/\
stK w87 (x59.add 0) (.int .i64 t88) λ w93=>
stK w93 (x59.add 1) (.int .i64 t89) λ w94=>
stK w94 (x59.add 2) (.bool t90) λ w95=>
stK w95 (x59.add 3) (.int .i64 t91) λ w96=>
stK w96 (x59.add 4) (.int .i64 t92) λ w97=>
∃t98 t99 t100 t101 t102,CellsAt w97 x59 [.int .i64 t98,.int .i64 t99,.bool t100,.int .i64 t101,.int .i64 t102]/\
Q (.agg #[.int .i64 t98,.int .i64 t99,.bool t100,.int .i64 t101,.int .i64 t102]) w97) (
nilK x58 λ a103=>
stK w83 (a103.add 7) (.int .i64 t84) λ w104=>
nilK x58 λ a105=>
∃t106,w104.drew.cell? (a105.add 0)=some (.pointer t106)/\
nilK t106 λ a107=>
∃t108,w104.drew.cell? (a107.add 2)=some (.pointer t108)/\
nilK t108 λ a109=>
∃t110 t111 t112,w104.drew.cell? (a109.add 0)=some (.slice t110 t111 t112)/\
idxK t110 t111 t84 5 λ a113=>
∃t114,w104.drew.cell? (a113.add 2)=some (.int .i64 t114)/\
nilK x58 λ a115=>
∃t116,w104.drew.cell? (a115.add 3)=some (.int .i64 t116)/\
bsel (t114 == t116) (
Calls Tryz.prog 308 #[.pointer x58] w104.drew λ e117 w118=>∃t119 t120 t121 t122 t123,e117=.returned (.agg #[.int .i64 t119,.int .i64 t120,.bool t121,.int .i64 t122,.int .i64 t123])/\
stK w118 (x59.add 0) (.int .i64 t119) λ w124=>
stK w124 (x59.add 1) (.int .i64 t120) λ w125=>
stK w125 (x59.add 2) (.bool t121) λ w126=>
stK w126 (x59.add 3) (.int .i64 t122) λ w127=>
stK w127 (x59.add 4) (.int .i64 t123) λ w128=>
∃t129 t130 t131 t132 t133,CellsAt w128 x59 [.int .i64 t129,.int .i64 t130,.bool t131,.int .i64 t132,.int .i64 t133]/\
Q (.agg #[.int .i64 t129,.int .i64 t130,.bool t131,.int .i64 t132,.int .i64 t133]) w128) (
nilK x58 λ a134=>
stK w104.drew (a134.add 8) (.bool true) λ w135=>
nilK x58 λ a136=>
∃t137,w135.cell? (a136.add 0)=some (.pointer t137)/\
nilK t137 λ a138=>
∃t139,w135.cell? (a138.add 2)=some (.pointer t139)/\
nilK t139 λ a140=>
∃t141 t142 t143,w135.cell? (a140.add 0)=some (.slice t141 t142 t143)/\
idxK t141 t142 t84 5 λ a144=>
∃t145,w135.cell? (a144.add 2)=some (.int .i64 t145)/\
nilK x58 λ a146=>
stK w135 ((a146.add 11).add 0) (.int .i64 1) λ w147=>
stK w147 ((a146.add 11).add 1) (.int .i64 t145) λ w148=>
stK w148 ((a146.add 11).add 2) (.bool false) λ w149=>
stK w149 ((a146.add 11).add 3) (.int .i64 0) λ w150=>
stK w150 ((a146.add 11).add 4) (.int .i64 0) λ w151=>
nilK x58 λ a152=>
∃t153 t154 t155 t156 t157,CellsAt w151 (a152.add 11) [.int .i64 t153,.int .i64 t154,.bool t155,.int .i64 t156,.int .i64 t157]/\
stK w151 (x59.add 0) (.int .i64 t153) λ w158=>
stK w158 (x59.add 1) (.int .i64 t154) λ w159=>
stK w159 (x59.add 2) (.bool t155) λ w160=>
stK w160 (x59.add 3) (.int .i64 t156) λ w161=>
stK w161 (x59.add 4) (.int .i64 t157) λ w162=>
∃t163 t164 t165 t166 t167,CellsAt w162 x59 [.int .i64 t163,.int .i64 t164,.bool t165,.int .i64 t166,.int .i64 t167]/\
Q (.agg #[.int .i64 t163,.int .i64 t164,.bool t165,.int .i64 t166,.int .i64 t167]) w162)))
def V255J2 (Q:Value->World->Prop) (x43:Option Addr) (x44:Addr) (w45:World):Prop:=
nilK x43 λ a46=>
∃t47,w45.cell? (a46.add 0)=some (.pointer t47)/\
nilK t47 λ a48=>
∃t49,w45.cell? (a48.add 1)=some (.int .i64 t49)/\
nilK x43 λ a50=>
stK w45 (a50.add 6) (.int .i64 t49) λ w51=>
nilK x43 λ a52=>
∃t53,w51.cell? (a52.add 16)=some (.int .i64 t53)/\
nilK x43 λ a54=>
stK w51 (a54.add 16) (.int .i64 (IntKind.wrap .i64 (t53+1))) λ w55=>
nilK x43 λ a56=>
stK w55 (a56.add 9) (.bool false) λ w57=>
V255J1 Q x43 x44 w57
def V255J3 (Q:Value->World->Prop) (x28:Option Addr) (x29:Addr) (x30:Bool) (w31:World):Prop:=
bsel x30 (
nilK x28 λ a32=>
∃t33,w31.drew.cell? (a32.add 0)=some (.pointer t33)/\
nilK t33 λ a34=>
∃t35,w31.drew.cell? (a34.add 2)=some (.pointer t35)/\
nilK x28 λ a36=>
∃t37,w31.drew.cell? (a36.add 2)=some (.int .i64 t37)/\
Calls Tryz.prog 307 #[.pointer t35,.int .i64 t37] w31.drew λ e38 w39=>∃t40,e38=.returned (.pointer t40)/\
nilK x28 λ a41=>
stK w39 (a41.add 5) (.pointer t40) λ w42=>
V255J2 Q x28 x29 w42) (
V255J1 Q x28 x29 w31)
def V255J4 (Q:Value->World->Prop) (x6:Option Addr) (x7:Addr) (x8:Bool) (w9:World):Prop:=
bsel x8 (
nilK x6 λ a10=>
∃t11 t12 t13 t14 t15,CellsAt w9 (a10.add 11) [.int .i64 t11,.int .i64 t12,.bool t13,.int .i64 t14,.int .i64 t15]/\
stK w9 (x7.add 0) (.int .i64 t11) λ w16=>
stK w16 (x7.add 1) (.int .i64 t12) λ w17=>
stK w17 (x7.add 2) (.bool t13) λ w18=>
stK w18 (x7.add 3) (.int .i64 t14) λ w19=>
stK w19 (x7.add 4) (.int .i64 t15) λ w20=>
∃t21 t22 t23 t24 t25,CellsAt w20 x7 [.int .i64 t21,.int .i64 t22,.bool t23,.int .i64 t24,.int .i64 t25]/\
Q (.agg #[.int .i64 t21,.int .i64 t22,.bool t23,.int .i64 t24,.int .i64 t25]) w20) (
nilK x6 λ a26=>
∃t27,w9.drew.cell? (a26.add 5)=some (.pointer t27)/\
bsel (Option.isNone t27) (
V255J3 Q x6 x7 true w9.drew) (
nilK x6 λ a168=>
∃t169,w9.drew.cell? (a168.add 0)=some (.pointer t169)/\
nilK t169 λ a170=>
∃t171,w9.drew.cell? (a170.add 1)=some (.int .i64 t171)/\
nilK x6 λ a172=>
∃t173,w9.drew.cell? (a172.add 6)=some (.int .i64 t173)/\
V255J3 Q x6 x7 (t171 != t173) w9.drew))
def V255 (x1:Option Addr) (w:World) (Q:Value->World->Prop):Prop:=
newK w #[.int .i64 0,.int .i64 0,.bool false,.int .i64 0,.int .i64 0] 272 λ a2 w3=>
nilK x1 λ a4=>
∃t5,w3.cell? (a4.add 10)=some (.bool t5)/\
bsel t5 (
V255J4 Q x1 a2 true w3) (
nilK x1 λ a174=>
∃t175,w3.cell? (a174.add 8)=some (.bool t175)/\
V255J4 Q x1 a2 t175 w3)
def V255_ann:Nat->Ann:=λ _=>⟨[],[]⟩
theorem V255_sound (x1 w Q) (h:V255 x1 w Q):Calls Tryz.prog 255 #[.pointer x1] w λ e w'=>∃v,e=.returned v/\Q v w':=
 sound_of Tryz.func255 V255_ann rfl (Eq.mpr (by kernel_rfl) h)
def V256J1 (Q:Value->World->Prop) (x5:Option Addr) (x6 x7:Bool) (w8:World):Prop:=
bsel x7 (
Q (.int .i64 8) w8) (
nilK x5 λ a9=>
stK w8 (a9.add 8) (.bool false) λ w10=>
nilK x5 λ a11=>
stK w10 (a11.add 9) (.bool x6) λ w12=>
Q (.int .i64 0) w12)
def V256 (x1:Option Addr) (x2:Bool) (w:World) (Q:Value->World->Prop):Prop:=
nilK x1 λ a3=>
∃t4,w.cell? (a3.add 10)=some (.bool t4)/\
bsel t4 (
V256J1 Q x1 x2 true w) (
nilK x1 λ a13=>
∃t14,w.cell? (a13.add 8)=some (.bool t14)/\
V256J1 Q x1 x2 (!t14) w)
def V256_ann:Nat->Ann:=λ _=>⟨[],[]⟩
theorem V256_sound (x1 x2 w Q) (h:V256 x1 x2 w Q):Calls Tryz.prog 256 #[.pointer x1,.bool x2] w λ e w'=>∃v,e=.returned v/\Q v w':=
 sound_of Tryz.func256 V256_ann rfl (Eq.mpr (by kernel_rfl) h)
def V308J1 (Q:Value->World->Prop) (x90:Addr) (w91:World):Prop:=
∃t92 t93 t94 t95 t96,CellsAt w91 x90 [.int .i64 t92,.int .i64 t93,.bool t94,.int .i64 t95,.int .i64 t96]/\
Q (.agg #[.int .i64 t92,.int .i64 t93,.bool t94,.int .i64 t95,.int .i64 t96]) w91
def V308J2 (Q:Value->World->Prop) (x71:Option Addr) (x72 x73:Addr) (w74:World):Prop:=
∃t75,w74.drew.cell? (x73.add 3)=some (.int .i64 t75)/\
nilK x71 λ a76=>
∃t77,w74.drew.cell? (a76.add 7)=some (.int .i64 t77)/\
Calls Tryz.prog 348 #[.pointer x71,.agg #[.int .i64 2,.int .i64 0,.bool true,.int .i64 t75,.int .i64 t77]] w74.drew λ e78 w79=>∃t80 t81 t82 t83 t84,e78=.returned (.agg #[.int .i64 t80,.int .i64 t81,.bool t82,.int .i64 t83,.int .i64 t84])/\
stK w79 (x72.add 0) (.int .i64 t80) λ w85=>
stK w85 (x72.add 1) (.int .i64 t81) λ w86=>
stK w86 (x72.add 2) (.bool t82) λ w87=>
stK w87 (x72.add 3) (.int .i64 t83) λ w88=>
stK w88 (x72.add 4) (.int .i64 t84) λ w89=>
V308J1 Q x72 w89
def V308J3 (Q:Value->World->Prop) (x50:Option Addr) (x51 x52:Addr) (w53:World):Prop:=
nilK x50 λ a54=>
∃t55,w53.cell? (a54.add 1)=some (.int .i64 t55)/\
bsel (t55 == 3) (
nilK x50 λ a56=>
∃t57,w53.drew.cell? (a56.add 0)=some (.pointer t57)/\
nilK t57 λ a58=>
∃t59,w53.drew.cell? (a58.add 2)=some (.pointer t59)/\
nilK x50 λ a60=>
∃t61,w53.drew.cell? (a60.add 7)=some (.int .i64 t61)/\
Calls Tryz.prog 347 #[.pointer t59,.int .i64 t61] w53.drew λ e62 w63=>∃t64,e62=.returned (.int .i64 t64)/\
nilK x50 λ a65=>
∃t66,w63.cell? (a65.add 0)=some (.pointer t66)/\
nilK t66 λ a67=>
∃t68,w63.cell? (a67.add 1)=some (.int .i64 t68)/\
nilK t66 λ a69=>
stK w63 (a69.add 1) (.int .i64 (IntKind.wrap .i64 (t68+1))) λ w70=>
V308J2 Q x50 x51 x52 w70) (
V308J2 Q x50 x51 x52 w53)
def V308J4 (Q:Value->World->Prop) (x27:Option Addr) (x28 x29:Addr) (w30:World):Prop:=
nilK x27 λ a31=>
∃t32,w30.cell? (a31.add 1)=some (.int .i64 t32)/\
bsel (t32 == 2) (
nilK x27 λ a33=>
∃t34,w30.drew.cell? (a33.add 0)=some (.pointer t34)/\
nilK t34 λ a35=>
∃t36,w30.drew.cell? (a35.add 2)=some (.pointer t36)/\
nilK x27 λ a37=>
∃t38,w30.drew.cell? (a37.add 7)=some (.int .i64 t38)/\
nilK x27 λ a39=>
∃t40,w30.drew.cell? (a39.add 4)=some (.int .i64 t40)/\
Calls Tryz.prog 346 #[.pointer t36,.int .i64 t38,.int .i64 t40] w30.drew λ e41 w42=>∃t43,e41=.returned (.int .i64 t43)/\
nilK x27 λ a44=>
∃t45,w42.cell? (a44.add 0)=some (.pointer t45)/\
nilK t45 λ a46=>
∃t47,w42.cell? (a46.add 1)=some (.int .i64 t47)/\
nilK t45 λ a48=>
stK w42 (a48.add 1) (.int .i64 (IntKind.wrap .i64 (t47+1))) λ w49=>
V308J3 Q x27 x28 x29 w49) (
V308J3 Q x27 x28 x29 w30)
def V308 (x1:Option Addr) (w:World) (Q:Value->World->Prop):Prop:=
newK w #[.int .i64 0,.int .i64 0,.bool false,.int .i64 0,.int .i64 0] 272 λ a2 w3=>
nilK x1 λ a4=>
∃t5,w3.drew.cell? (a4.add 0)=some (.pointer t5)/\
nilK t5 λ a6=>
∃t7,w3.drew.cell? (a6.add 2)=some (.pointer t7)/\
nilK t7 λ a8=>
∃t9 t10 t11,w3.drew.cell? (a8.add 0)=some (.slice t9 t10 t11)/\
nilK x1 λ a12=>
∃t13,w3.drew.cell? (a12.add 7)=some (.int .i64 t13)/\
idxK t9 t10 t13 5 λ a14=>
∃t15 t16 t17 t18 t19,CellsAt w3.drew a14 [.bool t15,.int .i64 t16,.int .i64 t17,.int .i64 t18,.int .i64 t19]/\
newK w3.drew #[.bool false,.int .i64 0,.int .i64 0,.int .i64 0,.int .i64 0] 295 λ a20 w21=>
(CellsAt w21 a14 [.bool t15,.int .i64 t16,.int .i64 t17,.int .i64 t18,.int .i64 t19])/\
(w21.cell? (a12.add 7)=some (.int .i64 t13))/\
(w21.cell? (a8.add 0)=some (.slice t9 t10 t11))/\
(w21.cell? (a6.add 2)=some (.pointer t7))/\
(w21.cell? (a4.add 0)=some (.pointer t5))/\
stK w21 (a20.add 0) (.bool t15) λ w22=>
stK w22 (a20.add 1) (.int .i64 t16) λ w23=>
stK w23 (a20.add 2) (.int .i64 t17) λ w24=>
stK w24 (a20.add 3) (.int .i64 t18) λ w25=>
stK w25 (a20.add 4) (.int .i64 t19) λ w26=>
V308J4 Q x1 a2 a20 w26
def V308_ann:Nat->Ann:=λ _=>⟨[],[]⟩
theorem V308_sound (x1 w Q) (h:V308 x1 w Q):Calls Tryz.prog 308 #[.pointer x1] w λ e w'=>∃v,e=.returned v/\Q v w':=
 sound_of Tryz.func308 V308_ann rfl (Eq.mpr (by kernel_rfl) h)
def V310J1 (Q:Value->World->Prop) (x6:Option Addr) (x7:Addr) (x8:Bool) (w9:World):Prop:=
bsel x8 (
Calls Tryz.prog 348 #[.pointer x6,.agg #[.int .i64 2,.int .i64 0,.bool false,.int .i64 0,.int .i64 (-1)]] w9 λ e10 w11=>∃t12 t13 t14 t15 t16,e10=.returned (.agg #[.int .i64 t12,.int .i64 t13,.bool t14,.int .i64 t15,.int .i64 t16])/\
stK w11 (x7.add 0) (.int .i64 t12) λ w17=>
stK w17 (x7.add 1) (.int .i64 t13) λ w18=>
stK w18 (x7.add 2) (.bool t14) λ w19=>
stK w19 (x7.add 3) (.int .i64 t15) λ w20=>
stK w20 (x7.add 4) (.int .i64 t16) λ w21=>
∃t22 t23 t24 t25 t26,CellsAt w21 x7 [.int .i64 t22,.int .i64 t23,.bool t24,.int .i64 t25,.int .i64 t26]/\
Q (.agg #[.int .i64 t22,.int .i64 t23,.bool t24,.int .i64 t25,.int .i64 t26]) w21) (
nilK x6 λ a27=>
∃t28,w9.drew.cell? (a27.add 0)=some (.pointer t28)/\
nilK x6 λ a29=>
∃t30,w9.drew.cell? (a29.add 0)=some (.pointer t30)/\
nilK t30 λ a31=>
∃t32,w9.drew.cell? (a31.add 0)=some (.int .i64 t32)/\
Calls Tryz.prog 350 #[.pointer t28] w9.drew λ e33 w34=>∃t35,e33=.returned (.int .i64 t35)/\
(w34.cell? (a31.add 0)=some (.int .i64 t32))/\
(w34.cell? (a29.add 0)=some (.pointer t30))/\
bsel (decide (t35>=t32)) (
Calls Tryz.prog 348 #[.pointer x6,.agg #[.int .i64 3,.int .i64 0,.bool false,.int .i64 0,.int .i64 0]] w34 λ e36 w37=>∃t38 t39 t40 t41 t42,e36=.returned (.agg #[.int .i64 t38,.int .i64 t39,.bool t40,.int .i64 t41,.int .i64 t42])/\
stK w37 (x7.add 0) (.int .i64 t38) λ w43=>
stK w43 (x7.add 1) (.int .i64 t39) λ w44=>
stK w44 (x7.add 2) (.bool t40) λ w45=>
stK w45 (x7.add 3) (.int .i64 t41) λ w46=>
stK w46 (x7.add 4) (.int .i64 t42) λ w47=>
∃t48 t49 t50 t51 t52,CellsAt w47 x7 [.int .i64 t48,.int .i64 t49,.bool t50,.int .i64 t51,.int .i64 t52]/\
Q (.agg #[.int .i64 t48,.int .i64 t49,.bool t50,.int .i64 t51,.int .i64 t52]) w47) (
nilK x6 λ a53=>
∃t54,w34.drew.cell? (a53.add 0)=some (.pointer t54)/\
nilK t54 λ a55=>
∃t56,w34.drew.cell? (a55.add 2)=some (.pointer t56)/\
nilK x6 λ a57=>
∃t58,w34.drew.cell? (a57.add 2)=some (.int .i64 t58)/\
nilK x6 λ a59=>
∃t60,w34.drew.cell? (a59.add 3)=some (.int .i64 t60)/\
nilK x6 λ a61=>
∃t62,w34.drew.cell? (a61.add 4)=some (.int .i64 t62)/\
Calls Tryz.prog 351 #[.pointer t56,.int .i64 t58,.int .i64 t60,.int .i64 t62] w34.drew λ e63 w64=>∃t65 t66,e63=.returned (.tuple #[.int .i64 t65,.int .i64 t66])/\
nilK x6 λ a67=>
∃t68,w64.cell? (a67.add 0)=some (.pointer t68)/\
nilK t68 λ a69=>
∃t70,w64.cell? (a69.add 1)=some (.int .i64 t70)/\
nilK t68 λ a71=>
stK w64 (a71.add 1) (.int .i64 (IntKind.wrap .i64 (t70+1))) λ w72=>
nilK x6 λ a73=>
∃t74,w72.cell? (a73.add 4)=some (.int .i64 t74)/\
Calls Tryz.prog 348 #[.pointer x6,.agg #[.int .i64 2,.int .i64 0,.bool false,.int .i64 t74,.int .i64 t65]] w72 λ e75 w76=>∃t77 t78 t79 t80 t81,e75=.returned (.agg #[.int .i64 t77,.int .i64 t78,.bool t79,.int .i64 t80,.int .i64 t81])/\
stK w76 (x7.add 0) (.int .i64 t77) λ w82=>
stK w82 (x7.add 1) (.int .i64 t78) λ w83=>
stK w83 (x7.add 2) (.bool t79) λ w84=>
stK w84 (x7.add 3) (.int .i64 t80) λ w85=>
stK w85 (x7.add 4) (.int .i64 t81) λ w86=>
∃t87 t88 t89 t90 t91,CellsAt w86 x7 [.int .i64 t87,.int .i64 t88,.bool t89,.int .i64 t90,.int .i64 t91]/\
Q (.agg #[.int .i64 t87,.int .i64 t88,.bool t89,.int .i64 t90,.int .i64 t91]) w86))
def V310 (x1:Option Addr) (w:World) (Q:Value->World->Prop):Prop:=
newK w #[.int .i64 0,.int .i64 0,.bool false,.int .i64 0,.int .i64 0] 272 λ a2 w3=>
nilK x1 λ a4=>
∃t5,w3.cell? (a4.add 1)=some (.int .i64 t5)/\
bsel (t5 == 1) (
V310J1 Q x1 a2 true w3) (
nilK x1 λ a92=>
∃t93,w3.cell? (a92.add 1)=some (.int .i64 t93)/\
V310J1 Q x1 a2 (t93 == 3) w3)
def V310_ann:Nat->Ann:=λ _=>⟨[],[]⟩
theorem V310_sound (x1 w Q) (h:V310 x1 w Q):Calls Tryz.prog 310 #[.pointer x1] w λ e w'=>∃v,e=.returned v/\Q v w':=
 sound_of Tryz.func310 V310_ann rfl (Eq.mpr (by kernel_rfl) h)
end Go.Fw
