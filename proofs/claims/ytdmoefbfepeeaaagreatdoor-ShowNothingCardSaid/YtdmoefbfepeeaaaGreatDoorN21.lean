/- Part of a proof over the given program: texts of lemmas (conditions: none beyond each lemma as stated). -/
import Derived.Test.YtdmoefbfepeeaaaGreatDoorN20
import Derived.Shelf.Unicode.ValidAny
import Derived.Test.YtdmoefbfepeeaaaGreatDoorProg
set_option linter.unnecessarySimpa false
set_option linter.unusedVariables false
set_option linter.unusedSimpArgs false

namespace Go.Proofs
open Go.Shelf
def Tryz.lays196_ren:Go.Shelf.Ren:=⟨λ | 196=>136 | 259=>209 | n=>n,λ | 9=>9 | 4=>4 | 3=>3 | 5=>5 | 12=>12 | 119=>327 | 0=>0 | 46=>46 | 139=>330 | 138=>329 | 53=>44 | n=>n,λ | 3=>1 | 4=>2 | n=>n⟩
theorem Tryz.lays196:Go.Proofs.Lays.n196 Tryz.prog Tryz.lays196_ren:={
 mixed:=by kernel_rfl
 f196:=Tryz.func136.trans (congrArg some (by kernel_rfl))
 f259:=Tryz.func209.trans (congrArg some (by kernel_rfl))
 t0:=Tryz.underlying0
 a0:=Tryz.isAgg0
 z0:=Tryz.sizeOf0
 v0:=Tryz.zeroValue0
 t3:=Tryz.underlying3
 a3:=Tryz.isAgg3
 z3:=Tryz.sizeOf3
 v3:=Tryz.zeroValue3
 t4:=Tryz.underlying4
 a4:=Tryz.isAgg4
 z4:=Tryz.sizeOf4
 v4:=Tryz.zeroValue4
 t5:=Tryz.underlying5
 a5:=Tryz.isAgg5
 z5:=Tryz.sizeOf5
 v5:=Tryz.zeroValue5
 t9:=Tryz.underlying9
 a9:=Tryz.isAgg9
 z9:=Tryz.sizeOf9
 v9:=Tryz.zeroValue9
 t12:=Tryz.underlying12
 a12:=Tryz.isAgg12
 z12:=Tryz.sizeOf12
 v12:=Tryz.zeroValue12
 t46:=Tryz.underlying46
 a46:=Tryz.isAgg46
 z46:=Tryz.sizeOf46
 v46:=Tryz.zeroValue46
 t53:=Tryz.underlying44
 a53:=Tryz.isAgg44
 z53:=Tryz.sizeOf44
 v53:=Tryz.zeroValue44
 t119:=Tryz.underlying327
 a119:=Tryz.isAgg327
 z119:=Tryz.sizeOf327
 t138:=Tryz.underlying329
 a138:=Tryz.isAgg329
 z138:=Tryz.sizeOf329
 v138:=Tryz.zeroValue329
 t139:=Tryz.underlying330
 a139:=Tryz.isAgg330
 z139:=Tryz.sizeOf330
 v139:=Tryz.zeroValue330
 g3:=by kernel_rfl
 g4:=by kernel_rfl }
end Go.Proofs

namespace Go.Fw
open Go.Proofs Go.RowKit
theorem C136_gen (x:ByteArray) (hx:x.size<1000000000000000) (w:World) (hT:Lib.Utf8Tabs 1 2 w):Calls Tryz.prog 136 #[.string x] w λ e w'=>e=.returned (.bool (Lib.validD x.data.toList))/\Keep No w w':=by
 refine (Any.utf8_ValidString Tryz.lays196 x w (by omega) hT).mono ?_
 rintro _ w' ⟨rfl,h⟩
 exact ⟨rfl,Keep.of_below h⟩
theorem C81_gen (x:ByteArray) (hx:x.size<1000000000000000) (w:World) (hT:Lib.Utf8Tabs 1 2 w):Calls Tryz.prog 81 #[.string x] w λ e w'=>e=.returned (.bool (Lib.validD x.data.toList))/\Keep No w w':=by
 refine ret_mono (V81_sound _ w (λ r w'=>r=.bool (Lib.validD x.data.toList)/\Keep No w w') ?_) (by rintro _ _ ⟨rfl,h⟩;exact ⟨rfl,h⟩)
 unfold V81
 refine (C136_gen x hx w hT).mono ?_
 rintro _ w' ⟨rfl,hk⟩
 exact ⟨_,rfl,rfl,hk⟩
theorem tabs_no {w w':World} (h:Lib.Utf8Tabs 1 2 w) (hk:Keep No w w'):Lib.Utf8Tabs 1 2 w':=
 ⟨λ c hc=>hk.cell (h.1 c hc) id,λ i hi=>⟨hk.cell (h.2 i hi).1 id,hk.cell (h.2 i hi).2 id⟩⟩
def kindB (k:Int):Bool:=decide ((1<=k/\k<=9)\/k=14\/(15<=k/\k<=17))
noncomputable def errT (ts:List Tm) (mss:Nat->List Int) (its:Nat->ByteArray) (pairs:Int) (i:Nat) (t:Tm) (ks:List Int):Int:=
 if kindB t.kind=false then 12 else if badK ts i t ks then 1 else if t.kind=4/\Lib.validD t.text.data.toList=false then 1 else if bigB ts mss its pairs i t ks then 3 else 0
section
variable {w:World} {s b B:Nat} {ta:Option Addr} {tc:Nat} {ts:List Tm} {mss:Nat->List Int} {its:Nat->ByteArray} {rv:Value} {pairs:Int}
theorem kidBad_false {n i:Nat} {ts:List Tm} {t:Tm} {k:Int} (h:kidBad ts i t k=false):0<=k/\k<limit ts.length i t:=by
 unfold kidBad at h
 simp at h
 omega
theorem keysL_kid {t:Tm} {ks:List Int} {p:Int->Prop} (h:∀(j:Nat) (k:Int),ks[j]?=some k->p k):∀(j:Nat) (k:Int),(keysL t ks)[j]?=some k->p k:=by
 intro j k hj
 unfold keysL at hj
 split at hj
 ·exact h j k hj
 ·split at hj
  ·unfold evens at hj
   rw [List.getElem?_map] at hj
   obtain ⟨m,hm,rfl⟩:=Option.map_eq_some_iff.1 hj
   have hlt:m<(ks.length+1) / 2:=List.mem_range.1 (List.mem_of_getElem? hm)
   have h2:2*m<ks.length:=by omega
   rw [List.getD_eq_getElem?_getD,List.getElem?_eq_getElem h2]
   exact h (2*m) _ (List.getElem?_eq_getElem h2)
  ·simp at hj
theorem C39_gen (hb:Blk w b 92 [.pointer (some ⟨s,0,none⟩),.slice ta ts.length tc,rv]) (hL:LowAt w B ta ts mss) (hB:B<=w.heap.size) (hpairs:w.cell? ⟨s,1,none⟩=some (.int .i64 pairs)) (hT:Lib.Utf8Tabs 1 2 w) (hts:ts.length<1000000) {n:Nat} {t:Tm} (ht:ts[n]?=some t) {ks:List Int} (hks:KidsAt w t ks) (hkb:∀p,t.ka=some p->0<t.kl->p.block<B) (hkl:t.kl<100000000000) (htx:t.text.size<1000000000000000)
  (hms:∀(x:Nat) (u:Tm),ts[x]?=some u->(mss x).length<10000000000/\(∀m ∈ mss x,0<=m/\m<4294967296)/\u.text.size<1000000000000000)
  (hit:∀(x:Nat),x<ts.length->(∀w1,Keep No w w1->Calls Tryz.prog 77 #[.int .i64 x] w1 λ e w'=>e=.returned (.string (its x))/\Keep No w1 w')/\(its x).size<1000) :
  Calls Tryz.prog 39 #[.pointer (some ⟨b,0,none⟩),.int .i64 n] w λ e w'=>e=.returned (.int .i64 (errT ts mss its pairs n t ks))/\Keep No w w':=by
 refine ret_mono (V39_sound _ _ w (λ r w'=>r=.int .i64 (errT ts mss its pairs n t ks)/\Keep No w w') ?_) (by rintro _ _ ⟨rfl,h⟩;exact ⟨rfl,h⟩)
 have hn:n<ts.length:=(List.getElem?_eq_some_iff.1 ht).1
 obtain ⟨p,rfl,hc⟩:=hL.tm _ t ht
 unfold V39
 rw [nilK_some]
 refine ⟨_,_,_,hb.add 1 rfl,idxK_of hn ⟨_,_,_,_,_,_,_,_,_,_,_,_,hc,termCopy λ c w1 hc1 hk1 hcs=>⟨_,hc1.add 0 rfl,(C79 _ w1).mono ?_⟩⟩⟩
 rintro _ w1' ⟨rfl,rfl⟩
 refine ⟨kindB t.kind,rfl,bsel_split (λ h=>⟨?_,hk1⟩) λ hkind=>?_⟩
 ·unfold errT;rw [if_pos (by simpa using h)]
 have hkd:kindB t.kind=true:=by simpa using hkind
 refine (C80_gen (hk1.nblk hb) (hL.tm.no hk1) hts ht (hks.no hk1) hkb hkl).mono ?_
 rintro _ w2 ⟨rfl,hk2⟩
 have hk02:=hk1.no hk2
 refine ⟨_,rfl,bsel_split (λ hbk=>?_) λ hbk=>?_⟩
 ·unfold V39J1
  exact bsel_pos rfl ⟨by unfold errT;rw [if_neg (by rw [hkd];decide),if_pos hbk],hk02⟩
 have hkid:∀(j:Nat) (k:Int),ks[j]?=some k->0<=k/\k<ts.length:=by
  intro j k hj
  unfold badK at hbk
  rw [Bool.or_eq_false_iff,any_false] at hbk
  obtain ⟨q1,q2⟩:=kidBad_false (n:=n) (hbk.1 k (List.mem_of_getElem? hj))
  unfold limit at q2
  split at q2 <;> omega
 have hend:∀g w3,Keep No w w3->(g=decide (t.kind=4/\Lib.validD t.text.data.toList=false))->V39J1 (λ r w'=>r=Value.int .i64 (errT ts mss its pairs n t ks)/\Keep No w w') (some ⟨b,0,none⟩) n g w3:=by
  rintro g w3 hk3 rfl
  unfold V39J1
  refine bsel_split (λ hg=>⟨?_,hk3⟩) λ hg=>?_
  ·unfold errT;rw [if_neg (by rw [hkd];decide),if_neg (by rw [hbk];decide),if_pos (by simpa using hg)]
  ·refine (C82_gen (hk3.nblk hb) (hL.no hk3) (by have:=hk3.size;omega) (hk3.cell hpairs id) ht (hks.no hk3) hkb hkl htx (keysL_kid hkid) hms (λ x hx=>⟨λ w4 hk4=>(hit x hx).1 w4 (hk3.no hk4),(hit x hx).2⟩)).mono ?_
   rintro _ w4 ⟨rfl,hk4⟩
   have e1:errT ts mss its pairs n t ks=if bigB ts mss its pairs n t ks then 3 else 0:=by
    unfold errT;rw [if_neg (by rw [hkd];decide),if_neg (by rw [hbk];decide),if_neg (by simpa using hg)]
   rw [e1]
   exact ⟨_,rfl,bsel_split (λ hh=>⟨by rw [if_pos hh],hk3.no hk4⟩) λ hh=>⟨by rw [if_neg (by rw [hh];decide)],hk3.no hk4⟩⟩
 refine ⟨_,(hk2.nblk hc1).add 0 rfl,?_⟩
 refine bsel_split (λ h4=>?_) λ h4=>hend _ _ hk02 ?_
 ·have h4:t.kind=4:=by simpa using h4
  refine ⟨_,(hk2.nblk hc1).add 4 rfl,(C81_gen _ htx w2 (tabs_no hT hk02)).mono ?_⟩
  rintro _ w3 ⟨rfl,hk3⟩
  exact ⟨_,rfl,hend _ _ (hk02.no hk3) (by simp [h4])⟩
 ·have h4:t.kind≠4:=by simpa using h4
  simp [h4]
end
end Go.Fw

namespace Go.Fw
open Go.Proofs Go.RowKit
theorem isKeyB_K {t:Tm} (h:isKeyB t=true):isKeyK t:=by
 unfold isKeyB at h
 unfold isKeyK
 simp at h
 omega
theorem fine_of_err {ts:List Tm} {mss:Nat->List Int} {its:Nat->ByteArray} {pairs:Int} {i:Nat} {t:Tm} {ks:List Int} (hkl:t.kl<100000000000) (h:errT ts mss its pairs i t ks=0):FineT ts i t ks:=by
 unfold errT at h
 split at h
 ·omega
 rename_i hk
 split at h
 ·omega
 rename_i hb
 have hk:kindB t.kind=true:=by simpa using hk
 have hb:badK ts i t ks=false:=by simpa using hb
 unfold badK at hb
 rw [Bool.or_eq_false_iff,Bool.or_eq_false_iff,any_false,any_false] at hb
 obtain ⟨b1,b2,b3⟩:=hb
 have hkind:(1<=t.kind/\t.kind<=9)\/t.kind=14\/(15<=t.kind/\t.kind<=17):=by unfold kindB at hk;exact of_decide_eq_true hk
 have hkid:∀(j:Nat) (k:Int),ks[j]?=some k->0<=k/\k<limit ts.length i t:=λ j k hj=>kidBad_false (n:=0) (b1 k (List.mem_of_getElem? hj))
 refine ⟨hkind,hkl,hkid,λ h7=>?_,λ j k hj u hu=>?_,λ hv=>?_⟩
 ·unfold shapeBad at b3
  rw [if_neg (by omega),if_pos h7] at b3
  simp at b3
  omega
 ·have:=b2 k (List.mem_of_getElem? hj)
  unfold keyBad at this
  rw [hu] at this
  simp at this
  exact isKeyB_K this
 ·have hv':t.kind=15\/t.kind=16\/t.kind=17:=by omega
  unfold shapeBad at b3
  rw [if_neg (by omega),if_neg (by omega),if_pos hv'] at b3
  simp at b3
  obtain ⟨k,rfl⟩:∃k,ks=[k]:=List.length_eq_one_iff.1 b3.1
  obtain ⟨q1,q2⟩:=hkid 0 k rfl
  unfold limit at q2
  rw [if_neg (by omega)] at q2
  exact ⟨k.toNat,by simp;omega,by omega⟩
end Go.Fw

namespace Go.Fw
open Go.Proofs Go.RowKit
section
variable {n tc c:Nat} {al is:Nat->Nat->Bool} {num:Nat->Int} {ref L:Nat->Nat} {ins:Nat->Bool} {s:Nat} {a ta:Option Addr} {Inv:World->Prop} {w:World} {Q:Value->World->Prop}
end
end Go.Fw

namespace Go.Fw
open Go.Proofs Go.RowKit
end Go.Fw
