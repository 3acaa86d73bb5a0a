/- Part of a proof over the given program: texts of lemmas (conditions: none beyond each lemma as stated). -/
import Derived.Test.YtdmoefbfepeeaaaGreatDoorN19
import Derived.Maps.OwnSet
import Derived.StringKeys
set_option linter.unnecessarySimpa false
set_option linter.unusedVariables false
set_option linter.unusedSimpArgs false

namespace Go.Fw
open Go.Proofs Go.RowKit
theorem textW_size {neg:Bool} {ms:List Int} (hl:ms.length<10000000000) (hr:∀m ∈ ms,0<=m/\m<4294967296):(textW neg (valI ms)).size<9000000000000000:=by
 have hlt:∀m ∈ (trimmed ms).map Int.toNat,m<4294967296:=λ m hm=>by
  rw [List.mem_map] at hm
  obtain ⟨x,hx,rfl⟩:=hm
  have:=hr x (List.mem_of_mem_take hx)
  omega
 have hV:=valW_lt _ hlt
 rw [List.length_map] at hV
 have htl:=trimmed_length_le ms
 have hk:lenP (valI ms)<=32*(trimmed ms).length:=by
  obtain ⟨k,h1,h2,h3⟩:=least_of (λ k=>pieceAt (valI ms) k=0) _ (pieceAt_zero _ _ hV)
  rw [lenP_eq (k:=k) ⟨h1,h3⟩]
  exact h2
 have hT:(textB (valI ms)).length<=9*lenP (valI ms):=by
  unfold textB
  refine Nat.le_trans (dropWhile_len _ _) ?_
  rw [<-outB_all,outB_len _ _ (by rw [pieces_len];omega)]
  omega
 have e2:(⟨(textB (valI ms)).toArray⟩:ByteArray).size=(textB (valI ms)).length:=by show (textB (valI ms)).toArray.size=_;simp
 unfold textW
 split
 ·exact (by decide:(1:Nat)<9000000000000000)
 ·split
  ·rw [ByteArray.size_append,e2]
   have e1:(⟨#[45]⟩:ByteArray).size=1:=rfl
   rw [e1];omega
  ·rw [e2];omega
noncomputable def seenC (D:DataW Unit) (k:List UInt8):Int:=match D.atKey (.string k) (.lit (.int .i64 0)) with
 | .lit (.int _ c)=>c
 | _=>0
noncomputable def seenStep (D:DataW Unit) (s:ByteArray):DataW Unit:=D.put (.string s.data.toList) (.lit (.int .i64 (IntKind.wrap .i64 (seenC D s.data.toList+1))))
noncomputable def seenD (l:List ByteArray):DataW Unit:=l.foldl seenStep (.map [])
theorem seenD_snoc (l:List ByteArray) (s:ByteArray):seenD (l ++ [s])=seenStep (seenD l) s:=by unfold seenD;rw [List.foldl_append];rfl
theorem seen_step {w:World} {m n:Nat} {D:DataW Unit} {s:ByteArray} (h:w.ownsMap Tryz.prog 9 (plainElem Tryz.prog 3) m n D) (hn:n<maxLen) (hs:s.size<=maxLen) {K:World->Prop} (hK:∀w',w'.ownsMap Tryz.prog 9 (plainElem Tryz.prog 3) m (n+1) (seenStep D s)->Keep (λ k=>k=m) w w'->K w') :
  ∃w81:World,∃t82:Int,(Instr.lookup 259 (.map (some m)) (.string s) false).run Tryz.prog w=.ok (.int .i64 t82) w81/\
  ∃w83:World,(Instr.mapUpdate 259 (.map (some m)) (.string s) (.int .i64 (IntKind.wrap .i64 (t82+1)))).run Tryz.prog w81=.ok () w83/\K w83:=by
 have hKy:=Go.Maps.string_keyed Tryz.underlying9
 obtain ⟨c,hr,hat,hwf⟩:=h.lookup_int hKy Tryz.underlying259 Tryz.underlying3 (Tryz.zeroValue3 _) (Go.WideMaps.keyOf_string_mk Tryz.underlying9 hs)
 have hc:seenC D s.data.toList=c:=by unfold seenC;rw [hat]
 obtain ⟨w',hr2,h2,hg2⟩:=h.update hKy Tryz.underlying259 hn (Go.WideMaps.keyOf_string_mk Tryz.underlying9 hs) (val:=.int .i64 (IntKind.wrap .i64 (c+1))) (plainElem_int Tryz.underlying3 (wrap_wf (c+1)))
 refine ⟨w,c,hr,w',hr2,hK w' ?_ ((Keep.of_grown hg2).mono λ k _ e=>(Option.some.inj e).symm)⟩
 unfold seenStep
 rw [hc]
 exact h2
end Go.Fw

namespace Go.Fw
open Go.Proofs Go.RowKit
noncomputable def keyTexts (ts:List Tm) (mss:Nat->List Int) (its:Nat->ByteArray) (l:List Int):List ByteArray:=l.map λ k=>match ts[k.toNat]? with
 | some u=>sameT u (mss k.toNat) (its k.toNat)
 | none=>⟨#[]⟩
noncomputable def bigB (ts:List Tm) (mss:Nat->List Int) (its:Nat->ByteArray) (pairs:Int) (i:Nat) (t:Tm) (ks:List Int):Bool:=
 if t.kind=4 then decide ((Lib.runeCount t.text:Int)>65536) else if t.kind=3 then decide (((trimmed (mss i)).length:Int)>256) else if t.kind=5\/t.kind=6 then decide ((t.kl:Int)>65536) else
 decide (Maps.size (seenD (keyTexts ts mss its (keysL t ks)))>pairs)
theorem sameT_size {t:Tm} {ms:List Int} {it:ByteArray} (h1:∀ng,(textW ng (valI ms)).size<9000000000000000) (h2:t.text.size<1000000000000000) (h3:it.size<1000):(sameT t ms it).size<=9000000000000001:=by
 unfold sameT
 repeat' split
 ·exact (by decide:(4:Nat)<=9000000000000001)
 ·exact (by decide:(2:Nat)<=9000000000000001)
 ·exact (by decide:(2:Nat)<=9000000000000001)
 ·rw [ByteArray.size_append];have:=h1 t.neg;have e1:(⟨#[105]⟩:ByteArray).size=1:=rfl;omega
 ·rw [ByteArray.size_append];have e1:(⟨#[115]⟩:ByteArray).size=1:=rfl;omega
 ·rw [ByteArray.size_append];have e1:(⟨#[111]⟩:ByteArray).size=1:=rfl;omega
section
variable {w:World} {s b B:Nat} {ta:Option Addr} {tc:Nat} {ts:List Tm} {mss:Nat->List Int} {its:Nat->ByteArray} {rv:Value} {pairs:Int}
theorem C82_gen (hb:Blk w b 92 [.pointer (some ⟨s,0,none⟩),.slice ta ts.length tc,rv]) (hL:LowAt w B ta ts mss) (hB:B<=w.heap.size) (hpairs:w.cell? ⟨s,1,none⟩=some (.int .i64 pairs)) {n:Nat} {t:Tm} (ht:ts[n]?=some t) {ks:List Int} (hks:KidsAt w t ks) (hkb:∀p,t.ka=some p->0<t.kl->p.block<B) (hkl:t.kl<100000000000) (htx:t.text.size<1000000000000000)
  (hkid:∀(j:Nat) (k:Int),(keysL t ks)[j]?=some k->0<=k/\k<ts.length)
  (hms:∀(x:Nat) (u:Tm),ts[x]?=some u->(mss x).length<10000000000/\(∀m ∈ mss x,0<=m/\m<4294967296)/\u.text.size<1000000000000000)
  (hit:∀(x:Nat),x<ts.length->(∀w1,Keep No w w1->Calls Tryz.prog 77 #[.int .i64 x] w1 λ e w'=>e=.returned (.string (its x))/\Keep No w1 w')/\(its x).size<1000) :
  Calls Tryz.prog 82 #[.pointer (some ⟨b,0,none⟩),.int .i64 n] w λ e w'=>e=.returned (.bool (bigB ts mss its pairs n t ks))/\Keep No w w':=by
 refine ret_mono (V82_sound _ _ w (λ r w'=>r=.bool (bigB ts mss its pairs n t ks)/\Keep No w w') ?_) (by rintro _ _ ⟨rfl,h⟩;exact ⟨rfl,h⟩)
 have hnl:n<ts.length:=(List.getElem?_eq_some_iff.1 ht).1
 have hlen:=hks.1
 obtain ⟨p,rfl,hc⟩:=hL.tm _ t ht
 unfold V82
 rw [nilK_some]
 refine ⟨_,_,_,hb.add 1 rfl,idxK_of hnl ⟨_,_,_,_,_,_,_,_,_,_,_,_,hc,termCopy λ c w1 hc1 hk1 hcs=>⟨_,hc1.add 0 rfl,?_⟩⟩⟩
 refine bsel_split (λ h4=>?_) λ h4=>bsel_split (λ h3=>?_) λ h3=>?_
 ·have h4:t.kind=4:=by simpa using h4
  refine ⟨_,hc1.add 4 rfl,(C71 t.text htx w1).mono ?_⟩
  rintro _ w2 ⟨rfl,hk2⟩
  exact ⟨_,rfl,by unfold bigB;rw [if_pos h4],hk1.no hk2⟩
 ·have h3:t.kind=3:=by simpa using h3
  obtain ⟨⟨m1,m2,m3,m4⟩,_⟩:=(hL.inp n t ht).1
  refine ⟨_,_,_,_,hc1.cellsAdd 2 rfl,?_⟩
  rw [m2]
  refine (C85 (m1.no hk1) m3 m4).mono ?_
  rintro _ w2 ⟨y,rfl,hy,hk2⟩
  obtain ⟨a',c',hya,_⟩:=hy.cells
  exact ⟨_,_,_,_,by rw [hya],by unfold bigB;rw [if_neg (by omega),if_pos h3],hk1.no hk2⟩
 have h4:t.kind≠4:=by simpa using h4
 have h3:t.kind≠3:=by simpa using h3
 have hrow:(t.kind=5\/t.kind=6)->V82J1 (λ r w'=>r=.bool (bigB ts mss its pairs n t ks)/\Keep No w w') (some ⟨b,0,none⟩) ⟨c,0,none⟩ true w1:=λ h=>by
  unfold V82J1
  exact bsel_pos rfl ⟨_,_,_,hc1.add 5 rfl,by unfold bigB;rw [if_neg h4,if_neg h3,if_pos h],hk1⟩
 refine bsel_split (λ h5=>hrow (.inl (by simpa using h5))) λ h5=>?_
 have h5:t.kind≠5:=by simpa using h5
 by_cases h6:t.kind=6
 ·rw [show (t.kind == 6)=true by simp [h6]]
  exact hrow (.inr h6)
 rw [show (t.kind == 6)=false by simp [h6]]
 have hbig:bigB ts mss its pairs n t ks=decide (Maps.size (seenD (keyTexts ts mss its (keysL t ks)))>pairs):=by unfold bigB;rw [if_neg h4,if_neg h3,if_neg (by omega)]
 rw [hbig]
 unfold V82J1
 refine bsel_neg rfl ⟨_,_,run_makeMap _ w1,?_⟩
 have hkm:=Keep.fresh w1 (.map #[] 0)
 have hc2:=hkm.nblk hc1
 have hk02:=hk1.no hkm
 have hm0:=World.ownsMap_made (H:=Unit) w1 Tryz.prog 9 (plainElem Tryz.prog 3)
 have hs1:=hk1.size
 have hkL:(keysL t ks).length<=t.kl:=by
  unfold keysL
  split
  ·omega
  ·split
   ·rw [evens_len];omega
   ·simp
 refine ⟨_,_,_,_,_,_,_,_,_,_,_,_,hc2.cells0,(C134_gen (B:=B) (hks.no hk02) hkb (by omega)).mono ?_⟩
 rintro _ w3 ⟨ka,kc,rfl,hkeys,hk3⟩
 have hk03:=hk02.no hk3
 have hmap3:w3.ownsMap Tryz.prog 9 (plainElem (H:=Unit) Tryz.prog 3) w1.heap.size 0 (.map []):=by
  obtain ⟨es,clock,q1,q2⟩:=hm0
  exact ⟨es,clock,by rw [hk3.block _ (Array.getElem?_eq_some_iff.1 q1).1 id];exact q1,q2⟩
 have hk2m:w1.heap.size<w3.heap.size:=hmap3.lt
 refine ⟨_,_,_,rfl,λ i w'=>0<=i/\i<=(keysL t ks).length/\Keep No w w'/\Keep (λ k=>k=w1.heap.size) w3 w'/\w'.ownsMap Tryz.prog 9 (plainElem Tryz.prog 3) w1.heap.size i.toNat (seenD (keyTexts ts mss its ((keysL t ks).take i.toNat))),λ i _=>((keysL t ks).length-i).toNat,⟨by omega,by omega,hk03,Keep.refl _ _,hmap3⟩,?_⟩
 rintro j i w4 ⟨hi0,hin,hk4,hk34,hmap⟩
 have hb4:=hk4.nblk hb
 refine bsel_split (λ hlt=>?_) λ hge=>?_
 ·simp at hlt
  obtain ⟨m,rfl⟩:=Int.eq_ofNat_of_zero_le hi0
  simp only [Int.toNat_natCast] at hmap
  obtain ⟨k,hkm'⟩:∃k,(keysL t ks)[m]?=some k:=⟨_,List.getElem?_eq_getElem (by omega)⟩
  have hkeys4:=hkeys.keep hk34 λ x _ e=>by subst e;exact ⟨by omega,by
   obtain ⟨es,clock,q1,_⟩:=hmap3
   rw [etype_none q1 (by intros;simp)];simp⟩
  obtain ⟨q,hq,hqc,_⟩:=hkeys4 m k hkm'
  obtain ⟨kr1,kr2⟩:=hkid m k hkm'
  obtain ⟨x,rfl⟩:=Int.eq_ofNat_of_zero_le kr1
  obtain ⟨u,hu⟩:∃u,ts[x]?=some u:=⟨_,List.getElem?_eq_getElem (by omega)⟩
  obtain ⟨e1,e2,e3⟩:=hms x u hu
  rw [hq]
  refine idxK_of (by omega) ⟨x,by rw [Nat.mul_one];exact hqc,(C137_gen hb4 (hL.no hk4).tm hu ((hL.no hk4).inp x u hu).1 e1 e2 (λ ng=>by have:=textW_size (neg:=ng) e1 e2;omega) (λ w5 hk5=>(hit x (by omega)).1 w5 (hk4.no hk5)) (hit x (by omega)).2).mono ?_⟩
  rintro _ w5 ⟨rfl,hk5⟩
  have hmap5:w5.ownsMap Tryz.prog 9 (plainElem (H:=Unit) Tryz.prog 3) w1.heap.size m (seenD (keyTexts ts mss its ((keysL t ks).take m))):=by
   obtain ⟨es,clock,q1,q2⟩:=hmap
   exact ⟨es,clock,by rw [hk5.block _ (Array.getElem?_eq_some_iff.1 q1).1 id];exact q1,q2⟩
  have hw:IntKind.wrap .i64 ((m:Int)+1)=(m:Int)+1:=wrap_i64 (by omega)
  rw [hw]
  refine ⟨_,rfl,seen_step hmap5 (by unfold maxLen;omega) ?_ λ w6 hmap6 hk6=>⟨⟨by omega,by omega,(hk4.no hk5).news hk6 λ y e=>by omega,(hk34.no hk5).trans hk6 λ _ _ e=>e,?_⟩,?_⟩⟩
  ·have hmx:(9000000000000001:Nat)<=maxLen:=by unfold maxLen;omega
   exact Nat.le_trans (sameT_size (λ ng=>textW_size (neg:=ng) e1 e2) e3 (hit x (by omega)).2) hmx
  ·rw [show ((m:Int)+1).toNat=m+1 by omega]
   obtain ⟨hml,hme⟩:=List.getElem?_eq_some_iff.1 hkm'
   have e4:keyTexts ts mss its ((keysL t ks).take (m+1))=keyTexts ts mss its ((keysL t ks).take m) ++ [sameT u (mss x) (its x)]:=by
    unfold keyTexts
    rw [List.take_succ_eq_append_getElem hml,List.map_append,hme]
    simp [hu]
   rw [e4,seenD_snoc]
   exact hmap6
  ·simp only
   omega
 ·simp at hge
  obtain rfl:i=(keysL t ks).length:=by omega
  simp only [Int.toNat_natCast,List.take_length] at hmap
  have hb0:w4.drew.cell? ((⟨b,0,none⟩:Addr).add 0)=some (.pointer (some ⟨s,0,none⟩)):=hb4.add 0 rfl
  have hp0:w4.drew.cell? (((⟨s,0,none⟩:Addr).add 0).add 1)=some (.int .i64 pairs):=hk4.cell hpairs id
  rw [nilK_some]
  refine ⟨_,hb0,?_⟩
  rw [nilK_some]
  refine ⟨_,hp0,_,_,World.ownsMap.len (w:=w4.drew) hmap Tryz.underlying259 3,hp0,hb0,rfl,hk4.drew⟩
end
end Go.Fw
