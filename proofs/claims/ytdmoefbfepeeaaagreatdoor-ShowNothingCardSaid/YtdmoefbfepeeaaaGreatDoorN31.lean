/- Part of a proof over the given program: texts of lemmas (conditions: none beyond each lemma as stated). -/
import Derived.Test.YtdmoefbfepeeaaaGreatDoorN30
import Derived.Lib.LaidTab
set_option linter.unnecessarySimpa false
set_option linter.unusedVariables false
set_option linter.unusedSimpArgs false

namespace Go.Fw
open Go.Proofs Go.RowKit
theorem tab_no {w w':World} {n:String} {k:IntKind} {zs:List Int} (h:Lib.TabIs Tryz.prog w n k zs) (hk:Keep No w w'):Lib.TabIs Tryz.prog w' n k zs:=by
 unfold Lib.TabIs World.var? at h ⊢
 cases hg:Tryz.prog.globalNamed n with
 | none=>rw [hg] at h;cases h
 | some g=>
  rw [hg] at h
  simp only [Option.bind_some] at h ⊢
  have hl:g<w.heap.size:=by
   rcases Nat.lt_or_ge g w.heap.size with hh | hh
   ·exact hh
   ·rw [Array.getElem?_eq_none hh] at h;cases h
  rw [hk.block g hl id]
  exact h
theorem keep_grow (w:World) (k:Nat) (os:Array Obj):Keep No w (Go.Sort.grow (w.drewN k) os):=
 ⟨rfl,rfl,rfl,by simp [Go.Sort.grow],λ b hb _=>by simp [Go.Sort.grow,Array.getElem?_append,hb]⟩
theorem itoa_all {w0:World} (h:Lib.TabIs Tryz.prog w0 "internal/strconv.uint64pow10" .u64 Lib.pow10Tab) (x:Nat) (hx:x<1000000):∀w1,Keep No w0 w1->Calls Tryz.prog 77 #[.int .i64 x] w1 λ e w'=>e=.returned (.string (itsS x))/\Keep No w1 w':=by
 intro w1 hk
 refine (Tryz.strconv_Itoa x (by omega) (by omega) w1 (tab_no h hk)).mono ?_
 rintro _ w2 ⟨rfl,k,os,rfl⟩
 refine ⟨?_,keep_grow _ _ _⟩
 have e:Lib.itoa (x:Int)=Lib.decDigits x:=by unfold Lib.itoa;rw [if_neg (by omega)];rfl
 rw [e]
 rfl
theorem itsS_small {x:Nat} (h:x<1000):(itsS x).size<1000:=by
 have:∀x,x<1000->(itsS x).size<1000:=by decide +kernel
 exact this x h
theorem C29_gen {w:World} {a:Option Addr} {c:Nat} {ts:List Tm} (hts:TermsAt w a ts) (hz:∀(i:Nat) (t:Tm),ts[i]?=some t->t.kl<200000000000000/\t.ml<200000000000000/\t.text.size<200000000000000) :
  Calls Tryz.prog 29 #[.slice a ts.length c] w λ e w'=>∃b,e=.returned (.bool b)/\Keep No w w'/\(b=false->ts.length<=200/\∀(i:Nat) (t:Tm),ts[i]?=some t->t.kl<=20000/\t.ml<=20000/\t.text.size<=20000):=by
 refine ret_mono (V29_sound a ts.length c w (λ r w'=>∃b,r=.bool b/\Keep No w w'/\(b=false->ts.length<=200/\∀(i:Nat) (t:Tm),ts[i]?=some t->t.kl<=20000/\t.ml<=20000/\t.text.size<=20000)) ?_) (by rintro _ _ ⟨b,rfl,h⟩;exact ⟨b,rfl,h⟩)
 unfold V29
 refine bsel_split (λ _=>⟨_,rfl,Keep.refl _ _,λ h=>by cases h⟩) λ hle=>?_
 simp at hle
 refine ⟨λ n i w'=>0<=i/\i<=ts.length/\Keep No w w'/\0<=n/\n<700000000000000/\∀(j:Nat) (t:Tm),(j:Int)<i->ts[j]?=some t->(t.kl:Int)<=n/\(t.ml:Int)<=n/\(t.text.size:Int)<=n,λ n i _=>(ts.length-i).toNat,⟨by omega,by omega,Keep.refl _ _,by omega,by omega,λ j t hj=>by omega⟩,?_⟩
 rintro j n i w1 ⟨hi0,hin,hk,hn0,hn1,hall⟩
 refine bsel_split (λ hlt=>?_) λ hge=>?_
 ·simp at hlt
  obtain ⟨m,rfl⟩:=Int.eq_ofNat_of_zero_le hi0
  unfold V29J1
  refine bsel_split (λ hmo=>?_) λ hmo=>⟨_,rfl,hk,λ h=>?_⟩
  ·have hmo:n<=20000:=by simpa using hmo
   have hk':=hk.no (Keep.drawn w1)
   obtain ⟨t,ht⟩:∃t,ts[m]?=some t:=⟨_,List.getElem?_eq_getElem (by omega)⟩
   obtain ⟨z1,z2,z3⟩:=hz m t ht
   obtain ⟨p,rfl,hc⟩:=(hts.no hk') m t ht
   refine idxK_of (by omega) ⟨_,_,_,hc.get 5 rfl,idxK_of (by omega) ⟨_,hc.get 4 rfl,idxK_of (by omega) ⟨_,_,_,hc.get2 2 1 rfl,?_⟩⟩⟩
   have e:IntKind.wrap .i64 ((m:Int)+1)=m+1:=wrap_i64 (by omega)
   have e1:IntKind.wrap .i64 (n+(t.kl:Int))=n+t.kl:=wrap_i64 (by omega)
   have e2:IntKind.wrap .i64 (n+(t.kl:Int)+(t.text.size:Int))=n+t.kl+t.text.size:=wrap_i64 (by omega)
   have e3:IntKind.wrap .i64 (n+(t.kl:Int)+(t.text.size:Int)+(t.ml:Int))=n+t.kl+t.text.size+t.ml:=wrap_i64 (by omega)
   simp only [e,e1,e2,e3]
   refine ⟨⟨by omega,by omega,hk',by omega,by omega,λ j u hj hu=>?_⟩,by omega⟩
   by_cases hjm:j=m
   ·subst hjm
    rw [ht] at hu;cases hu
    omega
   ·have:=hall j u (by omega) hu
    omega
  ·simp at hmo h
   omega
 ·simp at hge
  unfold V29J1
  refine ⟨_,rfl,hk,λ h=>⟨by omega,λ i t ht=>?_⟩⟩
  have h:n<=20000:=by simpa using h
  have:=hall i t (by have:=(List.getElem?_eq_some_iff.1 ht).1;omega) ht
  omega
section
variable {w0:World} {N:Nat} {ta:Option Addr} {tc:Nat} {ts:List Tm} {mss kss:Nat->List Int}
theorem bad_same {err:Nat->Int} {i j:Nat} (hi:∀k,k<i->err k=0) (hi0:err i≠0) (hj:∀k,k<j->err k=0) (hj0:err j≠0):i=j:=by
 rcases Nat.lt_trichotomy i j with h | h | h
 ·exact absurd (hj i h) hi0
 ·exact h
 ·exact absurd (hi j h) hj0
def GoodB (w':World) (B:Nat) (S:St) (ts:List Tm) (mss kss:Nat->List Int) (a:Option Addr) (l c:Nat):Prop:=
 l=ts.length/\(∃N2,w'.ownsRow N2 3 1 (.slice a l c) ts.length (ints ((List.range ts.length).map λ x=>(gref ts x:Int))))/\(∀x t,ts[x]?=some t->∃v,S.vals[gref ts x]?=some v/\VDAt w' B v (gdesc ts mss x))/\
 (∀x t,ts[x]?=some t->isRow t->∃r g cs,S.vals[gref ts x]?=some (.iface 94 (.pointer (some ⟨r,0,none⟩)))/\Blk w' r 100 [.int .i64 (numT t (cO ts x)),.slice (some ⟨g,0,none⟩) t.kl t.kl,.int .i64 t.kind]/\Blk w' g 3 cs/\∀(pos:Nat) (kid:Int),(kss x)[pos]?=some kid->cs[pos]?=some (.int .i64 (gref ts kid.toNat)))
theorem C31_full (hin:SmallIn w0 N ta ts kss mss) (hN:N<=w0.heap.size) (hn:ts.length<=200) (hT:Lib.Utf8Tabs 1 2 w0) (hit:∀x,x<ts.length->∀w1,Keep No w0 w1->Calls Tryz.prog 77 #[.int .i64 x] w1 λ e w'=>e=.returned (.string (itsS x))/\Keep No w1 w') :
  Calls Tryz.prog 31 #[.slice ta ts.length tc] w0 λ e w'=>∃(s B:Nat) (S:St) (a:Option Addr) (l c:Nat) (rp:Option Addr) (a2:Option Addr) (l2 c2:Nat),e=.returned (.tuple #[.pointer (some ⟨s,0,none⟩),.slice a l c,.pointer rp,.slice a2 l2 c2,.bool true])/\StAt w' s B S/\Keep No w0 w'/\((∃i,i<ts.length/\errN ts mss kss itsS 60000 i≠0)\/GoodB w' B S ts mss kss a l c):=by
 refine (V31_sound ta ts.length tc w0 (λ x w'=>∃(s B:Nat) (S:St) (a:Option Addr) (l c:Nat) (rp:Option Addr) (a2:Option Addr) (l2 c2:Nat),x=.tuple #[.pointer (some ⟨s,0,none⟩),.slice a l c,.pointer rp,.slice a2 l2 c2,.bool true]/\StAt w' s B S/\Keep No w0 w'/\((∃i,i<ts.length/\errN ts mss kss itsS 60000 i≠0)\/GoodB w' B S ts mss kss a l c)) ?_).mono (by rintro _ _ ⟨_,rfl,s,B,S,a,l,c,rp,a2,l2,c2,rfl,h⟩;exact ⟨s,B,S,a,l,c,rp,a2,l2,c2,rfl,h⟩)
 unfold V31
 refine newK_of λ b w1 hs hb hk=>?_
 refine stK_add hb (by simp) λ w2 hb hk2=>?_
 replace hk:=hk.news hk2 (by rintro k rfl;omega)
 refine stK_add hb (by simp) λ w3 hb hk2=>?_
 replace hk:=hk.news hk2 (by rintro k rfl;omega)
 refine stK_add hb (by simp) λ w4 hb hk2=>?_
 replace hk:=hk.news hk2 (by rintro k rfl;omega)
 refine stK_add hb (by simp) λ w5 hb hk2=>?_
 replace hk:=hk.news hk2 (by rintro k rfl;omega)
 refine stK_add hb (by simp) λ w6 hb hk2=>?_
 replace hk:=hk.news hk2 (by rintro k rfl;omega)
 refine ⟨_,_,_,_,_,_,_,_,_,hb.cells0,(C11 (by decide) (by decide) (by decide)).mono ?_⟩
 rintro _ w7 ⟨s,a,p,rfl,hS,hk7⟩
 refine ⟨_,_,rfl,_,_,_,_,_,_,_,_,_,(hk7.nblk hb).cells0,(C65g (by decide) (by decide) w7).mono ?_⟩
 rintro _ w8 ⟨r,m,rfl,hR,hm,hk8⟩
 refine ⟨_,_,rfl,bsel_neg rfl ?_⟩
 unfold V31J1
 have hk08:=(hk.no hk7).no hk8
 have hs6:=hk.size
 have hs7:=hk7.size
 have hs8:=hk8.size
 have hin8:SmallIn w8 w6.heap.size ta ts kss mss:=hin.no hk08 (by omega)
 refine bsel_neg rfl ((C13_small (its:=itsS) (tc:=tc) (B:=w6.heap.size) (by omega) (hS.no hk8) rfl ⟨rfl,rfl⟩ rfl (by simp) (by simp) hin8 (by omega) (tabs_no hT hk08) λ x hx=>⟨λ w' hk'=>hit x hx w' (hk08.no hk'),itsS_small (by omega)⟩).mono ?_)
 have key:∀(w9:World) (S9:St) (v:Value),StAt w9 s w6.heap.size S9->Keep (Ty w6.heap.size storeTy w8) w8 w9->∀(K:Value->World->Prop),(∀x w10,(BadEnd w9 ts (errN ts mss kss itsS 60000) x w10\/GoodR w9 r w7.heap.size ⟨60000,4,m⟩ ts mss kss (errN ts mss kss itsS 60000) x w10)->StAt w10 s w6.heap.size S9->Keep (GFc r w7.heap.size m w9) w9 w10->GSt w9 r w7.heap.size ⟨60000,4,m⟩ g0 0->Keep No w0 w10->K x w10)->Calls Tryz.prog 66 #[.pointer (some ⟨r,0,none⟩),.slice ta ts.length tc] w9 λ e w'=>∃x,e=.returned x/\K x w':=by
  intro w9 S9 v hS9 hk9 K hK
  have hk09:Keep No w0 w9:=hk08.news hk9 λ k h=>by have:=h.1;omega
  have hs9:=hk9.size
  have hR9:GSt w9 r w7.heap.size ⟨60000,4,m⟩ g0 0:=hR.keep hk9 λ k hf e he hg=>by
   obtain ⟨_,e',he',hm'⟩:=hf
   rw [he] at he'
   cases he'
   have hd:∀e ∈ storeTy,e ∉ gTy:=by decide
   exact hd e hm' hg
  refine (C66_gen (its:=itsS) (tc:=tc) hR9 hm (by omega) (hin.no hk09 (by omega)) (by omega) (by show (ts.length:Int)<=60000;omega) ⟨by show (0:Int)<=60000;omega,by show (60000:Int)<=65536;omega⟩ ⟨by show (0:Int)<=4;omega,by show (4:Int)<=256;omega⟩).mono ?_
  rintro _ w10 ⟨x,rfl,hx⟩
  have hq:=gfc_quiet hR9
  have hkx:Keep (GFc r w7.heap.size m w9) w9 w10:=by
   rcases hx with ⟨i,hi,_,_,rfl,hk⟩ | ⟨_,v,L,last,rfl,_,_,hk⟩
   ·exact Keep.of_no hk
   ·exact hk
  have hS10:StAt w10 s w6.heap.size S9:=hS9.types hkx λ k hf hl=>by
   have hmc:=hR9.cnt.etype
   rcases hf with (rfl | ⟨_,hf⟩) | rfl
   ·exact ⟨_,hR9.etype,by decide⟩
   ·exact ⟨_,hf,by decide⟩
   ·exact ⟨_,hmc,by decide⟩
  have hge:∀k,GFc r w7.heap.size m w9 k->w0.heap.size<=k:=λ k hf=>by
   rcases hf with (rfl | ⟨hf,_⟩) | rfl
   ·have:=hR9.ge;omega
   ·omega
   ·omega
  exact ⟨x,rfl,hK x w10 hx hS10 hkx hR9 (hk09.news hkx hge)⟩
 rintro _ w9 ⟨x,rfl,⟨i,hi,hle,herr,rfl,hk9⟩ | ⟨herr,refs,own,v,hrl,rfl,hF,hk9,hrow,hown⟩⟩
 ·refine ⟨_,_,_,_,rfl,(key w9 _ .nilIface ((hS.no hk8).no hk9) (Keep.of_no hk9) (λ x w10=>∃t52 t53 t54 t55,x=.tuple #[.slice t52 t53 t54,.int .i64 t55]/\t53=0/\t55=errN ts mss kss itsS 60000 i/\(∃S2,StAt w10 s w6.heap.size S2)/\Keep No w0 w10) ?_).mono ?_⟩
  ·rintro x w10 (⟨j,hj,hjl,hje,rfl,_⟩ | ⟨h0,_⟩) hS10 _ _ hk10
   ·have:i=j:=bad_same hle herr hjl hje
    subst this
    exact ⟨_,_,_,_,rfl,rfl,rfl,⟨_,hS10⟩,hk10⟩
   ·exact absurd (h0 i hi) herr
  ·rintro _ w10 ⟨_,rfl,t52,t53,t54,t55,rfl,rfl,rfl,⟨S2,hS10⟩,hk10⟩
   exact ⟨_,_,_,_,rfl,bsel_pos (by simp) ⟨_,_,_,_,_,_,_,_,_,_,rfl,hS10,hk10,.inl ⟨i,hi,herr⟩⟩⟩
 ·obtain ⟨va,vc,rfl⟩:=ownsRow_slice hrow
  obtain ⟨hrefs,gs,S',hGI⟩:=hF
  refine ⟨_,_,_,_,rfl,(key w9 S' .nilIface hGI.val.st hk9 (λ x w10=>∃t52 t53 t54 t55,x=.tuple #[.slice t52 t53 t54,.int .i64 t55]/\t53=ts.length/\t55=0/\StAt w10 s w6.heap.size S'/\Keep No w0 w10/\GoodB w10 w6.heap.size S' ts mss kss va ts.length vc) ?_).mono ?_⟩
  ·rintro x w10 (⟨j,hj,hjl,hje,rfl,_⟩ | ⟨h0,v,L,last,rfl,_,hr,_⟩) hS10 hkx hR9 hk10
   ·exact absurd (herr j hj) hje
   ·obtain ⟨va',vc',rfl⟩:=ownsRow_slice hr
    have hnt:∀{k:Nat} {e:TypeId},etype w9 k=some e->e ∉ gTy->¬GFc r w7.heap.size m w9 k:=λ {k e} he hn hf=>by
     have hlt:k<w9.heap.size:=by
      rcases Nat.lt_or_ge k w9.heap.size with h | h
      ·exact h
      ·unfold etype at he;rw [Array.getElem?_eq_none h] at he;cases he
     exact hn (gfc_quiet hR9 _ hlt hf _ he)
    refine ⟨_,_,_,_,rfl,rfl,rfl,hS10,hk10,rfl,⟨_,hrefs ▸ hkx.row hrow λ g hg=>hnt (ownsRow_etype hrow hg) (by decide)⟩,λ x t hx=>?_,λ x t hx hr=>?_⟩
    ·obtain ⟨v,q1,q2⟩:=hGI.val.vd x t hx (List.getElem?_eq_some_iff.1 hx).1
     refine ⟨v,q1,q2.keep hkx λ k e _ he hm hf=>hnt he (λ hg=>?_) hf⟩
     have hd:∀e ∈ objE,e ∉ gTy:=by decide
     exact hd e hm hg
    ·obtain ⟨r',cs,q1,q2,q3,q4,q5,q6,q7⟩:=hGI.row x t hx (List.getElem?_eq_some_iff.1 hx).1 hr
     exact ⟨r',gs x,cs,q1,hkx.blk q2 (hnt q2.etype (by decide)),hkx.blk q3 (hnt q3.etype (by decide)),λ pos kid hp=>q7 pos kid hp (.inl (List.getElem?_eq_some_iff.1 hx).1)⟩
  ·rintro _ w10 ⟨_,rfl,t52,t53,t54,t55,rfl,rfl,rfl,hS10,hk10,hgb⟩
   exact ⟨_,_,_,_,rfl,bsel_pos (by decide) (by rw [show ((ts.length:Int) == (ts.length:Int))=true by simp];exact ⟨_,_,_,_,_,_,_,_,_,_,rfl,hS10,hk10,.inr hgb⟩)⟩
end
def tmC2 (kb:Nat):Tm:=⟨5,false,false,none,0,0,⟨#[]⟩,some ⟨kb,0,none⟩,1,1,false,false⟩
def gAw (v:Nat):SV:=if v=3 then .leaf [39,97,39] else .row true [3]
theorem bytes_eq2 (l:List UInt8) (b:ByteArray) (h:l=b.data.toList):((⟨l.toArray⟩:ByteArray).toList == b.toList)=true:=by
 rw [ByteArray.toList_eq,ByteArray.toList_eq,h]
 simp
theorem C30g {w:World} (hT:Lib.Utf8Tabs 1 2 w):Calls Tryz.prog 30 #[] w λ e w'=>e=.returned (.bool true)/\Keep No w w':=by
 refine ret_mono (V30_sound w (λ r w'=>r=.bool true/\Keep No w w') ?_) (by rintro _ _ ⟨rfl,h⟩;exact ⟨rfl,h⟩)
 unfold V30
 refine newK_of λ kb w1 hs1 hkb hk1=>newK_of λ tb w2 hs2 htb hk2=>?_
 have hk02:=hk1.no hk2
 have hkb2:=hk2.nblk hkb
 let ts:List Tm:=[tmA,tmC2 kb]
 let kss:Nat->List Int:=λ i=>if i=0 then [] else [0]
 let mss:Nat->List Int:=λ _=>[]
 have hs12:=hk2.size
 have hkl:=hkb2.lt
 have htl:=htb.lt
 have hin:SmallIn w2 w2.heap.size (some ⟨tb,0,none⟩) ts kss mss:=by
  refine ⟨λ i t ht=>?_,λ p hp=>by cases hp;exact htl,λ i t ht=>?_,λ i t ht=>?_⟩
  ·rcases i with _ | _ | i
   ·cases ht
    exact ⟨_,rfl,htb.cellsAdd 0 rfl⟩
   ·cases ht
    exact ⟨_,rfl,htb.cellsAdd 8 rfl⟩
   ·simp [ts] at ht
  ·rcases i with _ | _ | i
   ·cases ht
    exact ⟨⟨rfl,λ j k h=>(by simp [kss] at h)⟩,λ p hp=>(by cases hp),λ j k h=>(by simp [mss] at h),rfl,Nat.le_refl _,λ m hm=>(by simp [mss] at hm),λ p hp=>(by cases hp),by decide,by decide,by decide⟩
   ·cases ht
    refine ⟨⟨rfl,λ j k h=>⟨_,rfl,?_⟩⟩,λ p hp _=>(by cases hp;exact hkl),λ j k h=>(by simp [mss] at h),rfl,Nat.le_refl _,λ m hm=>(by simp [mss] at hm),λ p hp=>(by cases hp),by show 1*8<=reachBytes;decide,by show 0*4<=reachBytes;decide,by show 0<=reachBytes;decide⟩
    rcases j with _ | j
    ·cases h
     rw [add_mk]
     exact hkb2.cell rfl
    ·simp [kss] at h
   ·simp [ts] at ht
  ·rcases i with _ | _ | i
   ·cases ht;exact ⟨by decide,by decide,by decide⟩
   ·cases ht;exact ⟨by show 1<=20000;decide,by show 0<=20000;decide,by show 0<=20000;decide⟩
   ·simp [ts] at ht
 refine (C31_full (tc:=2) hin (Nat.le_refl _) (by simp [ts]) (tabs_no hT hk02) λ x hx w1 hk=>?_).mono ?_
 ·refine (Tryz.strconv_Itoa_small x (by simp [ts] at hx;omega) w1).mono ?_
  rintro _ w'' ⟨rfl,rfl⟩
  exact ⟨rfl,Keep.refl _ _⟩
 rintro _ w3 ⟨s,B,S,a,l,c,rp,a2,l2,c2,rfl,hS,hk3,hb | ⟨rfl,⟨N2,hrow⟩,hvals,hrows⟩⟩
 ·exfalso
  obtain ⟨i,hi,hne⟩:=hb
  refine hne ?_
  rcases i with _ | _ | i
  ·rw [errN_of (t:=tmA) rfl]
   unfold errT
   rw [if_neg (by decide),if_neg (by show ¬((([]:List Int).any (kidBad ts 0 tmA) || (([]:List Int).any (keyBad ts) || false))=true);simp),if_neg (by decide +kernel)]
   have:bigB ts mss itsS 60000 0 tmA (kss 0)=false:=by
    unfold bigB
    rw [if_pos (by rfl)]
    decide +kernel
   rw [this]
   rfl
  ·rw [errN_of (t:=tmC2 kb) rfl]
   unfold errT
   rw [if_neg (by show ¬(kindB 5=false);decide)]
   have hb:badK ts 1 (tmC2 kb) (kss 1)=false:=by
    unfold badK
    have h1:(kss 1).any (kidBad ts 1 (tmC2 kb))=false:=by
     simp [kss,kidBad,limit,tmC2,ts]
    have h2:keysL (tmC2 kb) (kss 1)=[]:=rfl
    have h3:shapeBad ts (tmC2 kb) (kss 1)=false:=by unfold shapeBad;rw [if_pos (.inl rfl)]
    rw [h1,h2,h3]
    rfl
   rw [hb,if_neg (by decide),if_neg (by rintro ⟨h,_⟩;cases h)]
   have:bigB ts mss itsS 60000 1 (tmC2 kb) (kss 1)=false:=by
    unfold bigB
    rw [if_neg (by show ¬((5:Int)=4);decide),if_neg (by show ¬((5:Int)=3);decide),if_pos (.inl rfl)]
    exact decide_eq_false (by show ¬(((1:Nat):Int)>65536);decide)
   rw [this]
   rfl
  ·have:(i+2)<2:=hi
   omega
 have g0:gref ts 0=3:=rfl
 have g1:gref ts 1=4:=rfl
 obtain ⟨g,cap,hv,_,hc1⟩:=row_cell hrow (i:=1) (x:=.int .i64 4) (by simp [ints,ts,List.range_succ,g1])
 obtain ⟨g',cap',hv',_,hc0⟩:=row_cell hrow (i:=0) (x:=.int .i64 3) (by simp [ints,ts,List.range_succ,g0])
 cases hv
 cases hv'
 obtain ⟨v0,q0,hvd0⟩:=hvals 0 tmA rfl
 have hva:v0=strA:=hvd0
 subst hva
 rw [g0] at q0
 obtain ⟨r,gg,cs,q1,hr,hcs,hkid⟩:=hrows 1 (tmC2 kb) rfl (.inl rfl)
 rw [g1] at q1
 have hkid0:cs[0]?=some (.int .i64 3):=hkid 0 0 rfl
 have hG:Gr w3 (some ⟨s,0,none⟩) (λ v=>v=3\/v=4) gAw:=by
  refine ⟨λ v t hD hg=>?_,λ v tup kids hD hg=>?_⟩
  ·rcases hD with rfl | rfl
   ·cases hg
    exact ⟨by simp,by decide,λ w' hk=>C48_str (i:=3) (hS.no hk) q0,λ w' hk=>C34_a (i:=3) (hS.no hk) q0⟩
   ·cases hg
  ·rcases hD with rfl | rfl
   ·cases hg
   ·cases hg
    refine ⟨by decide,λ k hk=>.inl (by simpa using hk),r,_,_,_,hr,λ j k hj=>?_,λ w' hk=>C48_row (i:=4) (hS.no hk) q1 (hk.nblk hr) (by show (1:Int)≠0;decide)⟩
    rcases j with _ | j
    ·cases hj
     exact ⟨_,rfl,by rw [add_mk];exact hcs.cell hkid0⟩
    ·simp at hj
 refine ⟨_,_,_,_,_,_,_,_,_,rfl,bsel_pos rfl (bsel_pos rfl (idxK_of (i:=1) (by simp [ts]) ⟨4,by simpa using hc1,?_⟩))⟩
 have ht1:=C32 hG (v:=4) (.inr rfl) (λ u t hD hg=>by
  rcases hD with rfl | rfl
  ·cases hg;decide
  ·cases hg) (by
  refine (C44_no (i:=4) hS q1 (by decide)).mono ?_
  rintro _ w' ⟨rfl,hk⟩
  exact ⟨_,_,rfl,hk⟩)
 refine ht1.mono ?_
 rintro _ w4 ⟨rfl,hk4⟩
 have htx:(tellV gAw 20 [] 4 ([],true)).1=[40,39,97,39,44,41]:=by decide +kernel
 rw [htx]
 refine ⟨_,rfl,bsel_pos (bytes_eq2 _ _ rfl) (idxK_of (i:=0) (by simp [ts]) ⟨3,by simpa using hk4.cell hc0 id,?_⟩)⟩
 refine (C32_plain (C44_str (i:=3) (hS.no hk4) (t:=⟨#[97]⟩) q0)).mono ?_
 rintro _ w5 ⟨rfl,hk5⟩
 exact ⟨_,rfl,congrArg Value.bool (beq_self_eq_true _),((hk02.no hk3).no hk4).no hk5⟩
theorem C6_gen {W:World} {ta:Option Addr} {tc:Nat} {ts:List Tm} {kss mss:Nat->List Int} (hts:TermsAt W ta ts) (hlow:∀p,ta=some p->p.block<W.heap.size) (hin:∀(i:Nat) (t:Tm),ts[i]?=some t->TermIn W W.heap.size t (kss i) (mss i)) (hT:Lib.Utf8Tabs 1 2 W) (htab:Lib.TabIs Tryz.prog W "internal/strconv.uint64pow10" .u64 Lib.pow10Tab) (v:Int) (hv:-9223372036854775808<=v/\v<=9223372036854775807) (plain:Bool) :
  Calls Tryz.prog 6 #[.slice ta ts.length tc,.int .i64 v,.bool plain] W λ e W'=>e=.returned (.bool true)/\Keep No W W':=by
 refine ret_mono (V6_sound ta ts.length tc v plain W (λ r w'=>r=.bool true/\Keep No W w') ?_) (by rintro _ _ ⟨rfl,h⟩;exact ⟨rfl,h⟩)
 unfold V6
 refine (C29_gen hts λ i t ht=>?_).mono ?_
 ·have g:=hin i t ht
  exact ⟨reach_small g.kz (by decide),reach_small g.mz (by decide),reach_small (k:=1) (by have:=g.tz;omega) (by decide)⟩
 rintro _ w1 ⟨bl,rfl,hk1,hbl⟩
 have hyes:∀{w:World},Keep No W w->Calls Tryz.prog 30 #[] w λ e12 w13=>∃t14:Bool,e12=.returned (.bool t14)/\(Value.bool t14=.bool true/\Keep No W w13):=by
  intro w hk
  refine (C30g (tabs_no hT hk)).mono ?_
  rintro _ w' ⟨rfl,h⟩
  exact ⟨_,rfl,rfl,hk.no h⟩
 refine ⟨_,rfl,bsel_split (λ h=>hyes hk1) λ hnl=>?_⟩
 obtain ⟨hn,hsz⟩:=hbl hnl
 have hgo:∀u:Int,u<0->V6J1 (λ r w'=>r=.bool true/\Keep No W w') ta ts.length tc u plain w1:=by
  intro u hu
  unfold V6J1
  have hsm0:SmallIn W W.heap.size ta ts kss mss:=⟨hts,hlow,hin,hsz⟩
  refine (C31_full (hsm0.no hk1 (Nat.le_refl _)) hk1.size hn (tabs_no hT hk1) λ x hx=>itoa_all (tab_no htab hk1) x (by omega)).mono ?_
  rintro _ w2 ⟨s,B,S,a,l,c,rp,a2,l2,c2,rfl,hS,hk2,_⟩
  refine ⟨_,_,_,_,_,_,_,_,_,rfl,bsel_pos rfl ((C32_gone (getsNil_nil u w2) plain).mono ?_)⟩
  rintro _ w3 ⟨rfl,hk3⟩
  refine ⟨_,rfl,bsel_pos (by simp) ((C32_gone (getsNil_nil 0 w3) plain).mono ?_)⟩
  rintro _ w4 ⟨rfl,hk4⟩
  refine ⟨_,rfl,bsel_pos (by simp) ((C32_gone (getsNil_neg hu (all:=some ⟨S.a,0,none⟩) ?_) plain).mono ?_)⟩
  ·exact (((hS.no hk3).no hk4).blk.cell rfl)
  rintro _ w5 ⟨rfl,hk5⟩
  exact ⟨_,rfl,bsel_pos (by simp) (hyes ((((hk1.no hk2).no hk3).no hk4).no hk5))⟩
 refine bsel_split (λ h=>?_) λ h=>hgo v (by simp at h;omega)
 have h:0<=v:=by simpa using h
 rw [wrap_i64 (by omega)]
 exact hgo _ (by omega)
end Go.Fw
