/- Part of a proof over the given program: texts of lemmas (conditions: none beyond each lemma as stated). -/
import Derived.Test.YtdmoefbfepeeaaaGreatDoorN29
set_option linter.unnecessarySimpa false
set_option linter.unusedVariables false
set_option linter.unusedSimpArgs false

namespace Go.Fw
open Go.Proofs Go.RowKit
section
variable {w0:World} {s:Option Addr} {v:Int}
theorem C44_gone {w:World} (h:GetsNil s v w):Calls Tryz.prog 44 #[.pointer s,.int .i64 v] w λ e w'=>e=.returned (.tuple #[.string ⟨#[]⟩,.bool false])/\Keep No w w':=by
 refine ret_mono (V44_sound s v w (λ r w'=>r=.tuple #[.string ⟨#[]⟩,.bool false]/\Keep No w w') ?_) (by rintro _ _ ⟨rfl,h⟩;exact ⟨rfl,h⟩)
 unfold V44
 refine (h w (Keep.refl _ _)).mono ?_
 rintro _ w1 ⟨rfl,hk1⟩
 refine ⟨_,rfl,_,_,ta_nil Tryz.underlying160 rfl Tryz.zeroValue160 77,newK_of λ b w2 hs2 hb hk2=>stK_add hb (by simp) λ w3 hb3 hk3=>⟨_,hb3.add 0 rfl,rfl,(hk1.no hk2).news hk3 (by rintro k rfl;have:=hk1.size;omega)⟩⟩
theorem C48_gone {w:World} (h:GetsNil s v w):Calls Tryz.prog 48 #[.pointer s,.int .i64 v] w λ e w'=>e=.returned .nilIface/\Keep No w w':=by
 refine ret_mono (V48_sound s v w (λ r w'=>r=.nilIface/\Keep No w w') ?_) (by rintro _ _ ⟨rfl,h⟩;exact ⟨rfl,h⟩)
 unfold V48
 refine (h w (Keep.refl _ _)).mono ?_
 rintro _ w1 ⟨rfl,hk1⟩
 refine ⟨_,rfl,?_⟩
 rw [eqNilI_nil]
 exact bsel_pos rfl ⟨rfl,hk1⟩
theorem C119_gone {w:World} (h:GetsNil s v w) {p:Nat} {y ov:Value} (hp:Blk w p 231 [.pointer s,y,ov,.bool true]):Calls Tryz.prog 119 #[.pointer (some ⟨p,0,none⟩),.int .i64 v] w λ e w'=>e=.returned (.tuple #[])/\Keep No w w':=by
 refine ret_mono (V119_sound _ v w (λ r w'=>r=.tuple #[]/\Keep No w w') ?_) (by rintro _ _ ⟨rfl,h⟩;exact ⟨rfl,h⟩)
 unfold V119
 refine newK_of λ a w1 ha hb hk1=>?_
 have hp1:=hk1.nblk hp
 refine ⟨_,by simpa using hb.cell (o:=0) rfl,?_⟩
 rw [nilK_some]
 refine ⟨_,hp1.add 3 rfl,bsel_neg rfl ⟨_,by simpa using hb.cell (o:=0) rfl,?_⟩⟩
 rw [nilK_some]
 refine ⟨_,hp1.add 0 rfl,(C48_gone (h.keep hk1)).mono ?_⟩
 rintro _ w2 ⟨rfl,hk2⟩
 have hb2:=hk2.nblk hb
 have hp2:=hk2.nblk hp1
 refine ⟨_,rfl,_,_,nilA94 _,bsel_neg rfl ⟨_,_,nilA111 _,bsel_neg rfl ⟨_,_,nilA162 _,bsel_neg rfl ⟨_,_,nilA163 _,bsel_neg rfl ⟨_,_,nilA284 _,bsel_neg rfl ⟨_,_,_,nilA105 _,bsel_neg rfl ⟨_,_,nilA285 _,bsel_neg rfl ⟨_,_,nilA190 _,bsel_neg rfl ⟨_,_,nilA310 _,bsel_neg rfl ?_⟩⟩⟩⟩⟩⟩⟩⟩⟩
 rw [eqNilI_nil]
 refine bsel_pos rfl ⟨_,by simpa using hb2.cell (o:=0) rfl,?_⟩
 rw [nilK_some]
 refine ⟨_,hp2.add 0 rfl,(C34_none ((h.keep hk1).keep hk2)).mono ?_⟩
 rintro _ w3 ⟨rfl,hk3⟩
 exact ⟨_,rfl,bsel_neg (by simp) ⟨rfl,(hk1.no hk2).no hk3⟩⟩
theorem C118_gone {w:World} (h:GetsNil s v w) {fx:Value} (hf:∃l,fx=.func (.yield l) #[] #[]) {a3 a5:Nat} (h3:Blk w a3 25 [.pointer s]) (h5:Blk w a5 3 [.int .i64 v]) :
  Calls Tryz.prog 118 #[fx,.pointer (some ⟨a3,0,none⟩),.pointer (some ⟨a5,0,none⟩)] w λ e w'=>e=.returned (.tuple #[])/\Keep No w w':=by
 obtain ⟨l,rfl⟩:=hf
 refine ret_mono (V118_sound _ ⟨a3,0,none⟩ ⟨a5,0,none⟩ w (λ r w'=>r=.tuple #[]/\Keep No w w') ?_) (by rintro _ _ ⟨rfl,h⟩;exact ⟨rfl,h⟩)
 unfold V118
 refine ⟨_,h3.cell rfl,plK_of rfl (newK_of λ p w1 hp hbp hk1=>⟨_,(hk1.nblk h5).cell rfl,(C119_gone (h.keep hk1) hbp).mono ?_⟩)⟩
 rintro _ w2 ⟨rfl,hk2⟩
 exact ⟨_,rfl,rfl,hk1.no hk2⟩
theorem text_none {w:World} (h:GetsNil s v w) (hk:Keep No w0 w) (x:ByteArray):V32J2 (λ r w'=>r=.string ⟨#[]⟩/\Keep No w0 w') s v x false w:=by
 unfold V32J2
 refine bsel_neg rfl (newK_of λ b w1 hb hbb hk1=>?_)
 refine (V67_sound s v w1 (λ r w'=>∃a3 a5,r=.func (.func 118) #[] #[.pointer (some ⟨a3,0,none⟩),.pointer (some ⟨a5,0,none⟩)]/\Blk w' a3 25 [.pointer s]/\Blk w' a5 3 [.int .i64 v]/\Keep No w1 w') ?_).mono ?_
 ·unfold V67
  exact newK_of λ a3 w2 _ h3 hk2=>newK_of λ a5 w3 _ h5 hk3=>⟨a3,a5,rfl,hk3.nblk h3,h5,hk2.no hk3⟩
 rintro _ w2 ⟨_,rfl,a3,a5,rfl,h3,h5,hk2⟩
 refine ⟨_,rfl,?_⟩
 intro Rec hnc hround
 have hN:=hk.size
 have hk02:=(hk.no hk1).no hk2
 have hb0:=bufAt_new hbb (B:=w0.heap.size) (by omega)
 have hsz2:=hk02.size
 generalize hw3:(w2.alloc (.deferred (some []))).alloc (Rec .ready none)=w3
 have hkd:Keep No w2 w3:=by subst hw3;exact (Keep.fresh w2 _).no (Keep.fresh _ _)
 have hsz3:w3.heap.size=w2.heap.size+2:=by subst hw3;simp
 have hl3:w3.heap[w2.heap.size+1]?=some (Rec .ready none):=by
  subst hw3
  rw [heap_alloc,if_pos (by simp)]
 have hd3:w3.heap[w2.heap.size]?=some (.deferred (some [])):=by
  subst hw3
  rw [heap_alloc,if_neg (by simp),heap_alloc,if_pos rfl]
 have hb3:=(hb0.no hk2).no hkd
 have hg3:GetsNil s v w3:=(h.keep hk1).keep hk2 |>.keep hkd
 refine ⟨callFunc118 _ _ _ _,(C118_gone hg3 ⟨_,rfl⟩ (hkd.nblk h3) (hkd.nblk h5)).mono ?_⟩
 rintro _ w4 ⟨rfl,hk4⟩
 refine ⟨⟨_,rfl⟩,?_⟩
 have hl4:w4.heap[w2.heap.size+1]?=some (Rec .ready none):=by rw [hk4.block _ (by omega) id,hl3]
 have hd4:w4.heap[w2.heap.size]?=some (.deferred (some [])):=by rw [hk4.block _ (by omega) id,hd3]
 have hb4:=hb3.no hk4
 have hbd:w2.heap.size≠b:=by
  intro e
  have:=hb3.etype
  unfold etype at this
  rw [<-e,hd3] at this;cases this
 refine .inl ⟨hl4,?_⟩
 unfold V32J1
 have hkp:=Keep.put (w:=w4) (l:=w2.heap.size+1) (x:=Rec .exhausted none)
 have hne4:etype w4 (w2.heap.size+1)=none:=by
  unfold etype
  rw [hl4]
  cases hc:Rec .ready none <;> first | rfl | exact absurd hc (hnc _ _ _ _ _)
 have hb5:=hb4.keep hkp λ k _ e=>by subst e;rw [hne4];exact ⟨by decide,by decide⟩
 have hsz4:=((hk02.no hkd).no hk4).size
 refine (C70 hb5 (by simpa [World.putObj] using hsz4)).mono ?_
 rintro _ w5 ⟨rfl,hk5⟩
 have hdp:(w4.putObj (w2.heap.size+1) (Rec .exhausted none)).heap[w2.heap.size]?=some (.deferred (some [])):=by
  rw [hkp.block _ (Array.getElem?_eq_some_iff.1 hd4).1 (by omega),hd4]
 have hd5:w5.heap[w2.heap.size]?=some (.deferred (some [])):=by
  rw [hk5.block _ (Array.getElem?_eq_some_iff.1 hdp).1 ?_,hdp]
  rintro (e | ⟨_,e⟩)
  ·exact hbd e
  ·unfold etype at e
   rw [hdp] at e;cases e
 refine ⟨_,rfl,hd5,rfl,?_⟩
 refine ((((hk02.no hkd).no hk4).news hkp (by rintro k rfl;omega)).news hk5 λ k e=>?_).news (Keep.put (w:=w5) (l:=w2.heap.size) (x:=.deferred none)) (by rintro k rfl;omega)
 rcases e with e | ⟨e,_⟩
 ·omega
 ·omega
theorem C32_gone {w:World} (h:GetsNil s v w) (plain:Bool):Calls Tryz.prog 32 #[.pointer s,.int .i64 v,.bool plain] w λ e w'=>e=.returned (.string ⟨#[]⟩)/\Keep No w w':=by
 refine ret_mono (V32_sound s v plain w (λ r w'=>r=.string ⟨#[]⟩/\Keep No w w') ?_) (by rintro _ _ ⟨rfl,h⟩;exact ⟨rfl,h⟩)
 unfold V32
 refine (C44_gone h).mono ?_
 rintro _ w1 ⟨rfl,hk⟩
 exact ⟨_,_,rfl,bsel_neg rfl (text_none (h.keep hk) hk _)⟩
end
end Go.Fw

set_option maxRecDepth 100000
namespace Go.Fw
open Go.Proofs
def V5J1 (Q:Value->World->Prop) (x29:Option Addr) (x30 x31:Nat) (x32 x33:Int) (x34:Bool) (w35:World):Prop:=
bsel x34 (
Q (.bool false) w35) (
Calls Tryz.prog 28 #[.int .i64 1000,.slice x29 x30 x31] w35 λ e36 w37=>∃t38 t39,e36=.returned (.tuple #[.pointer t38,.bool t39])/\
bsel (Option.isNone t38) (
bsel t39 (
Calls Tryz.prog 18 #[] w37 λ e40 w41=>∃t42,e40=.returned (.bool t42)/\
Q (.bool t42) w41) (
Q (.bool false) w37)) (
∃(I45:Int->World->Prop) (μ46:Int->World->Nat),I45 0 w37/\∀(j49:Fr) (i47:Int) (w48:World),I45 i47 w48->
nilK t38 λ a50=>
∃t51 t52 t53,w48.cell? (a50.add 1)=some (.slice t51 t52 t53)/\
bsel (decide (i47<(t52:Int))) (
nilK t38 λ a54=>
∃t55,w48.drew.cell? (a54.add 0)=some (.pointer t55)/\
Calls Tryz.prog 25 #[.pointer t55,.int .i64 x32] w48.drew λ e56 w57=>∃t58,e56=.returned (.pointer t58)/\
bsel (!(Option.isNone t58)) (
Q (.bool false) w57) (
nilK t38 λ a65=>
∃t66,w57.cell? (a65.add 0)=some (.pointer t66)/\
nilK t38 λ a67=>
∃t68 t69 t70,w57.cell? (a67.add 1)=some (.slice t68 t69 t70)/\
idxK t68 t69 i47 1 λ a71=>
∃t72,w57.cell? a71=some (.int .i64 t72)/\
Calls Tryz.prog 26 #[.pointer t66,.int .i64 t72,.int .i64 x32] w57 λ e73 w74=>∃t75,e73=.returned (.pointer t75)/\
bsel (!(Option.isNone t75)) (
Q (.bool false) w74) (
nilK t38 λ a76=>
∃t77,w74.cell? (a76.add 0)=some (.pointer t77)/\
nilK t38 λ a78=>
∃t79 t80 t81,w74.cell? (a78.add 1)=some (.slice t79 t80 t81)/\
idxK t79 t80 i47 1 λ a82=>
∃t83,w74.cell? a82=some (.int .i64 t83)/\
Calls Tryz.prog 26 #[.pointer t77,.int .i64 x32,.int .i64 t83] w74 λ e84 w85=>∃t86,e84=.returned (.pointer t86)/\
bsel (!(Option.isNone t86)) (
Q (.bool false) w85) (
nilK t38 λ a87=>
∃t88,w85.cell? (a87.add 0)=some (.pointer t88)/\
nilK t38 λ a89=>
∃t90 t91 t92,w85.cell? (a89.add 1)=some (.slice t90 t91 t92)/\
idxK t90 t91 i47 1 λ a93=>
∃t94,w85.cell? a93=some (.int .i64 t94)/\
nilK t38 λ a95=>
∃t96 t97 t98,w85.cell? (a95.add 1)=some (.slice t96 t97 t98)/\
idxK t96 t97 i47 1 λ a99=>
∃t100,w85.cell? a99=some (.int .i64 t100)/\
Calls Tryz.prog 20 #[.pointer t88,.int .i64 x32,.int .i64 x33,.int .i64 t94,.int .i64 t100] w85 λ e101 w102=>∃t103,e101=.returned (.pointer t103)/\
bsel (!(Option.isNone t103)) (
Q (.bool false) w102) (
nilK t38 λ a104=>
∃t105,w102.cell? (a104.add 0)=some (.pointer t105)/\
nilK t38 λ a106=>
∃t107 t108 t109,w102.cell? (a106.add 1)=some (.slice t107 t108 t109)/\
idxK t107 t108 i47 1 λ a110=>
∃t111,w102.cell? a110=some (.int .i64 t111)/\
nilK t38 λ a112=>
∃t113 t114 t115,w102.cell? (a112.add 1)=some (.slice t113 t114 t115)/\
idxK t113 t114 i47 1 λ a116=>
∃t117,w102.cell? a116=some (.int .i64 t117)/\
Calls Tryz.prog 20 #[.pointer t105,.int .i64 t111,.int .i64 x33,.int .i64 x32,.int .i64 t117] w102 λ e118 w119=>∃t120,e118=.returned (.pointer t120)/\
bsel (!(Option.isNone t120)) (
Q (.bool false) w119) (
nilK t38 λ a121=>
∃t122,w119.cell? (a121.add 0)=some (.pointer t122)/\
nilK t38 λ a123=>
∃t124 t125 t126,w119.cell? (a123.add 1)=some (.slice t124 t125 t126)/\
idxK t124 t125 i47 1 λ a127=>
∃t128,w119.cell? a127=some (.int .i64 t128)/\
Calls Tryz.prog 27 #[.pointer t122,.int .i64 x32,.int .i64 t128] w119 λ e129 w130=>∃t131,e129=.returned (.pointer t131)/\
bsel (!(Option.isNone t131)) (
Q (.bool false) w130) (
nilK t38 λ a132=>
∃t133,w130.cell? (a132.add 0)=some (.pointer t133)/\
nilK t38 λ a134=>
∃t135 t136 t137,w130.cell? (a134.add 1)=some (.slice t135 t136 t137)/\
idxK t135 t136 i47 1 λ a138=>
∃t139,w130.cell? a138=some (.int .i64 t139)/\
Calls Tryz.prog 27 #[.pointer t133,.int .i64 t139,.int .i64 x32] w130 λ e140 w141=>∃t142,e140=.returned (.pointer t142)/\
bsel (!(Option.isNone t142)) (
Q (.bool false) w141) (
(I45 (IntKind.wrap .i64 (i47+1)) w141/\μ46 (IntKind.wrap .i64 (i47+1)) w141<μ46 i47 w48))))))))) (
Calls Tryz.prog 18 #[] w48 λ e143 w144=>∃t145,e143=.returned (.bool t145)/\
Q (.bool t145) w144)))
def V5J2 (w:World) (Q:Value->World->Prop) (x12:Option Addr) (x13 x14:Nat) (x15 x16:Int) (w17:World):Prop:=
Calls Tryz.prog 21 #[.pointer none,.int .i64 x15] w17 λ e18 w19=>∃t20 t21 t22 t23 t24 t25 t26 t27,e18=.returned (.agg #[.int .i64 t20,.int .i64 t21,.int .i64 t22,.int .i64 t23,.int .i64 t24,.bool t25,.int .i64 t26,.int .i64 t27])/\
∃b28:Bool,(∀w:World,(eqSem .neq 52 (.tmp 20) (.tmp 21) (.agg #[.int .i64 t20,.int .i64 t21,.int .i64 t22,.int .i64 t23,.int .i64 t24,.bool t25,.int .i64 t26,.int .i64 t27]) (.agg #[.int .i64 0,.int .i64 0,.int .i64 0,.int .i64 0,.int .i64 0,.bool false,.int .i64 0,.int .i64 0])).run Tryz.prog w=.ok (.bool b28) w)/\
bsel b28 (
V5J1 Q x12 x13 x14 x15 x16 true w19) (
Calls Tryz.prog 22 #[.pointer none,.int .i64 x15] w19 λ e146 w147=>∃t148,e146=.returned (.int .i64 t148)/\
bsel (t148 != 1) (
V5J1 Q x12 x13 x14 x15 x16 true w147) (
Calls Tryz.prog 23 #[.pointer none] w147 λ e149 w150=>∃t151,e149=.returned (.int .i64 t151)/\
bsel (t151 != 0) (
V5J1 Q x12 x13 x14 x15 x16 true w150) (
Calls Tryz.prog 25 #[.pointer none,.int .i64 0] w150 λ e152 w153=>∃t154,e152=.returned (.pointer t154)/\
bsel (!(Option.isNone t154)) (
V5J1 Q x12 x13 x14 x15 x16 true w153) (
Calls Tryz.prog 26 #[.pointer none,.int .i64 0,.int .i64 0] w153 λ e155 w156=>∃t157,e155=.returned (.pointer t157)/\
bsel (!(Option.isNone t157)) (
V5J1 Q x12 x13 x14 x15 x16 true w156) (
Calls Tryz.prog 20 #[.pointer none,.int .i64 0,.int .i64 x16,.int .i64 0,.int .i64 0] w156 λ e158 w159=>∃t160,e158=.returned (.pointer t160)/\
bsel (!(Option.isNone t160)) (
V5J1 Q x12 x13 x14 x15 x16 true w159) (
Calls Tryz.prog 27 #[.pointer none,.int .i64 0,.int .i64 0] w159 λ e161 w162=>∃t163,e161=.returned (.pointer t163)/\
V5J1 Q x12 x13 x14 x15 x16 (!(Option.isNone t163)) w162))))))
def V5 (x1:Option Addr) (x2 x3:Nat) (x4 x5:Int) (w:World) (Q:Value->World->Prop):Prop:=
Calls Tryz.prog 24 #[.slice x1 x2 x3] w λ e6 w7=>∃t8,e6=.returned (.bool t8)/\
bsel t8 (
Calls Tryz.prog 18 #[] w7 λ e9 w10=>∃t11,e9=.returned (.bool t11)/\
Q (.bool t11) w10) (
bsel (decide (x4>=0)) (
V5J2 w Q x1 x2 x3 (IntKind.wrap .i64 ((-1)-x4)) x5 w7) (
V5J2 w Q x1 x2 x3 x4 x5 w7))
def V5_ann:Nat->Ann:=λ k=>match k with | 0=>⟨[1,2,8],[(10,.int .i64)]⟩ | _=>⟨[],[]⟩
def V6J1 (Q:Value->World->Prop) (x12:Option Addr) (x13 x14:Nat) (x15:Int) (x16:Bool) (w17:World):Prop:=
Calls Tryz.prog 31 #[.slice x12 x13 x14] w17 λ e18 w19=>∃t20 t21 t22 t23 t24 t25 t26 t27 t28,e18=.returned (.tuple #[.pointer t20,.slice t21 t22 t23,.pointer t24,.slice t25 t26 t27,.bool t28])/\
bsel t28 (
Calls Tryz.prog 32 #[.pointer none,.int .i64 x15,.bool x16] w19 λ e29 w30=>∃t31,e29=.returned (.string t31)/\
bsel (t31.toList == (⟨#[]⟩:ByteArray).toList) (
Calls Tryz.prog 32 #[.pointer none,.int .i64 0,.bool x16] w30 λ e32 w33=>∃t34,e32=.returned (.string t34)/\
bsel (t34.toList == (⟨#[]⟩:ByteArray).toList) (
Calls Tryz.prog 32 #[.pointer t20,.int .i64 x15,.bool x16] w33 λ e35 w36=>∃t37,e35=.returned (.string t37)/\
bsel (t37.toList == (⟨#[]⟩:ByteArray).toList) (
Calls Tryz.prog 30 #[] w36 λ e38 w39=>∃t40,e38=.returned (.bool t40)/\
Q (.bool t40) w39) (
Q (.bool false) w36)) (
Q (.bool false) w33)) (
Q (.bool false) w30)) (
Q (.bool false) w19)
def V6 (x1:Option Addr) (x2 x3:Nat) (x4:Int) (x5:Bool) (w:World) (Q:Value->World->Prop):Prop:=
Calls Tryz.prog 29 #[.slice x1 x2 x3] w λ e6 w7=>∃t8,e6=.returned (.bool t8)/\
bsel t8 (
Calls Tryz.prog 30 #[] w7 λ e9 w10=>∃t11,e9=.returned (.bool t11)/\
Q (.bool t11) w10) (
bsel (decide (x4>=0)) (
V6J1 Q x1 x2 x3 (IntKind.wrap .i64 ((-1)-x4)) x5 w7) (
V6J1 Q x1 x2 x3 x4 x5 w7))
def V6_ann:Nat->Ann:=λ _=>⟨[],[]⟩
theorem V6_sound (x1 x2 x3 x4 x5 w Q) (h:V6 x1 x2 x3 x4 x5 w Q):Calls Tryz.prog 6 #[.slice x1 x2 x3,.int .i64 x4,.bool x5] w λ e w'=>∃v,e=.returned v/\Q v w':=
 sound_of Tryz.func6 V6_ann rfl (Eq.mpr (by kernel_rfl) h)
end Go.Fw

set_option maxRecDepth 100000
namespace Go.Fw
open Go.Proofs
def V24J1 (Q:Value->World->Prop) (I4:Int->Int->World->Prop) (μ5:Int->Int->World->Nat) (i6 i7:Int) (w8:World) (x10:Option Addr) (x11 x12:Nat) (x13 x14:Int) (x15:Bool) (w16:World):Prop:=
bsel x15 (
idxK x10 x11 x14 8 λ a17=>
∃t18 t19 t20,w16.drew.cell? (a17.add 5)=some (.slice t18 t19 t20)/\
idxK x10 x11 x14 8 λ a21=>
∃t22,w16.drew.cell? (a21.add 4)=some (.string t22)/\
idxK x10 x11 x14 8 λ a23=>
∃t24 t25 t26,w16.drew.cell? ((a23.add 2).add 1)=some (.slice t24 t25 t26)/\
(I4 (IntKind.wrap .i64 (IntKind.wrap .i64 (IntKind.wrap .i64 (x13+(t19:Int))+(t22.size:Int))+(t25:Int))) (IntKind.wrap .i64 (x14+1)) w16.drew/\μ5 (IntKind.wrap .i64 (IntKind.wrap .i64 (IntKind.wrap .i64 (x13+(t19:Int))+(t22.size:Int))+(t25:Int))) (IntKind.wrap .i64 (x14+1)) w16.drew<μ5 i6 i7 w8)) (
Q (.bool (decide (x13>2000))) w16)
def V24 (x1:Option Addr) (x2 x3:Nat) (w:World) (Q:Value->World->Prop):Prop:=
bsel (decide ((x2:Int)>100)) (
Q (.bool true) w) (
∃(I4:Int->Int->World->Prop) (μ5:Int->Int->World->Nat),I4 0 0 w/\∀(j9:Fr) (i6:Int) (i7:Int) (w8:World),I4 i6 i7 w8->
bsel (decide (i7<(x2:Int))) (
V24J1 Q I4 μ5 i6 i7 w8 x1 x2 x3 i6 i7 (decide (i6<=2000)) w8) (
V24J1 Q I4 μ5 i6 i7 w8 x1 x2 x3 i6 i7 false w8))
def V24_ann:Nat->Ann:=λ k=>match k with | 0=>⟨[0],[(3,.int .i64),(4,.int .i64)]⟩ | _=>⟨[],[]⟩
def V29J1 (Q:Value->World->Prop) (I4:Int->Int->World->Prop) (μ5:Int->Int->World->Nat) (i6 i7:Int) (w8:World) (x10:Option Addr) (x11 x12:Nat) (x13 x14:Int) (x15:Bool) (w16:World):Prop:=
bsel x15 (
idxK x10 x11 x14 8 λ a17=>
∃t18 t19 t20,w16.drew.cell? (a17.add 5)=some (.slice t18 t19 t20)/\
idxK x10 x11 x14 8 λ a21=>
∃t22,w16.drew.cell? (a21.add 4)=some (.string t22)/\
idxK x10 x11 x14 8 λ a23=>
∃t24 t25 t26,w16.drew.cell? ((a23.add 2).add 1)=some (.slice t24 t25 t26)/\
(I4 (IntKind.wrap .i64 (IntKind.wrap .i64 (IntKind.wrap .i64 (x13+(t19:Int))+(t22.size:Int))+(t25:Int))) (IntKind.wrap .i64 (x14+1)) w16.drew/\μ5 (IntKind.wrap .i64 (IntKind.wrap .i64 (IntKind.wrap .i64 (x13+(t19:Int))+(t22.size:Int))+(t25:Int))) (IntKind.wrap .i64 (x14+1)) w16.drew<μ5 i6 i7 w8)) (
Q (.bool (decide (x13>20000))) w16)
def V29 (x1:Option Addr) (x2 x3:Nat) (w:World) (Q:Value->World->Prop):Prop:=
bsel (decide ((x2:Int)>200)) (
Q (.bool true) w) (
∃(I4:Int->Int->World->Prop) (μ5:Int->Int->World->Nat),I4 0 0 w/\∀(j9:Fr) (i6:Int) (i7:Int) (w8:World),I4 i6 i7 w8->
bsel (decide (i7<(x2:Int))) (
V29J1 Q I4 μ5 i6 i7 w8 x1 x2 x3 i6 i7 (decide (i6<=20000)) w8) (
V29J1 Q I4 μ5 i6 i7 w8 x1 x2 x3 i6 i7 false w8))
def V29_ann:Nat->Ann:=λ k=>match k with | 0=>⟨[0],[(3,.int .i64),(4,.int .i64)]⟩ | _=>⟨[],[]⟩
theorem V29_sound (x1 x2 x3 w Q) (h:V29 x1 x2 x3 w Q):Calls Tryz.prog 29 #[.slice x1 x2 x3] w λ e w'=>∃v,e=.returned v/\Q v w':=
 sound_of Tryz.func29 V29_ann rfl (Eq.mpr (by kernel_rfl) h)
end Go.Fw
