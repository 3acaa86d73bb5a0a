/- Part of a proof over the given program: texts of lemmas (conditions: none beyond each lemma as stated). -/
import Derived.Test.YtdmoefbfepeeaaaGreatDoorN23
import Derived.Test.YtdmoefbfepeeaaaGreatDoorRows
import Derived.Lib.LaidU8T
import Derived.MakeChecks
set_option linter.unnecessarySimpa false
set_option linter.unusedVariables false
set_option linter.unusedSimpArgs false

namespace Go.Proofs.YtdmoefbfepeeaaaGreatDoor
open Go.Lib Go.ChangeShapes Go.WideShapes Go.ChangeAt Go.RowKit Go.Fw
theorem u8x:U8Extra Tryz.prog Tryz.lays196_ren:=⟨by kernel_rfl,by kernel_rfl,by kernel_rfl,by kernel_rfl,by kernel_rfl,by kernel_rfl,by kernel_rfl⟩
theorem first_is:(Rows.laid_unicode_utf8_first:DataW Unit)=firstData:=by kernel_rfl
theorem accept_is:(Rows.laid_unicode_utf8_acceptRanges:DataW Unit)=acceptData:=by kernel_rfl
theorem utf8_of_laid {W:World} (h:laidMetH Tryz.prog Rows.storeOrdersRow.laid W):Utf8Tabs 1 2 W:=by
 rw [MakeChecks.laidMetH_plain _ _ _ (by kernel_rfl)] at h
 refine utf8Tabs_of_readsT (U8Types.of196 Tryz.lays196) u8x ?_ ?_
 ·rw [<-first_is]
  exact laidMet.reads h (.tail _ (.tail _ (.tail _ (.tail _ (.head _)))))
 ·rw [<-accept_is]
  exact laidMet.reads h (.tail _ (.tail _ (.tail _ (.head _))))
theorem okWide_low {P:Program} {w:World} {r:Reach} {base:Nat} {t e:TypeId} {a:Option Addr} {l c:Nat} (hu:P.underlying t=some (.slice e)) (h:Value.okWide P w r base t (.slice a l c)):∀p,a=some p->p.block<w.heap.size:=by
 rintro p rfl
 unfold Value.okWide at h
 rw [hu] at h
 simp only [Cell.okWide,hu,Cell.ok] at h
 obtain ⟨_,_,_,_,row,cells,hs,_⟩:=h
 rcases Nat.lt_or_ge p.block w.heap.size with hl | hl
 ·exact hl
 ·unfold World.shape? at hs
  rw [Array.getElem?_eq_none hl] at hs
  cases hs
end Go.Proofs.YtdmoefbfepeeaaaGreatDoor

set_option maxRecDepth 100000
namespace Go.Fw
open Go.Proofs
def V65J1 (Q:Value->World->Prop) (x13:Addr) (x14:Bool) (w15:World):Prop:=
bsel x14 (
Q (.tuple #[.pointer none,.int .i64 1]) w15) (
∃t16 t17 t18 t19 t20 t21 t22 t23 t24,CellsAt w15 x13 [.int .i64 t16,.int .i64 t17,.int .i64 t18,.slice t19 t20 t21,.slice t22 t23 t24]/\
newK w15 #[.int .i64 0,.int .i64 0,.int .i64 0,.int .i64 0] 217 λ a25 w26=>
newK w26 #[.slice none 0 0,.int .i64 0,.int .i64 t16,.int .i64 t17,.int .i64 t18,.slice t19 t20 t21,.slice t22 t23 t24,.pointer (some a25)] 220 λ a27 w28=>
∃t29 t30 t31,w28.cell? (a27.add 0)=some (.slice t29 t30 t31)/\
newK w28 #[.int .i64 1,.int .i64 0,.bool false,.bool false,.bool false,.slice none 0 0,.string ⟨#[]⟩,.slice none 0 0,.pointer none,.int .i64 0,.slice none 0 0,.int .i64 0,.int .i64 0,.int .i64 0,.int .i64 0,.pointer none,.pointer none,.int .i64 0,.pointer none,.bool false,.bool false,.bool false,.int .i64 2,.int .i64 0,.bool false,.bool false,.bool false,.slice none 0 0,.string ⟨#[]⟩,.slice none 0 0,.pointer none,.int .i64 0,.slice none 0 0,.int .i64 0,.int .i64 0,.int .i64 0,.int .i64 0,.pointer none,.pointer none,.int .i64 0,.pointer none,.bool false,.bool false,.bool false,.int .i64 2,.int .i64 0,.bool false,.bool true,.bool false,.slice none 0 0,.string ⟨#[]⟩,.slice none 0 0,.pointer none,.int .i64 0,.slice none 0 0,.int .i64 0,.int .i64 0,.int .i64 0,.int .i64 0,.pointer none,.pointer none,.int .i64 0,.pointer none,.bool false,.bool false,.bool false] 226 λ a32 w33=>
∃w34:World,∃t35 t36 t37,(vcEff.bltV .append #[218,218] 218 #[.slice t29 t30 t31,.slice (some a32) 3 3]).run Tryz.prog w33=.ok (.slice t35 t36 t37) w34/\
stK w34 (a27.add 0) (.slice t35 t36 t37) λ w38=>
Q (.tuple #[.pointer (some a27),.int .i64 0]) w38)
def V65 (x1 x2 x3:Int) (x4:Option Addr) (x5 x6:Nat) (x7:Option Addr) (x8 x9:Nat) (w:World) (Q:Value->World->Prop):Prop:=
newK w #[.int .i64 x1,.int .i64 x2,.int .i64 x3,.slice x4 x5 x6,.slice x7 x8 x9] 32 λ a10 w11=>
∃t12,w11.cell? (a10.add 0)=some (.int .i64 t12)/\
bsel (decide (t12<0)) (
V65J1 Q a10 true w11) (
∃t39,w11.cell? (a10.add 0)=some (.int .i64 t39)/\
bsel (decide (t39>100000)) (
V65J1 Q a10 true w11) (
∃t40,w11.cell? (a10.add 1)=some (.int .i64 t40)/\
bsel (decide (t40<0)) (
V65J1 Q a10 true w11) (
∃t41,w11.cell? (a10.add 1)=some (.int .i64 t41)/\
bsel (decide (t41>65536)) (
V65J1 Q a10 true w11) (
∃t42,w11.cell? (a10.add 2)=some (.int .i64 t42)/\
bsel (decide (t42<0)) (
V65J1 Q a10 true w11) (
∃t43,w11.cell? (a10.add 2)=some (.int .i64 t43)/\
V65J1 Q a10 (decide (t43>256)) w11)))))
def V65_ann:Nat->Ann:=λ _=>⟨[],[]⟩
theorem V65_sound (x1 x2 x3 x4 x5 x6 x7 x8 x9 w Q) (h:V65 x1 x2 x3 x4 x5 x6 x7 x8 x9 w Q):Calls Tryz.prog 65 #[.agg #[.int .i64 x1,.int .i64 x2,.int .i64 x3,.slice x4 x5 x6,.slice x7 x8 x9]] w λ e w'=>∃v,e=.returned v/\Q v w':=
 sound_of Tryz.func65 V65_ann rfl (Eq.mpr (by kernel_rfl) h)
def V66 (x1 x2:Option Addr) (x3 x4:Nat) (w:World) (Q:Value->World->Prop):Prop:=
∃(I5:Int->World->Prop) (μ6:Int->World->Nat),I5 0 w/\∀(j9:Fr) (i7:Int) (w8:World),I5 i7 w8->
bsel (decide (i7<(x3:Int))) (
nilK x1 λ a10=>
∃t11,w8.cell? ((a10.add 2).add 1)=some (.int .i64 t11)/\
Calls Tryz.prog 116 #[.slice x2 x3 x4,.int .i64 i7,.int .i64 t11] w8 λ e12 w13=>∃t14,e12=.returned (.int .i64 t14)/\
bsel (t14 != 0) (
Q (.tuple #[.slice none 0 0,.int .i64 t14]) w13) (
(I5 (IntKind.wrap .i64 (i7+1)) w13/\μ6 (IntKind.wrap .i64 (i7+1)) w13<μ6 i7 w8))) (
∃(I15:Option Addr->Nat->Nat->Int->World->Prop) (μ16:Option Addr->Nat->Nat->Int->World->Nat),I15 none 0 0 0 w8/\∀(j22:Fr) (i17:Option Addr) (i18:Nat) (i19:Nat) (i20:Int) (w21:World),I15 i17 i18 i19 i20 w21->
bsel (decide (i20<(x3:Int))) (
Calls Tryz.prog 117 #[.pointer x1,.slice x2 x3 x4,.slice i17 i18 i19,.int .i64 i20] w21 λ e23 w24=>∃t25,e23=.returned (.int .i64 t25)/\
newK w24 #[.int .i64 t25] 3 λ a26 w27=>
∃w28:World,∃t29 t30 t31,(vcEff.bltV .append #[30,30] 30 #[.slice i17 i18 i19,.slice (some a26) 1 1]).run Tryz.prog w27=.ok (.slice t29 t30 t31) w28/\
(I15 t29 t30 t31 (IntKind.wrap .i64 (i20+1)) w28/\μ16 t29 t30 t31 (IntKind.wrap .i64 (i20+1)) w28<μ16 i17 i18 i19 i20 w21)) (
∃(I32:Int->World->Prop) (μ33:Int->World->Nat),I32 0 w21/\∀(j36:Fr) (i34:Int) (w35:World),I32 i34 w35->
bsel (decide (i34<(x3:Int))) (
idxK x2 x3 i34 8 λ a37=>
∃t38,w35.cell? (a37.add 0)=some (.int .i64 t38)/\
bsel (t38 == 6) (
∃(I39:Int->World->Prop) (μ40:Int->World->Nat),I39 0 w35/\∀(j43:Fr) (i41:Int) (w42:World),I39 i41 w42->
idxK x2 x3 i34 8 λ a44=>
∃t45 t46 t47,w42.cell? (a44.add 5)=some (.slice t45 t46 t47)/\
bsel (decide (i41<(t46:Int))) (
nilK x1 λ a48=>
∃t49 t50 t51,w42.drew.cell? (a48.add 0)=some (.slice t49 t50 t51)/\
idxK i17 i18 i34 1 λ a52=>
∃t53,w42.drew.cell? a52=some (.int .i64 t53)/\
nilK x1 λ a54=>
∃t55 t56 t57,w42.drew.cell? (a54.add 0)=some (.slice t55 t56 t57)/\
idxK i17 i18 i34 1 λ a58=>
∃t59,w42.drew.cell? a58=some (.int .i64 t59)/\
idxK t55 t56 t59 22 λ a60=>
∃t61 t62 t63,w42.drew.cell? (a60.add 7)=some (.slice t61 t62 t63)/\
idxK x2 x3 i34 8 λ a64=>
∃t65 t66 t67,w42.drew.cell? (a64.add 5)=some (.slice t65 t66 t67)/\
idxK t65 t66 i41 1 λ a68=>
∃t69,w42.drew.cell? a68=some (.int .i64 t69)/\
idxK i17 i18 t69 1 λ a70=>
∃t71,w42.drew.cell? a70=some (.int .i64 t71)/\
newK w42.drew #[.int .i64 t71] 3 λ a72 w73=>
(w73.cell? (a60.add 7)=some (.slice t61 t62 t63))/\
(w73.cell? a58=some (.int .i64 t59))/\
(w73.cell? (a54.add 0)=some (.slice t55 t56 t57))/\
(w73.cell? a52=some (.int .i64 t53))/\
(w73.cell? (a48.add 0)=some (.slice t49 t50 t51))/\
∃w74:World,∃t75 t76 t77,(vcEff.bltV .append #[30,30] 30 #[.slice t61 t62 t63,.slice (some a72) 1 1]).run Tryz.prog w73=.ok (.slice t75 t76 t77) w74/\
(w74.cell? a52=some (.int .i64 t53))/\
(w74.cell? (a48.add 0)=some (.slice t49 t50 t51))/\
idxK t49 t50 t53 22 λ a78=>
stK w74 (a78.add 7) (.slice t75 t76 t77) λ w79=>
(I39 (IntKind.wrap .i64 (i41+1)) w79/\μ40 (IntKind.wrap .i64 (i41+1)) w79<μ40 i41 w42)) (
(I32 (IntKind.wrap .i64 (i34+1)) w42/\μ33 (IntKind.wrap .i64 (i34+1)) w42<μ33 i34 w35))) (
(I32 (IntKind.wrap .i64 (i34+1)) w35/\μ33 (IntKind.wrap .i64 (i34+1)) w35<μ33 i34 w35))) (
Q (.tuple #[.slice i17 i18 i19,.int .i64 0]) w35)))
def V66_ann:Nat->Ann:=λ k=>match k with | 0=>⟨[0,1],[(6,.int .i64)]⟩ | 1=>⟨[0,1],[(8,.slice),(9,.int .i64)]⟩ | 2=>⟨[0,1,8],[(10,.int .i64)]⟩ | 3=>⟨[0,1,8,10],[(11,.int .i64)]⟩ | _=>⟨[],[]⟩
theorem V66_sound (x1 x2 x3 x4 w Q) (h:V66 x1 x2 x3 x4 w Q):Calls Tryz.prog 66 #[.pointer x1,.slice x2 x3 x4] w λ e w'=>∃v,e=.returned v/\Q v w':=
 sound_of Tryz.func66 V66_ann rfl (Eq.mpr (by kernel_rfl) h)
def V182 (x1:Bool) (w:World) (Q:Value->World->Prop):Prop:=
bsel x1 (
Q (.int .i64 2) w) (
Q (.int .i64 1) w)
def V182_ann:Nat->Ann:=λ _=>⟨[],[]⟩
theorem V182_sound (x1 w Q) (h:V182 x1 w Q):Calls Tryz.prog 182 #[.bool x1] w λ e w'=>∃v,e=.returned v/\Q v w':=
 sound_of Tryz.func182 V182_ann rfl (Eq.mpr (by kernel_rfl) h)
def V184 (x1:Option Addr) (x2:ByteArray) (w:World) (Q:Value->World->Prop):Prop:=
Calls Tryz.prog 245 #[.pointer x1,.agg #[.int .i64 4,.int .i64 0,.bool false,.bool false,.bool false,.slice none 0 0,.string x2,.slice none 0 0,.pointer none,.int .i64 0,.slice none 0 0,.int .i64 0,.int .i64 0,.int .i64 0,.int .i64 0,.pointer none,.pointer none,.int .i64 0,.pointer none,.bool false,.bool false,.bool false]] w λ e3 w4=>∃t5,e3=.returned (.int .i64 t5)/\
Q (.int .i64 t5) w4
def V184_ann:Nat->Ann:=λ _=>⟨[],[]⟩
theorem V184_sound (x1 x2 w Q) (h:V184 x1 x2 w Q):Calls Tryz.prog 184 #[.pointer x1,.string x2] w λ e w'=>∃v,e=.returned v/\Q v w':=
 sound_of Tryz.func184 V184_ann rfl (Eq.mpr (by kernel_rfl) h)
def V185 (x1:Option Addr) (x2 x3:Int) (x4 x5 x6:Bool) (x7:Option Addr) (x8 x9:Nat) (x10:ByteArray) (x11:Option Addr) (x12 x13:Nat) (x14:Option Addr) (x15:Int) (x16:Option Addr) (x17 x18:Nat) (x19 x20:Int) (x21 x22:Int) (x23 x24:Option Addr) (x25:Int) (x26:Option Addr) (x27 x28 x29:Bool) (w:World) (Q:Value->World->Prop):Prop:=
newK w #[.int .i64 x2,.int .i64 x3,.bool x4,.bool x5,.bool x6,.slice x7 x8 x9,.string x10,.slice x11 x12 x13,.pointer x14,.int .i64 x15,.slice x16 x17 x18,.int .i64 x19,.int .i64 x20,.int .i64 x21,.int .i64 x22,.pointer x23,.pointer x24,.int .i64 x25,.pointer x26,.bool x27,.bool x28,.bool x29] 226 λ a30 w31=>
nilK x1 λ a32=>
∃t33,w31.cell? (a32.add 1)=some (.int .i64 t33)/\
nilK x1 λ a34=>
stK w31 (a34.add 1) (.int .i64 (IntKind.wrap .i64 (t33+1))) λ w35=>
nilK x1 λ a36=>
∃t37,w35.cell? (a36.add 1)=some (.int .i64 t37)/\
stK w35 (a30.add 1) (.int .i64 t37) λ w38=>
∃t39 t40 t41 t42 t43 t44 t45 t46 t47 t48 t49 t50 t51 t52 t53 t54 t55 t56 t57 t58 t59 t60 t61 t62 t63 t64 t65 t66,CellsAt w38 a30 [.int .i64 t39,.int .i64 t40,.bool t41,.bool t42,.bool t43,.slice t44 t45 t46,.string t47,.slice t48 t49 t50,.pointer t51,.int .i64 t52,.slice t53 t54 t55,.int .i64 t56,.int .i64 t57,.int .i64 t58,.int .i64 t59,.pointer t60,.pointer t61,.int .i64 t62,.pointer t63,.bool t64,.bool t65,.bool t66]/\
Calls Tryz.prog 245 #[.pointer x1,.agg #[.int .i64 t39,.int .i64 t40,.bool t41,.bool t42,.bool t43,.slice t44 t45 t46,.string t47,.slice t48 t49 t50,.pointer t51,.int .i64 t52,.slice t53 t54 t55,.int .i64 t56,.int .i64 t57,.int .i64 t58,.int .i64 t59,.pointer t60,.pointer t61,.int .i64 t62,.pointer t63,.bool t64,.bool t65,.bool t66]] w38 λ e67 w68=>∃t69,e67=.returned (.int .i64 t69)/\
Q (.int .i64 t69) w68
def V185_ann:Nat->Ann:=λ _=>⟨[],[]⟩
theorem V185_sound (x1 x2 x3 x4 x5 x6 x7 x8 x9 x10 x11 x12 x13 x14 x15 x16 x17 x18 x19 x20 x21 x22 x23 x24 x25 x26 x27 x28 x29 w Q) (h:V185 x1 x2 x3 x4 x5 x6 x7 x8 x9 x10 x11 x12 x13 x14 x15 x16 x17 x18 x19 x20 x21 x22 x23 x24 x25 x26 x27 x28 x29 w Q):Calls Tryz.prog 185 #[.pointer x1,.agg #[.int .i64 x2,.int .i64 x3,.bool x4,.bool x5,.bool x6,.slice x7 x8 x9,.string x10,.slice x11 x12 x13,.pointer x14,.int .i64 x15,.slice x16 x17 x18,.int .i64 x19,.int .i64 x20,.int .i64 x21,.int .i64 x22,.pointer x23,.pointer x24,.int .i64 x25,.pointer x26,.bool x27,.bool x28,.bool x29]] w λ e w'=>∃v,e=.returned v/\Q v w':=
 sound_of Tryz.func185 V185_ann rfl (Eq.mpr (by kernel_rfl) h)
def V245J1 (Q:Value->World->Prop) (x72:Option Addr) (w73:World):Prop:=
nilK x72 λ a74=>
∃t75 t76 t77,w73.cell? (a74.add 0)=some (.slice t75 t76 t77)/\
Q (.int .i64 (IntKind.wrap .i64 ((t76:Int)-1))) w73
def V245 (x1:Option Addr) (x2 x3:Int) (x4 x5 x6:Bool) (x7:Option Addr) (x8 x9:Nat) (x10:ByteArray) (x11:Option Addr) (x12 x13:Nat) (x14:Option Addr) (x15:Int) (x16:Option Addr) (x17 x18:Nat) (x19 x20:Int) (x21 x22:Int) (x23 x24:Option Addr) (x25:Int) (x26:Option Addr) (x27 x28 x29:Bool) (w:World) (Q:Value->World->Prop):Prop:=
newK w #[.int .i64 x2,.int .i64 x3,.bool x4,.bool x5,.bool x6,.slice x7 x8 x9,.string x10,.slice x11 x12 x13,.pointer x14,.int .i64 x15,.slice x16 x17 x18,.int .i64 x19,.int .i64 x20,.int .i64 x21,.int .i64 x22,.pointer x23,.pointer x24,.int .i64 x25,.pointer x26,.bool x27,.bool x28,.bool x29] 226 λ a30 w31=>
nilK x1 λ a32=>
∃t33 t34 t35,w31.drew.cell? (a32.add 0)=some (.slice t33 t34 t35)/\
∃t36 t37 t38 t39 t40 t41 t42 t43 t44 t45 t46 t47 t48 t49 t50 t51 t52 t53 t54 t55 t56 t57 t58 t59 t60 t61 t62 t63,CellsAt w31.drew a30 [.int .i64 t36,.int .i64 t37,.bool t38,.bool t39,.bool t40,.slice t41 t42 t43,.string t44,.slice t45 t46 t47,.pointer t48,.int .i64 t49,.slice t50 t51 t52,.int .i64 t53,.int .i64 t54,.int .i64 t55,.int .i64 t56,.pointer t57,.pointer t58,.int .i64 t59,.pointer t60,.bool t61,.bool t62,.bool t63]/\
newK w31.drew #[.int .i64 t36,.int .i64 t37,.bool t38,.bool t39,.bool t40,.slice t41 t42 t43,.string t44,.slice t45 t46 t47,.pointer t48,.int .i64 t49,.slice t50 t51 t52,.int .i64 t53,.int .i64 t54,.int .i64 t55,.int .i64 t56,.pointer t57,.pointer t58,.int .i64 t59,.pointer t60,.bool t61,.bool t62,.bool t63] 226 λ a64 w65=>
(w65.cell? (a32.add 0)=some (.slice t33 t34 t35))/\
∃w66:World,∃t67 t68 t69,(vcEff.bltV .append #[218,218] 218 #[.slice t33 t34 t35,.slice (some a64) 1 1]).run Tryz.prog w65=.ok (.slice t67 t68 t69) w66/\
nilK x1 λ a70=>
stK w66 (a70.add 0) (.slice t67 t68 t69) λ w71=>
V245J1 Q x1 w71
def V245_ann:Nat->Ann:=λ _=>⟨[],[]⟩
theorem V245_sound (x1 x2 x3 x4 x5 x6 x7 x8 x9 x10 x11 x12 x13 x14 x15 x16 x17 x18 x19 x20 x21 x22 x23 x24 x25 x26 x27 x28 x29 w Q) (h:V245 x1 x2 x3 x4 x5 x6 x7 x8 x9 x10 x11 x12 x13 x14 x15 x16 x17 x18 x19 x20 x21 x22 x23 x24 x25 x26 x27 x28 x29 w Q):Calls Tryz.prog 245 #[.pointer x1,.agg #[.int .i64 x2,.int .i64 x3,.bool x4,.bool x5,.bool x6,.slice x7 x8 x9,.string x10,.slice x11 x12 x13,.pointer x14,.int .i64 x15,.slice x16 x17 x18,.int .i64 x19,.int .i64 x20,.int .i64 x21,.int .i64 x22,.pointer x23,.pointer x24,.int .i64 x25,.pointer x26,.bool x27,.bool x28,.bool x29]] w λ e w'=>∃v,e=.returned v/\Q v w':=
 sound_of Tryz.func245 V245_ann rfl (Eq.mpr (by kernel_rfl) h)
end Go.Fw

namespace Go.Fw
noncomputable def nlX (c:Code):Nat:=
 Code.rec (motive:=λ _=>Nat) 0 (λ _ _ _=>0) (λ _ _ a b=>a+b) (λ _ _ _ a b=>a+b) (λ _ _ a=>a) (λ _ a=>a+1) (λ _ _ _ _ _ _=>0) (λ _=>0) (λ _ a=>a) (λ _=>0) (λ _=>0) 0 (λ _=>0) c
noncomputable def nsX (c:Code):Nat:=
 Code.rec (motive:=λ _=>Nat) 0 (λ _ _ _=>0) (λ _ _ a b=>a+b+1) (λ _ _ _ a b=>a+b) (λ _ _ a=>a) (λ _ a=>a) (λ _ _ _ _ _ _=>0) (λ _=>0) (λ _ a=>a) (λ _=>0) (λ _=>0) 0 (λ _=>0) c
noncomputable def cutV (an:Ann) (asx:List Nat) (A B:(Exit->Fr->World->Prop)->Fr->World->Prop) (Q:Exit->Fr->World->Prop) (ρ:Fr) (w:World):Prop:=
 match dis an.fx asx with
 | false=>False
 | true=>∃R:CurT (World->Prop) an.st,A (λ e ρ' w'=>match e with | .normal=>unT ρ' an.st R R (λ i _=>i w') | e=>Q e ρ' w') ρ w/\
   ∀j:Fr,allT an.st (fixF an.fx ρ j) R R λ ρ1 i _=>∀w,i w->B Q ρ1 w
noncomputable def wpX (P:Program) (n:Nat) (ann:Nat->Ann) (cut:Nat->Option Ann) (c:Code):Nat->Nat->(Exit->Fr->World->Prop)->Fr->World->Prop:=
 Code.rec (motive:=λ _=>Nat->Nat->(Exit->Fr->World->Prop)->Fr->World->Prop)
  (λ _ _ Q ρ w=>Q .normal ρ w)
  (λ _ ops draw _ _ Q ρ w=>vcRegion P n ops draw (Q .normal) ρ w)
  (λ a _ iha ihb k q Q ρ w=>match cut q with
   | none=>iha k (q+1) (λ e ρ w=>match e with | .normal=>ihb (k+nlX a) (q+1+nsX a) Q ρ w | e=>Q e ρ w) ρ w
   | some an=>cutV an (asg a) (iha k (q+1)) (ihb (k+nlX a) (q+1+nsX a)) Q ρ w)
  (λ c a _ iha ihb k q Q ρ w=>match ev n ρ c with
   | .bool b=>match c with
    | .tmp t=>bsel b (iha k q Q (upd ρ t (.bool true)) w) (ihb (k+nlX a) (q+nsX a) Q (upd ρ t (.bool false)) w)
    | _=>bsel b (iha k q Q ρ w) (ihb (k+nlX a) (q+nsX a) Q ρ w)
   | _=>False)
  (λ id _ ih k q Q ρ w=>ih k q (λ e ρ w=>match e with | .exit id'=>(match Nat.beq id' id with | true=>Q .normal ρ w | false=>Q (.exit id') ρ w) | e=>Q e ρ w) ρ w)
  (λ b ih k q Q ρ w=>loopV (ann k) (asg b) (ih (k+1) q) Q ρ w)
  (λ _ _ _ _ _ _ _ _ _ _ _=>False)
  (λ id _ _ Q ρ w=>Q (.exit id) ρ w)
  (λ _ ih k q Q ρ w=>ih k q Q ρ w)
  (λ _ _ _ Q ρ w=>Q .normal ρ w)
  (λ _ _ _ _ _ _=>False)
  (λ _ _ Q ρ w=>Q .ret ρ w)
  (λ _ _ _ _ _ _=>False) c
theorem wpX_sound {P:Program} (hP:Plain P) (hM:P.follows .mixedOrders=true) {n:Nat} {ann:Nat->Ann} {cut:Nat->Option Ann} {rd:Option Nat} {m:Nat} {D:List Deferred} :
  ∀(c:Code) (k q:Nat) (Fx:Nat->Option Value) (Q:Exit->Fr->World->Prop) (a:Act) (w:World),(∀t ∈ asg c,Fx t=none)->
   Real n D Fx (wpX P n ann cut c k q Q) a w->c.wpIn (fence rd) m P (lift n D Fx Q) a w:=by
 intro c
 induction c with
 | skip=>intro k q Fx Q a w hx h;exact wpIn_skip h
 | region id ops draw=>
  intro k q Fx Q a w hx h
  refine vcRegion_sound (D:=D) (Fx:=Fx) (K:=Q .normal) hP hM (λ c a w h=>h) (λ a w h=>h) (λ j o ho t ht=>hx t ?_) h
  simp only [asg,List.mem_filterMap]
  exact ⟨o,by rw [Array.mem_toList_iff];exact Array.mem_of_getElem? ho,ht⟩
 | seq x y ihx ihy=>
  intro k q Fx Q a w hx h
  have hxx:∀t ∈ asg x,Fx t=none:=λ t ht=>hx t (by simp [asg,ht])
  have hxy:∀t ∈ asg y,Fx t=none:=λ t ht=>hx t (by simp [asg,ht])
  obtain ⟨ρ,hr,hd,hF,h⟩:=h
  change (match cut q with
   | none=>wpX P n ann cut x k (q+1) (λ e ρ w=>match e with | .normal=>wpX P n ann cut y (k+nlX x) (q+1+nsX x) Q ρ w | e=>Q e ρ w) ρ w
   | some an=>cutV an (asg x) (wpX P n ann cut x k (q+1)) (wpX P n ann cut y (k+nlX x) (q+1+nsX x)) Q ρ w) at h
  split at h
  ·refine wpIn_seq (wpIn_mono (ihx k (q+1) Fx _ a w hxx ⟨ρ,hr,hd,hF,h⟩) λ e a' w' hq=>?_)
   cases e with
   | normal=>exact ihy _ _ Fx Q a' w' hxy hq
   | exit id=>exact hq
   | ret=>exact hq
   | goto l=>exact hq
   | panic c=>exact hq
   | outgrown=>exact hq
  ·rename_i an han
   unfold cutV at h
   split at h
   ·exact h.elim
   ·rename_i hdis
    obtain ⟨R,h0,hall⟩:=h
    let Fx2:Nat->Option Value:=λ t=>if t ∈ an.fx/\t<n then some (ρ t) else Fx t
    have hFx2:∀t ∈ asg x,Fx2 t=none:=by
     intro t ht
     have:t ∉ an.fx:=λ hm=>dis_spec hdis hm ht
     simp only [Fx2,this,false_and,if_false]
     exact hxx t ht
    have hF2:∀t v,Fx2 t=some v->a.tmps[t]?=some v:=by
     intro t v hv
     simp only [Fx2] at hv
     split at hv
     ·rename_i hc
      cases hv
      exact hr.get t hc.2
     ·exact hF t v hv
    refine wpIn_seq (wpIn_mono (ihx k (q+1) Fx2 _ a w hFx2 ⟨ρ,hr,hd,hF2,h0⟩) λ e a' w' hq=>?_)
    have weak:∀{K:Fr->World->Prop},Real n D Fx2 K a' w'->Real n D Fx K a' w':=by
     rintro K ⟨ρ',hr',hd',hF',hK⟩
     refine ⟨ρ',hr',hd',λ t v hv=>?_,hK⟩
     by_cases hc:t ∈ an.fx/\t<n
     ·have e1:=hF' t (ρ t) (by simp only [Fx2,if_pos hc])
      have e2:=hF t v hv
      rw [hr.get t hc.2] at e2
      rw [e1];exact e2
     ·exact hF' t v (by simp only [Fx2,if_neg hc];exact hv)
    cases e with
    | normal=>
     have hq:Real n D Fx2 (λ ρ' w'=>unT ρ' an.st R R λ i _=>i w') a' w':=hq
     have hw:=weak hq
     obtain ⟨ρw,_,_,hFw,_⟩:=hw
     obtain ⟨ρ',hr',hd',hF',hq⟩:=hq
     obtain ⟨ρ2,i2,m2,hr2,hi2,hB2⟩:=unT_allT hr' an.st R R (fixF an.fx ρ ρ') (λ t ht _=>by
      rw [fixF_get]
      split
      ·rename_i hm
       have e1:=hF' t (ρ t) (by simp only [Fx2,if_pos (And.intro hm ht)])
       rw [hr'.get t ht] at e1
       injection e1 with e1
       exact e1.symm
      ·rfl) hq (hall ρ')
     exact ihy _ _ Fx Q a' w' hxy ⟨ρ2,hr2,hd',hFw,hB2 w' hi2⟩
    | exit id=>exact weak hq
    | ret=>exact weak hq
    | goto l=>exact hq
    | panic c=>exact hq
    | outgrown=>exact hq
 | cond c x y ihx ihy=>
  intro k q Fx Q a w hx h
  have hxx:∀t ∈ asg x,Fx t=none:=λ t ht=>hx t (by simp [asg,ht])
  have hxy:∀t ∈ asg y,Fx t=none:=λ t ht=>hx t (by simp [asg,ht])
  obtain ⟨ρ,hr,hd,hF,h⟩:=h
  change (match ev n ρ c with
   | .bool b=>match (generalizing:=false) c with
    | .tmp t=>bsel b (wpX P n ann cut x k q Q (upd ρ t (.bool true)) w) (wpX P n ann cut y (k+nlX x) (q+nsX x) Q (upd ρ t (.bool false)) w)
    | _=>bsel b (wpX P n ann cut x k q Q ρ w) (wpX P n ann cut y (k+nlX x) (q+nsX x) Q ρ w)
   | _=>False) at h
  split at h
  ·rename_i b hb
   have hev:a.eval c=.bool b:=by rw [hr.eval,hb]
   split at h
   ·rename_i t
    have hpos:∀v,ev n ρ (.tmp t)=.bool v->Rep n a (upd ρ t (.bool v)):=by
     intro v hv
     simp only [ev] at hv
     split at hv
     ·exact hr.set t _ hv
     ·simp [undef] at hv
    cases b
    ·exact wpIn_cond_false hev (ihy _ _ Fx Q a w hxy ⟨_,hpos _ hb,hd,hF,h⟩)
    ·exact wpIn_cond_true hev (ihx _ _ Fx Q a w hxx ⟨_,hpos _ hb,hd,hF,h⟩)
   ·cases b
    ·exact wpIn_cond_false hev (ihy _ _ Fx Q a w hxy ⟨_,hr,hd,hF,h⟩)
    ·exact wpIn_cond_true hev (ihx _ _ Fx Q a w hxx ⟨_,hr,hd,hF,h⟩)
  ·exact h.elim
 | block id c ih=>
  intro k q Fx Q a w hx h
  refine wpIn_block (wpIn_mono (ih k q Fx _ a w hx h) λ e a' w' hq=>?_)
  cases e with
  | normal=>exact hq
  | exit id'=>
   obtain ⟨ρ,hr,hd,hF,hq⟩:=hq
   simp only at hq
   simp only [Exit.inBlock]
   split at hq
   ·rename_i hb
    rw [if_pos (Nat.eq_of_beq_eq_true hb)]
    exact ⟨ρ,hr,hd,hF,hq⟩
   ·rename_i hb
    rw [if_neg (Nat.ne_of_beq_eq_false hb)]
    exact ⟨ρ,hr,hd,hF,hq⟩
  | ret=>exact hq
  | goto l=>exact hq
  | panic c=>exact hq
  | outgrown=>exact hq
 | loop b ih=>
  intro k q Fx Q a w hx h
  obtain ⟨ρ,hr,hd,hF,h⟩:=h
  change loopV (ann k) (asg b) (wpX P n ann cut b (k+1) q) Q ρ w at h
  unfold loopV at h
  split at h
  ·exact h.elim
  ·rename_i hdis
   obtain ⟨I,μ,h0,hall⟩:=h
   generalize han:ann k=an at *
   let Fx2:Nat->Option Value:=λ t=>if t ∈ an.fx/\t<n then some (ρ t) else Fx t
   have hFx2:∀t ∈ asg b,Fx2 t=none:=by
    intro t ht
    have:t ∉ an.fx:=λ hm=>dis_spec hdis hm ht
    simp only [Fx2,this,false_and,if_false]
    exact hx t ht
   have hF2:∀t v,Fx2 t=some v->a.tmps[t]?=some v:=by
    intro t v hv
    simp only [Fx2] at hv
    split at hv
    ·rename_i hc
     cases hv
     exact hr.get t hc.2
    ·exact hF t v hv
   obtain ⟨ρ1,i,m1,hr1,hi,hB⟩:=unT_allT hr an.st I μ (fixF an.fx ρ ρ) (λ t ht _=>by rw [fixF_get];split <;> rfl) h0 (hall ρ)
   refine wpIn_loopN (λ k0 a w=>∃(ρ1:Fr) (i:World->Prop) (μ1:World->Nat),Rep n a ρ1/\a.defers=D/\(∀t v,Fx2 t=some v->a.tmps[t]?=some v)/\i w/\μ1 w=k0/\
     ∀w,i w->wpX P n ann cut b (k+1) q (λ e ρ' w'=>match e with
      | .normal=>unT ρ' an.st I μ λ i' m'=>i' w'/\m' w'<μ1 w
      | e=>Q e ρ' w') ρ1 w) (k0:=m1 w) ⟨ρ1,i,m1,hr1,hd,hF2,hi,rfl,hB⟩ ?round
   case round=>
    rintro k0 a1 w1 ⟨ρ1,i,m1,hr1,hd1,hF1,hi,rfl,hB⟩
    refine wpIn_mono (ih (k+1) q Fx2 _ a1 w1 hFx2 ⟨ρ1,hr1,hd1,hF1,hB w1 hi⟩) λ e a' w' hq=>?_
    have weak:∀{K:Fr->World->Prop},Real n D Fx2 K a' w'->Real n D Fx K a' w':=by
     rintro K ⟨ρ',hr',hd',hF',hK⟩
     refine ⟨ρ',hr',hd',λ t v hv=>?_,hK⟩
     by_cases hc:t ∈ an.fx/\t<n
     ·have e1:=hF' t (ρ t) (by simp only [Fx2,if_pos hc])
      have e2:=hF t v hv
      rw [hr.get t hc.2] at e2
      rw [e1];exact e2
     ·exact hF' t v (by simp only [Fx2,if_neg hc];exact hv)
    cases e with
    | normal=>
     obtain ⟨ρ',hr',hd',hF',hq⟩:=hq
     obtain ⟨ρ2,i2,m2,hr2,⟨hi2,hlt⟩,hB2⟩:=unT_allT hr' an.st I μ (fixF an.fx ρ ρ') (λ t ht _=>by
      rw [fixF_get]
      split
      ·rename_i hm
       have e1:=hF' t (ρ t) (by simp only [Fx2,if_pos (And.intro hm ht)])
       rw [hr'.get t ht] at e1
       injection e1 with e1
       exact e1.symm
      ·rfl) hq (hall ρ')
     exact ⟨m2 w',hlt,ρ2,i2,m2,hr2,hd',hF',hi2,rfl,hB2⟩
    | exit id=>exact weak hq
    | ret=>exact weak hq
    | goto l=>exact hq
    | panic c=>exact hq
    | outgrown=>exact hq
 | rangeFunc f ps asx body iha ihb=>
  intro k q Fx Q a w hx h
  obtain ⟨ρ,hr,hd,hF,h⟩:=h
  exact h.elim
 | exit id=>intro k q Fx Q a w hx h;exact wpIn_exit h
 | scope c ih=>
  intro k q Fx Q a w hx h
  exact wpIn_scope (λ l a w h=>h) (ih k q Fx Q a w hx h)
 | label l=>intro k q Fx Q a w hx h;exact wpIn_label h
 | goto l=>
  intro k q Fx Q a w hx h
  obtain ⟨ρ,hr,hd,hF,h⟩:=h
  exact h.elim
 | ret=>intro k q Fx Q a w hx h;exact wpIn_ret h
 | refuse why=>
  intro k q Fx Q a w hx h
  obtain ⟨ρ,hr,hd,hF,h⟩:=h
  exact h.elim
theorem resL_runX {P:Program} {n:Nat} {a:Act} {ρ:Fr} {w:World} (hr:Rep n a ρ):∀(l:List ResultVar) (K:List Value->Prop),resL P n ρ w l K->
  ∃vs,(l.mapM (λ (x:ResultVar)=>(match x with | .tmp t=>pure (a.tmps.getD t undef) | .cell ad t=>do loadVar t (<-asAddr (a.tmps.getD ad undef)):Sem Value))).run P w=.ok vs w/\vs.length=l.length/\K vs
 | [],K,h=>⟨[],by simp,rfl,h⟩
 | .tmp t :: l,K,h=>by
  obtain ⟨vs,hm,hl,hK⟩:=resL_runX hr l _ h
  have he:a.tmps.getD t undef=ev n ρ (.tmp t):=hr.eval (.tmp t)
  refine ⟨_,?_,?_,hK⟩
  ·rw [List.mapM_cons]
   simp only [Sem.run_bind,Sem.run_pure,Result.andThen,hm,he]
  ·simp [hl]
 | .cell ad t :: l,K,h=>by
  unfold resL at h
  split at h
  ·rename_i addr had
   obtain ⟨v,hv,h⟩:=ldK_run h
   obtain ⟨vs,hm,hl,hK⟩:=resL_runX hr l _ h
   have he:a.tmps.getD ad undef=.pointer (some addr):=by rw [<-had];exact hr.eval (.tmp ad)
   refine ⟨_,?_,?_,hK⟩
   ·rw [List.mapM_cons,Sem.run_bind]
    have hc:((do loadVar t (<-asAddr (a.tmps.getD ad undef))):Sem Value).run P w=.ok v w:=by
     rw [he];simp [asAddr,hv]
    erw [hc]
    simp only [Result.andThen]
    rw [Sem.run_bind]
    erw [hm]
    rfl
   ·simp [hl]
  ·exact h.elim
theorem calls_of_vcX {P:Program} (hP:Plain P) (hM:P.follows .mixedOrders=true) {f:FuncId} {fn:Func} {c:Code} {args:List Value} {w:World} {Q:Value->World->Prop} (ann:Nat->Ann) (cut:Nat->Option Ann)
  (hf:P.funcs[f]?=some fn) (hb:fn.body=some c) (hle:Nat.ble args.length fn.ntmps=true)
  (h:wpX P fn.ntmps ann cut c 0 0 (resQ P fn.ntmps fn.results.toList Q) (argsF args) w):Calls P f args.toArray w λ e w'=>∃v,e=.returned v/\Q v w':=by
 have hle:=Nat.le_of_ble_eq_true hle
 refine (callsIn_wide (n:=0)).1 (callsIn_of_wp (F:=Fence.wide) hf hb trivial ?_)
 have hrep:Rep fn.ntmps { tmps:=args.toArray ++ Array.replicate (fn.ntmps-args.toArray.size) undef,defers:=[] } (argsF args):=by
  refine ⟨by simp;omega,λ t ht=>?_⟩
  simp only [argsF,List.size_toArray]
  by_cases hlt:t<args.length
  ·rw [Array.getElem?_append_left (by simpa using hlt)]
   simp [hlt]
  ·rw [Array.getElem?_append_right (by simpa using hlt)]
   have:args[t]?=none:=by simp;omega
   rw [this,Array.getElem?_replicate,if_pos (by simp only [List.size_toArray];omega)]
 have hs:=wpX_sound (rd:=none) (m:=0) (cut:=cut) hP hM c 0 0 (λ _=>none) _ _ w (λ _ _=>rfl) ⟨_,hrep,rfl,(λ t v hv=>by cases hv),h⟩
 refine wpIn_mono hs λ e a w' hq=>?_
 have fin:∀{a:Act} {w':World},Real fn.ntmps [] (λ _=>none) (resV P fn.ntmps fn.results.toList Q) a w'->
   a.defers=[]/\∃v,(results fn a.tmps).run P w'=.ok v w'/\∃u,Ending.returned v=.returned u/\Q u w':=by
  rintro a w' ⟨ρ,hr,hd,_,hq⟩
  obtain ⟨vs,hm,hl,hK⟩:=resL_runX hr _ _ hq
  have hm':(fn.results.mapM (λ (x:ResultVar)=>(match x with | .tmp t=>pure (a.tmps.getD t undef) | .cell ad t=>do loadVar t (<-asAddr (a.tmps.getD ad undef)):Sem Value))).run P w'=.ok vs.toArray w':=by
   rw [Array.mapM_eq_mapM_toList]
   simp only [map_eq_pure_bind,Sem.run_bind,hm,Result.andThen,Sem.run_pure]
  refine ⟨hd,?_⟩
  split at hK
  ·rename_i v
   exact ⟨v,by unfold results;rw [Sem.run_bind];erw [hm'];rfl,v,rfl,hK⟩
  ·rename_i hne
   refine ⟨.tuple vs.toArray,?_,_,rfl,hK⟩
   unfold results
   rw [Sem.run_bind]
   erw [hm']
   have hs:¬vs.toArray.size=1:=by
    intro hc
    match vs,hc with
    | [v],_=>exact hne v rfl
   simp only [Result.andThen,dif_neg hs]
   rfl
 cases e with
 | normal=>exact fin hq
 | ret=>exact fin hq
 | exit id=>obtain ⟨ρ,_,_,_,hq⟩:=hq;exact hq
 | goto l=>exact False.elim hq
 | panic c=>exact False.elim hq
 | outgrown=>exact False.elim hq
end Go.Fw

namespace Go.Fw
open Go.Proofs
theorem calls_of_vcX' {P:Program} (hP:Plain P) (hM:P.follows .mixedOrders=true) {f:FuncId} {fn:Func} {args:List Value} {w:World} {Q:Value->World->Prop} (ann:Nat->Ann) (cut:Nat->Option Ann)
  (hf:P.funcs[f]?=some fn) (hle:Nat.ble args.length fn.ntmps=true)
  (h:match fn.body with | some c=>wpX P fn.ntmps ann cut c 0 0 (resQ P fn.ntmps fn.results.toList Q) (argsF args) w | none=>False):Calls P f args.toArray w λ e w'=>∃v,e=.returned v/\Q v w':=by
 split at h
 ·rename_i c hb;exact calls_of_vcX hP hM ann cut hf hb hle h
 ·exact h.elim
theorem sound_ofX {f:FuncId} {fn:Func} {args:List Value} {w:World} {Q:Value->World->Prop} (hf:Tryz.prog.funcs[f]?=some fn) (ann:Nat->Ann) (cut:Nat->Option Ann) (hle:Nat.ble args.length fn.ntmps=true)
  (h:match fn.body with | some c=>wpX Tryz.prog fn.ntmps ann cut c 0 0 (resQ Tryz.prog fn.ntmps fn.results.toList Q) (argsF args) w | none=>False) :
  Calls Tryz.prog f args.toArray w λ e w'=>∃v,e=.returned v/\Q v w':=calls_of_vcX' pPlain pMixed ann cut hf hle h
end Go.Fw

set_option maxRecDepth 100000
namespace Go.Fw
open Go.Proofs
def V116J1 (Q:Value->World->Prop) (x154:Option Addr) (x155 x156:Nat) (x157 x158:Int) (x159:Addr) (x160 x161:Bool) (x162 x163 x164:Bool) (w165:World):Prop:=
bsel x164 (
Q (.int .i64 1) w165) (
∃(I166:Int->World->Prop) (μ167:Int->World->Nat),I166 0 w165/\∀(j170:Fr) (i168:Int) (w169:World),I166 i168 w169->
∃t171 t172 t173,w169.cell? (x159.add 5)=some (.slice t171 t172 t173)/\
bsel (decide (i168<(t172:Int))) (
∃t174 t175 t176,w169.cell? (x159.add 5)=some (.slice t174 t175 t176)/\
idxK t174 t175 i168 1 λ a177=>
∃t178,w169.cell? a177=some (.int .i64 t178)/\
∃R179:Bool->World->Prop,(
bsel (decide (t178<0)) (
R179 true w169) (
bsel (decide (t178>=(x155:Int))) (
R179 true w169) (
bsel (decide (t178>=x157)) (
∃t194,w169.cell? (x159.add 0)=some (.int .i64 t194)/\
bsel (t194 != 6) (
R179 true w169) (
bsel x160 (
idxK x154 x155 t178 8 λ a195=>
∃t196,w169.cell? (a195.add 0)=some (.int .i64 t196)/\
R179 (t196 != 7) w169) (
R179 false w169))) (
bsel x160 (
idxK x154 x155 t178 8 λ a197=>
∃t198,w169.cell? (a197.add 0)=some (.int .i64 t198)/\
R179 (t198 != 7) w169) (
R179 false w169)))))/\∀(j201:Fr) (r199:Bool) (w200:World),R179 r199 w200->
bsel r199 (
Q (.int .i64 1) w200) (
∃R202:Bool->World->Prop,(
bsel x162 (
R202 true w200) (
bsel x161 (
((2:Int)≠0)/\
R202 (Int.tmod i168 2 == 0) w200) (
R202 false w200)))/\∀(j219:Fr) (r217:Bool) (w218:World),R202 r217 w218->
bsel r217 (
idxK x154 x155 t178 8 λ a220=>
∃t221 t222 t223 t224 t225 t226 t227 t228 t229 t230 t231 t232,CellsAt w218 a220 [.int .i64 t221,.bool t222,.bool t223,.slice t224 t225 t226,.string t227,.slice t228 t229 t230,.bool t231,.bool t232]/\
newK w218 #[.int .i64 0,.bool false,.bool false,.slice none 0 0,.string ⟨#[]⟩,.slice none 0 0,.bool false,.bool false] 42 λ a233 w234=>
stK w234 (a233.add 0) (.int .i64 t221) λ w235=>
stK w235 (a233.add 1) (.bool t222) λ w236=>
stK w236 (a233.add 2) (.bool t223) λ w237=>
stK w237 (a233.add 3) (.slice t224 t225 t226) λ w238=>
stK w238 (a233.add 4) (.string t227) λ w239=>
stK w239 (a233.add 5) (.slice t228 t229 t230) λ w240=>
stK w240 (a233.add 6) (.bool t231) λ w241=>
stK w241 (a233.add 7) (.bool t232) λ w242=>
∃R243:Bool->World->Prop,(
∃t244,w242.cell? (a233.add 0)=some (.int .i64 t244)/\
bsel (decide (t244>=1)) (
∃t245,w242.cell? (a233.add 0)=some (.int .i64 t245)/\
bsel (decide (t245<=4)) (
R243 false w242) (
∃t259,w242.cell? (a233.add 0)=some (.int .i64 t259)/\
bsel (t259 == 14) (
∃t260,w242.cell? (a233.add 6)=some (.bool t260)/\
bsel t260 (
R243 false w242) (
∃t261,w242.cell? (a233.add 7)=some (.bool t261)/\
R243 (!(!t261)) w242)) (
R243 true w242))) (
∃t262,w242.cell? (a233.add 0)=some (.int .i64 t262)/\
bsel (t262 == 14) (
∃t263,w242.cell? (a233.add 6)=some (.bool t263)/\
bsel t263 (
R243 false w242) (
∃t264,w242.cell? (a233.add 7)=some (.bool t264)/\
R243 (!(!t264)) w242)) (
R243 true w242)))/\∀(j267:Fr) (r265:Bool) (w266:World),R243 r265 w266->
bsel r265 (
Q (.int .i64 1) w266) (
(I166 (IntKind.wrap .i64 (i168+1)) w266/\μ167 (IntKind.wrap .i64 (i168+1)) w266<μ167 i168 w169))) (
(I166 (IntKind.wrap .i64 (i168+1)) w218/\μ167 (IntKind.wrap .i64 (i168+1)) w218<μ167 i168 w169)))) (
∃R280:Bool->World->Prop,(
∃t281,w169.cell? (x159.add 0)=some (.int .i64 t281)/\
bsel (t281 == 4) (
∃t282,w169.cell? (x159.add 4)=some (.string t282)/\
Calls Tryz.prog 179 #[.string t282] w169 λ e283 w284=>∃t285,e283=.returned (.int .i64 t285)/\
bsel (decide (t285>65536)) (
R280 true w284) (
∃t295,w284.cell? (x159.add 0)=some (.int .i64 t295)/\
bsel (t295 == 3) (
∃t296 t297 t298 t299,CellsAt w284 (x159.add 2) [.bool t296,.slice t297 t298 t299]/\
Calls Tryz.prog 180 #[.agg #[.bool t296,.slice t297 t298 t299]] w284 λ e300 w301=>∃t302 t303 t304 t305,e300=.returned (.agg #[.bool t302,.slice t303 t304 t305])/\
bsel (decide ((t304:Int)>256)) (
R280 true w301) (
bsel x163 (
∃t306 t307 t308,w301.cell? (x159.add 5)=some (.slice t306 t307 t308)/\
R280 (decide ((t307:Int)>65536)) w301) (
R280 false w301))) (
bsel x163 (
∃t309 t310 t311,w284.cell? (x159.add 5)=some (.slice t309 t310 t311)/\
R280 (decide ((t310:Int)>65536)) w284) (
R280 false w284)))) (
∃t312,w169.cell? (x159.add 0)=some (.int .i64 t312)/\
bsel (t312 == 3) (
∃t313 t314 t315 t316,CellsAt w169 (x159.add 2) [.bool t313,.slice t314 t315 t316]/\
Calls Tryz.prog 180 #[.agg #[.bool t313,.slice t314 t315 t316]] w169 λ e317 w318=>∃t319 t320 t321 t322,e317=.returned (.agg #[.bool t319,.slice t320 t321 t322])/\
bsel (decide ((t321:Int)>256)) (
R280 true w318) (
bsel x163 (
∃t323 t324 t325,w318.cell? (x159.add 5)=some (.slice t323 t324 t325)/\
R280 (decide ((t324:Int)>65536)) w318) (
R280 false w318))) (
bsel x163 (
∃t326 t327 t328,w169.cell? (x159.add 5)=some (.slice t326 t327 t328)/\
R280 (decide ((t327:Int)>65536)) w169) (
R280 false w169))))/\∀(j331:Fr) (r329:Bool) (w330:World),R280 r329 w330->
bsel r329 (
Q (.int .i64 3) w330) (
∃R332:Bool->World->Prop,(
bsel x161 (
∃t333 t334 t335 t336 t337 t338 t339 t340 t341 t342 t343 t344,CellsAt w330 x159 [.int .i64 t333,.bool t334,.bool t335,.slice t336 t337 t338,.string t339,.slice t340 t341 t342,.bool t343,.bool t344]/\
Calls Tryz.prog 181 #[.slice x154 x155 x156,.agg #[.int .i64 t333,.bool t334,.bool t335,.slice t336 t337 t338,.string t339,.slice t340 t341 t342,.bool t343,.bool t344]] w330 λ e345 w346=>∃t347,e345=.returned (.int .i64 t347)/\
R332 (decide (t347>x158)) w346) (
bsel x162 (
∃t350 t351 t352 t353 t354 t355 t356 t357 t358 t359 t360 t361,CellsAt w330 x159 [.int .i64 t350,.bool t351,.bool t352,.slice t353 t354 t355,.string t356,.slice t357 t358 t359,.bool t360,.bool t361]/\
Calls Tryz.prog 181 #[.slice x154 x155 x156,.agg #[.int .i64 t350,.bool t351,.bool t352,.slice t353 t354 t355,.string t356,.slice t357 t358 t359,.bool t360,.bool t361]] w330 λ e362 w363=>∃t364,e362=.returned (.int .i64 t364)/\
R332 (decide (t364>x158)) w363) (
R332 false w330)))/\∀(j367:Fr) (r365:Bool) (w366:World),R332 r365 w366->
bsel r365 (
Q (.int .i64 3) w366) (
Q (.int .i64 0) w366))))
def V116J2 (Q:Value->World->Prop) (x58:Option Addr) (x59 x60:Nat) (x61 x62:Int) (x63:Addr) (x64 x65 x66:Bool) (w67:World):Prop:=
∃R68:Bool->World->Prop,(
∃t69,w67.cell? (x63.add 0)=some (.int .i64 t69)/\
bsel (t69 == 5) (
R68 true w67) (
∃t81,w67.cell? (x63.add 0)=some (.int .i64 t81)/\
R68 (t81 == 6) w67))/\∀(j84:Fr) (r82:Bool) (w83:World),R68 r82 w83->
∃R85:Bool->World->Prop,(
∃t86 t87 t88,w83.cell? (x63.add 5)=some (.slice t86 t87 t88)/\
bsel (decide ((t87:Int)>0)) (
bsel (!x65) (
bsel (!x66) (
bsel (!r82) (
bsel (!x64) (
R85 true w83) (
bsel x65 (
∃t101 t102 t103,w83.cell? (x63.add 5)=some (.slice t101 t102 t103)/\
((2:Int)≠0)/\
bsel (Int.tmod (t102:Int) 2 != 0) (
R85 true w83) (
bsel x64 (
∃t104 t105 t106,w83.cell? (x63.add 5)=some (.slice t104 t105 t106)/\
R85 ((t105:Int) != 1) w83) (
R85 false w83))) (
bsel x64 (
∃t107 t108 t109,w83.cell? (x63.add 5)=some (.slice t107 t108 t109)/\
R85 ((t108:Int) != 1) w83) (
R85 false w83)))) (
bsel x65 (
∃t110 t111 t112,w83.cell? (x63.add 5)=some (.slice t110 t111 t112)/\
((2:Int)≠0)/\
bsel (Int.tmod (t111:Int) 2 != 0) (
R85 true w83) (
bsel x64 (
∃t113 t114 t115,w83.cell? (x63.add 5)=some (.slice t113 t114 t115)/\
R85 ((t114:Int) != 1) w83) (
R85 false w83))) (
bsel x64 (
∃t116 t117 t118,w83.cell? (x63.add 5)=some (.slice t116 t117 t118)/\
R85 ((t117:Int) != 1) w83) (
R85 false w83)))) (
bsel x65 (
∃t119 t120 t121,w83.cell? (x63.add 5)=some (.slice t119 t120 t121)/\
((2:Int)≠0)/\
bsel (Int.tmod (t120:Int) 2 != 0) (
R85 true w83) (
bsel x64 (
∃t122 t123 t124,w83.cell? (x63.add 5)=some (.slice t122 t123 t124)/\
R85 ((t123:Int) != 1) w83) (
R85 false w83))) (
bsel x64 (
∃t125 t126 t127,w83.cell? (x63.add 5)=some (.slice t125 t126 t127)/\
R85 ((t126:Int) != 1) w83) (
R85 false w83)))) (
bsel x65 (
∃t128 t129 t130,w83.cell? (x63.add 5)=some (.slice t128 t129 t130)/\
((2:Int)≠0)/\
bsel (Int.tmod (t129:Int) 2 != 0) (
R85 true w83) (
bsel x64 (
∃t131 t132 t133,w83.cell? (x63.add 5)=some (.slice t131 t132 t133)/\
R85 ((t132:Int) != 1) w83) (
R85 false w83))) (
bsel x64 (
∃t134 t135 t136,w83.cell? (x63.add 5)=some (.slice t134 t135 t136)/\
R85 ((t135:Int) != 1) w83) (
R85 false w83)))) (
bsel x65 (
∃t137 t138 t139,w83.cell? (x63.add 5)=some (.slice t137 t138 t139)/\
((2:Int)≠0)/\
bsel (Int.tmod (t138:Int) 2 != 0) (
R85 true w83) (
bsel x64 (
∃t140 t141 t142,w83.cell? (x63.add 5)=some (.slice t140 t141 t142)/\
R85 ((t141:Int) != 1) w83) (
R85 false w83))) (
bsel x64 (
∃t143 t144 t145,w83.cell? (x63.add 5)=some (.slice t143 t144 t145)/\
R85 ((t144:Int) != 1) w83) (
R85 false w83))))/\∀(j148:Fr) (r146:Bool) (w147:World),R85 r146 w147->
bsel r146 (
Q (.int .i64 1) w147) (
∃t149,w147.cell? (x63.add 0)=some (.int .i64 t149)/\
bsel (t149 == 4) (
∃t150,w147.cell? (x63.add 4)=some (.string t150)/\
Calls Tryz.prog 178 #[.string t150] w147 λ e151 w152=>∃t153,e151=.returned (.bool t153)/\
V116J1 Q x58 x59 x60 x61 x62 x63 x64 x65 x66 r82 (!t153) w152) (
V116J1 Q x58 x59 x60 x61 x62 x63 x64 x65 x66 r82 false w147))
def V116J3 (Q:Value->World->Prop) (x31:Option Addr) (x32 x33:Nat) (x34 x35:Int) (x36:Addr) (x37:Bool) (w38:World):Prop:=
∃R39:Bool->World->Prop,(
∃t40,w38.cell? (x36.add 0)=some (.int .i64 t40)/\
bsel (decide (t40>=1)) (
∃t41,w38.cell? (x36.add 0)=some (.int .i64 t41)/\
bsel (decide (t41<=9)) (
R39 false w38) (
∃t51,w38.cell? (x36.add 0)=some (.int .i64 t51)/\
bsel (t51 == 14) (
R39 false w38) (
R39 (!x37) w38))) (
∃t52,w38.cell? (x36.add 0)=some (.int .i64 t52)/\
bsel (t52 == 14) (
R39 false w38) (
R39 (!x37) w38)))/\∀(j55:Fr) (r53:Bool) (w54:World),R39 r53 w54->
bsel r53 (
Q (.int .i64 12) w54) (
∃t56,w54.cell? (x36.add 0)=some (.int .i64 t56)/\
∃t57,w54.cell? (x36.add 0)=some (.int .i64 t57)/\
bsel (t57 == 8) (
V116J2 Q x31 x32 x33 x34 x35 x36 x37 (t56 == 7) true w54) (
∃t368,w54.cell? (x36.add 0)=some (.int .i64 t368)/\
V116J2 Q x31 x32 x33 x34 x35 x36 x37 (t56 == 7) (t368 == 9) w54))
def V116 (x1:Option Addr) (x2 x3:Nat) (x4 x5:Int) (w:World) (Q:Value->World->Prop):Prop:=
idxK x1 x2 x4 8 λ a6=>
∃t7 t8 t9 t10 t11 t12 t13 t14 t15 t16 t17 t18,CellsAt w a6 [.int .i64 t7,.bool t8,.bool t9,.slice t10 t11 t12,.string t13,.slice t14 t15 t16,.bool t17,.bool t18]/\
newK w #[.int .i64 0,.bool false,.bool false,.slice none 0 0,.string ⟨#[]⟩,.slice none 0 0,.bool false,.bool false] 42 λ a19 w20=>
stK w20 (a19.add 0) (.int .i64 t7) λ w21=>
stK w21 (a19.add 1) (.bool t8) λ w22=>
stK w22 (a19.add 2) (.bool t9) λ w23=>
stK w23 (a19.add 3) (.slice t10 t11 t12) λ w24=>
stK w24 (a19.add 4) (.string t13) λ w25=>
stK w25 (a19.add 5) (.slice t14 t15 t16) λ w26=>
stK w26 (a19.add 6) (.bool t17) λ w27=>
stK w27 (a19.add 7) (.bool t18) λ w28=>
∃t29,w28.cell? (a19.add 0)=some (.int .i64 t29)/\
bsel (decide (t29>=15)) (
∃t30,w28.cell? (a19.add 0)=some (.int .i64 t30)/\
V116J3 Q x1 x2 x3 x4 x5 a19 (decide (t30<=17)) w28) (
V116J3 Q x1 x2 x3 x4 x5 a19 false w28)
def V116_ann:Nat->Ann:=λ k=>match k with | 0=>⟨[0,1,2,7,8,9,10,11],[(12,.int .i64)]⟩ | _=>⟨[],[]⟩
def V116_cut:Nat->Option Ann:=λ q=>match q with | 4=>some ⟨[0,1,2,7,8],[(43,.bool)]⟩ | 8=>some ⟨[0,1,2,7,8,9,10],[(11,.bool)]⟩ | 10=>some ⟨[0,1,2,7,8,9,10,11],[(101,.bool)]⟩ | 22=>some ⟨[0,1,2,7,8,9,10,11,12,13],[(151,.bool)]⟩ | 24=>some ⟨[0,1,2,7,8,9,10,11,12,13],[(160,.bool)]⟩ | 26=>some ⟨[0,1,2,7,8,9,10,11,12],[(187,.bool)]⟩ | 29=>some ⟨[0,2,7,9,10],[(218,.bool)]⟩ | 32=>some ⟨[],[(229,.bool)]⟩ | _=>none
theorem V116_sound (x1 x2 x3 x4 x5 w Q) (h:V116 x1 x2 x3 x4 x5 w Q):Calls Tryz.prog 116 #[.slice x1 x2 x3,.int .i64 x4,.int .i64 x5] w λ e w'=>∃v,e=.returned v/\Q v w':=
 sound_ofX Tryz.func116 V116_ann V116_cut rfl (Eq.mpr (by kernel_rfl) h)
end Go.Fw

set_option maxRecDepth 100000
namespace Go.Fw
open Go.Proofs
def V117J1 (I126:Int->World->Prop) (μ127:Int->World->Nat) (i128:Int) (w129:World) (x141 x142:Option Addr) (x143 x144:Nat) (x145:Option Addr) (x146 x147:Nat) (x148:Addr) (x149 x150:Int) (x151 x152:Int) (w153:World):Prop:=
∃t154 t155 t156,w153.drew.cell? (x148.add 5)=some (.slice t154 t155 t156)/\
idxK t154 t155 x151 1 λ a157=>
∃t158,w153.drew.cell? a157=some (.int .i64 t158)/\
idxK x142 x143 t158 8 λ a159=>
∃t160 t161 t162 t163 t164 t165 t166 t167 t168 t169 t170 t171,CellsAt w153.drew a159 [.int .i64 t160,.bool t161,.bool t162,.slice t163 t164 t165,.string t166,.slice t167 t168 t169,.bool t170,.bool t171]/\
∃t172 t173 t174,w153.drew.cell? (x148.add 5)=some (.slice t172 t173 t174)/\
idxK t172 t173 x151 1 λ a175=>
∃t176,w153.drew.cell? a175=some (.int .i64 t176)/\
idxK x145 x146 t176 1 λ a177=>
∃t178,w153.drew.cell? a177=some (.int .i64 t178)/\
Calls Tryz.prog 189 #[.agg #[.int .i64 t160,.bool t161,.bool t162,.slice t163 t164 t165,.string t166,.slice t167 t168 t169,.bool t170,.bool t171],.pointer x141,.int .i64 t178] w153.drew λ e179 w180=>∃t181 t182,e179=.returned (.tuple #[.int .i64 t181,.bool t182])/\
∃t183 t184 t185,w180.cell? (x148.add 5)=some (.slice t183 t184 t185)/\
idxK t183 t184 x151 1 λ a186=>
∃t187,w180.cell? a186=some (.int .i64 t187)/\
idxK x145 x146 t187 1 λ a188=>
∃t189,w180.cell? a188=some (.int .i64 t189)/\
Calls Tryz.prog 190 #[.pointer x141,.int .i64 x149,.int .i64 t181,.int .i64 t189,.int .i64 x152] w180 λ e190 w191=>∃t192,e190=.returned (t192)/\
(I126 (IntKind.wrap .i64 (x151+x150)) w191/\μ127 (IntKind.wrap .i64 (x151+x150)) w191<μ127 i128 w129)
def V117J2 (Q:Value->World->Prop) (x115 x116:Option Addr) (x117 x118:Nat) (x119:Option Addr) (x120 x121:Nat) (x122:Addr) (x123 x124:Int) (w125:World):Prop:=
∃(I126:Int->World->Prop) (μ127:Int->World->Nat),I126 0 w125/\∀(j130:Fr) (i128:Int) (w129:World),I126 i128 w129->
∃t131 t132 t133,w129.cell? (x122.add 5)=some (.slice t131 t132 t133)/\
bsel (decide (i128<(t132:Int))) (
bsel (x124 == 2) (
∃t134 t135 t136,w129.cell? (x122.add 5)=some (.slice t134 t135 t136)/\
idxK t134 t135 (IntKind.wrap .i64 (i128+1)) 1 λ a137=>
∃t138,w129.cell? a137=some (.int .i64 t138)/\
idxK x119 x120 t138 1 λ a139=>
∃t140,w129.cell? a139=some (.int .i64 t140)/\
V117J1 I126 μ127 i128 w129 x115 x116 x117 x118 x119 x120 x121 x122 x123 x124 i128 t140 w129) (
V117J1 I126 μ127 i128 w129 x115 x116 x117 x118 x119 x120 x121 x122 x123 x124 i128 0 w129)) (
Q (.int .i64 x123) w129)
def V117J3 (Q:Value->World->Prop) (x100 x101:Option Addr) (x102 x103:Nat) (x104:Option Addr) (x105 x106:Nat) (x107:Addr) (x108:Bool) (w109:World):Prop:=
bsel x108 (
∃t110,w109.cell? (x107.add 0)=some (.int .i64 t110)/\
Calls Tryz.prog 188 #[.pointer x100,.int .i64 t110] w109 λ e111 w112=>∃t113,e111=.returned (.int .i64 t113)/\
∃t114,w112.cell? (x107.add 0)=some (.int .i64 t114)/\
bsel (t114 == 7) (
V117J2 Q x100 x101 x102 x103 x104 x105 x106 x107 t113 2 w112) (
V117J2 Q x100 x101 x102 x103 x104 x105 x106 x107 t113 1 w112)) (
∃t193,w109.drew.cell? (x107.add 0)=some (.int .i64 t193)/\
∃t194 t195 t196,w109.drew.cell? (x107.add 5)=some (.slice t194 t195 t196)/\
idxK t194 t195 0 1 λ a197=>
∃t198,w109.drew.cell? a197=some (.int .i64 t198)/\
idxK x104 x105 t198 1 λ a199=>
∃t200,w109.drew.cell? a199=some (.int .i64 t200)/\
Calls Tryz.prog 185 #[.pointer x100,.agg #[.int .i64 t193,.int .i64 0,.bool false,.bool false,.bool false,.slice none 0 0,.string ⟨#[]⟩,.slice none 0 0,.pointer none,.int .i64 0,.slice none 0 0,.int .i64 0,.int .i64 0,.int .i64 0,.int .i64 0,.pointer none,.pointer none,.int .i64 t200,.pointer none,.bool false,.bool false,.bool false]] w109.drew λ e201 w202=>∃t203,e201=.returned (.int .i64 t203)/\
Q (.int .i64 t203) w202)
def V117 (x1 x2:Option Addr) (x3 x4:Nat) (x5:Option Addr) (x6 x7:Nat) (x8:Int) (w:World) (Q:Value->World->Prop):Prop:=
idxK x2 x3 x8 8 λ a9=>
∃t10 t11 t12 t13 t14 t15 t16 t17 t18 t19 t20 t21,CellsAt w a9 [.int .i64 t10,.bool t11,.bool t12,.slice t13 t14 t15,.string t16,.slice t17 t18 t19,.bool t20,.bool t21]/\
newK w #[.int .i64 0,.bool false,.bool false,.slice none 0 0,.string ⟨#[]⟩,.slice none 0 0,.bool false,.bool false] 42 λ a22 w23=>
stK w23 (a22.add 0) (.int .i64 t10) λ w24=>
stK w24 (a22.add 1) (.bool t11) λ w25=>
stK w25 (a22.add 2) (.bool t12) λ w26=>
stK w26 (a22.add 3) (.slice t13 t14 t15) λ w27=>
stK w27 (a22.add 4) (.string t16) λ w28=>
stK w28 (a22.add 5) (.slice t17 t18 t19) λ w29=>
stK w29 (a22.add 6) (.bool t20) λ w30=>
stK w30 (a22.add 7) (.bool t21) λ w31=>
∃t32,w31.cell? (a22.add 0)=some (.int .i64 t32)/\
bsel (t32 == 1) (
Q (.int .i64 0) w31) (
bsel (t32 == 2) (
∃t33,w31.cell? (a22.add 1)=some (.bool t33)/\
Calls Tryz.prog 182 #[.bool t33] w31 λ e34 w35=>∃t36,e34=.returned (.int .i64 t36)/\
Q (.int .i64 t36) w35) (
bsel (t32 == 3) (
∃t37 t38 t39 t40,CellsAt w31 (a22.add 2) [.bool t37,.slice t38 t39 t40]/\
Calls Tryz.prog 183 #[.pointer x1,.agg #[.bool t37,.slice t38 t39 t40]] w31 λ e41 w42=>∃t43,e41=.returned (.int .i64 t43)/\
Q (.int .i64 t43) w42) (
bsel (t32 == 4) (
∃t44,w31.cell? (a22.add 4)=some (.string t44)/\
Calls Tryz.prog 184 #[.pointer x1,.string t44] w31 λ e45 w46=>∃t47,e45=.returned (.int .i64 t47)/\
Q (.int .i64 t47) w46) (
bsel (t32 == 5) (
∃(I48:Option Addr->Nat->Nat->Int->World->Prop) (μ49:Option Addr->Nat->Nat->Int->World->Nat),I48 none 0 0 0 w31/\∀(j55:Fr) (i50:Option Addr) (i51:Nat) (i52:Nat) (i53:Int) (w54:World),I48 i50 i51 i52 i53 w54->
∃t56 t57 t58,w54.cell? (a22.add 5)=some (.slice t56 t57 t58)/\
bsel (decide (i53<(t57:Int))) (
∃t59 t60 t61,w54.cell? (a22.add 5)=some (.slice t59 t60 t61)/\
idxK t59 t60 i53 1 λ a62=>
∃t63,w54.cell? a62=some (.int .i64 t63)/\
idxK x5 x6 t63 1 λ a64=>
∃t65,w54.cell? a64=some (.int .i64 t65)/\
newK w54 #[.int .i64 t65] 3 λ a66 w67=>
∃w68:World,∃t69 t70 t71,(vcEff.bltV .append #[30,30] 30 #[.slice i50 i51 i52,.slice (some a66) 1 1]).run Tryz.prog w67=.ok (.slice t69 t70 t71) w68/\
(I48 t69 t70 t71 (IntKind.wrap .i64 (i53+1)) w68/\μ49 t69 t70 t71 (IntKind.wrap .i64 (i53+1)) w68<μ49 i50 i51 i52 i53 w54)) (
∃t72,w54.cell? (a22.add 0)=some (.int .i64 t72)/\
Calls Tryz.prog 185 #[.pointer x1,.agg #[.int .i64 t72,.int .i64 0,.bool false,.bool false,.bool false,.slice none 0 0,.string ⟨#[]⟩,.slice i50 i51 i52,.pointer none,.int .i64 0,.slice none 0 0,.int .i64 0,.int .i64 0,.int .i64 0,.int .i64 0,.pointer none,.pointer none,.int .i64 0,.pointer none,.bool false,.bool false,.bool false]] w54 λ e73 w74=>∃t75,e73=.returned (.int .i64 t75)/\
Q (.int .i64 t75) w74)) (
bsel (t32 == 6) (
∃t76,w31.cell? (a22.add 0)=some (.int .i64 t76)/\
Calls Tryz.prog 185 #[.pointer x1,.agg #[.int .i64 t76,.int .i64 0,.bool false,.bool false,.bool false,.slice none 0 0,.string ⟨#[]⟩,.slice none 0 0,.pointer none,.int .i64 0,.slice none 0 0,.int .i64 0,.int .i64 0,.int .i64 0,.int .i64 0,.pointer none,.pointer none,.int .i64 0,.pointer none,.bool false,.bool false,.bool false]] w31 λ e77 w78=>∃t79,e77=.returned (.int .i64 t79)/\
Q (.int .i64 t79) w78) (
bsel (t32 == 14) (
Calls Tryz.prog 186 #[.pointer x1,.string (⟨#[67]⟩:ByteArray),.int .i64 (-1)] w31 λ e80 w81=>∃t82,e80=.returned (.int .i64 t82)/\
nilK x1 λ a83=>
∃t84 t85 t86,w81.drew.cell? (a83.add 0)=some (.slice t84 t85 t86)/\
∃t87,w81.drew.cell? (a22.add 6)=some (.bool t87)/\
idxK t84 t85 t82 22 λ a88=>
stK w81.drew (a88.add 20) (.bool t87) λ w89=>
nilK x1 λ a90=>
∃t91 t92 t93,w89.drew.cell? (a90.add 0)=some (.slice t91 t92 t93)/\
∃t94,w89.drew.cell? (a22.add 7)=some (.bool t94)/\
idxK t91 t92 t82 22 λ a95=>
stK w89.drew (a95.add 21) (.bool t94) λ w96=>
Calls Tryz.prog 187 #[.pointer x1,.int .i64 t82] w96 λ e97 w98=>∃t99,e97=.returned (.int .i64 t99)/\
Q (.int .i64 t99) w98) (
bsel (t32 == 7) (
V117J3 Q x1 x2 x3 x4 x5 x6 x7 a22 true w31) (
bsel (t32 == 8) (
V117J3 Q x1 x2 x3 x4 x5 x6 x7 a22 true w31) (
V117J3 Q x1 x2 x3 x4 x5 x6 x7 a22 (t32 == 9) w31)))))))))
def V117_ann:Nat->Ann:=λ k=>match k with | 0=>⟨[0,2,9],[(10,.slice),(11,.int .i64)]⟩ | 1=>⟨[0,1,2,9,13,14],[(15,.int .i64)]⟩ | _=>⟨[],[]⟩
theorem V117_sound (x1 x2 x3 x4 x5 x6 x7 x8 w Q) (h:V117 x1 x2 x3 x4 x5 x6 x7 x8 w Q):Calls Tryz.prog 117 #[.pointer x1,.slice x2 x3 x4,.slice x5 x6 x7,.int .i64 x8] w λ e w'=>∃v,e=.returned v/\Q v w':=
 sound_of Tryz.func117 V117_ann rfl (Eq.mpr (by kernel_rfl) h)
end Go.Fw

namespace Go.Fw
open Go.Proofs Go.RowKit
structure RV where
 kind:Int
 number:Int
 b:Bool
 text:ByteArray
 items:Value
 n:Nat
 xs:List Value
structure RR where
 pairs:Int
 shared:Int
 m:Option Addr
theorem infoVal:∃i z,Tryz.prog.info? 226=some i/\i.zero=some z/\i.size=22/\z.cells.size=22/\0<i.bytes/\i.bytes<=1000:=by
 obtain ⟨i,hi,hj⟩:=Option.map_eq_some_iff.1 (show (Tryz.prog.info? 226).map (λ i=>(i.zero.map λ z=>z.cells.size,i.size,decide (0<i.bytes/\i.bytes<=1000)))=some (some 22,22,true) by kernel_rfl)
 simp at hj
 obtain ⟨⟨z,hz,hzs⟩,h1,h2,h3⟩:=hj
 exact ⟨i,z,hi,hz,h1,hzs,h2,h3⟩
end Go.Fw

set_option maxRecDepth 100000
namespace Go.Fw
open Go.Proofs
def V178 (x1:ByteArray) (w:World) (Q:Value->World->Prop):Prop:=
Calls Tryz.prog 242 #[.string x1] w λ e2 w3=>∃t4 t5 t6,e2=.returned (.slice t4 t5 t6)/\
∃w7:World,∃t8,(Go.convert 365 9 (.slice t4 t5 t6)).run Tryz.prog w3=.ok (.string t8) w7/\
Q (.bool (t8.toList == x1.toList)) w7
def V178_ann:Nat->Ann:=λ _=>⟨[],[]⟩
theorem V178_sound (x1 w Q) (h:V178 x1 w Q):Calls Tryz.prog 178 #[.string x1] w λ e w'=>∃v,e=.returned v/\Q v w':=
 sound_of Tryz.func178 V178_ann rfl (Eq.mpr (by kernel_rfl) h)
def V179 (x1:ByteArray) (w:World) (Q:Value->World->Prop):Prop:=
Calls Tryz.prog 242 #[.string x1] w λ e2 w3=>∃t4 t5 t6,e2=.returned (.slice t4 t5 t6)/\
Q (.int .i64 (t5:Int)) w3
def V179_ann:Nat->Ann:=λ _=>⟨[],[]⟩
theorem V179_sound (x1 w Q) (h:V179 x1 w Q):Calls Tryz.prog 179 #[.string x1] w λ e w'=>∃v,e=.returned v/\Q v w':=
 sound_of Tryz.func179 V179_ann rfl (Eq.mpr (by kernel_rfl) h)
def V242 (x1:ByteArray) (w:World) (Q:Value->World->Prop):Prop:=
∃w2:World,∃t3,(Instr.range 9 (.string x1)).run Tryz.prog w=.ok (.pointer t3) w2/\
∃(I4:Option Addr->Nat->Nat->World->Prop) (μ5:Option Addr->Nat->Nat->World->Nat),I4 none 0 0 w2/\∀(j10:Fr) (i6:Option Addr) (i7:Nat) (i8:Nat) (w9:World),I4 i6 i7 i8 w9->
nextSK (.pointer t3) w9 (λ w11=>(
Q (.slice i6 i7 i8) w11)) λ t12 t13 w14=>
newK w14 #[.int .i32 t13] 21 λ a15 w16=>
∃w17:World,∃t18 t19 t20,(vcEff.bltV .append #[365,365] 365 #[.slice i6 i7 i8,.slice (some a15) 1 1]).run Tryz.prog w16=.ok (.slice t18 t19 t20) w17/\
(I4 t18 t19 t20 w17/\μ5 t18 t19 t20 w17<μ5 i6 i7 i8 w9)
def V242_ann:Nat->Ann:=λ k=>match k with | 0=>⟨[7],[(3,.slice)]⟩ | _=>⟨[],[]⟩
theorem V242_sound (x1 w Q) (h:V242 x1 w Q):Calls Tryz.prog 242 #[.string x1] w λ e w'=>∃v,e=.returned v/\Q v w':=
 sound_of Tryz.func242 V242_ann rfl (Eq.mpr (by kernel_rfl) h)
end Go.Fw
