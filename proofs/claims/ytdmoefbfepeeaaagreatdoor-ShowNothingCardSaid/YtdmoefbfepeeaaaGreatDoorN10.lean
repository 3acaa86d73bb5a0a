/- Part of a proof over the given program: texts of lemmas (conditions: none beyond each lemma as stated). -/
import Derived.Test.YtdmoefbfepeeaaaGreatDoorN9
set_option linter.unnecessarySimpa false
set_option linter.unusedVariables false
set_option linter.unusedSimpArgs false

set_option maxRecDepth 100000
namespace Go.Fw
open Go.Proofs
def V9J1 (Q:Value->World->Prop) (I4:Int->Int->World->Prop) (μ5:Int->Int->World->Nat) (i6 i7:Int) (w8:World) (x10:Option Addr) (x11 x12:Nat) (x13 x14:Int) (x15:Bool) (w16:World):Prop:=
bsel x15 (
idxK x10 x11 x14 8 λ a17=>
∃t18 t19 t20,w16.drew.cell? (a17.add 5)=some (.slice t18 t19 t20)/\
idxK x10 x11 x14 8 λ a21=>
∃t22,w16.drew.cell? (a21.add 4)=some (.string t22)/\
idxK x10 x11 x14 8 λ a23=>
∃t24 t25 t26,w16.drew.cell? ((a23.add 2).add 1)=some (.slice t24 t25 t26)/\
(I4 (IntKind.wrap .i64 (IntKind.wrap .i64 (IntKind.wrap .i64 (x13+(t19:Int))+(t22.size:Int))+(t25:Int))) (IntKind.wrap .i64 (x14+1)) w16.drew/\μ5 (IntKind.wrap .i64 (IntKind.wrap .i64 (IntKind.wrap .i64 (x13+(t19:Int))+(t22.size:Int))+(t25:Int))) (IntKind.wrap .i64 (x14+1)) w16.drew<μ5 i6 i7 w8)) (
Q (.bool (decide (x13>3000))) w16)
def V9 (x1:Option Addr) (x2 x3:Nat) (w:World) (Q:Value->World->Prop):Prop:=
bsel (decide ((x2:Int)>120)) (
Q (.bool true) w) (
∃(I4:Int->Int->World->Prop) (μ5:Int->Int->World->Nat),I4 0 0 w/\∀(j9:Fr) (i6:Int) (i7:Int) (w8:World),I4 i6 i7 w8->
bsel (decide (i7<(x2:Int))) (
V9J1 Q I4 μ5 i6 i7 w8 x1 x2 x3 i6 i7 (decide (i6<=3000)) w8) (
V9J1 Q I4 μ5 i6 i7 w8 x1 x2 x3 i6 i7 false w8))
def V9_ann:Nat->Ann:=λ k=>match k with | 0=>⟨[0],[(3,.int .i64),(4,.int .i64)]⟩ | _=>⟨[],[]⟩
def V11J1 (Q:Value->World->Prop) (x38:Addr) (w39:World):Prop:=
newK w39 #[.iface 85 (.agg #[]),.iface 87 (.agg #[.bool false]),.iface 87 (.agg #[.bool true])] 77 λ a40 w41=>
∃(I42:Int->World->Prop) (μ43:Int->World->Nat),I42 0 w41/\∀(j46:Fr) (i44:Int) (w45:World),I42 i44 w45->
bsel (decide (i44<(3:Int))) (
idxK (some a40) 3 i44 1 λ a47=>
∃t48,w45.cell? a47=some (t48)/\
∃t49,w45.cell? (x38.add 6)=some (.pointer t49)/\
Calls Tryz.prog 38 #[.pointer t49,t48] w45 λ e50 w51=>∃t52,e50=.returned (.int .i64 t52)/\
(I42 (IntKind.wrap .i64 (i44+1)) w51/\μ43 (IntKind.wrap .i64 (i44+1)) w51<μ43 i44 w45)) (
Q (.tuple #[.pointer (some x38),.int .i64 0]) w45)
def V11J2 (Q:Value->World->Prop) (x14:Option Addr) (x15:Addr) (x16:Bool) (w17:World):Prop:=
bsel x16 (
Q (.tuple #[.pointer none,.int .i64 1]) w17) (
∃t18 t19 t20 t21 t22 t23 t24 t25 t26,CellsAt w17.drew x15 [.int .i64 t18,.int .i64 t19,.int .i64 t20,.slice t21 t22 t23,.slice t24 t25 t26]/\
∃t27 t28 t29,w17.drew.cell? (x15.add 4)=some (.slice t27 t28 t29)/\
Calls Tryz.prog 36 #[] w17.drew λ e30 w31=>∃t32,e30=.returned (.pointer t32)/\
(w31.cell? (x15.add 4)=some (.slice t27 t28 t29))/\
(CellsAt w31 x15 [.int .i64 t18,.int .i64 t19,.int .i64 t20,.slice t21 t22 t23,.slice t24 t25 t26])/\
Calls Tryz.prog 37 #[.slice t27 t28 t29] w31 λ e33 w34=>∃t35,e33=.returned (.pointer t35)/\
(CellsAt w34 x15 [.int .i64 t18,.int .i64 t19,.int .i64 t20,.slice t21 t22 t23,.slice t24 t25 t26])/\
newK w34 #[.int .i64 t18,.int .i64 t19,.int .i64 t20,.slice t21 t22 t23,.slice t24 t25 t26,.pointer x14,.pointer t32,.int .i64 0,.int .i64 0,.int .i64 0,.pointer t35,.bool false] 81 λ a36 w37=>
V11J1 Q a36 w37)
def V11 (x1 x2 x3:Int) (x4:Option Addr) (x5 x6:Nat) (x7:Option Addr) (x8 x9:Nat) (x10:Option Addr) (w:World) (Q:Value->World->Prop):Prop:=
newK w #[.int .i64 x1,.int .i64 x2,.int .i64 x3,.slice x4 x5 x6,.slice x7 x8 x9] 32 λ a11 w12=>
∃t13,w12.cell? (a11.add 0)=some (.int .i64 t13)/\
bsel (decide (t13<0)) (
V11J2 Q x10 a11 true w12) (
∃t53,w12.cell? (a11.add 0)=some (.int .i64 t53)/\
bsel (decide (t53>100000)) (
V11J2 Q x10 a11 true w12) (
∃t54,w12.cell? (a11.add 1)=some (.int .i64 t54)/\
bsel (decide (t54<0)) (
V11J2 Q x10 a11 true w12) (
∃t55,w12.cell? (a11.add 1)=some (.int .i64 t55)/\
bsel (decide (t55>65536)) (
V11J2 Q x10 a11 true w12) (
∃t56,w12.cell? (a11.add 2)=some (.int .i64 t56)/\
bsel (decide (t56<0)) (
V11J2 Q x10 a11 true w12) (
∃t57,w12.cell? (a11.add 2)=some (.int .i64 t57)/\
V11J2 Q x10 a11 (decide (t57>256)) w12)))))
def V11_ann:Nat->Ann:=λ k=>match k with | 0=>⟨[6,51,52],[(53,.int .i64)]⟩ | _=>⟨[],[]⟩
theorem V11_sound (x1 x2 x3 x4 x5 x6 x7 x8 x9 x10 w Q) (h:V11 x1 x2 x3 x4 x5 x6 x7 x8 x9 x10 w Q):Calls Tryz.prog 11 #[.agg #[.int .i64 x1,.int .i64 x2,.int .i64 x3,.slice x4 x5 x6,.slice x7 x8 x9],.pointer x10] w λ e w'=>∃v,e=.returned v/\Q v w':=
 sound_of Tryz.func11 V11_ann rfl (Eq.mpr (by kernel_rfl) h)
def V12 (x1 x2:Int) (w:World) (Q:Value->World->Prop):Prop:=
newK w #[.int .i64 0,.int .i64 0,.int .i64 0,.slice none 0 0,.slice none 0 0] 32 λ a3 w4=>
stK w4 (a3.add 0) (.int .i64 0) λ w5=>
stK w5 (a3.add 1) (.int .i64 x1) λ w6=>
stK w6 (a3.add 2) (.int .i64 x2) λ w7=>
stK w7 (a3.add 3) (.slice none 0 0) λ w8=>
stK w8 (a3.add 4) (.slice none 0 0) λ w9=>
∃t10 t11 t12 t13 t14 t15 t16 t17 t18,CellsAt w9 a3 [.int .i64 t10,.int .i64 t11,.int .i64 t12,.slice t13 t14 t15,.slice t16 t17 t18]/\
Q (.agg #[.int .i64 t10,.int .i64 t11,.int .i64 t12,.slice t13 t14 t15,.slice t16 t17 t18]) w9
def V12_ann:Nat->Ann:=λ _=>⟨[],[]⟩
theorem V12_sound (x1 x2 w Q) (h:V12 x1 x2 w Q):Calls Tryz.prog 12 #[.int .i64 x1,.int .i64 x2] w λ e w'=>∃v,e=.returned v/\Q v w':=
 sound_of Tryz.func12 V12_ann rfl (Eq.mpr (by kernel_rfl) h)
def V13 (x1 x2:Option Addr) (x3 x4:Nat) (w:World) (Q:Value->World->Prop):Prop:=
bsel (Option.isNone x1) (
Q (.tuple #[.slice none 0 0,.int .i64 1]) w) (
newK w #[.pointer x1,.slice x2 x3 x4,.slice none 0 0] 92 λ a5 w6=>
∃(I7:Int->World->Prop) (μ8:Int->World->Nat),I7 0 w6/\∀(j11:Fr) (i9:Int) (w10:World),I7 i9 w10->
bsel (decide (i9<(x3:Int))) (
Calls Tryz.prog 39 #[.pointer (some a5),.int .i64 i9] w10 λ e12 w13=>∃t14,e12=.returned (.int .i64 t14)/\
bsel (t14 != 0) (
Q (.tuple #[.slice none 0 0,.int .i64 t14]) w13) (
(I7 (IntKind.wrap .i64 (i9+1)) w13/\μ8 (IntKind.wrap .i64 (i9+1)) w13<μ8 i9 w10))) (
∃(I15:Int->World->Prop) (μ16:Int->World->Nat),I15 0 w10/\∀(j19:Fr) (i17:Int) (w18:World),I15 i17 w18->
bsel (decide (i17<(x3:Int))) (
idxK x2 x3 i17 8 λ a20=>
∃t21 t22 t23 t24 t25 t26 t27 t28 t29 t30 t31 t32,CellsAt w18 a20 [.int .i64 t21,.bool t22,.bool t23,.slice t24 t25 t26,.string t27,.slice t28 t29 t30,.bool t31,.bool t32]/\
newK w18 #[.int .i64 0,.bool false,.bool false,.slice none 0 0,.string ⟨#[]⟩,.slice none 0 0,.bool false,.bool false] 42 λ a33 w34=>
stK w34 (a33.add 0) (.int .i64 t21) λ w35=>
stK w35 (a33.add 1) (.bool t22) λ w36=>
stK w36 (a33.add 2) (.bool t23) λ w37=>
stK w37 (a33.add 3) (.slice t24 t25 t26) λ w38=>
stK w38 (a33.add 4) (.string t27) λ w39=>
stK w39 (a33.add 5) (.slice t28 t29 t30) λ w40=>
stK w40 (a33.add 6) (.bool t31) λ w41=>
stK w41 (a33.add 7) (.bool t32) λ w42=>
∃t43 t44 t45,w42.drew.cell? (a5.add 2)=some (.slice t43 t44 t45)/\
∃t46 t47 t48 t49 t50 t51 t52 t53 t54 t55 t56 t57,CellsAt w42.drew a33 [.int .i64 t46,.bool t47,.bool t48,.slice t49 t50 t51,.string t52,.slice t53 t54 t55,.bool t56,.bool t57]/\
Calls Tryz.prog 40 #[.pointer (some a5),.agg #[.int .i64 t46,.bool t47,.bool t48,.slice t49 t50 t51,.string t52,.slice t53 t54 t55,.bool t56,.bool t57]] w42.drew λ e58 w59=>∃t60,e58=.returned (.int .i64 t60)/\
(w59.cell? (a5.add 2)=some (.slice t43 t44 t45))/\
newK w59 #[.int .i64 t60] 3 λ a61 w62=>
(w62.cell? (a5.add 2)=some (.slice t43 t44 t45))/\
∃w63:World,∃t64 t65 t66,(vcEff.bltV .append #[30,30] 30 #[.slice t43 t44 t45,.slice (some a61) 1 1]).run Tryz.prog w62=.ok (.slice t64 t65 t66) w63/\
stK w63 (a5.add 2) (.slice t64 t65 t66) λ w67=>
(I15 (IntKind.wrap .i64 (i17+1)) w67/\μ16 (IntKind.wrap .i64 (i17+1)) w67<μ16 i17 w18)) (
∃(I79:Int->World->Prop) (μ80:Int->World->Nat),I79 0 w18/\∀(j83:Fr) (i81:Int) (w82:World),I79 i81 w82->
bsel (decide (i81<(x3:Int))) (
idxK x2 x3 i81 8 λ a84=>
∃t85 t86 t87 t88 t89 t90 t91 t92 t93 t94 t95 t96,CellsAt w82 a84 [.int .i64 t85,.bool t86,.bool t87,.slice t88 t89 t90,.string t91,.slice t92 t93 t94,.bool t95,.bool t96]/\
newK w82 #[.int .i64 0,.bool false,.bool false,.slice none 0 0,.string ⟨#[]⟩,.slice none 0 0,.bool false,.bool false] 42 λ a97 w98=>
stK w98 (a97.add 0) (.int .i64 t85) λ w99=>
stK w99 (a97.add 1) (.bool t86) λ w100=>
stK w100 (a97.add 2) (.bool t87) λ w101=>
stK w101 (a97.add 3) (.slice t88 t89 t90) λ w102=>
stK w102 (a97.add 4) (.string t91) λ w103=>
stK w103 (a97.add 5) (.slice t92 t93 t94) λ w104=>
stK w104 (a97.add 6) (.bool t95) λ w105=>
stK w105 (a97.add 7) (.bool t96) λ w106=>
∃t107 t108 t109,w106.cell? (a5.add 2)=some (.slice t107 t108 t109)/\
idxK t107 t108 i81 1 λ a110=>
∃t111,w106.cell? a110=some (.int .i64 t111)/\
Calls Tryz.prog 41 #[.pointer x1,.int .i64 t111] w106 λ e112 w113=>∃t114,e112=.returned (t114)/\
∃t115 t116,(∀w:World,(Instr.typeAssert t114 77 94 true).run Tryz.prog w=.ok (.tuple #[.pointer t115,.bool t116]) w)/\
bsel t116 (
∃t117 t118 t119,w113.cell? (a97.add 5)=some (.slice t117 t118 t119)/\
∃(I120:Int->World->Prop) (μ121:Int->World->Nat),I120 0 w113/\∀(j124:Fr) (i122:Int) (w123:World),I120 i122 w123->
bsel (decide (i122<(t118:Int))) (
idxK t117 t118 i122 1 λ a125=>
∃t126,w123.cell? a125=some (.int .i64 t126)/\
nilK t115 λ a127=>
∃t128 t129 t130,w123.drew.cell? (a127.add 1)=some (.slice t128 t129 t130)/\
∃t131 t132 t133,w123.drew.cell? (a5.add 2)=some (.slice t131 t132 t133)/\
idxK t131 t132 t126 1 λ a134=>
∃t135,w123.drew.cell? a134=some (.int .i64 t135)/\
idxK t128 t129 i122 1 λ a136=>
stK w123.drew a136 (.int .i64 t135) λ w137=>
(I120 (IntKind.wrap .i64 (i122+1)) w137/\μ121 (IntKind.wrap .i64 (i122+1)) w137<μ121 i122 w123)) (
(I79 (IntKind.wrap .i64 (i81+1)) w123/\μ80 (IntKind.wrap .i64 (i81+1)) w123<μ80 i81 w82))) (
(I79 (IntKind.wrap .i64 (i81+1)) w113/\μ80 (IntKind.wrap .i64 (i81+1)) w113<μ80 i81 w82))) (
∃t146 t147 t148,w82.drew.cell? (a5.add 2)=some (.slice t146 t147 t148)/\
∃t149 t150 t151,w82.drew.cell? (a5.add 2)=some (.slice t149 t150 t151)/\
∃w152:World,∃t153 t154 t155,(Instr.makeSlice 30 (.int .i64 0) (.int .i64 (t147:Int))).run Tryz.prog w82.drew=.ok (.slice t153 t154 t155) w152/\
(w152.cell? (a5.add 2)=some (.slice t149 t150 t151))/\
∃w156:World,∃t157 t158 t159,(vcEff.bltV .append #[30,30] 30 #[.slice t153 t154 t155,.slice t149 t150 t151]).run Tryz.prog w152=.ok (.slice t157 t158 t159) w156/\
Q (.tuple #[.slice t157 t158 t159,.int .i64 0]) w156))))
def V13_ann:Nat->Ann:=λ k=>match k with | 0=>⟨[0,1,6,24],[(25,.int .i64)]⟩ | 1=>⟨[0,1,6,35,36],[(37,.int .i64)]⟩ | 2=>⟨[0,6,54,55],[(56,.int .i64)]⟩ | 3=>⟨[0,6,13,54,55,56,76,77],[(78,.int .i64)]⟩ | _=>⟨[],[]⟩
theorem V13_sound (x1 x2 x3 x4 w Q) (h:V13 x1 x2 x3 x4 w Q):Calls Tryz.prog 13 #[.pointer x1,.slice x2 x3 x4] w λ e w'=>∃v,e=.returned v/\Q v w':=
 sound_of Tryz.func13 V13_ann rfl (Eq.mpr (by kernel_rfl) h)
def V15 (x1:Option Addr) (x2:Int) (w:World) (Q:Value->World->Prop):Prop:=
Calls Tryz.prog 41 #[.pointer x1,.int .i64 x2] w λ e3 w4=>∃t5,e3=.returned (t5)/\
eqNilI t5 λ b6=>
bsel (!b6) (
InvK Tryz.prog t5 "lexicon/store.numbered" #[] w4 λ e7 w8=>∃t9,e7=.returned (.int .i64 t9)/\
Q (.int .i64 t9) w8) (
Q (.int .i64 0) w4)
def V15_ann:Nat->Ann:=λ _=>⟨[],[]⟩
theorem V15_sound (x1 x2 w Q) (h:V15 x1 x2 w Q):Calls Tryz.prog 15 #[.pointer x1,.int .i64 x2] w λ e w'=>∃v,e=.returned v/\Q v w':=
 sound_of Tryz.func15 V15_ann rfl (Eq.mpr (by kernel_rfl) h)
def V16J1 (w:World) (Q:Value->World->Prop) (x40:Option Addr) (x41 x42:Int) (x43 x44:Value) (x45 x46:Addr) (x47:Bool) (w48:World):Prop:=
bsel x47 (
∃t49 t50 t51 t52,CellsAt w48 x45 [.bool t49,.slice t50 t51 t52]/\
∃t53 t54 t55 t56,CellsAt w48 x46 [.bool t53,.slice t54 t55 t56]/\
Calls Tryz.prog 43 #[.agg #[.bool t49,.slice t50 t51 t52],.agg #[.bool t53,.slice t54 t55 t56]] w48 λ e57 w58=>∃t59,e57=.returned (.int .i64 t59)/\
Q (.bool (t59 == 0)) w58) (
∃t60 t61 t62,(∀w:World,(Instr.typeAssert x43 77 105 true).run Tryz.prog w=.ok (.tuple #[.agg #[.int .i64 t60,.string t61],.bool t62]) w)/\
newK w48 #[.int .i64 0,.string ⟨#[]⟩] 105 λ a63 w64=>
stK w64 (a63.add 0) (.int .i64 t60) λ w65=>
stK w65 (a63.add 1) (.string t61) λ w66=>
bsel t62 (
∃t67 t68,CellsAt w66 a63 [.int .i64 t67,.string t68]/\
∃b69:Bool,(∀w:World,(eqSem .eql 77 (.tmp 61) (.tmp 62) (.iface 105 (.agg #[.int .i64 t67,.string t68])) x44).run Tryz.prog w=.ok (.bool b69) w)/\
Q (.bool b69) w66) (
Calls Tryz.prog 44 #[.pointer x40,.int .i64 x41] w66 λ e70 w71=>∃t72 t73,e70=.returned (.tuple #[.string t72,.bool t73])/\
Calls Tryz.prog 44 #[.pointer x40,.int .i64 x42] w71 λ e74 w75=>∃t76 t77,e74=.returned (.tuple #[.string t76,.bool t77])/\
bsel t73 (
bsel t77 (
bsel (t72.toList == t76.toList) (
Q (.bool true) w75) (
InvK Tryz.prog x43 "Kind" #[] w75 λ e80 w81=>∃t82,e80=.returned (.int .i64 t82)/\
bsel (t82 == 1) (
InvK Tryz.prog x44 "Kind" #[] w81 λ e83 w84=>∃t85,e83=.returned (.int .i64 t85)/\
Q (.bool (t85 == 1)) w84) (
Q (.bool false) w81))) (
InvK Tryz.prog x43 "Kind" #[] w75 λ e86 w87=>∃t88,e86=.returned (.int .i64 t88)/\
bsel (t88 == 1) (
InvK Tryz.prog x44 "Kind" #[] w87 λ e89 w90=>∃t91,e89=.returned (.int .i64 t91)/\
Q (.bool (t91 == 1)) w90) (
Q (.bool false) w87))) (
InvK Tryz.prog x43 "Kind" #[] w75 λ e92 w93=>∃t94,e92=.returned (.int .i64 t94)/\
bsel (t94 == 1) (
InvK Tryz.prog x44 "Kind" #[] w93 λ e95 w96=>∃t97,e95=.returned (.int .i64 t97)/\
Q (.bool (t97 == 1)) w96) (
Q (.bool false) w93))))
def V16J2 (w:World) (Q:Value->World->Prop) (x11:Option Addr) (x12 x13:Int) (x14 x15:Value) (x16:Bool) (w17:World):Prop:=
bsel x16 (
Q (.bool false) w17) (
bsel (x12 == x13) (
Q (.bool true) w17) (
Calls Tryz.prog 42 #[.pointer x11,.int .i64 x12] w17 λ e18 w19=>∃t20 t21 t22 t23 t24,e18=.returned (.tuple #[.agg #[.bool t20,.slice t21 t22 t23],.bool t24])/\
newK w19 #[.bool false,.slice none 0 0] 40 λ a25 w26=>
stK w26 (a25.add 0) (.bool t20) λ w27=>
stK w27 (a25.add 1) (.slice t21 t22 t23) λ w28=>
Calls Tryz.prog 42 #[.pointer x11,.int .i64 x13] w28 λ e29 w30=>∃t31 t32 t33 t34 t35,e29=.returned (.tuple #[.agg #[.bool t31,.slice t32 t33 t34],.bool t35])/\
newK w30 #[.bool false,.slice none 0 0] 40 λ a36 w37=>
stK w37 (a36.add 0) (.bool t31) λ w38=>
stK w38 (a36.add 1) (.slice t32 t33 t34) λ w39=>
bsel t24 (
V16J1 w Q x11 x12 x13 x14 x15 a25 a36 t35 w39) (
V16J1 w Q x11 x12 x13 x14 x15 a25 a36 false w39)))
def V16 (x1:Option Addr) (x2 x3:Int) (w:World) (Q:Value->World->Prop):Prop:=
Calls Tryz.prog 41 #[.pointer x1,.int .i64 x2] w λ e4 w5=>∃t6,e4=.returned (t6)/\
Calls Tryz.prog 41 #[.pointer x1,.int .i64 x3] w5 λ e7 w8=>∃t9,e7=.returned (t9)/\
eqNilI t6 λ b10=>
bsel b10 (
V16J2 w Q x1 x2 x3 t6 t9 true w8) (
eqNilI t9 λ b98=>
V16J2 w Q x1 x2 x3 t6 t9 b98 w8)
def V16_ann:Nat->Ann:=λ _=>⟨[],[]⟩
theorem V16_sound (x1 x2 x3 w Q) (h:V16 x1 x2 x3 w Q):Calls Tryz.prog 16 #[.pointer x1,.int .i64 x2,.int .i64 x3] w λ e w'=>∃v,e=.returned v/\Q v w':=
 sound_of Tryz.func16 V16_ann rfl (Eq.mpr (by kernel_rfl) h)
def V34 (x1:Option Addr) (x2:Int) (w:World) (Q:Value->World->Prop):Prop:=
Calls Tryz.prog 41 #[.pointer x1,.int .i64 x2] w λ e3 w4=>∃t5,e3=.returned (t5)/\
eqNilI t5 λ b6=>
bsel b6 (
Q (.string (⟨#[]⟩:ByteArray)) w4) (
∃t7,(∀w:World,(Instr.typeAssert t5 77 85 true).run Tryz.prog w=.ok (.tuple #[.agg #[],.bool t7]) w)/\
bsel t7 (
newK w4 #[] 85 λ a8 w9=>
Q (.string (⟨#[78,111,110,101]⟩:ByteArray)) w9) (
∃t10 t11,(∀w:World,(Instr.typeAssert t5 77 87 true).run Tryz.prog w=.ok (.tuple #[.agg #[.bool t10],.bool t11]) w)/\
bsel t11 (
newK w4 #[.bool false] 87 λ a12 w13=>
stK w13 (a12.add 0) (.bool t10) λ w14=>
∃t15,w14.cell? (a12.add 0)=some (.bool t15)/\
bsel t15 (
Q (.string (⟨#[84,114,117,101]⟩:ByteArray)) w14) (
Q (.string (⟨#[70,97,108,115,101]⟩:ByteArray)) w14)) (
∃t16 t17 t18 t19 t20,(∀w:World,(Instr.typeAssert t5 77 172 true).run Tryz.prog w=.ok (.tuple #[.agg #[.bool t16,.slice t17 t18 t19],.bool t20]) w)/\
bsel t20 (
newK w4 #[.bool false,.slice none 0 0] 172 λ a21 w22=>
stK w22 (a21.add 0) (.bool t16) λ w23=>
stK w23 (a21.add 1) (.slice t17 t18 t19) λ w24=>
∃t25 t26 t27 t28,CellsAt w24 (a21.add 0) [.bool t25,.slice t26 t27 t28]/\
Calls Tryz.prog 75 #[.agg #[.bool t25,.slice t26 t27 t28]] w24 λ e29 w30=>∃t31,e29=.returned (.string t31)/\
Q (.string t31) w30) (
∃t32 t33,(∀w:World,(Instr.typeAssert t5 77 160 true).run Tryz.prog w=.ok (.tuple #[.agg #[.string t32],.bool t33]) w)/\
bsel t33 (
newK w4 #[.string ⟨#[]⟩] 160 λ a34 w35=>
stK w35 (a34.add 0) (.string t32) λ w36=>
∃t37,w36.cell? (a34.add 0)=some (.string t37)/\
Calls Tryz.prog 76 #[.string t37] w36 λ e38 w39=>∃t40,e38=.returned (.string t40)/\
Q (.string t40) w39) (
∃t41 t42 t43,(∀w:World,(Instr.typeAssert t5 77 105 true).run Tryz.prog w=.ok (.tuple #[.agg #[.int .i64 t41,.string t42],.bool t43]) w)/\
bsel t43 (
newK w4 #[.int .i64 0,.string ⟨#[]⟩] 105 λ a44 w45=>
stK w45 (a44.add 0) (.int .i64 t41) λ w46=>
stK w46 (a44.add 1) (.string t42) λ w47=>
∃t48,w47.cell? (a44.add 1)=some (.string t48)/\
((((⟨#[60,110,97,116,105,118,101,32]⟩:ByteArray).size+t48.size:Nat):Int)<=9223372036854775807)/\
(((((⟨#[60,110,97,116,105,118,101,32]⟩:ByteArray) ++ t48).size+(⟨#[62]⟩:ByteArray).size:Nat):Int)<=9223372036854775807)/\
Q (.string (((⟨#[60,110,97,116,105,118,101,32]⟩:ByteArray) ++ t48) ++ (⟨#[62]⟩:ByteArray))) w47) (
InvK Tryz.prog t5 "lexicon/store.numbered" #[] w4 λ e49 w50=>∃t51,e49=.returned (.int .i64 t51)/\
Calls Tryz.prog 77 #[.int .i64 t51] w50 λ e52 w53=>∃t54,e52=.returned (.string t54)/\
((((⟨#[35]⟩:ByteArray).size+t54.size:Nat):Int)<=9223372036854775807)/\
Q (.string ((⟨#[35]⟩:ByteArray) ++ t54)) w53))))))
def V34_ann:Nat->Ann:=λ _=>⟨[],[]⟩
theorem V34_sound (x1 x2 w Q) (h:V34 x1 x2 w Q):Calls Tryz.prog 34 #[.pointer x1,.int .i64 x2] w λ e w'=>∃v,e=.returned v/\Q v w':=
 sound_of Tryz.func34 V34_ann rfl (Eq.mpr (by kernel_rfl) h)
def V36  (w:World) (Q:Value->World->Prop):Prop:=
newK w #[.slice none 0 0,.slice none 0 0,.slice none 0 0] 178 λ a1 w2=>
Q (.pointer (some a1)) w2
def V36_ann:Nat->Ann:=λ _=>⟨[],[]⟩
theorem V36_sound (w Q) (h:V36  w Q):Calls Tryz.prog 36 #[] w λ e w'=>∃v,e=.returned v/\Q v w':=
 sound_of Tryz.func36 V36_ann rfl (Eq.mpr (by kernel_rfl) h)
def V37 (x1:Option Addr) (x2 x3:Nat) (w:World) (Q:Value->World->Prop):Prop:=
∃w4:World,∃t5,(Instr.makeMap 179 none).run Tryz.prog w=.ok (.map t5) w4/\
newK w4 #[.map t5,.int .i64 0] 181 λ a6 w7=>
∃(I8:Int->World->Prop) (μ9:Int->World->Nat),I8 0 w7/\∀(j12:Fr) (i10:Int) (w11:World),I8 i10 w11->
bsel (decide (i10<(x2:Int))) (
idxK x1 x2 i10 1 λ a13=>
∃t14,w11.cell? a13=some (.int .i64 t14)/\
∃t15,w11.cell? (a6.add 0)=some (.map t15)/\
∃w16:World,∃t17,(Instr.lookup 179 (.map t15) (.int .i64 t14) false).run Tryz.prog w11=.ok (.int .i64 t17) w16/\
∃w18:World,(Instr.mapUpdate 179 (.map t15) (.int .i64 t14) (.int .i64 (IntKind.wrap .i64 (t17+1)))).run Tryz.prog w16=.ok () w18/\
(I8 (IntKind.wrap .i64 (i10+1)) w18/\μ9 (IntKind.wrap .i64 (i10+1)) w18<μ9 i10 w11)) (
Q (.pointer (some a6)) w11)
def V37_ann:Nat->Ann:=λ k=>match k with | 0=>⟨[3,9,10],[(11,.int .i64)]⟩ | _=>⟨[],[]⟩
theorem V37_sound (x1 x2 x3 w Q) (h:V37 x1 x2 x3 w Q):Calls Tryz.prog 37 #[.slice x1 x2 x3] w λ e w'=>∃v,e=.returned v/\Q v w':=
 sound_of Tryz.func37 V37_ann rfl (Eq.mpr (by kernel_rfl) h)
def V38J1 (Q:Value->World->Prop) (x31:Option Addr) (w32:World):Prop:=
nilK x31 λ a33=>
∃t34 t35 t36,w32.cell? (a33.add 0)=some (.slice t34 t35 t36)/\
Q (.int .i64 (IntKind.wrap .i64 ((t35:Int)-1))) w32
def V38 (x1:Option Addr) (x2:Value) (w:World) (Q:Value->World->Prop):Prop:=
bsel (Option.isNone x1) (
Q (.int .i64 (-1)) w) (
nilK x1 λ a3=>
∃t4 t5 t6,w.cell? (a3.add 2)=some (.slice t4 t5 t6)/\
bsel ((t5:Int) == 0) (
nilK x1 λ a7=>
∃t8 t9 t10,w.drew.cell? (a7.add 0)=some (.slice t8 t9 t10)/\
nilK x1 λ a11=>
∃t12 t13 t14,w.drew.cell? (a11.add 1)=some (.slice t12 t13 t14)/\
(plK x2 (
newK w.drew #[x2] 77 λ a15 w16=>
(w16.cell? (a11.add 1)=some (.slice t12 t13 t14))/\
(w16.cell? (a7.add 0)=some (.slice t8 t9 t10))/\
(∃w17:World,∃t18 t19 t20,(vcEff.bltV .append #[88,88] 88 #[.slice t8 t9 t10,.slice (some a15) 1 1]).run Tryz.prog w16=.ok (.slice t18 t19 t20) w17/\
(w17.cell? (a11.add 1)=some (.slice t12 t13 t14))/\
newK w17 #[.bool true] 4 λ a21 w22=>
(w22.cell? (a11.add 1)=some (.slice t12 t13 t14))/\
∃w23:World,∃t24 t25 t26,(vcEff.bltV .append #[175,175] 175 #[.slice t12 t13 t14,.slice (some a21) 1 1]).run Tryz.prog w22=.ok (.slice t24 t25 t26) w23/\
nilK x1 λ a27=>
stK w23 (a27.add 0) (.slice t18 t19 t20) λ w28=>
nilK x1 λ a29=>
stK w28 (a29.add 1) (.slice t24 t25 t26) λ w30=>
V38J1 Q x1 w30)/\
(newK w16 #[.bool true] 4 λ a37 w38=>
(w38.cell? (a11.add 1)=some (.slice t12 t13 t14))/\
(w38.cell? (a7.add 0)=some (.slice t8 t9 t10))/\
∃w39:World,∃t40 t41 t42,(vcEff.bltV .append #[88,88] 88 #[.slice t8 t9 t10,.slice (some a15) 1 1]).run Tryz.prog w38=.ok (.slice t40 t41 t42) w39/\
(w39.cell? (a11.add 1)=some (.slice t12 t13 t14))/\
∃w43:World,∃t44 t45 t46,(vcEff.bltV .append #[175,175] 175 #[.slice t12 t13 t14,.slice (some a37) 1 1]).run Tryz.prog w39=.ok (.slice t44 t45 t46) w43/\
nilK x1 λ a47=>
stK w43 (a47.add 0) (.slice t40 t41 t42) λ w48=>
nilK x1 λ a49=>
stK w48 (a49.add 1) (.slice t44 t45 t46) λ w50=>
V38J1 Q x1 w50)))/\
(newK w.drew #[.bool true] 4 λ a51 w52=>
(w52.cell? (a11.add 1)=some (.slice t12 t13 t14))/\
(w52.cell? (a7.add 0)=some (.slice t8 t9 t10))/\
plK x2 (
newK w52 #[x2] 77 λ a53 w54=>
(w54.cell? (a11.add 1)=some (.slice t12 t13 t14))/\
(w54.cell? (a7.add 0)=some (.slice t8 t9 t10))/\
∃w55:World,∃t56 t57 t58,(vcEff.bltV .append #[88,88] 88 #[.slice t8 t9 t10,.slice (some a53) 1 1]).run Tryz.prog w54=.ok (.slice t56 t57 t58) w55/\
(w55.cell? (a11.add 1)=some (.slice t12 t13 t14))/\
∃w59:World,∃t60 t61 t62,(vcEff.bltV .append #[175,175] 175 #[.slice t12 t13 t14,.slice (some a51) 1 1]).run Tryz.prog w55=.ok (.slice t60 t61 t62) w59/\
nilK x1 λ a63=>
stK w59 (a63.add 0) (.slice t56 t57 t58) λ w64=>
nilK x1 λ a65=>
stK w64 (a65.add 1) (.slice t60 t61 t62) λ w66=>
V38J1 Q x1 w66))) (
nilK x1 λ a67=>
∃t68 t69 t70,w.cell? (a67.add 2)=some (.slice t68 t69 t70)/\
idxK t68 t69 0 1 λ a71=>
∃t72,w.cell? a71=some (.int .i64 t72)/\
nilK x1 λ a73=>
Calls Tryz.prog 78 #[.iface 183 (.pointer (some (a73.add 2)))] w λ e74 w75=>∃t76,e74=.returned (t76)/\
nilK x1 λ a77=>
∃t78 t79 t80,w75.drew.cell? (a77.add 0)=some (.slice t78 t79 t80)/\
nilK x1 λ a81=>
∃t82 t83 t84,w75.drew.cell? (a81.add 1)=some (.slice t82 t83 t84)/\
idxK t78 t79 t72 1 λ a85=>
plK x2 (
stK w75.drew a85 (x2) λ w86=>
idxK t82 t83 t72 1 λ a87=>
stK w86 a87 (.bool true) λ w88=>
Q (.int .i64 t72) w88)))
def V38_ann:Nat->Ann:=λ _=>⟨[],[]⟩
theorem V38_sound (x1 x2 w Q) (h:V38 x1 x2 w Q):Calls Tryz.prog 38 #[.pointer x1,x2] w λ e w'=>∃v,e=.returned v/\Q v w':=
 sound_of Tryz.func38 V38_ann rfl (Eq.mpr (by kernel_rfl) h)
def V39J1 (Q:Value->World->Prop) (x37:Option Addr) (x38:Int) (x39:Bool) (w40:World):Prop:=
bsel x39 (
Q (.int .i64 1) w40) (
Calls Tryz.prog 82 #[.pointer x37,.int .i64 x38] w40 λ e41 w42=>∃t43,e41=.returned (.bool t43)/\
bsel t43 (
Q (.int .i64 3) w42) (
Q (.int .i64 0) w42))
def V39 (x1:Option Addr) (x2:Int) (w:World) (Q:Value->World->Prop):Prop:=
nilK x1 λ a3=>
∃t4 t5 t6,w.cell? (a3.add 1)=some (.slice t4 t5 t6)/\
idxK t4 t5 x2 8 λ a7=>
∃t8 t9 t10 t11 t12 t13 t14 t15 t16 t17 t18 t19,CellsAt w a7 [.int .i64 t8,.bool t9,.bool t10,.slice t11 t12 t13,.string t14,.slice t15 t16 t17,.bool t18,.bool t19]/\
newK w #[.int .i64 0,.bool false,.bool false,.slice none 0 0,.string ⟨#[]⟩,.slice none 0 0,.bool false,.bool false] 42 λ a20 w21=>
stK w21 (a20.add 0) (.int .i64 t8) λ w22=>
stK w22 (a20.add 1) (.bool t9) λ w23=>
stK w23 (a20.add 2) (.bool t10) λ w24=>
stK w24 (a20.add 3) (.slice t11 t12 t13) λ w25=>
stK w25 (a20.add 4) (.string t14) λ w26=>
stK w26 (a20.add 5) (.slice t15 t16 t17) λ w27=>
stK w27 (a20.add 6) (.bool t18) λ w28=>
stK w28 (a20.add 7) (.bool t19) λ w29=>
∃t30,w29.cell? (a20.add 0)=some (.int .i64 t30)/\
Calls Tryz.prog 79 #[.int .i64 t30] w29 λ e31 w32=>∃t33,e31=.returned (.bool t33)/\
bsel (!t33) (
Q (.int .i64 12) w32) (
Calls Tryz.prog 80 #[.pointer x1,.int .i64 x2] w32 λ e34 w35=>∃t36,e34=.returned (.bool t36)/\
bsel t36 (
V39J1 Q x1 x2 true w35) (
∃t44,w35.cell? (a20.add 0)=some (.int .i64 t44)/\
bsel (t44 == 4) (
∃t45,w35.cell? (a20.add 4)=some (.string t45)/\
Calls Tryz.prog 81 #[.string t45] w35 λ e46 w47=>∃t48,e46=.returned (.bool t48)/\
V39J1 Q x1 x2 (!t48) w47) (
V39J1 Q x1 x2 false w35)))
def V39_ann:Nat->Ann:=λ _=>⟨[],[]⟩
theorem V39_sound (x1 x2 w Q) (h:V39 x1 x2 w Q):Calls Tryz.prog 39 #[.pointer x1,.int .i64 x2] w λ e w'=>∃v,e=.returned v/\Q v w':=
 sound_of Tryz.func39 V39_ann rfl (Eq.mpr (by kernel_rfl) h)
def V40J1 (Q:Value->World->Prop) (x105:Option Addr) (x106:Int) (w107:World):Prop:=
nilK x105 λ a108=>
∃t109,w107.cell? (a108.add 0)=some (.pointer t109)/\
Calls Tryz.prog 90 #[.pointer t109,.int .i64 x106] w107 λ e110 w111=>∃t112,e110=.returned (.int .i64 t112)/\
Q (.int .i64 t112) w111
def V40J2 (Q:Value->World->Prop) (x102:Option Addr) (x103:Int) (w104:World):Prop:=
V40J1 Q x102 x103 w104
def V40J3 (w:World) (Q:Value->World->Prop) (x64:Option Addr) (x65:Addr) (x66:Int) (x67:Bool) (w68:World):Prop:=
bsel x67 (
∃t69 t70 t71 t72 t73 t74 t75 t76 t77 t78 t79 t80,CellsAt w68 x65 [.int .i64 t69,.bool t70,.bool t71,.slice t72 t73 t74,.string t75,.slice t76 t77 t78,.bool t79,.bool t80]/\
Calls Tryz.prog 88 #[.pointer x64,.agg #[.int .i64 t69,.bool t70,.bool t71,.slice t72 t73 t74,.string t75,.slice t76 t77 t78,.bool t79,.bool t80]] w68 λ e81 w82=>∃t83,e81=.returned (.int .i64 t83)/\
Q (.int .i64 t83) w82) (
bsel (x66 == 14) (
nilK x64 λ a84=>
∃t85,w68.cell? (a84.add 0)=some (.pointer t85)/\
Calls Tryz.prog 89 #[.pointer t85,.string (⟨#[67]⟩:ByteArray),.int .i64 (-1)] w68 λ e86 w87=>∃t88,e86=.returned (.int .i64 t88)/\
nilK x64 λ a89=>
∃t90,w87.cell? (a89.add 0)=some (.pointer t90)/\
Calls Tryz.prog 41 #[.pointer t90,.int .i64 t88] w87 λ e91 w92=>∃t93,e91=.returned (t93)/\
∃t94 t95,(∀w:World,(Instr.typeAssert t93 77 190 true).run Tryz.prog w=.ok (.tuple #[.pointer t94,.bool t95]) w)/\
bsel t95 (
∃t96,w92.drew.cell? (x65.add 6)=some (.bool t96)/\
∃t97,w92.drew.cell? (x65.add 7)=some (.bool t97)/\
nilK t94 λ a98=>
stK w92.drew (a98.add 5) (.bool t96) λ w99=>
(w99.cell? (x65.add 7)=some (.bool t97))/\
nilK t94 λ a100=>
stK w99 (a100.add 6) (.bool t97) λ w101=>
V40J2 Q x64 t88 w101) (
V40J1 Q x64 t88 w92)) (
nilK x64 λ a113=>
∃t114,w68.drew.cell? (a113.add 0)=some (.pointer t114)/\
∃t115,w68.drew.cell? (x65.add 0)=some (.int .i64 t115)/\
nilK x64 λ a116=>
∃t117 t118 t119,w68.drew.cell? (a116.add 2)=some (.slice t117 t118 t119)/\
∃t120 t121 t122,w68.drew.cell? (x65.add 5)=some (.slice t120 t121 t122)/\
idxK t120 t121 0 1 λ a123=>
∃t124,w68.drew.cell? a123=some (.int .i64 t124)/\
idxK t117 t118 t124 1 λ a125=>
∃t126,w68.drew.cell? a125=some (.int .i64 t126)/\
Calls Tryz.prog 91 #[.pointer t114,.int .i64 t115,.int .i64 t126] w68.drew λ e127 w128=>∃t129,e127=.returned (.int .i64 t129)/\
Q (.int .i64 t129) w128))
def V40J4 (w:World) (Q:Value->World->Prop) (x44:Option Addr) (x45:Addr) (x46:Int) (x47:Bool) (w48:World):Prop:=
bsel x47 (
nilK x44 λ a49=>
∃t50,w48.drew.cell? (a49.add 0)=some (.pointer t50)/\
∃t51,w48.drew.cell? (x45.add 0)=some (.int .i64 t51)/\
∃t52 t53 t54,w48.drew.cell? (x45.add 5)=some (.slice t52 t53 t54)/\
∃w55:World,∃t56 t57 t58,(Instr.makeSlice 30 (.int .i64 (t53:Int)) (.int .i64 (t53:Int))).run Tryz.prog w48.drew=.ok (.slice t56 t57 t58) w55/\
(w55.cell? (x45.add 0)=some (.int .i64 t51))/\
(w55.cell? (a49.add 0)=some (.pointer t50))/\
Calls Tryz.prog 87 #[.pointer t50,.int .i64 t51,.slice t56 t57 t58] w55 λ e59 w60=>∃t61,e59=.returned (.int .i64 t61)/\
Q (.int .i64 t61) w60) (
bsel (x46 == 7) (
V40J3 w Q x44 x45 x46 true w48) (
bsel (x46 == 8) (
V40J3 w Q x44 x45 x46 true w48) (
V40J3 w Q x44 x45 x46 (x46 == 9) w48)))
def V40 (x1:Option Addr) (x2:Int) (x3 x4:Bool) (x5:Option Addr) (x6 x7:Nat) (x8:ByteArray) (x9:Option Addr) (x10 x11:Nat) (x12 x13:Bool) (w:World) (Q:Value->World->Prop):Prop:=
newK w #[.int .i64 x2,.bool x3,.bool x4,.slice x5 x6 x7,.string x8,.slice x9 x10 x11,.bool x12,.bool x13] 42 λ a14 w15=>
∃t16,w15.cell? (a14.add 0)=some (.int .i64 t16)/\
bsel (t16 == 1) (
Q (.int .i64 0) w15) (
bsel (t16 == 2) (
∃t17,w15.cell? (a14.add 1)=some (.bool t17)/\
Calls Tryz.prog 83 #[.bool t17] w15 λ e18 w19=>∃t20,e18=.returned (.int .i64 t20)/\
Q (.int .i64 t20) w19) (
bsel (t16 == 3) (
nilK x1 λ a21=>
∃t22,w15.drew.cell? (a21.add 0)=some (.pointer t22)/\
∃t23 t24 t25 t26,CellsAt w15.drew (a14.add 2) [.bool t23,.slice t24 t25 t26]/\
Calls Tryz.prog 85 #[.agg #[.bool t23,.slice t24 t25 t26]] w15.drew λ e27 w28=>∃t29 t30 t31 t32,e27=.returned (.agg #[.bool t29,.slice t30 t31 t32])/\
(w28.cell? (a21.add 0)=some (.pointer t22))/\
Calls Tryz.prog 84 #[.pointer t22,.agg #[.bool t29,.slice t30 t31 t32]] w28 λ e33 w34=>∃t35,e33=.returned (.int .i64 t35)/\
Q (.int .i64 t35) w34) (
bsel (t16 == 4) (
nilK x1 λ a38=>
∃t39,w15.drew.cell? (a38.add 0)=some (.pointer t39)/\
∃t40,w15.drew.cell? (a14.add 4)=some (.string t40)/\
Calls Tryz.prog 86 #[.pointer t39,.string t40] w15.drew λ e41 w42=>∃t43,e41=.returned (.int .i64 t43)/\
Q (.int .i64 t43) w42) (
bsel (t16 == 5) (
V40J4 w Q x1 a14 t16 true w15) (
V40J4 w Q x1 a14 t16 (t16 == 6) w15)))))
def V40_ann:Nat->Ann:=λ _=>⟨[],[]⟩
theorem V40_sound (x1 x2 x3 x4 x5 x6 x7 x8 x9 x10 x11 x12 x13 w Q) (h:V40 x1 x2 x3 x4 x5 x6 x7 x8 x9 x10 x11 x12 x13 w Q):Calls Tryz.prog 40 #[.pointer x1,.agg #[.int .i64 x2,.bool x3,.bool x4,.slice x5 x6 x7,.string x8,.slice x9 x10 x11,.bool x12,.bool x13]] w λ e w'=>∃v,e=.returned v/\Q v w':=
 sound_of Tryz.func40 V40_ann rfl (Eq.mpr (by kernel_rfl) h)
def V41 (x1:Option Addr) (x2:Int) (w:World) (Q:Value->World->Prop):Prop:=
bsel (Option.isNone x1) (
Q .nilIface w) (
nilK x1 λ a3=>
∃t4,w.cell? (a3.add 6)=some (.pointer t4)/\
Calls Tryz.prog 92 #[.pointer t4,.int .i64 x2] w λ e5 w6=>∃t7 t8,e5=.returned (.tuple #[t7,.bool t8])/\
Q t7 w6)
def V41_ann:Nat->Ann:=λ _=>⟨[],[]⟩
theorem V41_sound (x1 x2 w Q) (h:V41 x1 x2 w Q):Calls Tryz.prog 41 #[.pointer x1,.int .i64 x2] w λ e w'=>∃v,e=.returned v/\Q v w':=
 sound_of Tryz.func41 V41_ann rfl (Eq.mpr (by kernel_rfl) h)
def V71 (x1:ByteArray) (w:World) (Q:Value->World->Prop):Prop:=
∃w2:World,∃t3,(Instr.range 9 (.string x1)).run Tryz.prog w=.ok (.pointer t3) w2/\
∃(I4:Int->World->Prop) (μ5:Int->World->Nat),I4 0 w2/\∀(j8:Fr) (i6:Int) (w7:World),I4 i6 w7->
nextSK (.pointer t3) w7 (λ w9=>(
Q (.int .i64 i6) w9)) λ t10 t11 w12=>
(I4 (IntKind.wrap .i64 (i6+1)) w12/\μ5 (IntKind.wrap .i64 (i6+1)) w12<μ5 i6 w7)
def V71_ann:Nat->Ann:=λ k=>match k with | 0=>⟨[5],[(3,.int .i64)]⟩ | _=>⟨[],[]⟩
theorem V71_sound (x1 w Q) (h:V71 x1 w Q):Calls Tryz.prog 71 #[.string x1] w λ e w'=>∃v,e=.returned v/\Q v w':=
 sound_of Tryz.func71 V71_ann rfl (Eq.mpr (by kernel_rfl) h)
def V76 (x1:ByteArray) (w:World) (Q:Value->World->Prop):Prop:=
newK w #[.pointer none,.slice none 0 0] 150 λ a2 w3=>
Calls Tryz.prog 130 #[.pointer (some a2),.int .u8 39] w3 λ e4 w5=>∃t6,e4=.returned (t6)/\
∃w7:World,∃t8,(Instr.range 9 (.string x1)).run Tryz.prog w5=.ok (.pointer t8) w7/\
∃(I9:World->Prop) (μ10:World->Nat),I9  w7/\∀(j12:Fr)  (w11:World),I9  w11->
nextSK (.pointer t8) w11 (λ w13=>(
Calls Tryz.prog 130 #[.pointer (some a2),.int .u8 39] w13 λ e17 w18=>∃t19,e17=.returned (t19)/\
Calls Tryz.prog 70 #[.pointer (some a2)] w18 λ e20 w21=>∃t22,e20=.returned (.string t22)/\
Q (.string t22) w21)) λ t14 t15 w16=>
Calls Tryz.prog 131 #[.int .i32 t15] w16 λ e23 w24=>∃t25,e23=.returned (.string t25)/\
Calls Tryz.prog 69 #[.pointer (some a2),.string t25] w24 λ e26 w27=>∃t28 t29,e26=.returned (.tuple #[.int .i64 t28,t29])/\
(I9  w27/\μ10  w27<μ10  w11)
def V76_ann:Nat->Ann:=λ k=>match k with | 0=>⟨[3,8],[]⟩ | _=>⟨[],[]⟩
theorem V76_sound (x1 w Q) (h:V76 x1 w Q):Calls Tryz.prog 76 #[.string x1] w λ e w'=>∃v,e=.returned v/\Q v w':=
 sound_of Tryz.func76 V76_ann rfl (Eq.mpr (by kernel_rfl) h)
def V79 (x1:Int) (w:World) (Q:Value->World->Prop):Prop:=
bsel (decide (x1>=1)) (
bsel (decide (x1<=9)) (
Q (.bool true) w) (
bsel (x1 == 14) (
Q (.bool true) w) (
bsel (decide (x1>=15)) (
Q (.bool (decide (x1<=17))) w) (
Q (.bool false) w)))) (
bsel (x1 == 14) (
Q (.bool true) w) (
bsel (decide (x1>=15)) (
Q (.bool (decide (x1<=17))) w) (
Q (.bool false) w)))
def V79_ann:Nat->Ann:=λ _=>⟨[],[]⟩
theorem V79_sound (x1 w Q) (h:V79 x1 w Q):Calls Tryz.prog 79 #[.int .i64 x1] w λ e w'=>∃v,e=.returned v/\Q v w':=
 sound_of Tryz.func79 V79_ann rfl (Eq.mpr (by kernel_rfl) h)
def V80J1 (Q:Value->World->Prop) (x112:Option Addr) (x113:Addr) (x114:Bool) (w115:World):Prop:=
bsel x114 (
∃t116 t117 t118,w115.drew.cell? (x113.add 5)=some (.slice t116 t117 t118)/\
bsel ((t117:Int) != 1) (
Q (.bool true) w115.drew) (
nilK x112 λ a121=>
∃t122 t123 t124,w115.drew.cell? (a121.add 1)=some (.slice t122 t123 t124)/\
∃t125 t126 t127,w115.drew.cell? (x113.add 5)=some (.slice t125 t126 t127)/\
idxK t125 t126 0 1 λ a128=>
∃t129,w115.drew.cell? a128=some (.int .i64 t129)/\
idxK t122 t123 t129 8 λ a130=>
∃t131,w115.drew.cell? (a130.add 0)=some (.int .i64 t131)/\
Q (.bool (t131 != 7)) w115.drew)) (
∃t132 t133 t134,w115.cell? (x113.add 5)=some (.slice t132 t133 t134)/\
Q (.bool (decide ((t133:Int)>0))) w115)
def V80J2 (Q:Value->World->Prop) (x104:Option Addr) (x105:Addr) (x106:Int) (x107:Bool) (w108:World):Prop:=
bsel x107 (
Q (.bool false) w108) (
bsel (x106 == 7) (
∃t109 t110 t111,w108.cell? (x105.add 5)=some (.slice t109 t110 t111)/\
((2:Int)≠0)/\
Q (.bool (Int.tmod (t110:Int) 2 == 1)) w108) (
bsel (x106 == 15) (
V80J1 Q x104 x105 true w108) (
bsel (x106 == 16) (
V80J1 Q x104 x105 true w108) (
V80J1 Q x104 x105 (x106 == 17) w108))))
def V80J3 (Q:Value->World->Prop) (x35:Option Addr) (x36:Addr) (x37:Int) (w38:World):Prop:=
∃t39 t40 t41,w38.cell? (x36.add 5)=some (.slice t39 t40 t41)/\
∃(I42:Int->World->Prop) (μ43:Int->World->Nat),I42 0 w38/\∀(j46:Fr) (i44:Int) (w45:World),I42 i44 w45->
bsel (decide (i44<(t40:Int))) (
idxK t39 t40 i44 1 λ a47=>
∃t48,w45.cell? a47=some (.int .i64 t48)/\
bsel (decide (t48<0)) (
Q (.bool true) w45) (
bsel (decide (t48>=x37)) (
Q (.bool true) w45) (
(I42 (IntKind.wrap .i64 (i44+1)) w45/\μ43 (IntKind.wrap .i64 (i44+1)) w45<μ43 i44 w45)))) (
∃t59 t60 t61 t62 t63 t64 t65 t66 t67 t68 t69 t70,CellsAt w45 x36 [.int .i64 t59,.bool t60,.bool t61,.slice t62 t63 t64,.string t65,.slice t66 t67 t68,.bool t69,.bool t70]/\
Calls Tryz.prog 134 #[.agg #[.int .i64 t59,.bool t60,.bool t61,.slice t62 t63 t64,.string t65,.slice t66 t67 t68,.bool t69,.bool t70]] w45 λ e71 w72=>∃t73 t74 t75,e71=.returned (.slice t73 t74 t75)/\
∃(I76:Int->World->Prop) (μ77:Int->World->Nat),I76 0 w72/\∀(j80:Fr) (i78:Int) (w79:World),I76 i78 w79->
bsel (decide (i78<(t74:Int))) (
idxK t73 t74 i78 1 λ a81=>
∃t82,w79.cell? a81=some (.int .i64 t82)/\
nilK x35 λ a83=>
∃t84 t85 t86,w79.cell? (a83.add 1)=some (.slice t84 t85 t86)/\
idxK t84 t85 t82 8 λ a87=>
∃t88 t89 t90 t91 t92 t93 t94 t95 t96 t97 t98 t99,CellsAt w79 a87 [.int .i64 t88,.bool t89,.bool t90,.slice t91 t92 t93,.string t94,.slice t95 t96 t97,.bool t98,.bool t99]/\
Calls Tryz.prog 135 #[.agg #[.int .i64 t88,.bool t89,.bool t90,.slice t91 t92 t93,.string t94,.slice t95 t96 t97,.bool t98,.bool t99]] w79 λ e100 w101=>∃t102,e100=.returned (.bool t102)/\
bsel (!t102) (
Q (.bool true) w101) (
(I76 (IntKind.wrap .i64 (i78+1)) w101/\μ77 (IntKind.wrap .i64 (i78+1)) w101<μ77 i78 w79))) (
∃t103,w79.cell? (x36.add 0)=some (.int .i64 t103)/\
bsel (t103 == 5) (
V80J2 Q x35 x36 t103 true w79) (
bsel (t103 == 6) (
V80J2 Q x35 x36 t103 true w79) (
bsel (t103 == 8) (
V80J2 Q x35 x36 t103 true w79) (
V80J2 Q x35 x36 t103 (t103 == 9) w79)))))
def V80 (x1:Option Addr) (x2:Int) (w:World) (Q:Value->World->Prop):Prop:=
nilK x1 λ a3=>
∃t4 t5 t6,w.cell? (a3.add 1)=some (.slice t4 t5 t6)/\
idxK t4 t5 x2 8 λ a7=>
∃t8 t9 t10 t11 t12 t13 t14 t15 t16 t17 t18 t19,CellsAt w a7 [.int .i64 t8,.bool t9,.bool t10,.slice t11 t12 t13,.string t14,.slice t15 t16 t17,.bool t18,.bool t19]/\
newK w #[.int .i64 0,.bool false,.bool false,.slice none 0 0,.string ⟨#[]⟩,.slice none 0 0,.bool false,.bool false] 42 λ a20 w21=>
stK w21 (a20.add 0) (.int .i64 t8) λ w22=>
stK w22 (a20.add 1) (.bool t9) λ w23=>
stK w23 (a20.add 2) (.bool t10) λ w24=>
stK w24 (a20.add 3) (.slice t11 t12 t13) λ w25=>
stK w25 (a20.add 4) (.string t14) λ w26=>
stK w26 (a20.add 5) (.slice t15 t16 t17) λ w27=>
stK w27 (a20.add 6) (.bool t18) λ w28=>
stK w28 (a20.add 7) (.bool t19) λ w29=>
∃t30,w29.cell? (a20.add 0)=some (.int .i64 t30)/\
bsel (t30 == 6) (
nilK x1 λ a31=>
∃t32 t33 t34,w29.cell? (a31.add 1)=some (.slice t32 t33 t34)/\
V80J3 Q x1 a20 (t33:Int) w29) (
V80J3 Q x1 a20 x2 w29)
def V80_ann:Nat->Ann:=λ k=>match k with | 0=>⟨[0,5,6,28,29],[(30,.int .i64)]⟩ | 1=>⟨[0,5,43,44],[(45,.int .i64)]⟩ | _=>⟨[],[]⟩
theorem V80_sound (x1 x2 w Q) (h:V80 x1 x2 w Q):Calls Tryz.prog 80 #[.pointer x1,.int .i64 x2] w λ e w'=>∃v,e=.returned v/\Q v w':=
 sound_of Tryz.func80 V80_ann rfl (Eq.mpr (by kernel_rfl) h)
def V81 (x1:ByteArray) (w:World) (Q:Value->World->Prop):Prop:=
Calls Tryz.prog 136 #[.string x1] w λ e2 w3=>∃t4,e2=.returned (.bool t4)/\
Q (.bool t4) w3
def V81_ann:Nat->Ann:=λ _=>⟨[],[]⟩
theorem V81_sound (x1 w Q) (h:V81 x1 w Q):Calls Tryz.prog 81 #[.string x1] w λ e w'=>∃v,e=.returned v/\Q v w':=
 sound_of Tryz.func81 V81_ann rfl (Eq.mpr (by kernel_rfl) h)
def V82J1 (Q:Value->World->Prop) (x45:Option Addr) (x46:Addr) (x47:Bool) (w48:World):Prop:=
bsel x47 (
∃t49 t50 t51,w48.cell? (x46.add 5)=some (.slice t49 t50 t51)/\
Q (.bool (decide ((t50:Int)>65536))) w48) (
∃w52:World,∃t53,(Instr.makeMap 259 none).run Tryz.prog w48=.ok (.map t53) w52/\
∃t54 t55 t56 t57 t58 t59 t60 t61 t62 t63 t64 t65,CellsAt w52 x46 [.int .i64 t54,.bool t55,.bool t56,.slice t57 t58 t59,.string t60,.slice t61 t62 t63,.bool t64,.bool t65]/\
Calls Tryz.prog 134 #[.agg #[.int .i64 t54,.bool t55,.bool t56,.slice t57 t58 t59,.string t60,.slice t61 t62 t63,.bool t64,.bool t65]] w52 λ e66 w67=>∃t68 t69 t70,e66=.returned (.slice t68 t69 t70)/\
∃(I71:Int->World->Prop) (μ72:Int->World->Nat),I71 0 w67/\∀(j75:Fr) (i73:Int) (w74:World),I71 i73 w74->
bsel (decide (i73<(t69:Int))) (
idxK t68 t69 i73 1 λ a76=>
∃t77,w74.cell? a76=some (.int .i64 t77)/\
Calls Tryz.prog 137 #[.pointer x45,.int .i64 t77] w74 λ e78 w79=>∃t80,e78=.returned (.string t80)/\
∃w81:World,∃t82,(Instr.lookup 259 (.map t53) (.string t80) false).run Tryz.prog w79=.ok (.int .i64 t82) w81/\
∃w83:World,(Instr.mapUpdate 259 (.map t53) (.string t80) (.int .i64 (IntKind.wrap .i64 (t82+1)))).run Tryz.prog w81=.ok () w83/\
(I71 (IntKind.wrap .i64 (i73+1)) w83/\μ72 (IntKind.wrap .i64 (i73+1)) w83<μ72 i73 w74)) (
nilK x45 λ a84=>
∃t85,w74.drew.cell? (a84.add 0)=some (.pointer t85)/\
nilK t85 λ a86=>
∃t87,w74.drew.cell? ((a86.add 0).add 1)=some (.int .i64 t87)/\
∃w88:World,∃t89,(vcEff.bltV .len #[259] 3 #[.map t53]).run Tryz.prog w74.drew=.ok (.int .i64 t89) w88/\
(w88.cell? ((a86.add 0).add 1)=some (.int .i64 t87))/\
(w88.cell? (a84.add 0)=some (.pointer t85))/\
Q (.bool (decide (t89>t87))) w88))
def V82 (x1:Option Addr) (x2:Int) (w:World) (Q:Value->World->Prop):Prop:=
nilK x1 λ a3=>
∃t4 t5 t6,w.cell? (a3.add 1)=some (.slice t4 t5 t6)/\
idxK t4 t5 x2 8 λ a7=>
∃t8 t9 t10 t11 t12 t13 t14 t15 t16 t17 t18 t19,CellsAt w a7 [.int .i64 t8,.bool t9,.bool t10,.slice t11 t12 t13,.string t14,.slice t15 t16 t17,.bool t18,.bool t19]/\
newK w #[.int .i64 0,.bool false,.bool false,.slice none 0 0,.string ⟨#[]⟩,.slice none 0 0,.bool false,.bool false] 42 λ a20 w21=>
stK w21 (a20.add 0) (.int .i64 t8) λ w22=>
stK w22 (a20.add 1) (.bool t9) λ w23=>
stK w23 (a20.add 2) (.bool t10) λ w24=>
stK w24 (a20.add 3) (.slice t11 t12 t13) λ w25=>
stK w25 (a20.add 4) (.string t14) λ w26=>
stK w26 (a20.add 5) (.slice t15 t16 t17) λ w27=>
stK w27 (a20.add 6) (.bool t18) λ w28=>
stK w28 (a20.add 7) (.bool t19) λ w29=>
∃t30,w29.cell? (a20.add 0)=some (.int .i64 t30)/\
bsel (t30 == 4) (
∃t31,w29.cell? (a20.add 4)=some (.string t31)/\
Calls Tryz.prog 71 #[.string t31] w29 λ e32 w33=>∃t34,e32=.returned (.int .i64 t34)/\
Q (.bool (decide (t34>65536))) w33) (
bsel (t30 == 3) (
∃t35 t36 t37 t38,CellsAt w29 (a20.add 2) [.bool t35,.slice t36 t37 t38]/\
Calls Tryz.prog 85 #[.agg #[.bool t35,.slice t36 t37 t38]] w29 λ e39 w40=>∃t41 t42 t43 t44,e39=.returned (.agg #[.bool t41,.slice t42 t43 t44])/\
Q (.bool (decide ((t43:Int)>256))) w40) (
bsel (t30 == 5) (
V82J1 Q x1 a20 true w29) (
V82J1 Q x1 a20 (t30 == 6) w29)))
def V82_ann:Nat->Ann:=λ k=>match k with | 0=>⟨[0,6,41,42],[(43,.int .i64)]⟩ | _=>⟨[],[]⟩
theorem V82_sound (x1 x2 w Q) (h:V82 x1 x2 w Q):Calls Tryz.prog 82 #[.pointer x1,.int .i64 x2] w λ e w'=>∃v,e=.returned v/\Q v w':=
 sound_of Tryz.func82 V82_ann rfl (Eq.mpr (by kernel_rfl) h)
def V83 (x1:Bool) (w:World) (Q:Value->World->Prop):Prop:=
bsel x1 (
Q (.int .i64 2) w) (
Q (.int .i64 1) w)
def V83_ann:Nat->Ann:=λ _=>⟨[],[]⟩
theorem V83_sound (x1 w Q) (h:V83 x1 w Q):Calls Tryz.prog 83 #[.bool x1] w λ e w'=>∃v,e=.returned v/\Q v w':=
 sound_of Tryz.func83 V83_ann rfl (Eq.mpr (by kernel_rfl) h)
def V86 (x1:Option Addr) (x2:ByteArray) (w:World) (Q:Value->World->Prop):Prop:=
Calls Tryz.prog 138 #[.pointer x1] w λ e3 w4=>∃t5,e3=.returned (t5)/\
nilK x1 λ a6=>
∃t7,w4.cell? (a6.add 6)=some (.pointer t7)/\
Calls Tryz.prog 38 #[.pointer t7,.iface 160 (.agg #[.string x2])] w4 λ e8 w9=>∃t10,e8=.returned (.int .i64 t10)/\
Q (.int .i64 t10) w9
def V86_ann:Nat->Ann:=λ _=>⟨[],[]⟩
theorem V86_sound (x1 x2 w Q) (h:V86 x1 x2 w Q):Calls Tryz.prog 86 #[.pointer x1,.string x2] w λ e w'=>∃v,e=.returned v/\Q v w':=
 sound_of Tryz.func86 V86_ann rfl (Eq.mpr (by kernel_rfl) h)
def V87 (x1:Option Addr) (x2:Int) (x3:Option Addr) (x4 x5:Nat) (w:World) (Q:Value->World->Prop):Prop:=
nilK x1 λ a6=>
∃t7,w.drew.cell? (a6.add 6)=some (.pointer t7)/\
Calls Tryz.prog 140 #[.pointer x1] w.drew λ e8 w9=>∃t10,e8=.returned (.agg #[.int .i64 t10])/\
(w9.cell? (a6.add 6)=some (.pointer t7))/\
newK w9 #[.int .i64 t10,.slice x3 x4 x5,.int .i64 x2] 100 λ a11 w12=>
(w12.cell? (a6.add 6)=some (.pointer t7))/\
Calls Tryz.prog 38 #[.pointer t7,.iface 94 (.pointer (some a11))] w12 λ e13 w14=>∃t15,e13=.returned (.int .i64 t15)/\
Q (.int .i64 t15) w14
def V87_ann:Nat->Ann:=λ _=>⟨[],[]⟩
theorem V87_sound (x1 x2 x3 x4 x5 w Q) (h:V87 x1 x2 x3 x4 x5 w Q):Calls Tryz.prog 87 #[.pointer x1,.int .i64 x2,.slice x3 x4 x5] w λ e w'=>∃v,e=.returned v/\Q v w':=
 sound_of Tryz.func87 V87_ann rfl (Eq.mpr (by kernel_rfl) h)
def V92 (x1:Option Addr) (x2:Int) (w:World) (Q:Value->World->Prop):Prop:=
Calls Tryz.prog 146 #[.pointer x1,.int .i64 x2] w λ e3 w4=>∃t5,e3=.returned (.bool t5)/\
bsel (!t5) (
newK w4 #[.nilIface] 77 λ a6 w7=>
∃t8,w7.cell? a6=some (t8)/\
Q (.tuple #[t8,.bool false]) w7) (
nilK x1 λ a9=>
∃t10 t11 t12,w4.cell? (a9.add 0)=some (.slice t10 t11 t12)/\
idxK t10 t11 x2 1 λ a13=>
∃t14,w4.cell? a13=some (t14)/\
Q (.tuple #[t14,.bool true]) w4)
def V92_ann:Nat->Ann:=λ _=>⟨[],[]⟩
theorem V92_sound (x1 x2 w Q) (h:V92 x1 x2 w Q):Calls Tryz.prog 92 #[.pointer x1,.int .i64 x2] w λ e w'=>∃v,e=.returned v/\Q v w':=
 sound_of Tryz.func92 V92_ann rfl (Eq.mpr (by kernel_rfl) h)
def V131J1 (Q:Value->World->Prop) (x13:Int) (x14:Bool) (w15:World):Prop:=
bsel x14 (
Calls Tryz.prog 207 #[.int .i32 x13,.int .i64 4] w15 λ e16 w17=>∃t18,e16=.returned (.string t18)/\
((((⟨#[92,117]⟩:ByteArray).size+t18.size:Nat):Int)<=9223372036854775807)/\
Q (.string ((⟨#[92,117]⟩:ByteArray) ++ t18)) w17) (
∃w19:World,∃t20,(Go.convert 21 9 (.int .i32 x13)).run Tryz.prog w15=.ok (.string t20) w19/\
Q (.string t20) w19)
def V131J2 (Q:Value->World->Prop) (x7:Int) (x8:Bool) (w9:World):Prop:=
bsel x8 (
Calls Tryz.prog 207 #[.int .i32 x7,.int .i64 2] w9 λ e10 w11=>∃t12,e10=.returned (.string t12)/\
((((⟨#[92,120]⟩:ByteArray).size+t12.size:Nat):Int)<=9223372036854775807)/\
Q (.string ((⟨#[92,120]⟩:ByteArray) ++ t12)) w11) (
bsel (decide (x7>=128)) (
bsel (decide (x7<=159)) (
V131J1 Q x7 true w9) (
bsel (x7 == 8232) (
V131J1 Q x7 true w9) (
bsel (x7 == 8233) (
V131J1 Q x7 true w9) (
V131J1 Q x7 (x7 == 65279) w9)))) (
bsel (x7 == 8232) (
V131J1 Q x7 true w9) (
bsel (x7 == 8233) (
V131J1 Q x7 true w9) (
V131J1 Q x7 (x7 == 65279) w9))))
def V131J3 (Q:Value->World->Prop) (x2:Int) (x3:Bool) (w4:World):Prop:=
bsel x3 (
∃w5:World,∃t6,(Go.convert 21 9 (.int .i32 x2)).run Tryz.prog w4=.ok (.string t6) w5/\
((((⟨#[92]⟩:ByteArray).size+t6.size:Nat):Int)<=9223372036854775807)/\
Q (.string ((⟨#[92]⟩:ByteArray) ++ t6)) w5) (
bsel (x2 == 10) (
Q (.string (⟨#[92,110]⟩:ByteArray)) w4) (
bsel (x2 == 9) (
Q (.string (⟨#[92,116]⟩:ByteArray)) w4) (
bsel (decide (x2<32)) (
V131J2 Q x2 true w4) (
V131J2 Q x2 (x2 == 127) w4))))
def V131 (x1:Int) (w:World) (Q:Value->World->Prop):Prop:=
bsel (x1 == 39) (
V131J3 Q x1 true w) (
V131J3 Q x1 (x1 == 92) w)
def V131_ann:Nat->Ann:=λ _=>⟨[],[]⟩
theorem V131_sound (x1 w Q) (h:V131 x1 w Q):Calls Tryz.prog 131 #[.int .i32 x1] w λ e w'=>∃v,e=.returned v/\Q v w':=
 sound_of Tryz.func131 V131_ann rfl (Eq.mpr (by kernel_rfl) h)
def V134J1 (Q:Value->World->Prop) (x16:Addr) (x17:Int) (x18:Bool) (w19:World):Prop:=
bsel x18 (
∃t20 t21 t22,w19.cell? (x16.add 5)=some (.slice t20 t21 t22)/\
Q (.slice t20 t21 t22) w19) (
bsel (x17 == 7) (
∃(I23:Option Addr->Nat->Nat->Int->World->Prop) (μ24:Option Addr->Nat->Nat->Int->World->Nat),I23 none 0 0 0 w19/\∀(j30:Fr) (i25:Option Addr) (i26:Nat) (i27:Nat) (i28:Int) (w29:World),I23 i25 i26 i27 i28 w29->
∃t31 t32 t33,w29.cell? (x16.add 5)=some (.slice t31 t32 t33)/\
bsel (decide (i28<(t32:Int))) (
∃t34 t35 t36,w29.cell? (x16.add 5)=some (.slice t34 t35 t36)/\
idxK t34 t35 i28 1 λ a37=>
∃t38,w29.cell? a37=some (.int .i64 t38)/\
newK w29 #[.int .i64 t38] 3 λ a39 w40=>
∃w41:World,∃t42 t43 t44,(vcEff.bltV .append #[30,30] 30 #[.slice i25 i26 i27,.slice (some a39) 1 1]).run Tryz.prog w40=.ok (.slice t42 t43 t44) w41/\
(I23 t42 t43 t44 (IntKind.wrap .i64 (i28+2)) w41/\μ24 t42 t43 t44 (IntKind.wrap .i64 (i28+2)) w41<μ24 i25 i26 i27 i28 w29)) (
Q (.slice i25 i26 i27) w29)) (
Q (.slice none 0 0) w19))
def V134 (x1:Int) (x2 x3:Bool) (x4:Option Addr) (x5 x6:Nat) (x7:ByteArray) (x8:Option Addr) (x9 x10:Nat) (x11 x12:Bool) (w:World) (Q:Value->World->Prop):Prop:=
newK w #[.int .i64 x1,.bool x2,.bool x3,.slice x4 x5 x6,.string x7,.slice x8 x9 x10,.bool x11,.bool x12] 42 λ a13 w14=>
∃t15,w14.cell? (a13.add 0)=some (.int .i64 t15)/\
bsel (t15 == 8) (
V134J1 Q a13 t15 true w14) (
V134J1 Q a13 t15 (t15 == 9) w14)
def V134_ann:Nat->Ann:=λ k=>match k with | 0=>⟨[1],[(3,.slice),(4,.int .i64)]⟩ | _=>⟨[],[]⟩
theorem V134_sound (x1 x2 x3 x4 x5 x6 x7 x8 x9 x10 x11 x12 w Q) (h:V134 x1 x2 x3 x4 x5 x6 x7 x8 x9 x10 x11 x12 w Q):Calls Tryz.prog 134 #[.agg #[.int .i64 x1,.bool x2,.bool x3,.slice x4 x5 x6,.string x7,.slice x8 x9 x10,.bool x11,.bool x12]] w λ e w'=>∃v,e=.returned v/\Q v w':=
 sound_of Tryz.func134 V134_ann rfl (Eq.mpr (by kernel_rfl) h)
def V135 (x1:Int) (x2 x3:Bool) (x4:Option Addr) (x5 x6:Nat) (x7:ByteArray) (x8:Option Addr) (x9 x10:Nat) (x11 x12:Bool) (w:World) (Q:Value->World->Prop):Prop:=
newK w #[.int .i64 x1,.bool x2,.bool x3,.slice x4 x5 x6,.string x7,.slice x8 x9 x10,.bool x11,.bool x12] 42 λ a13 w14=>
∃t15,w14.cell? (a13.add 0)=some (.int .i64 t15)/\
bsel (decide (t15>=1)) (
∃t16,w14.cell? (a13.add 0)=some (.int .i64 t16)/\
bsel (decide (t16<=4)) (
Q (.bool true) w14) (
∃t19,w14.cell? (a13.add 0)=some (.int .i64 t19)/\
bsel (t19 == 14) (
∃t20,w14.cell? (a13.add 6)=some (.bool t20)/\
bsel t20 (
Q (.bool true) w14) (
∃t21,w14.cell? (a13.add 7)=some (.bool t21)/\
Q (.bool (!t21)) w14)) (
Q (.bool false) w14))) (
∃t22,w14.cell? (a13.add 0)=some (.int .i64 t22)/\
bsel (t22 == 14) (
∃t23,w14.cell? (a13.add 6)=some (.bool t23)/\
bsel t23 (
Q (.bool true) w14) (
∃t24,w14.cell? (a13.add 7)=some (.bool t24)/\
Q (.bool (!t24)) w14)) (
Q (.bool false) w14))
def V135_ann:Nat->Ann:=λ _=>⟨[],[]⟩
theorem V135_sound (x1 x2 x3 x4 x5 x6 x7 x8 x9 x10 x11 x12 w Q) (h:V135 x1 x2 x3 x4 x5 x6 x7 x8 x9 x10 x11 x12 w Q):Calls Tryz.prog 135 #[.agg #[.int .i64 x1,.bool x2,.bool x3,.slice x4 x5 x6,.string x7,.slice x8 x9 x10,.bool x11,.bool x12]] w λ e w'=>∃v,e=.returned v/\Q v w':=
 sound_of Tryz.func135 V135_ann rfl (Eq.mpr (by kernel_rfl) h)
def V137 (x1:Option Addr) (x2:Int) (w:World) (Q:Value->World->Prop):Prop:=
nilK x1 λ a3=>
∃t4 t5 t6,w.cell? (a3.add 1)=some (.slice t4 t5 t6)/\
idxK t4 t5 x2 8 λ a7=>
∃t8 t9 t10 t11 t12 t13 t14 t15 t16 t17 t18 t19,CellsAt w a7 [.int .i64 t8,.bool t9,.bool t10,.slice t11 t12 t13,.string t14,.slice t15 t16 t17,.bool t18,.bool t19]/\
newK w #[.int .i64 0,.bool false,.bool false,.slice none 0 0,.string ⟨#[]⟩,.slice none 0 0,.bool false,.bool false] 42 λ a20 w21=>
stK w21 (a20.add 0) (.int .i64 t8) λ w22=>
stK w22 (a20.add 1) (.bool t9) λ w23=>
stK w23 (a20.add 2) (.bool t10) λ w24=>
stK w24 (a20.add 3) (.slice t11 t12 t13) λ w25=>
stK w25 (a20.add 4) (.string t14) λ w26=>
stK w26 (a20.add 5) (.slice t15 t16 t17) λ w27=>
stK w27 (a20.add 6) (.bool t18) λ w28=>
stK w28 (a20.add 7) (.bool t19) λ w29=>
∃t30,w29.cell? (a20.add 0)=some (.int .i64 t30)/\
bsel (t30 == 1) (
Q (.string (⟨#[110,111,110,101]⟩:ByteArray)) w29) (
bsel (t30 == 2) (
∃t31,w29.cell? (a20.add 1)=some (.bool t31)/\
bsel t31 (
Q (.string (⟨#[105,49]⟩:ByteArray)) w29) (
Q (.string (⟨#[105,48]⟩:ByteArray)) w29)) (
bsel (t30 == 3) (
∃t32 t33 t34 t35,CellsAt w29 (a20.add 2) [.bool t32,.slice t33 t34 t35]/\
Calls Tryz.prog 75 #[.agg #[.bool t32,.slice t33 t34 t35]] w29 λ e36 w37=>∃t38,e36=.returned (.string t38)/\
((((⟨#[105]⟩:ByteArray).size+t38.size:Nat):Int)<=9223372036854775807)/\
Q (.string ((⟨#[105]⟩:ByteArray) ++ t38)) w37) (
bsel (t30 == 4) (
∃t39,w29.cell? (a20.add 4)=some (.string t39)/\
((((⟨#[115]⟩:ByteArray).size+t39.size:Nat):Int)<=9223372036854775807)/\
Q (.string ((⟨#[115]⟩:ByteArray) ++ t39)) w29) (
Calls Tryz.prog 77 #[.int .i64 x2] w29 λ e40 w41=>∃t42,e40=.returned (.string t42)/\
((((⟨#[111]⟩:ByteArray).size+t42.size:Nat):Int)<=9223372036854775807)/\
Q (.string ((⟨#[111]⟩:ByteArray) ++ t42)) w41))))
def V137_ann:Nat->Ann:=λ _=>⟨[],[]⟩
theorem V137_sound (x1 x2 w Q) (h:V137 x1 x2 w Q):Calls Tryz.prog 137 #[.pointer x1,.int .i64 x2] w λ e w'=>∃v,e=.returned v/\Q v w':=
 sound_of Tryz.func137 V137_ann rfl (Eq.mpr (by kernel_rfl) h)
def V138 (x1:Option Addr) (w:World) (Q:Value->World->Prop):Prop:=
nilK x1 λ a2=>
∃t3,w.cell? (a2.add 10)=some (.pointer t3)/\
Calls Tryz.prog 210 #[.pointer t3] w λ e4 w5=>∃t6,e4=.returned (.bool t6)/\
bsel t6 (
nilK x1 λ a7=>
stK w5 (a7.add 11) (.bool true) λ w8=>
Q (.tuple #[]) w8) (
Q (.tuple #[]) w5)
def V138_ann:Nat->Ann:=λ _=>⟨[],[]⟩
theorem V138_sound (x1 w Q) (h:V138 x1 w Q):Calls Tryz.prog 138 #[.pointer x1] w λ e w'=>∃v,e=.returned v/\Q v w':=
 sound_of Tryz.func138 V138_ann rfl (Eq.mpr (by kernel_rfl) h)
def V140 (x1:Option Addr) (w:World) (Q:Value->World->Prop):Prop:=
newK w #[.int .i64 0] 98 λ a2 w3=>
Calls Tryz.prog 138 #[.pointer x1] w3 λ e4 w5=>∃t6,e4=.returned (t6)/\
nilK x1 λ a7=>
∃t8,w5.cell? (a7.add 7)=some (.int .i64 t8)/\
nilK x1 λ a9=>
stK w5 (a9.add 7) (.int .i64 (IntKind.wrap .i64 (t8+1))) λ w10=>
nilK x1 λ a11=>
∃t12,w10.cell? (a11.add 8)=some (.int .i64 t12)/\
nilK x1 λ a13=>
stK w10 (a13.add 8) (.int .i64 (IntKind.wrap .i64 (t12+1))) λ w14=>
nilK x1 λ a15=>
∃t16,w14.cell? (a15.add 7)=some (.int .i64 t16)/\
stK w14 (a2.add 0) (.int .i64 t16) λ w17=>
∃t18,CellsAt w17 a2 [.int .i64 t18]/\
Q (.agg #[.int .i64 t18]) w17
def V140_ann:Nat->Ann:=λ _=>⟨[],[]⟩
theorem V140_sound (x1 w Q) (h:V140 x1 w Q):Calls Tryz.prog 140 #[.pointer x1] w λ e w'=>∃v,e=.returned v/\Q v w':=
 sound_of Tryz.func140 V140_ann rfl (Eq.mpr (by kernel_rfl) h)
def V146 (x1:Option Addr) (x2:Int) (w:World) (Q:Value->World->Prop):Prop:=
bsel (!(Option.isNone x1)) (
bsel (decide (x2>=0)) (
nilK x1 λ a3=>
∃t4 t5 t6,w.cell? (a3.add 0)=some (.slice t4 t5 t6)/\
bsel (decide (x2<(t5:Int))) (
nilK x1 λ a7=>
∃t8 t9 t10,w.cell? (a7.add 1)=some (.slice t8 t9 t10)/\
idxK t8 t9 x2 1 λ a11=>
∃t12,w.cell? a11=some (.bool t12)/\
Q (.bool t12) w) (
Q (.bool false) w)) (
Q (.bool false) w)) (
Q (.bool false) w)
def V146_ann:Nat->Ann:=λ _=>⟨[],[]⟩
theorem V146_sound (x1 x2 w Q) (h:V146 x1 x2 w Q):Calls Tryz.prog 146 #[.pointer x1,.int .i64 x2] w λ e w'=>∃v,e=.returned v/\Q v w':=
 sound_of Tryz.func146 V146_ann rfl (Eq.mpr (by kernel_rfl) h)
def V210 (x1:Option Addr) (w:World) (Q:Value->World->Prop):Prop:=
bsel (Option.isNone x1) (
Q (.bool false) w) (
nilK x1 λ a2=>
∃t3,w.cell? (a2.add 1)=some (.int .i64 t3)/\
nilK x1 λ a4=>
stK w (a4.add 1) (.int .i64 (IntKind.wrap .i64 (t3+1))) λ w5=>
nilK x1 λ a6=>
∃t7,w5.drew.cell? (a6.add 0)=some (.map t7)/\
nilK x1 λ a8=>
∃t9,w5.drew.cell? (a8.add 1)=some (.int .i64 t9)/\
∃w10:World,∃t11,(Instr.lookup 179 (.map t7) (.int .i64 t9) false).run Tryz.prog w5.drew=.ok (.int .i64 t11) w10/\
Q (.bool (decide (t11>0))) w10)
def V210_ann:Nat->Ann:=λ _=>⟨[],[]⟩
theorem V210_sound (x1 w Q) (h:V210 x1 w Q):Calls Tryz.prog 210 #[.pointer x1] w λ e w'=>∃v,e=.returned v/\Q v w':=
 sound_of Tryz.func210 V210_ann rfl (Eq.mpr (by kernel_rfl) h)
end Go.Fw

namespace Go.Fw
open Go.Proofs
def notIface (d:TypeDesc):Bool:=match d with | .interface _=>false | _=>true
theorem ta_yes {P:Program} {A:TypeId} {d:TypeDesc} (hu:P.underlying A=some d) (hd:notIface d=true) (x:TypeId) (v:Value) :
  ∀w:World,(Instr.typeAssert (.iface A v) x A true).run P w=.ok (.tuple #[v,.bool true]) w:=by
 intro w
 cases d <;> simp_all [Instr.typeAssert,run_underlying hu,notIface]
theorem ta_no {P:Program} {A u:TypeId} {d:TypeDesc} {z:Value} (hu:P.underlying A=some d) (hd:notIface d=true) (hz:∀w,(zeroValue A).run P w=.ok z w) (h:u≠A) (x:TypeId) (v:Value) :
  ∀w:World,(Instr.typeAssert (.iface u v) x A true).run P w=.ok (.tuple #[z,.bool false]) w:=by
 intro w
 cases d <;> simp_all [Instr.typeAssert,run_underlying hu,notIface]
theorem ta_nil {P:Program} {A:TypeId} {d:TypeDesc} {z:Value} (hu:P.underlying A=some d) (hd:notIface d=true) (hz:∀w,(zeroValue A).run P w=.ok z w) (x:TypeId) :
  ∀w:World,(Instr.typeAssert .nilIface x A true).run P w=.ok (.tuple #[z,.bool false]) w:=by
 intro w
 cases d <;> simp_all [Instr.typeAssert,run_underlying hu,notIface]
theorem no70 {u:TypeId} (h:u≠85) (x:TypeId) (v:Value):∀w:World,(Instr.typeAssert (.iface u v) x 85 true).run Tryz.prog w=.ok (.tuple #[.agg #[],.bool false]) w:=ta_no Tryz.underlying85 rfl Tryz.zeroValue85 h x v
theorem yes72 (x:TypeId) (v:Value):∀w:World,(Instr.typeAssert (.iface 87 v) x 87 true).run Tryz.prog w=.ok (.tuple #[v,.bool true]) w:=ta_yes Tryz.underlying87 rfl x v
theorem no72 {u:TypeId} (h:u≠87) (x:TypeId) (v:Value):∀w:World,(Instr.typeAssert (.iface u v) x 87 true).run Tryz.prog w=.ok (.tuple #[.agg #[.bool false],.bool false]) w:=ta_no Tryz.underlying87 rfl Tryz.zeroValue87 h x v
theorem yes80 (x:TypeId) (v:Value):∀w:World,(Instr.typeAssert (.iface 94 v) x 94 true).run Tryz.prog w=.ok (.tuple #[v,.bool true]) w:=ta_yes Tryz.underlying94 rfl x v
theorem no80 {u:TypeId} (h:u≠94) (x:TypeId) (v:Value):∀w:World,(Instr.typeAssert (.iface u v) x 94 true).run Tryz.prog w=.ok (.tuple #[.pointer none,.bool false]) w:=ta_no Tryz.underlying94 rfl Tryz.zeroValue94 h x v
theorem no91 {u:TypeId} (h:u≠105) (x:TypeId) (v:Value):∀w:World,(Instr.typeAssert (.iface u v) x 105 true).run Tryz.prog w=.ok (.tuple #[.agg #[.int .i64 0,.string ⟨#[]⟩],.bool false]) w:=ta_no Tryz.underlying105 rfl Tryz.zeroValue105 h x v
theorem yes96 (x:TypeId) (v:Value):∀w:World,(Instr.typeAssert (.iface 160 v) x 160 true).run Tryz.prog w=.ok (.tuple #[v,.bool true]) w:=ta_yes Tryz.underlying160 rfl x v
theorem no96 {u:TypeId} (h:u≠160) (x:TypeId) (v:Value):∀w:World,(Instr.typeAssert (.iface u v) x 160 true).run Tryz.prog w=.ok (.tuple #[.agg #[.string ⟨#[]⟩],.bool false]) w:=ta_no Tryz.underlying160 rfl Tryz.zeroValue160 h x v
theorem yes98 (x:TypeId) (v:Value):∀w:World,(Instr.typeAssert (.iface 111 v) x 111 true).run Tryz.prog w=.ok (.tuple #[v,.bool true]) w:=ta_yes Tryz.underlying111 rfl x v
theorem yes112 (x:TypeId) (v:Value):∀w:World,(Instr.typeAssert (.iface 172 v) x 172 true).run Tryz.prog w=.ok (.tuple #[v,.bool true]) w:=ta_yes Tryz.underlying172 rfl x v
theorem no112 {u:TypeId} (h:u≠172) (x:TypeId) (v:Value):∀w:World,(Instr.typeAssert (.iface u v) x 172 true).run Tryz.prog w=.ok (.tuple #[.agg #[.bool false,.slice none 0 0],.bool false]) w:=ta_no Tryz.underlying172 rfl Tryz.zeroValue172 h x v
theorem yes117 (x:TypeId) (v:Value):∀w:World,(Instr.typeAssert (.iface 190 v) x 190 true).run Tryz.prog w=.ok (.tuple #[v,.bool true]) w:=ta_yes Tryz.underlying190 rfl x v
end Go.Fw

namespace Go.Fw
open Go.Proofs Go.RowKit
@[simp] theorem eqNilI_nil (K:Bool->Prop):eqNilI .nilIface K=K true:=rfl
@[simp] theorem eqNilI_iface (u:TypeId) (v:Value) (K:Bool->Prop):eqNilI (.iface u v) K=K false:=rfl
theorem C41_nil (v:Int) (w:World):Calls Tryz.prog 41 #[.pointer none,.int .i64 v] w λ e w'=>e=.returned .nilIface/\w'=w:=
 ret_mono (V41_sound none v w (λ r w'=>r=.nilIface/\w'=w) (by unfold V41;exact bsel_pos rfl ⟨rfl,rfl⟩)) (by rintro _ _ ⟨rfl,rfl⟩;exact ⟨rfl,rfl⟩)
def GetsNil (p:Option Addr) (v:Int) (w:World):Prop:=∀w1,Keep No w w1->Calls Tryz.prog 41 #[.pointer p,.int .i64 v] w1 λ e w'=>e=.returned .nilIface/\Keep No w1 w'
theorem GetsNil.keep {p:Option Addr} {v:Int} {w w1:World} (h:GetsNil p v w) (hk:Keep No w w1):GetsNil p v w1:=λ w2 h2=>h w2 (hk.no h2)
theorem getsNil_nil (v:Int) (w:World):GetsNil none v w:=λ w1 _=>(C41_nil v w1).mono (by rintro _ _ ⟨rfl,rfl⟩;exact ⟨rfl,Keep.refl _ _⟩)
theorem C34_none {p:Option Addr} {v:Int} {w:World} (h:GetsNil p v w):Calls Tryz.prog 34 #[.pointer p,.int .i64 v] w λ e w'=>e=.returned (.string ⟨#[]⟩)/\Keep No w w':=by
 refine ret_mono (V34_sound p v w (λ r w'=>r=.string ⟨#[]⟩/\Keep No w w') ?_) (by rintro _ _ ⟨rfl,h⟩;exact ⟨rfl,h⟩)
 unfold V34
 refine (h w (Keep.refl _ _)).mono ?_
 rintro _ w1 ⟨rfl,hk⟩
 exact ⟨_,rfl,by simpa using hk⟩
theorem C146_neg {p:Option Addr} {v:Int} (hv:v<0) (w:World):Calls Tryz.prog 146 #[.pointer p,.int .i64 v] w λ e w'=>e=.returned (.bool false)/\w'=w:=by
 refine ret_mono (V146_sound p v w (λ r w'=>r=.bool false/\w'=w) ?_) (by rintro _ _ ⟨rfl,h⟩;exact ⟨rfl,h⟩)
 unfold V146
 have:decide (v>=0)=false:=by simp;omega
 cases p <;> simp [this]
theorem C92_neg {p:Option Addr} {v:Int} (hv:v<0) (w:World):Calls Tryz.prog 92 #[.pointer p,.int .i64 v] w λ e w'=>e=.returned (.tuple #[.nilIface,.bool false])/\Keep No w w':=by
 refine ret_mono (V92_sound p v w (λ r w'=>r=.tuple #[.nilIface,.bool false]/\Keep No w w') ?_) (by rintro _ _ ⟨rfl,h⟩;exact ⟨rfl,h⟩)
 unfold V92
 refine (C146_neg hv w).mono ?_
 rintro _ w1 ⟨rfl,rfl⟩
 refine ⟨_,rfl,bsel_pos rfl (newK_of λ b w2 _ hb hk=>⟨_,hb.cell rfl,rfl,hk⟩)⟩
theorem C41_neg {s:Nat} {v:Int} {all:Option Addr} (hv:v<0) {w:World} (hs:w.cell? ⟨s,6,none⟩=some (.pointer all)) :
  Calls Tryz.prog 41 #[.pointer (some ⟨s,0,none⟩),.int .i64 v] w λ e w'=>e=.returned .nilIface/\Keep No w w':=by
 refine ret_mono (V41_sound _ v w (λ r w'=>r=.nilIface/\Keep No w w') ?_) (by rintro _ _ ⟨rfl,h⟩;exact ⟨rfl,h⟩)
 unfold V41
 refine bsel_neg rfl ?_
 rw [nilK_some]
 refine ⟨all,by simpa using hs,(C92_neg hv w).mono ?_⟩
 rintro _ w1 ⟨rfl,hk⟩
 exact ⟨_,_,rfl,rfl,hk⟩
theorem getsNil_neg {s:Nat} {v:Int} {all:Option Addr} (hv:v<0) {w:World} (hs:w.cell? ⟨s,6,none⟩=some (.pointer all)):GetsNil (some ⟨s,0,none⟩) v w:=
 λ w1 hk=>C41_neg hv (hk.cell hs id)
end Go.Fw
