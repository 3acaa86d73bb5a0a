/- Part of a proof over the given program: texts of lemmas (conditions: none beyond each lemma as stated). -/
import Derived.Test.YtdmoefbfepeeaaaGreatDoorN8
set_option linter.unnecessarySimpa false
set_option linter.unusedVariables false
set_option linter.unusedSimpArgs false

set_option maxRecDepth 100000
namespace Go.Fw
open Go.Proofs
def V3J1 (Q:Value->World->Prop) (I83:Int->World->Prop) (μ84:Int->World->Nat) (i85:Int) (w86:World) (I116:Int->World->Prop) (μ117:Int->World->Nat) (i118:Int) (w119:World) (x121:Option Addr) (x122 x123:Nat) (x124 x125:Option Addr) (x126 x127:Nat) (x128 x129:Int) (x130 x131:Int) (x132:Bool) (x133:Int) (x134:Bool) (w135:World):Prop:=
bsel x134 (
idxK x125 x126 x131 1 λ a136=>
∃t137,w135.drew.cell? a136=some (.int .i64 t137)/\
idxK x125 x126 x133 1 λ a138=>
∃t139,w135.drew.cell? a138=some (.int .i64 t139)/\
Calls Tryz.prog 16 #[.pointer x124,.int .i64 t137,.int .i64 t139] w135.drew λ e140 w141=>∃t142,e140=.returned (.bool t142)/\
bsel t142 (
idxK x125 x126 x129 1 λ a143=>
∃t144,w141.cell? a143=some (.int .i64 t144)/\
idxK x125 x126 x133 1 λ a145=>
∃t146,w141.cell? a145=some (.int .i64 t146)/\
Calls Tryz.prog 16 #[.pointer x124,.int .i64 t144,.int .i64 t146] w141 λ e147 w148=>∃t149,e147=.returned (.bool t149)/\
bsel (!t149) (
Q (.bool false) w148) (
(I116 (IntKind.wrap .i64 (x133+1)) w148/\μ117 (IntKind.wrap .i64 (x133+1)) w148<μ117 i118 w119))) (
(I116 (IntKind.wrap .i64 (x133+1)) w141/\μ117 (IntKind.wrap .i64 (x133+1)) w141<μ117 i118 w119))) (
(I83 (IntKind.wrap .i64 (x131+1)) w135/\μ84 (IntKind.wrap .i64 (x131+1)) w135<μ84 i85 w86))
def V3J2 (Q:Value->World->Prop) (I83:Int->World->Prop) (μ84:Int->World->Nat) (i85:Int) (w86:World) (x102:Option Addr) (x103 x104:Nat) (x105 x106:Option Addr) (x107 x108:Nat) (x109 x110:Int) (x111 x112:Int) (x113 x114:Bool) (w115:World):Prop:=
bsel x114 (
Q (.bool false) w115) (
∃(I116:Int->World->Prop) (μ117:Int->World->Nat),I116 0 w115/\∀(j120:Fr) (i118:Int) (w119:World),I116 i118 w119->
bsel (decide (i118<(x107:Int))) (
V3J1 Q I83 μ84 i85 w86 I116 μ117 i118 w119 x102 x103 x104 x105 x106 x107 x108 x109 x110 x111 x112 x113 i118 x113 w119) (
V3J1 Q I83 μ84 i85 w86 I116 μ117 i118 w119 x102 x103 x104 x105 x106 x107 x108 x109 x110 x111 x112 x113 i118 false w119))
def V3J3 (Q:Value->World->Prop) (I50:Int->Int->World->Prop) (μ51:Int->Int->World->Nat) (i52 i53:Int) (w54:World) (x72:Option Addr) (x73 x74:Nat) (x75 x76:Option Addr) (x77 x78:Nat) (x79 x80 x81:Int) (w82:World):Prop:=
∃(I83:Int->World->Prop) (μ84:Int->World->Nat),I83 0 w82/\∀(j87:Fr) (i85:Int) (w86:World),I83 i85 w86->
bsel (decide (i85<(x77:Int))) (
idxK x76 x77 x80 1 λ a88=>
∃t89,w86.drew.cell? a88=some (.int .i64 t89)/\
idxK x76 x77 i85 1 λ a90=>
∃t91,w86.drew.cell? a90=some (.int .i64 t91)/\
Calls Tryz.prog 16 #[.pointer x75,.int .i64 t89,.int .i64 t91] w86.drew λ e92 w93=>∃t94,e92=.returned (.bool t94)/\
idxK x76 x77 x80 1 λ a95=>
∃t96,w93.drew.cell? a95=some (.int .i64 t96)/\
idxK x76 x77 i85 1 λ a97=>
∃t98,w93.drew.cell? a97=some (.int .i64 t98)/\
Calls Tryz.prog 17 #[.pointer x75,.int .i64 t96,.int .i64 t98] w93.drew λ e99 w100=>∃t101,e99=.returned (.bool t101)/\
bsel t101 (
bsel (!t94) (
V3J2 Q I83 μ84 i85 w86 x72 x73 x74 x75 x76 x77 x78 x79 x80 x81 i85 t94 true w100.drew) (
idxK x76 x77 i85 1 λ a165=>
∃t166,w100.drew.cell? a165=some (.int .i64 t166)/\
idxK x76 x77 x80 1 λ a167=>
∃t168,w100.drew.cell? a167=some (.int .i64 t168)/\
Calls Tryz.prog 16 #[.pointer x75,.int .i64 t166,.int .i64 t168] w100.drew λ e169 w170=>∃t171,e169=.returned (.bool t171)/\
bsel (!(t94 == t171)) (
V3J2 Q I83 μ84 i85 w86 x72 x73 x74 x75 x76 x77 x78 x79 x80 x81 i85 t94 true w170) (
idxK x76 x77 i85 1 λ a172=>
∃t173,w170.cell? a172=some (.int .i64 t173)/\
idxK x76 x77 x80 1 λ a174=>
∃t175,w170.cell? a174=some (.int .i64 t175)/\
Calls Tryz.prog 17 #[.pointer x75,.int .i64 t173,.int .i64 t175] w170 λ e176 w177=>∃t178,e176=.returned (.bool t178)/\
bsel (!(t101 == t178)) (
V3J2 Q I83 μ84 i85 w86 x72 x73 x74 x75 x76 x77 x78 x79 x80 x81 i85 t94 true w177) (
bsel (x80 == i85) (
bsel (!t101) (
V3J2 Q I83 μ84 i85 w86 x72 x73 x74 x75 x76 x77 x78 x79 x80 x81 i85 t94 true w177) (
bsel (decide (x81>0)) (
idxK x76 x77 x80 1 λ a179=>
∃t180,w177.cell? a179=some (.int .i64 t180)/\
idxK x76 x77 i85 1 λ a181=>
∃t182,w177.cell? a181=some (.int .i64 t182)/\
V3J2 Q I83 μ84 i85 w86 x72 x73 x74 x75 x76 x77 x78 x79 x80 x81 i85 t94 (!(t94 == (t180 == t182))) w177) (
idxK x76 x77 i85 1 λ a183=>
∃t184,w177.cell? a183=some (.int .i64 t184)/\
Calls Tryz.prog 15 #[.pointer x75,.int .i64 t184] w177 λ e185 w186=>∃t187,e185=.returned (.int .i64 t187)/\
bsel (decide (t187>0)) (
idxK x76 x77 x80 1 λ a188=>
∃t189,w186.cell? a188=some (.int .i64 t189)/\
idxK x76 x77 i85 1 λ a190=>
∃t191,w186.cell? a190=some (.int .i64 t191)/\
V3J2 Q I83 μ84 i85 w86 x72 x73 x74 x75 x76 x77 x78 x79 x80 x81 i85 t94 (!(t94 == (t189 == t191))) w186) (
V3J2 Q I83 μ84 i85 w86 x72 x73 x74 x75 x76 x77 x78 x79 x80 x81 i85 t94 false w186)))) (
bsel (decide (x81>0)) (
idxK x76 x77 x80 1 λ a192=>
∃t193,w177.cell? a192=some (.int .i64 t193)/\
idxK x76 x77 i85 1 λ a194=>
∃t195,w177.cell? a194=some (.int .i64 t195)/\
V3J2 Q I83 μ84 i85 w86 x72 x73 x74 x75 x76 x77 x78 x79 x80 x81 i85 t94 (!(t94 == (t193 == t195))) w177) (
idxK x76 x77 i85 1 λ a196=>
∃t197,w177.cell? a196=some (.int .i64 t197)/\
Calls Tryz.prog 15 #[.pointer x75,.int .i64 t197] w177 λ e198 w199=>∃t200,e198=.returned (.int .i64 t200)/\
bsel (decide (t200>0)) (
idxK x76 x77 x80 1 λ a201=>
∃t202,w199.cell? a201=some (.int .i64 t202)/\
idxK x76 x77 i85 1 λ a203=>
∃t204,w199.cell? a203=some (.int .i64 t204)/\
V3J2 Q I83 μ84 i85 w86 x72 x73 x74 x75 x76 x77 x78 x79 x80 x81 i85 t94 (!(t94 == (t202 == t204))) w199) (
V3J2 Q I83 μ84 i85 w86 x72 x73 x74 x75 x76 x77 x78 x79 x80 x81 i85 t94 false w199))))))) (
idxK x76 x77 i85 1 λ a205=>
∃t206,w100.drew.cell? a205=some (.int .i64 t206)/\
idxK x76 x77 x80 1 λ a207=>
∃t208,w100.drew.cell? a207=some (.int .i64 t208)/\
Calls Tryz.prog 16 #[.pointer x75,.int .i64 t206,.int .i64 t208] w100.drew λ e209 w210=>∃t211,e209=.returned (.bool t211)/\
bsel (!(t94 == t211)) (
V3J2 Q I83 μ84 i85 w86 x72 x73 x74 x75 x76 x77 x78 x79 x80 x81 i85 t94 true w210) (
idxK x76 x77 i85 1 λ a212=>
∃t213,w210.cell? a212=some (.int .i64 t213)/\
idxK x76 x77 x80 1 λ a214=>
∃t215,w210.cell? a214=some (.int .i64 t215)/\
Calls Tryz.prog 17 #[.pointer x75,.int .i64 t213,.int .i64 t215] w210 λ e216 w217=>∃t218,e216=.returned (.bool t218)/\
bsel (!(t101 == t218)) (
V3J2 Q I83 μ84 i85 w86 x72 x73 x74 x75 x76 x77 x78 x79 x80 x81 i85 t94 true w217) (
bsel (x80 == i85) (
bsel (!t101) (
V3J2 Q I83 μ84 i85 w86 x72 x73 x74 x75 x76 x77 x78 x79 x80 x81 i85 t94 true w217) (
bsel (decide (x81>0)) (
idxK x76 x77 x80 1 λ a219=>
∃t220,w217.cell? a219=some (.int .i64 t220)/\
idxK x76 x77 i85 1 λ a221=>
∃t222,w217.cell? a221=some (.int .i64 t222)/\
V3J2 Q I83 μ84 i85 w86 x72 x73 x74 x75 x76 x77 x78 x79 x80 x81 i85 t94 (!(t94 == (t220 == t222))) w217) (
idxK x76 x77 i85 1 λ a223=>
∃t224,w217.cell? a223=some (.int .i64 t224)/\
Calls Tryz.prog 15 #[.pointer x75,.int .i64 t224] w217 λ e225 w226=>∃t227,e225=.returned (.int .i64 t227)/\
bsel (decide (t227>0)) (
idxK x76 x77 x80 1 λ a228=>
∃t229,w226.cell? a228=some (.int .i64 t229)/\
idxK x76 x77 i85 1 λ a230=>
∃t231,w226.cell? a230=some (.int .i64 t231)/\
V3J2 Q I83 μ84 i85 w86 x72 x73 x74 x75 x76 x77 x78 x79 x80 x81 i85 t94 (!(t94 == (t229 == t231))) w226) (
V3J2 Q I83 μ84 i85 w86 x72 x73 x74 x75 x76 x77 x78 x79 x80 x81 i85 t94 false w226)))) (
bsel (decide (x81>0)) (
idxK x76 x77 x80 1 λ a232=>
∃t233,w217.cell? a232=some (.int .i64 t233)/\
idxK x76 x77 i85 1 λ a234=>
∃t235,w217.cell? a234=some (.int .i64 t235)/\
V3J2 Q I83 μ84 i85 w86 x72 x73 x74 x75 x76 x77 x78 x79 x80 x81 i85 t94 (!(t94 == (t233 == t235))) w217) (
idxK x76 x77 i85 1 λ a236=>
∃t237,w217.cell? a236=some (.int .i64 t237)/\
Calls Tryz.prog 15 #[.pointer x75,.int .i64 t237] w217 λ e238 w239=>∃t240,e238=.returned (.int .i64 t240)/\
bsel (decide (t240>0)) (
idxK x76 x77 x80 1 λ a241=>
∃t242,w239.cell? a241=some (.int .i64 t242)/\
idxK x76 x77 i85 1 λ a243=>
∃t244,w239.cell? a243=some (.int .i64 t244)/\
V3J2 Q I83 μ84 i85 w86 x72 x73 x74 x75 x76 x77 x78 x79 x80 x81 i85 t94 (!(t94 == (t242 == t244))) w239) (
V3J2 Q I83 μ84 i85 w86 x72 x73 x74 x75 x76 x77 x78 x79 x80 x81 i85 t94 false w239))))))) (
(I50 x79 (IntKind.wrap .i64 (x80+1)) w86/\μ51 x79 (IntKind.wrap .i64 (x80+1)) w86<μ51 i52 i53 w54))
def V3J4 (Q:Value->World->Prop) (I50:Int->Int->World->Prop) (μ51:Int->Int->World->Nat) (i52 i53:Int) (w54:World) (x61:Option Addr) (x62 x63:Nat) (x64 x65:Option Addr) (x66 x67:Nat) (x68 x69:Int) (x70:Bool) (w71:World):Prop:=
bsel x70 (
Q (.bool false) w71) (
V3J3 Q I50 μ51 i52 i53 w54 x61 x62 x63 x64 x65 x66 x67 x69 x68 x69 w71)
def V3J5 (Q:Value->World->Prop) (x30:Option Addr) (x31 x32:Nat) (x33:Option Addr) (x34:Bool) (w35:World):Prop:=
bsel x34 (
Q (.bool false) w35) (
Calls Tryz.prog 13 #[.pointer x33,.slice x30 x31 x32] w35 λ e36 w37=>∃t38 t39 t40 t41,e36=.returned (.tuple #[.slice t38 t39 t40,.int .i64 t41])/\
bsel (t41 != 0) (
bsel ((t39:Int) == 0) (
Calls Tryz.prog 14 #[.pointer x33] w37 λ e42 w43=>∃t44,e42=.returned (.int .i64 t44)/\
bsel (t44 == 0) (
Calls Tryz.prog 10 #[] w43 λ e45 w46=>∃t47,e45=.returned (.bool t47)/\
Q (.bool t47) w46) (
Q (.bool false) w43)) (
Q (.bool false) w37)) (
∃(I50:Int->Int->World->Prop) (μ51:Int->Int->World->Nat),I50 0 0 w37/\∀(j55:Fr) (i52:Int) (i53:Int) (w54:World),I50 i52 i53 w54->
bsel (decide (i53<(t39:Int))) (
idxK t38 t39 i53 1 λ a56=>
∃t57,w54.cell? a56=some (.int .i64 t57)/\
Calls Tryz.prog 15 #[.pointer x33,.int .i64 t57] w54 λ e58 w59=>∃t60,e58=.returned (.int .i64 t60)/\
bsel (decide (t60>0)) (
bsel (decide (t60<=i52)) (
V3J4 Q I50 μ51 i52 i53 w54 x30 x31 x32 x33 t38 t39 t40 i53 t60 true w59) (
bsel (decide (t60>IntKind.wrap .i64 (i52+2))) (
V3J4 Q I50 μ51 i52 i53 w54 x30 x31 x32 x33 t38 t39 t40 i53 t60 true w59) (
bsel (t60 == IntKind.wrap .i64 (i52+2)) (
idxK x30 x31 i53 8 λ a245=>
∃t246,w59.cell? (a245.add 0)=some (.int .i64 t246)/\
V3J4 Q I50 μ51 i52 i53 w54 x30 x31 x32 x33 t38 t39 t40 i53 t60 (t246 != 14) w59) (
V3J4 Q I50 μ51 i52 i53 w54 x30 x31 x32 x33 t38 t39 t40 i53 t60 false w59)))) (
V3J3 Q I50 μ51 i52 i53 w54 x30 x31 x32 x33 t38 t39 t40 i52 i53 t60 w59)) (
Calls Tryz.prog 14 #[.pointer x33] w54 λ e247 w248=>∃t249,e247=.returned (.int .i64 t249)/\
bsel (t249 == i52) (
Calls Tryz.prog 10 #[] w248 λ e250 w251=>∃t252,e250=.returned (.bool t252)/\
Q (.bool t252) w251) (
Q (.bool false) w248))))
def V3J6 (Q:Value->World->Prop) (x7:Option Addr) (x8 x9:Nat) (x10:Bool) (w11:World):Prop:=
bsel x10 (
Calls Tryz.prog 10 #[] w11 λ e12 w13=>∃t14,e12=.returned (.bool t14)/\
Q (.bool t14) w13) (
Calls Tryz.prog 12 #[.int .i64 1000,.int .i64 5] w11 λ e15 w16=>∃t17 t18 t19 t20 t21 t22 t23 t24 t25,e15=.returned (.agg #[.int .i64 t17,.int .i64 t18,.int .i64 t19,.slice t20 t21 t22,.slice t23 t24 t25])/\
Calls Tryz.prog 11 #[.agg #[.int .i64 t17,.int .i64 t18,.int .i64 t19,.slice t20 t21 t22,.slice t23 t24 t25],.pointer none] w16 λ e26 w27=>∃t28 t29,e26=.returned (.tuple #[.pointer t28,.int .i64 t29])/\
bsel (t29 != 0) (
V3J5 Q x7 x8 x9 t28 true w27) (
V3J5 Q x7 x8 x9 t28 (Option.isNone t28) w27))
def V3 (x1:Option Addr) (x2 x3:Nat) (w:World) (Q:Value->World->Prop):Prop:=
Calls Tryz.prog 9 #[.slice x1 x2 x3] w λ e4 w5=>∃t6,e4=.returned (.bool t6)/\
bsel t6 (
V3J6 Q x1 x2 x3 true w5) (
V3J6 Q x1 x2 x3 (decide ((x2:Int)>40)) w5)
def V3_ann:Nat->Ann:=λ k=>match k with | 0=>⟨[0,3,5],[(6,.int .i64),(7,.int .i64)]⟩ | 1=>⟨[0,3,5,6,7,8],[(9,.int .i64)]⟩ | 2=>⟨[0,3,5,6,7,8,9,10],[(12,.int .i64)]⟩ | _=>⟨[],[]⟩
def V84 (x1:Option Addr) (x2:Bool) (x3:Option Addr) (x4 x5:Nat) (w:World) (Q:Value->World->Prop):Prop:=
newK w #[.bool x2,.slice x3 x4 x5] 40 λ a6 w7=>
Calls Tryz.prog 138 #[.pointer x1] w7 λ e8 w9=>∃t10,e8=.returned (t10)/\
nilK x1 λ a11=>
∃t12,w9.drew.cell? (a11.add 6)=some (.pointer t12)/\
∃t13 t14 t15 t16,CellsAt w9.drew a6 [.bool t13,.slice t14 t15 t16]/\
Calls Tryz.prog 38 #[.pointer t12,.iface 172 (.agg #[.bool t13,.slice t14 t15 t16])] w9.drew λ e17 w18=>∃t19,e17=.returned (.int .i64 t19)/\
Q (.int .i64 t19) w18
def V84_ann:Nat->Ann:=λ _=>⟨[],[]⟩
theorem V84_sound (x1 x2 x3 x4 x5 w Q) (h:V84 x1 x2 x3 x4 x5 w Q):Calls Tryz.prog 84 #[.pointer x1,.agg #[.bool x2,.slice x3 x4 x5]] w λ e w'=>∃v,e=.returned v/\Q v w':=
 sound_of Tryz.func84 V84_ann rfl (Eq.mpr (by kernel_rfl) h)
def V85 (x1:Bool) (x2:Option Addr) (x3 x4:Nat) (w:World) (Q:Value->World->Prop):Prop:=
newK w #[.bool x1,.slice x2 x3 x4] 40 λ a5 w6=>
newK w6 #[.bool false,.slice none 0 0] 40 λ a7 w8=>
∃t9 t10 t11 t12,CellsAt w8 a5 [.bool t9,.slice t10 t11 t12]/\
Calls Tryz.prog 139 #[.agg #[.bool t9,.slice t10 t11 t12]] w8 λ e13 w14=>∃t15 t16 t17 t18,e13=.returned (.agg #[.bool t15,.slice t16 t17 t18])/\
Calls Tryz.prog 139 #[.agg #[.bool t15,.slice t16 t17 t18]] w14 λ e19 w20=>∃t21 t22 t23 t24,e19=.returned (.agg #[.bool t21,.slice t22 t23 t24])/\
stK w20 (a7.add 0) (.bool t21) λ w25=>
stK w25 (a7.add 1) (.slice t22 t23 t24) λ w26=>
∃t27 t28 t29 t30,CellsAt w26 a7 [.bool t27,.slice t28 t29 t30]/\
Q (.agg #[.bool t27,.slice t28 t29 t30]) w26
def V85_ann:Nat->Ann:=λ _=>⟨[],[]⟩
theorem V85_sound (x1 x2 x3 x4 w Q) (h:V85 x1 x2 x3 x4 w Q):Calls Tryz.prog 85 #[.agg #[.bool x1,.slice x2 x3 x4]] w λ e w'=>∃v,e=.returned v/\Q v w':=
 sound_of Tryz.func85 V85_ann rfl (Eq.mpr (by kernel_rfl) h)
def V88J1 (I46:Int->World->Prop) (μ47:Int->World->Nat) (i48:Int) (w49:World) (x65:Option Addr) (x66:Addr) (x67:Int) (x68:Option Addr) (x69 x70:Int) (x71:Option Addr) (x72 x73:Nat) (x74 x75:Int) (w76:World):Prop:=
Calls Tryz.prog 142 #[.pointer x65,.pointer x68,.int .i64 x69,.int .i64 x70] w76 λ e77 w78=>∃t79,e77=.returned (t79)/\
(I46 (IntKind.wrap .i64 (x75+1)) w78/\μ47 (IntKind.wrap .i64 (x75+1)) w78<μ47 i48 w49)
def V88 (x1:Option Addr) (x2:Int) (x3 x4:Bool) (x5:Option Addr) (x6 x7:Nat) (x8:ByteArray) (x9:Option Addr) (x10 x11:Nat) (x12 x13:Bool) (w:World) (Q:Value->World->Prop):Prop:=
newK w #[.int .i64 x2,.bool x3,.bool x4,.slice x5 x6 x7,.string x8,.slice x9 x10 x11,.bool x12,.bool x13] 42 λ a14 w15=>
nilK x1 λ a16=>
∃t17,w15.drew.cell? (a16.add 0)=some (.pointer t17)/\
∃t18,w15.drew.cell? (a14.add 0)=some (.int .i64 t18)/\
Calls Tryz.prog 141 #[.pointer t17,.int .i64 t18] w15.drew λ e19 w20=>∃t21,e19=.returned (.int .i64 t21)/\
nilK x1 λ a22=>
∃t23,w20.cell? (a22.add 0)=some (.pointer t23)/\
Calls Tryz.prog 41 #[.pointer t23,.int .i64 t21] w20 λ e24 w25=>∃t26,e24=.returned (t26)/\
∃t27 t28,(∀w:World,(Instr.typeAssert t26 77 111 true).run Tryz.prog w=.ok (.tuple #[.pointer t27,.bool t28]) w)/\
bsel (!t28) (
Q (.int .i64 t21) w25) (
∃t29 t30 t31 t32 t33 t34 t35 t36 t37 t38 t39 t40,CellsAt w25 a14 [.int .i64 t29,.bool t30,.bool t31,.slice t32 t33 t34,.string t35,.slice t36 t37 t38,.bool t39,.bool t40]/\
Calls Tryz.prog 134 #[.agg #[.int .i64 t29,.bool t30,.bool t31,.slice t32 t33 t34,.string t35,.slice t36 t37 t38,.bool t39,.bool t40]] w25 λ e41 w42=>∃t43 t44 t45,e41=.returned (.slice t43 t44 t45)/\
∃(I46:Int->World->Prop) (μ47:Int->World->Nat),I46 0 w42/\∀(j50:Fr) (i48:Int) (w49:World),I46 i48 w49->
bsel (decide (i48<(t44:Int))) (
idxK t43 t44 i48 1 λ a51=>
∃t52,w49.cell? a51=some (.int .i64 t52)/\
∃t53,w49.cell? (a14.add 0)=some (.int .i64 t53)/\
bsel (t53 == 7) (
nilK x1 λ a54=>
∃t55 t56 t57,w49.drew.cell? (a54.add 2)=some (.slice t55 t56 t57)/\
∃t58 t59 t60,w49.drew.cell? (a14.add 5)=some (.slice t58 t59 t60)/\
idxK t58 t59 (IntKind.wrap .i64 (IntKind.wrap .i64 (2*i48)+1)) 1 λ a61=>
∃t62,w49.drew.cell? a61=some (.int .i64 t62)/\
idxK t55 t56 t62 1 λ a63=>
∃t64,w49.drew.cell? a63=some (.int .i64 t64)/\
V88J1 I46 μ47 i48 w49 x1 a14 t21 t27 t52 t64 t43 t44 t45 (t44:Int) i48 w49.drew) (
V88J1 I46 μ47 i48 w49 x1 a14 t21 t27 t52 0 t43 t44 t45 (t44:Int) i48 w49)) (
Q (.int .i64 t21) w49))
def V88_ann:Nat->Ann:=λ k=>match k with | 0=>⟨[0,3,5,6,32,33],[(34,.int .i64)]⟩ | _=>⟨[],[]⟩
theorem V88_sound (x1 x2 x3 x4 x5 x6 x7 x8 x9 x10 x11 x12 x13 w Q) (h:V88 x1 x2 x3 x4 x5 x6 x7 x8 x9 x10 x11 x12 x13 w Q):Calls Tryz.prog 88 #[.pointer x1,.agg #[.int .i64 x2,.bool x3,.bool x4,.slice x5 x6 x7,.string x8,.slice x9 x10 x11,.bool x12,.bool x13]] w λ e w'=>∃v,e=.returned v/\Q v w':=
 sound_of Tryz.func88 V88_ann rfl (Eq.mpr (by kernel_rfl) h)
def V89 (x1:Option Addr) (x2:ByteArray) (x3:Int) (w:World) (Q:Value->World->Prop):Prop:=
nilK x1 λ a4=>
∃t5,w.drew.cell? ((a4.add 0).add 1)=some (.int .i64 t5)/\
nilK x1 λ a6=>
∃t7,w.drew.cell? (a6.add 5)=some (.pointer t7)/\
Calls Tryz.prog 143 #[.int .i64 t5,.pointer t7] w.drew λ e8 w9=>∃t10 t11,e8=.returned (.tuple #[.pointer t10,.int .i64 t11])/\
nilK x1 λ a12=>
∃t13,w9.drew.cell? ((a12.add 0).add 2)=some (.int .i64 t13)/\
nilK x1 λ a14=>
∃t15,w9.drew.cell? ((a14.add 0).add 1)=some (.int .i64 t15)/\
nilK x1 λ a16=>
∃t17,w9.drew.cell? (a16.add 5)=some (.pointer t17)/\
Calls Tryz.prog 144 #[.int .i64 t13,.int .i64 t15,.pointer t17] w9.drew λ e18 w19=>∃t20 t21,e18=.returned (.tuple #[.pointer t20,.int .i64 t21])/\
nilK x1 λ a22=>
∃t23,w19.drew.cell? (a22.add 6)=some (.pointer t23)/\
Calls Tryz.prog 140 #[.pointer x1] w19.drew λ e24 w25=>∃t26,e24=.returned (.agg #[.int .i64 t26])/\
(w25.cell? (a22.add 6)=some (.pointer t23))/\
newK w25 #[.int .i64 t26,.pointer t10,.string x2,.int .i64 x3,.pointer t20,.bool false,.bool false] 194 λ a27 w28=>
(w28.cell? (a22.add 6)=some (.pointer t23))/\
Calls Tryz.prog 38 #[.pointer t23,.iface 190 (.pointer (some a27))] w28 λ e29 w30=>∃t31,e29=.returned (.int .i64 t31)/\
Q (.int .i64 t31) w30
def V89_ann:Nat->Ann:=λ _=>⟨[],[]⟩
theorem V89_sound (x1 x2 x3 w Q) (h:V89 x1 x2 x3 w Q):Calls Tryz.prog 89 #[.pointer x1,.string x2,.int .i64 x3] w λ e w'=>∃v,e=.returned v/\Q v w':=
 sound_of Tryz.func89 V89_ann rfl (Eq.mpr (by kernel_rfl) h)
def V90J1 (Q:Value->World->Prop) (x19:Option Addr) (x20:Addr) (w21:World):Prop:=
nilK x19 λ a22=>
∃t23,w21.cell? (a22.add 6)=some (.pointer t23)/\
Calls Tryz.prog 38 #[.pointer t23,.iface 163 (.pointer (some x20))] w21 λ e24 w25=>∃t26,e24=.returned (.int .i64 t26)/\
Q (.int .i64 t26) w25
def V90 (x1:Option Addr) (x2:Int) (w:World) (Q:Value->World->Prop):Prop:=
Calls Tryz.prog 140 #[.pointer x1] w λ e3 w4=>∃t5,e3=.returned (.agg #[.int .i64 t5])/\
newK w4 #[.int .i64 t5,.pointer none,.int .i64 x2] 169 λ a6 w7=>
Calls Tryz.prog 41 #[.pointer x1,.int .i64 x2] w7 λ e8 w9=>∃t10,e8=.returned (t10)/\
∃t11 t12,(∀w:World,(Instr.typeAssert t10 77 190 true).run Tryz.prog w=.ok (.tuple #[.pointer t11,.bool t12]) w)/\
bsel t12 (
nilK t11 λ a13=>
∃t14,w9.cell? (a13.add 4)=some (.pointer t14)/\
Calls Tryz.prog 145 #[.pointer t14] w9 λ e15 w16=>∃t17,e15=.returned (.pointer t17)/\
stK w16 (a6.add 1) (.pointer t17) λ w18=>
V90J1 Q x1 a6 w18) (
V90J1 Q x1 a6 w9)
def V90_ann:Nat->Ann:=λ _=>⟨[],[]⟩
theorem V90_sound (x1 x2 w Q) (h:V90 x1 x2 w Q):Calls Tryz.prog 90 #[.pointer x1,.int .i64 x2] w λ e w'=>∃v,e=.returned v/\Q v w':=
 sound_of Tryz.func90 V90_ann rfl (Eq.mpr (by kernel_rfl) h)
def V91 (x1:Option Addr) (x2 x3:Int) (w:World) (Q:Value->World->Prop):Prop:=
nilK x1 λ a4=>
∃t5,w.drew.cell? (a4.add 6)=some (.pointer t5)/\
Calls Tryz.prog 140 #[.pointer x1] w.drew λ e6 w7=>∃t8,e6=.returned (.agg #[.int .i64 t8])/\
(w7.cell? (a4.add 6)=some (.pointer t5))/\
newK w7 #[.int .i64 t8,.int .i64 x3,.int .i64 x2] 166 λ a9 w10=>
(w10.cell? (a4.add 6)=some (.pointer t5))/\
Calls Tryz.prog 38 #[.pointer t5,.iface 162 (.pointer (some a9))] w10 λ e11 w12=>∃t13,e11=.returned (.int .i64 t13)/\
Q (.int .i64 t13) w12
def V91_ann:Nat->Ann:=λ _=>⟨[],[]⟩
theorem V91_sound (x1 x2 x3 w Q) (h:V91 x1 x2 x3 w Q):Calls Tryz.prog 91 #[.pointer x1,.int .i64 x2,.int .i64 x3] w λ e w'=>∃v,e=.returned v/\Q v w':=
 sound_of Tryz.func91 V91_ann rfl (Eq.mpr (by kernel_rfl) h)
def V93J1 (Q:Value->World->Prop) (x4:Int) (x5:Addr) (x6:Int) (w7:World):Prop:=
((0:Int)<=32)/\
newK w7 #[.int .u32 (IntKind.wrap .u32 x6),.int .u32 (IntKind.wrap .u32 (shr .u64 x6 32))] 45 λ a8 w9=>
Calls Tryz.prog 147 #[.bool (decide (x4<0)),.slice (some a8) 2 2] w9 λ e10 w11=>∃t12 t13 t14 t15,e10=.returned (.agg #[.bool t12,.slice t13 t14 t15])/\
stK w11 (x5.add 0) (.bool t12) λ w16=>
stK w16 (x5.add 1) (.slice t13 t14 t15) λ w17=>
∃t18 t19 t20 t21,CellsAt w17 x5 [.bool t18,.slice t19 t20 t21]/\
Q (.agg #[.bool t18,.slice t19 t20 t21]) w17
def V93 (x1:Int) (w:World) (Q:Value->World->Prop):Prop:=
newK w #[.bool false,.slice none 0 0] 40 λ a2 w3=>
bsel (decide (x1<0)) (
V93J1 Q x1 a2 (IntKind.wrap .u64 (0-IntKind.wrap .u64 x1)) w3) (
V93J1 Q x1 a2 (IntKind.wrap .u64 x1) w3)
def V93_ann:Nat->Ann:=λ _=>⟨[],[]⟩
theorem V93_sound (x1 w Q) (h:V93 x1 w Q):Calls Tryz.prog 93 #[.int .i64 x1] w λ e w'=>∃v,e=.returned v/\Q v w':=
 sound_of Tryz.func93 V93_ann rfl (Eq.mpr (by kernel_rfl) h)
def V94 (x1:Bool) (x2:Option Addr) (x3 x4:Nat) (w:World) (Q:Value->World->Prop):Prop:=
newK w #[.bool x1,.slice x2 x3 x4] 40 λ a5 w6=>
∃t7 t8 t9,w6.cell? (a5.add 1)=some (.slice t7 t8 t9)/\
Calls Tryz.prog 124 #[.slice t7 t8 t9] w6 λ e10 w11=>∃t12 t13 t14,e10=.returned (.slice t12 t13 t14)/\
bsel ((t13:Int) == 0) (
Q (.int .i64 0) w11) (
∃t15,w11.cell? (a5.add 0)=some (.bool t15)/\
bsel t15 (
Q (.int .i64 (-1)) w11) (
Q (.int .i64 1) w11))
def V94_ann:Nat->Ann:=λ _=>⟨[],[]⟩
theorem V94_sound (x1 x2 x3 x4 w Q) (h:V94 x1 x2 x3 x4 w Q):Calls Tryz.prog 94 #[.agg #[.bool x1,.slice x2 x3 x4]] w λ e w'=>∃v,e=.returned v/\Q v w':=
 sound_of Tryz.func94 V94_ann rfl (Eq.mpr (by kernel_rfl) h)
def V95 (x1:Option Addr) (x2 x3:Nat) (x4:Option Addr) (x5 x6:Nat) (w:World) (Q:Value->World->Prop):Prop:=
Calls Tryz.prog 124 #[.slice x1 x2 x3] w λ e7 w8=>∃t9 t10 t11,e7=.returned (.slice t9 t10 t11)/\
Calls Tryz.prog 124 #[.slice x4 x5 x6] w8 λ e12 w13=>∃t14 t15 t16,e12=.returned (.slice t14 t15 t16)/\
bsel ((t10:Int) != (t15:Int)) (
bsel (decide ((t10:Int)<(t15:Int))) (
Q (.int .i64 (-1)) w13) (
Q (.int .i64 1) w13)) (
∃(I17:Int->World->Prop) (μ18:Int->World->Nat),I17 (IntKind.wrap .i64 ((t10:Int)-1)) w13/\∀(j21:Fr) (i19:Int) (w20:World),I17 i19 w20->
bsel (decide (i19>=0)) (
idxK t9 t10 i19 1 λ a22=>
∃t23,w20.drew.cell? a22=some (.int .u32 t23)/\
idxK t14 t15 i19 1 λ a24=>
∃t25,w20.drew.cell? a24=some (.int .u32 t25)/\
bsel (decide (t23<t25)) (
Q (.int .i64 (-1)) w20.drew) (
idxK t9 t10 i19 1 λ a26=>
∃t27,w20.drew.drew.cell? a26=some (.int .u32 t27)/\
idxK t14 t15 i19 1 λ a28=>
∃t29,w20.drew.drew.cell? a28=some (.int .u32 t29)/\
bsel (decide (t27>t29)) (
Q (.int .i64 1) w20.drew.drew) (
(I17 (IntKind.wrap .i64 (i19-1)) w20.drew.drew/\μ18 (IntKind.wrap .i64 (i19-1)) w20.drew.drew<μ18 i19 w20)))) (
Q (.int .i64 0) w20))
def V95_ann:Nat->Ann:=λ k=>match k with | 0=>⟨[0,1],[(5,.int .i64)]⟩ | _=>⟨[],[]⟩
theorem V95_sound (x1 x2 x3 x4 x5 x6 w Q) (h:V95 x1 x2 x3 x4 x5 x6 w Q):Calls Tryz.prog 95 #[.slice x1 x2 x3,.slice x4 x5 x6] w λ e w'=>∃v,e=.returned v/\Q v w':=
 sound_of Tryz.func95 V95_ann rfl (Eq.mpr (by kernel_rfl) h)
def V123 (x1:Option Addr) (x2 x3:Nat) (w:World) (Q:Value->World->Prop):Prop:=
bsel (Option.isNone x1) (
Q (.slice none 0 0) w) (
newK w #[] 45 λ a4 w5=>
∃w6:World,∃t7 t8 t9,(vcEff.bltV .append #[38,38] 38 #[.slice (some a4) 0 0,.slice x1 x2 x3]).run Tryz.prog w5=.ok (.slice t7 t8 t9) w6/\
Q (.slice t7 t8 t9) w6)
def V123_ann:Nat->Ann:=λ _=>⟨[],[]⟩
theorem V123_sound (x1 x2 x3 w Q) (h:V123 x1 x2 x3 w Q):Calls Tryz.prog 123 #[.slice x1 x2 x3] w λ e w'=>∃v,e=.returned v/\Q v w':=
 sound_of Tryz.func123 V123_ann rfl (Eq.mpr (by kernel_rfl) h)
def V124J1 (Q:Value->World->Prop) (I4:Option Addr->Nat->Nat->World->Prop) (μ5:Option Addr->Nat->Nat->World->Nat) (i6:Option Addr) (i7 i8:Nat) (w9:World) (x13:Option Addr) (x14 x15:Nat) (x16:Bool) (w17:World):Prop:=
bsel x16 (
slcK x13 x15 0 (IntKind.wrap .i64 ((x14:Int)-1)) 1 λ t18 t19 t20=>
(I4 t18 t19 t20 w17/\μ5 t18 t19 t20 w17<μ5 i6 i7 i8 w9)) (
Q (.slice x13 x14 x15) w17)
def V124 (x1:Option Addr) (x2 x3:Nat) (w:World) (Q:Value->World->Prop):Prop:=
∃(I4:Option Addr->Nat->Nat->World->Prop) (μ5:Option Addr->Nat->Nat->World->Nat),I4 x1 x2 x3 w/\∀(j10:Fr) (i6:Option Addr) (i7:Nat) (i8:Nat) (w9:World),I4 i6 i7 i8 w9->
bsel (decide ((i7:Int)>0)) (
idxK i6 i7 (IntKind.wrap .i64 ((i7:Int)-1)) 1 λ a11=>
∃t12,w9.cell? a11=some (.int .u32 t12)/\
V124J1 Q I4 μ5 i6 i7 i8 w9 i6 i7 i8 (t12 == 0) w9) (
V124J1 Q I4 μ5 i6 i7 i8 w9 i6 i7 i8 false w9)
def V124_ann:Nat->Ann:=λ k=>match k with | 0=>⟨[],[(0,.slice)]⟩ | _=>⟨[],[]⟩
theorem V124_sound (x1 x2 x3 w Q) (h:V124 x1 x2 x3 w Q):Calls Tryz.prog 124 #[.slice x1 x2 x3] w λ e w'=>∃v,e=.returned v/\Q v w':=
 sound_of Tryz.func124 V124_ann rfl (Eq.mpr (by kernel_rfl) h)
def V125J1 (Q:Value->World->Prop) (x10 x11 x12:Int) (w13:World):Prop:=
((0:Int)<=32)/\
((IntKind.wrap .u64 x12:Int)≠0)/\
((IntKind.wrap .u64 x12:Int)≠0)/\
Q (.tuple #[.int .u32 (IntKind.wrap .u32 (IntKind.wrap .u64 (Int.tdiv (bOr .u64 (shl .u64 (IntKind.wrap .u64 x10) 32) (IntKind.wrap .u64 x11)) (IntKind.wrap .u64 x12)))),.int .u32 (IntKind.wrap .u32 (Int.tmod (bOr .u64 (shl .u64 (IntKind.wrap .u64 x10) 32) (IntKind.wrap .u64 x11)) (IntKind.wrap .u64 x12)))]) w13.drew
def V125J2 (Q:Value->World->Prop) (x4 x5 x6:Int) (x7:Bool) (w8:World):Prop:=
bsel x7 (
∃t9,w8.cell? ⟨0,0,none⟩=some (t9)/\
False) (
V125J1 Q x4 x5 x6 w8)
def V125 (x1 x2 x3:Int) (w:World) (Q:Value->World->Prop):Prop:=
bsel (x3 != 0) (
V125J2 Q x1 x2 x3 (decide (x3<=x1)) w) (
V125J2 Q x1 x2 x3 false w)
def V125_ann:Nat->Ann:=λ _=>⟨[],[]⟩
theorem V125_sound (x1 x2 x3 w Q) (h:V125 x1 x2 x3 w Q):Calls Tryz.prog 125 #[.int .u32 x1,.int .u32 x2,.int .u32 x3] w λ e w'=>∃v,e=.returned v/\Q v w':=
 sound_of Tryz.func125 V125_ann rfl (Eq.mpr (by kernel_rfl) h)
def V126 (x1:Option Addr) (x2 x3:Nat) (w:World) (Q:Value->World->Prop):Prop:=
newK w #[.slice x1 x2 x3] 38 λ a4 w5=>
Q (.func (.func 202) #[] #[.pointer (some a4)]) w5
def V126_ann:Nat->Ann:=λ _=>⟨[],[]⟩
theorem V126_sound (x1 x2 x3 w Q) (h:V126 x1 x2 x3 w Q):Calls Tryz.prog 126 #[.slice x1 x2 x3] w λ e w'=>∃v,e=.returned v/\Q v w':=
 sound_of Tryz.func126 V126_ann rfl (Eq.mpr (by kernel_rfl) h)
def V127 (x1:Int) (w:World) (Q:Value->World->Prop):Prop:=
newK w #[.int .u8 0,.int .u8 0,.int .u8 0,.int .u8 0,.int .u8 0,.int .u8 0,.int .u8 0,.int .u8 0,.int .u8 0] 246 λ a2 w3=>
newK w3 #[.int .u8 0,.int .u8 0,.int .u8 0,.int .u8 0,.int .u8 0,.int .u8 0,.int .u8 0,.int .u8 0,.int .u8 0] 246 λ a4 w5=>
∃(I6:Int->Int->World->Prop) (μ7:Int->Int->World->Nat),I6 x1 0 w5/\∀(j11:Fr) (i8:Int) (i9:Int) (w10:World),I6 i8 i9 w10->
bsel (decide (i9<9)) (
((10:Int)≠0)/\
aidxK a4 9 (IntKind.wrap .i64 (8-i9)) 1 λ a12=>
stK w10 a12 (.int .u8 (IntKind.wrap .u8 (IntKind.wrap .u32 (48+Int.tmod i8 10)))) λ w13=>
((10:Int)≠0)/\
(I6 (IntKind.wrap .u32 (Int.tdiv i8 10)) (IntKind.wrap .i64 (i9+1)) w13/\μ7 (IntKind.wrap .u32 (Int.tdiv i8 10)) (IntKind.wrap .i64 (i9+1)) w13<μ7 i8 i9 w10)) (
∃t14 t15 t16 t17 t18 t19 t20 t21 t22,CellsAt w10 a4 [.int .u8 t14,.int .u8 t15,.int .u8 t16,.int .u8 t17,.int .u8 t18,.int .u8 t19,.int .u8 t20,.int .u8 t21,.int .u8 t22]/\
stK w10 (a2.add 0) (.int .u8 t14) λ w23=>
stK w23 (a2.add 1) (.int .u8 t15) λ w24=>
stK w24 (a2.add 2) (.int .u8 t16) λ w25=>
stK w25 (a2.add 3) (.int .u8 t17) λ w26=>
stK w26 (a2.add 4) (.int .u8 t18) λ w27=>
stK w27 (a2.add 5) (.int .u8 t19) λ w28=>
stK w28 (a2.add 6) (.int .u8 t20) λ w29=>
stK w29 (a2.add 7) (.int .u8 t21) λ w30=>
stK w30 (a2.add 8) (.int .u8 t22) λ w31=>
∃t32 t33 t34 t35 t36 t37 t38 t39 t40,CellsAt w31 a2 [.int .u8 t32,.int .u8 t33,.int .u8 t34,.int .u8 t35,.int .u8 t36,.int .u8 t37,.int .u8 t38,.int .u8 t39,.int .u8 t40]/\
Q (.agg #[.int .u8 t32,.int .u8 t33,.int .u8 t34,.int .u8 t35,.int .u8 t36,.int .u8 t37,.int .u8 t38,.int .u8 t39,.int .u8 t40]) w31)
def V127_ann:Nat->Ann:=λ k=>match k with | 0=>⟨[2,3],[(0,.int .u32),(5,.int .i64)]⟩ | _=>⟨[],[]⟩
theorem V127_sound (x1 w Q) (h:V127 x1 w Q):Calls Tryz.prog 127 #[.int .u32 x1] w λ e w'=>∃v,e=.returned v/\Q v w':=
 sound_of Tryz.func127 V127_ann rfl (Eq.mpr (by kernel_rfl) h)
def V139 (x1:Bool) (x2:Option Addr) (x3 x4:Nat) (w:World) (Q:Value->World->Prop):Prop:=
newK w #[.bool x1,.slice x2 x3 x4] 40 λ a5 w6=>
newK w6 #[.bool false,.slice none 0 0] 40 λ a7 w8=>
∃t9 t10 t11 t12,CellsAt w8 a5 [.bool t9,.slice t10 t11 t12]/\
Calls Tryz.prog 211 #[.agg #[.bool t9,.slice t10 t11 t12]] w8 λ e13 w14=>∃t15 t16 t17 t18,e13=.returned (.agg #[.bool t15,.slice t16 t17 t18])/\
newK w14 #[.bool false,.slice none 0 0] 40 λ a19 w20=>
stK w20 (a19.add 0) (.bool t15) λ w21=>
stK w21 (a19.add 1) (.slice t16 t17 t18) λ w22=>
∃t23,w22.cell? (a19.add 0)=some (.bool t23)/\
∃t24 t25 t26,w22.cell? (a19.add 1)=some (.slice t24 t25 t26)/\
Calls Tryz.prog 147 #[.bool (!t23),.slice t24 t25 t26] w22 λ e27 w28=>∃t29 t30 t31 t32,e27=.returned (.agg #[.bool t29,.slice t30 t31 t32])/\
stK w28 (a7.add 0) (.bool t29) λ w33=>
stK w33 (a7.add 1) (.slice t30 t31 t32) λ w34=>
∃t35 t36 t37 t38,CellsAt w34 a7 [.bool t35,.slice t36 t37 t38]/\
Q (.agg #[.bool t35,.slice t36 t37 t38]) w34
def V139_ann:Nat->Ann:=λ _=>⟨[],[]⟩
theorem V139_sound (x1 x2 x3 x4 w Q) (h:V139 x1 x2 x3 x4 w Q):Calls Tryz.prog 139 #[.agg #[.bool x1,.slice x2 x3 x4]] w λ e w'=>∃v,e=.returned v/\Q v w':=
 sound_of Tryz.func139 V139_ann rfl (Eq.mpr (by kernel_rfl) h)
def V141 (x1:Option Addr) (x2:Int) (w:World) (Q:Value->World->Prop):Prop:=
nilK x1 λ a3=>
∃t4,w.drew.cell? ((a3.add 0).add 1)=some (.int .i64 t4)/\
nilK x1 λ a5=>
∃t6,w.drew.cell? (a5.add 5)=some (.pointer t6)/\
Calls Tryz.prog 143 #[.int .i64 t4,.pointer t6] w.drew λ e7 w8=>∃t9 t10,e7=.returned (.tuple #[.pointer t9,.int .i64 t10])/\
Calls Tryz.prog 212 #[.pointer x1,.int .i64 x2,.pointer t9] w8 λ e11 w12=>∃t13,e11=.returned (.int .i64 t13)/\
Q (.int .i64 t13) w12
def V141_ann:Nat->Ann:=λ _=>⟨[],[]⟩
theorem V141_sound (x1 x2 w Q) (h:V141 x1 x2 w Q):Calls Tryz.prog 141 #[.pointer x1,.int .i64 x2] w λ e w'=>∃v,e=.returned v/\Q v w':=
 sound_of Tryz.func141 V141_ann rfl (Eq.mpr (by kernel_rfl) h)
def V142J1 (I37:World->Prop) (μ38:World->Nat) (w39:World) (x57:Option Addr) (x58:Int) (x59:Option Addr) (x60:Addr) (w61:World):Prop:=
Calls Tryz.prog 150 #[.pointer x59] w61 λ e62 w63=>∃t64 t65 t66 t67 t68,e62=.returned (.agg #[.int .i64 t64,.int .i64 t65,.bool t66,.int .i64 t67,.int .i64 t68])/\
stK w63 (x60.add 0) (.int .i64 t64) λ w69=>
stK w69 (x60.add 1) (.int .i64 t65) λ w70=>
stK w70 (x60.add 2) (.bool t66) λ w71=>
stK w71 (x60.add 3) (.int .i64 t67) λ w72=>
stK w72 (x60.add 4) (.int .i64 t68) λ w73=>
(I37  w73/\μ38  w73<μ38  w39)
def V142J2 (Q:Value->World->Prop) (x19:Option Addr) (x20:Int) (x21:Option Addr) (w22:World):Prop:=
Calls Tryz.prog 150 #[.pointer x21] w22 λ e23 w24=>∃t25 t26 t27 t28 t29,e23=.returned (.agg #[.int .i64 t25,.int .i64 t26,.bool t27,.int .i64 t28,.int .i64 t29])/\
newK w24 #[.int .i64 0,.int .i64 0,.bool false,.int .i64 0,.int .i64 0] 272 λ a30 w31=>
stK w31 (a30.add 0) (.int .i64 t25) λ w32=>
stK w32 (a30.add 1) (.int .i64 t26) λ w33=>
stK w33 (a30.add 2) (.bool t27) λ w34=>
stK w34 (a30.add 3) (.int .i64 t28) λ w35=>
stK w35 (a30.add 4) (.int .i64 t29) λ w36=>
∃(I37:World->Prop) (μ38:World->Nat),I37  w36/\∀(j40:Fr)  (w39:World),I37  w39->
∃t41,w39.cell? (a30.add 0)=some (.int .i64 t41)/\
bsel (t41 == 1) (
nilK x19 λ a42=>
∃t43,w39.drew.cell? (a42.add 0)=some (.pointer t43)/\
∃t44,w39.drew.cell? (a30.add 1)=some (.int .i64 t44)/\
nilK x19 λ a45=>
∃t46 t47 t48,w39.drew.cell? (a45.add 2)=some (.slice t46 t47 t48)/\
idxK t46 t47 x20 1 λ a49=>
∃t50,w39.drew.cell? a49=some (.int .i64 t50)/\
Calls Tryz.prog 16 #[.pointer t43,.int .i64 t44,.int .i64 t50] w39.drew λ e51 w52=>∃t53,e51=.returned (.bool t53)/\
Calls Tryz.prog 152 #[.pointer x21,.bool t53] w52 λ e54 w55=>∃t56,e54=.returned (.int .i64 t56)/\
V142J1 I37 μ38 w39 x19 x20 x21 a30 w55) (
Q (.tuple #[]) w39)
def V142 (x1 x2:Option Addr) (x3 x4:Int) (w:World) (Q:Value->World->Prop):Prop:=
nilK x2 λ a5=>
∃t6,w.drew.cell? (a5.add 1)=some (.pointer t6)/\
nilK x1 λ a7=>
∃t8 t9 t10,w.drew.cell? (a7.add 2)=some (.slice t8 t9 t10)/\
idxK t8 t9 x3 1 λ a11=>
∃t12,w.drew.cell? a11=some (.int .i64 t12)/\
Calls Tryz.prog 213 #[.pointer x1,.int .i64 x3] w.drew λ e13 w14=>∃t15,e13=.returned (.int .i64 t15)/\
(w14.cell? a11=some (.int .i64 t12))/\
(w14.cell? (a7.add 2)=some (.slice t8 t9 t10))/\
(w14.cell? (a5.add 1)=some (.pointer t6))/\
Calls Tryz.prog 148 #[.pointer t6,.int .i64 2,.int .i64 t15,.int .i64 t12,.int .i64 x4] w14 λ e16 w17=>∃t18,e16=.returned (.pointer t18)/\
V142J2 Q x1 x3 t18 w17
def V142_ann:Nat->Ann:=λ k=>match k with | 0=>⟨[0,2,8,9],[]⟩ | _=>⟨[],[]⟩
theorem V142_sound (x1 x2 x3 x4 w Q) (h:V142 x1 x2 x3 x4 w Q):Calls Tryz.prog 142 #[.pointer x1,.pointer x2,.int .i64 x3,.int .i64 x4] w λ e w'=>∃v,e=.returned v/\Q v w':=
 sound_of Tryz.func142 V142_ann rfl (Eq.mpr (by kernel_rfl) h)
def V143J1 (Q:Value->World->Prop) (x3:Int) (x4:Option Addr) (x5:Bool) (w6:World):Prop:=
bsel x5 (
Q (.tuple #[.pointer none,.int .i64 1]) w6) (
Calls Tryz.prog 214 #[.pointer x4] w6 λ e7 w8=>∃t9,e7=.returned (.pointer t9)/\
newK w8 #[.pointer t9,.int .i64 x3,.int .u64 0] 235 λ a10 w11=>
Q (.tuple #[.pointer (some a10),.int .i64 0]) w11)
def V143 (x1:Int) (x2:Option Addr) (w:World) (Q:Value->World->Prop):Prop:=
bsel (decide (x1<0)) (
V143J1 Q x1 x2 true w) (
V143J1 Q x1 x2 (decide (x1>65536)) w)
def V143_ann:Nat->Ann:=λ _=>⟨[],[]⟩
theorem V143_sound (x1 x2 w Q) (h:V143 x1 x2 w Q):Calls Tryz.prog 143 #[.int .i64 x1,.pointer x2] w λ e w'=>∃v,e=.returned v/\Q v w':=
 sound_of Tryz.func143 V143_ann rfl (Eq.mpr (by kernel_rfl) h)
def V144J1 (Q:Value->World->Prop) (x4 x5:Int) (x6:Option Addr) (x7:Bool) (w8:World):Prop:=
bsel x7 (
Q (.tuple #[.pointer none,.int .i64 1]) w8) (
Calls Tryz.prog 214 #[.pointer x6] w8 λ e9 w10=>∃t11,e9=.returned (.pointer t11)/\
∃w12:World,∃t13,(Instr.makeMap 259 none).run Tryz.prog w10=.ok (.map t13) w12/\
newK w12 #[.int .i64 x4,.int .i64 x5,.pointer x6,.pointer t11,.slice none 0 0,.map t13] 334 λ a14 w15=>
Q (.tuple #[.pointer (some a14),.int .i64 0]) w15)
def V144 (x1 x2:Int) (x3:Option Addr) (w:World) (Q:Value->World->Prop):Prop:=
bsel (decide (x1<0)) (
V144J1 Q x1 x2 x3 true w) (
bsel (decide (x1>256)) (
V144J1 Q x1 x2 x3 true w) (
bsel (decide (x2<0)) (
V144J1 Q x1 x2 x3 true w) (
V144J1 Q x1 x2 x3 (decide (x2>65536)) w)))
def V144_ann:Nat->Ann:=λ _=>⟨[],[]⟩
theorem V144_sound (x1 x2 x3 w Q) (h:V144 x1 x2 x3 w Q):Calls Tryz.prog 144 #[.int .i64 x1,.int .i64 x2,.pointer x3] w λ e w'=>∃v,e=.returned v/\Q v w':=
 sound_of Tryz.func144 V144_ann rfl (Eq.mpr (by kernel_rfl) h)
def V145 (x1:Option Addr) (w:World) (Q:Value->World->Prop):Prop:=
bsel (Option.isNone x1) (
Q (.pointer none) w) (
Calls Tryz.prog 215 #[.pointer x1] w λ e2 w3=>∃t4,e2=.returned (.pointer t4)/\
newK w3 #[.slice none 0 0] 338 λ a5 w6=>
newK w6 #[.pointer t4,.iface 336 (.pointer (some a5)),.int .u64 0] 239 λ a7 w8=>
Q (.pointer (some a7)) w8)
def V145_ann:Nat->Ann:=λ _=>⟨[],[]⟩
theorem V145_sound (x1 w Q) (h:V145 x1 w Q):Calls Tryz.prog 145 #[.pointer x1] w λ e w'=>∃v,e=.returned v/\Q v w':=
 sound_of Tryz.func145 V145_ann rfl (Eq.mpr (by kernel_rfl) h)
def V147 (x1:Bool) (x2:Option Addr) (x3 x4:Nat) (w:World) (Q:Value->World->Prop):Prop:=
newK w #[.bool false,.slice none 0 0] 40 λ a5 w6=>
Calls Tryz.prog 124 #[.slice x2 x3 x4] w6 λ e7 w8=>∃t9 t10 t11,e7=.returned (.slice t9 t10 t11)/\
bsel ((t10:Int) == 0) (
stK w8 (a5.add 0) (.bool false) λ w12=>
stK w12 (a5.add 1) (.slice none 0 0) λ w13=>
∃t14 t15 t16 t17,CellsAt w13 a5 [.bool t14,.slice t15 t16 t17]/\
Q (.agg #[.bool t14,.slice t15 t16 t17]) w13) (
stK w8 (a5.add 0) (.bool x1) λ w18=>
stK w18 (a5.add 1) (.slice t9 t10 t11) λ w19=>
∃t20 t21 t22 t23,CellsAt w19 a5 [.bool t20,.slice t21 t22 t23]/\
Q (.agg #[.bool t20,.slice t21 t22 t23]) w19)
def V147_ann:Nat->Ann:=λ _=>⟨[],[]⟩
theorem V147_sound (x1 x2 x3 x4 w Q) (h:V147 x1 x2 x3 x4 w Q):Calls Tryz.prog 147 #[.bool x1,.slice x2 x3 x4] w λ e w'=>∃v,e=.returned v/\Q v w':=
 sound_of Tryz.func147 V147_ann rfl (Eq.mpr (by kernel_rfl) h)
def V202 (x1:Value) (x2:Addr) (w:World) (Q:Value->World->Prop):Prop:=
∃t3 t4 t5,w.cell? x2=some (.slice t3 t4 t5)/\
∃(I6:Int->World->Prop) (μ7:Int->World->Nat),I6 (IntKind.wrap .i64 ((t4:Int)-1)) w/\∀(j10:Fr) (i8:Int) (w9:World),I6 i8 w9->
bsel (decide (i8>=0)) (
∃t11 t12 t13,w9.cell? x2=some (.slice t11 t12 t13)/\
idxK t11 t12 i8 1 λ a14=>
∃t15,w9.cell? a14=some (.int .u32 t15)/\
CallV Tryz.prog x1 #[.int .i64 i8,.int .u32 t15] w9 λ e16 w17=>∃t18,e16=.returned (.bool t18)/\
bsel (!t18) (
Q (.tuple #[]) w17) (
(I6 (IntKind.wrap .i64 (i8-1)) w17/\μ7 (IntKind.wrap .i64 (i8-1)) w17<μ7 i8 w9))) (
Q (.tuple #[]) w9)
def V202_ann:Nat->Ann:=λ k=>match k with | 0=>⟨[0,1],[(3,.int .i64)]⟩ | _=>⟨[],[]⟩
theorem V202_sound (x1 x2 w Q) (h:V202 x1 x2 w Q):Calls Tryz.prog 202 #[x1,.pointer (some x2)] w λ e w'=>∃v,e=.returned v/\Q v w':=
 sound_of Tryz.func202 V202_ann rfl (Eq.mpr (by kernel_rfl) h)
def V211 (x1:Bool) (x2:Option Addr) (x3 x4:Nat) (w:World) (Q:Value->World->Prop):Prop:=
newK w #[.bool x1,.slice x2 x3 x4] 40 λ a5 w6=>
newK w6 #[.bool false,.slice none 0 0] 40 λ a7 w8=>
∃t9,w8.drew.cell? (a5.add 0)=some (.bool t9)/\
∃t10 t11 t12,w8.drew.cell? (a5.add 1)=some (.slice t10 t11 t12)/\
Calls Tryz.prog 124 #[.slice t10 t11 t12] w8.drew λ e13 w14=>∃t15 t16 t17,e13=.returned (.slice t15 t16 t17)/\
(w14.cell? (a5.add 0)=some (.bool t9))/\
Calls Tryz.prog 123 #[.slice t15 t16 t17] w14 λ e18 w19=>∃t20 t21 t22,e18=.returned (.slice t20 t21 t22)/\
(w19.cell? (a5.add 0)=some (.bool t9))/\
Calls Tryz.prog 147 #[.bool t9,.slice t20 t21 t22] w19 λ e23 w24=>∃t25 t26 t27 t28,e23=.returned (.agg #[.bool t25,.slice t26 t27 t28])/\
stK w24 (a7.add 0) (.bool t25) λ w29=>
stK w29 (a7.add 1) (.slice t26 t27 t28) λ w30=>
∃t37 t38 t39 t40,CellsAt w30 a7 [.bool t37,.slice t38 t39 t40]/\
Q (.agg #[.bool t37,.slice t38 t39 t40]) w30
def V211_ann:Nat->Ann:=λ _=>⟨[],[]⟩
theorem V211_sound (x1 x2 x3 x4 w Q) (h:V211 x1 x2 x3 x4 w Q):Calls Tryz.prog 211 #[.agg #[.bool x1,.slice x2 x3 x4]] w λ e w'=>∃v,e=.returned v/\Q v w':=
 sound_of Tryz.func211 V211_ann rfl (Eq.mpr (by kernel_rfl) h)
def V212 (x1:Option Addr) (x2:Int) (x3:Option Addr) (w:World) (Q:Value->World->Prop):Prop:=
nilK x1 λ a4=>
∃t5,w.drew.cell? (a4.add 6)=some (.pointer t5)/\
Calls Tryz.prog 140 #[.pointer x1] w.drew λ e6 w7=>∃t8,e6=.returned (.agg #[.int .i64 t8])/\
(w7.cell? (a4.add 6)=some (.pointer t5))/\
newK w7 #[.int .i64 t8,.pointer x3,.int .i64 x2] 120 λ a9 w10=>
(w10.cell? (a4.add 6)=some (.pointer t5))/\
Calls Tryz.prog 38 #[.pointer t5,.iface 111 (.pointer (some a9))] w10 λ e11 w12=>∃t13,e11=.returned (.int .i64 t13)/\
Q (.int .i64 t13) w12
def V212_ann:Nat->Ann:=λ _=>⟨[],[]⟩
theorem V212_sound (x1 x2 x3 w Q) (h:V212 x1 x2 x3 w Q):Calls Tryz.prog 212 #[.pointer x1,.int .i64 x2,.pointer x3] w λ e w'=>∃v,e=.returned v/\Q v w':=
 sound_of Tryz.func212 V212_ann rfl (Eq.mpr (by kernel_rfl) h)
def V148J1 (Q:Value->World->Prop) (x17:Option Addr) (x18 x19 x20:Int) (x21:Addr) (x22:Bool) (w23:World):Prop:=
bsel x22 (
Q (.pointer none) w23) (
∃t24 t25,CellsAt w23 x21 [t24,t25]/\
newK w23 #[.pointer none,.pointer x17,t24,t25,.int .i64 x18,.int .i64 x19,.int .i64 x20,.int .i64 0,.int .i64 0,.int .i64 0,.int .u64 0,.int .i64 0,.int .i64 0,.bool false,.int .i64 0,.int .i64 0] 348 λ a26 w27=>
Q (.pointer (some a26)) w27)
def V148 (x1:Option Addr) (x2 x3:Int) (x4 x5:Int) (w:World) (Q:Value->World->Prop):Prop:=
Calls Tryz.prog 216 #[] w λ e6 w7=>∃t8,e6=.returned (.map t8)/\
∃w9:World,∃t10 t11 t12,(Instr.lookup 344 (.map t8) (.int .i64 x2) true).run Tryz.prog w7=.ok (.tuple #[.agg #[t10,t11],.bool t12]) w9/\
newK w9 #[.nilFunc,.nilFunc] 342 λ a13 w14=>
plK t10 (
stK w14 (a13.add 0) (t10) λ w15=>
plK t11 (
stK w15 (a13.add 1) (t11) λ w16=>
bsel (Option.isNone x1) (
V148J1 Q x1 x3 x4 x5 a13 true w16) (
V148J1 Q x1 x3 x4 x5 a13 (!t12) w16)))
def V148_ann:Nat->Ann:=λ _=>⟨[],[]⟩
theorem V148_sound (x1 x2 x3 x4 x5 w Q) (h:V148 x1 x2 x3 x4 x5 w Q):Calls Tryz.prog 148 #[.pointer x1,.int .i64 x2,.int .i64 x3,.int .i64 x4,.int .i64 x5] w λ e w'=>∃v,e=.returned v/\Q v w':=
 sound_of Tryz.func148 V148_ann rfl (Eq.mpr (by kernel_rfl) h)
def V213J1 (Q:Value->World->Prop) (x87:Addr) (w88:World):Prop:=
∃t89 t90 t91 t92,CellsAt w88 x87 [.bool t89,.slice t90 t91 t92]/\
Calls Tryz.prog 103 #[.agg #[.bool t89,.slice t90 t91 t92]] w88 λ e93 w94=>∃t95,e93=.returned (.int .i64 t95)/\
Q (.int .i64 t95) w94
def V213 (x1:Option Addr) (x2:Int) (w:World) (Q:Value->World->Prop):Prop:=
nilK x1 λ a3=>
∃t4 t5 t6,w.cell? (a3.add 1)=some (.slice t4 t5 t6)/\
idxK t4 t5 x2 8 λ a7=>
∃t8 t9 t10 t11 t12 t13 t14 t15 t16 t17 t18 t19,CellsAt w a7 [.int .i64 t8,.bool t9,.bool t10,.slice t11 t12 t13,.string t14,.slice t15 t16 t17,.bool t18,.bool t19]/\
newK w #[.int .i64 0,.bool false,.bool false,.slice none 0 0,.string ⟨#[]⟩,.slice none 0 0,.bool false,.bool false] 42 λ a20 w21=>
stK w21 (a20.add 0) (.int .i64 t8) λ w22=>
stK w22 (a20.add 1) (.bool t9) λ w23=>
stK w23 (a20.add 2) (.bool t10) λ w24=>
stK w24 (a20.add 3) (.slice t11 t12 t13) λ w25=>
stK w25 (a20.add 4) (.string t14) λ w26=>
stK w26 (a20.add 5) (.slice t15 t16 t17) λ w27=>
stK w27 (a20.add 6) (.bool t18) λ w28=>
stK w28 (a20.add 7) (.bool t19) λ w29=>
∃t30,w29.cell? (a20.add 0)=some (.int .i64 t30)/\
bsel (t30 == 1) (
Calls Tryz.prog 93 #[.int .i64 (-7)] w29 λ e31 w32=>∃t33 t34 t35 t36,e31=.returned (.agg #[.bool t33,.slice t34 t35 t36])/\
Calls Tryz.prog 103 #[.agg #[.bool t33,.slice t34 t35 t36]] w32 λ e37 w38=>∃t39,e37=.returned (.int .i64 t39)/\
Q (.int .i64 t39) w38) (
bsel (t30 == 4) (
∃t40,w29.cell? (a20.add 4)=some (.string t40)/\
Calls Tryz.prog 104 #[.string t40] w29 λ e41 w42=>∃t43,e41=.returned (.int .i64 t43)/\
Q (.int .i64 t43) w42) (
bsel (t30 == 14) (
∃t44,w29.cell? (a20.add 6)=some (.bool t44)/\
bsel t44 (
∃t45 t46 t47 t48,CellsAt w29 (a20.add 2) [.bool t45,.slice t46 t47 t48]/\
Calls Tryz.prog 103 #[.agg #[.bool t45,.slice t46 t47 t48]] w29 λ e49 w50=>∃t51,e49=.returned (.int .i64 t51)/\
Q (.int .i64 t51) w50) (
nilK x1 λ a52=>
∃t53,w29.drew.cell? (a52.add 0)=some (.pointer t53)/\
nilK x1 λ a54=>
∃t55 t56 t57,w29.drew.cell? (a54.add 2)=some (.slice t55 t56 t57)/\
idxK t55 t56 x2 1 λ a58=>
∃t59,w29.drew.cell? a58=some (.int .i64 t59)/\
Calls Tryz.prog 15 #[.pointer t53,.int .i64 t59] w29.drew λ e60 w61=>∃t62,e60=.returned (.int .i64 t62)/\
Calls Tryz.prog 164 #[.int .i64 t62] w61 λ e63 w64=>∃t65,e63=.returned (.int .i64 t65)/\
Q (.int .i64 t65) w64)) (
nilK x1 λ a68=>
∃t69,w29.drew.cell? (a68.add 0)=some (.pointer t69)/\
nilK x1 λ a70=>
∃t71 t72 t73,w29.drew.cell? (a70.add 2)=some (.slice t71 t72 t73)/\
idxK t71 t72 x2 1 λ a74=>
∃t75,w29.drew.cell? a74=some (.int .i64 t75)/\
(Calls Tryz.prog 42 #[.pointer t69,.int .i64 t75] w29.drew λ e76 w77=>∃t78 t79 t80 t81 t82,e76=.returned (.tuple #[.agg #[.bool t78,.slice t79 t80 t81],.bool t82])/\
newK w77 #[.bool false,.slice none 0 0] 40 λ a83 w84=>
stK w84 (a83.add 0) (.bool t78) λ w85=>
stK w85 (a83.add 1) (.slice t79 t80 t81) λ w86=>
V213J1 Q a83 w86)/\
(newK w29.drew #[.bool false,.slice none 0 0] 40 λ a96 w97=>
(w97.cell? a74=some (.int .i64 t75))/\
(w97.cell? (a70.add 2)=some (.slice t71 t72 t73))/\
(w97.cell? (a68.add 0)=some (.pointer t69))/\
Calls Tryz.prog 42 #[.pointer t69,.int .i64 t75] w97 λ e98 w99=>∃t100 t101 t102 t103 t104,e98=.returned (.tuple #[.agg #[.bool t100,.slice t101 t102 t103],.bool t104])/\
stK w99 (a96.add 0) (.bool t100) λ w105=>
stK w105 (a96.add 1) (.slice t101 t102 t103) λ w106=>
V213J1 Q a96 w106))))
def V213_ann:Nat->Ann:=λ _=>⟨[],[]⟩
theorem V213_sound (x1 x2 w Q) (h:V213 x1 x2 w Q):Calls Tryz.prog 213 #[.pointer x1,.int .i64 x2] w λ e w'=>∃v,e=.returned v/\Q v w':=
 sound_of Tryz.func213 V213_ann rfl (Eq.mpr (by kernel_rfl) h)
def V150J1 (Q:Value->World->Prop) (x160:Option Addr) (x161:Addr) (w162:World):Prop:=
nilK x160 λ a163=>
∃t164 t165 t166 t167 t168,CellsAt w162 (a163.add 11) [.int .i64 t164,.int .i64 t165,.bool t166,.int .i64 t167,.int .i64 t168]/\
stK w162 (x161.add 0) (.int .i64 t164) λ w169=>
stK w169 (x161.add 1) (.int .i64 t165) λ w170=>
stK w170 (x161.add 2) (.bool t166) λ w171=>
stK w171 (x161.add 3) (.int .i64 t167) λ w172=>
stK w172 (x161.add 4) (.int .i64 t168) λ w173=>
∃t174 t175 t176 t177 t178,CellsAt w173 x161 [.int .i64 t174,.int .i64 t175,.bool t176,.int .i64 t177,.int .i64 t178]/\
Q (.agg #[.int .i64 t174,.int .i64 t175,.bool t176,.int .i64 t177,.int .i64 t178]) w173
def V150J2 (Q:Value->World->Prop) (x71:Option Addr) (x72:Addr) (w73:World):Prop:=
∃(I74:World->Prop) (μ75:World->Nat),I74  w73/\∀(j77:Fr)  (w76:World),I74  w76->
nilK x71 λ a78=>
∃t79,w76.cell? (a78.add 0)=some (.pointer t79)/\
Calls Tryz.prog 220 #[.pointer t79] w76 λ e80 w81=>∃t82 t83,e80=.returned (.tuple #[.int .i64 t82,.bool t83])/\
bsel (!t83) (
nilK x71 λ a84=>
∃t85,w81.cell? ((a84.add 2).add 1)=some (t85)/\
CallV Tryz.prog t85 #[.pointer x71] w81 λ e86 w87=>∃t88 t89 t90 t91 t92,e86=.returned (.agg #[.int .i64 t88,.int .i64 t89,.bool t90,.int .i64 t91,.int .i64 t92])/\
Calls Tryz.prog 221 #[.pointer x71,.agg #[.int .i64 t88,.int .i64 t89,.bool t90,.int .i64 t91,.int .i64 t92]] w87 λ e93 w94=>∃t95 t96 t97 t98 t99,e93=.returned (.agg #[.int .i64 t95,.int .i64 t96,.bool t97,.int .i64 t98,.int .i64 t99])/\
stK w94 (x72.add 0) (.int .i64 t95) λ w100=>
stK w100 (x72.add 1) (.int .i64 t96) λ w101=>
stK w101 (x72.add 2) (.bool t97) λ w102=>
stK w102 (x72.add 3) (.int .i64 t98) λ w103=>
stK w103 (x72.add 4) (.int .i64 t99) λ w104=>
∃t105 t106 t107 t108 t109,CellsAt w104 x72 [.int .i64 t105,.int .i64 t106,.bool t107,.int .i64 t108,.int .i64 t109]/\
Q (.agg #[.int .i64 t105,.int .i64 t106,.bool t107,.int .i64 t108,.int .i64 t109]) w104) (
nilK x71 λ a110=>
∃t111,w81.cell? (a110.add 1)=some (.pointer t111)/\
nilK t111 λ a112=>
∃t113,w81.cell? (a112.add 0)=some (.pointer t113)/\
Calls Tryz.prog 222 #[.pointer t113,.int .i64 t82] w81 λ e114 w115=>∃t116 t117 t118 t119 t120 t121,e114=.returned (.tuple #[.agg #[.bool t116,.int .i64 t117,.int .i64 t118,.int .i64 t119,.int .i64 t120],.int .i64 t121])/\
newK w115 #[.bool false,.int .i64 0,.int .i64 0,.int .i64 0,.int .i64 0] 295 λ a122 w123=>
stK w123 (a122.add 0) (.bool t116) λ w124=>
stK w124 (a122.add 1) (.int .i64 t117) λ w125=>
stK w125 (a122.add 2) (.int .i64 t118) λ w126=>
stK w126 (a122.add 3) (.int .i64 t119) λ w127=>
stK w127 (a122.add 4) (.int .i64 t120) λ w128=>
∃t129,w128.drew.cell? (a122.add 2)=some (.int .i64 t129)/\
nilK x71 λ a130=>
∃t131,w128.drew.cell? (a130.add 5)=some (.int .i64 t131)/\
bsel (t129 == t131) (
Calls Tryz.prog 219 #[.pointer x71,.int .i64 t82] w128.drew λ e132 w133=>∃t134 t135 t136 t137 t138,e132=.returned (.agg #[.int .i64 t134,.int .i64 t135,.bool t136,.int .i64 t137,.int .i64 t138])/\
stK w133 (x72.add 0) (.int .i64 t134) λ w139=>
stK w139 (x72.add 1) (.int .i64 t135) λ w140=>
stK w140 (x72.add 2) (.bool t136) λ w141=>
stK w141 (x72.add 3) (.int .i64 t137) λ w142=>
stK w142 (x72.add 4) (.int .i64 t138) λ w143=>
∃t144 t145 t146 t147 t148,CellsAt w143 x72 [.int .i64 t144,.int .i64 t145,.bool t146,.int .i64 t147,.int .i64 t148]/\
Q (.agg #[.int .i64 t144,.int .i64 t145,.bool t146,.int .i64 t147,.int .i64 t148]) w143) (
∃t149,w128.drew.drew.cell? (a122.add 2)=some (.int .i64 t149)/\
nilK x71 λ a150=>
stK w128.drew.drew (a150.add 7) (.int .i64 2) λ w151=>
(w151.cell? (a122.add 2)=some (.int .i64 t149))/\
nilK x71 λ a152=>
stK w151 (a152.add 8) (.int .i64 t82) λ w153=>
(w153.cell? (a122.add 2)=some (.int .i64 t149))/\
nilK x71 λ a154=>
stK w153 ((a154.add 11).add 0) (.int .i64 1) λ w155=>
stK w155 ((a154.add 11).add 1) (.int .i64 t149) λ w156=>
stK w156 ((a154.add 11).add 2) (.bool false) λ w157=>
stK w157 ((a154.add 11).add 3) (.int .i64 0) λ w158=>
stK w158 ((a154.add 11).add 4) (.int .i64 0) λ w159=>
V150J1 Q x71 x72 w159))
def V150J3 (Q:Value->World->Prop) (x58:Option Addr) (x59:Addr) (w60:World):Prop:=
nilK x58 λ a61=>
∃t62,w60.cell? (a61.add 1)=some (.pointer t62)/\
nilK t62 λ a63=>
∃t64,w60.cell? (a63.add 2)=some (.int .u64 t64)/\
nilK x58 λ a65=>
stK w60 (a65.add 10) (.int .u64 t64) λ w66=>
nilK x58 λ a67=>
∃t68,w66.cell? (a67.add 9)=some (.int .i64 t68)/\
nilK x58 λ a69=>
stK w66 (a69.add 9) (.int .i64 (IntKind.wrap .i64 (t68+1))) λ w70=>
V150J2 Q x58 x59 w70
def V150J4 (Q:Value->World->Prop) (x42:Option Addr) (x43:Addr) (x44:Bool) (w45:World):Prop:=
bsel x44 (
nilK x42 λ a46=>
∃t47,w45.drew.cell? (a46.add 1)=some (.pointer t47)/\
nilK x42 λ a48=>
∃t49,w45.drew.cell? (a48.add 4)=some (.int .i64 t49)/\
Calls Tryz.prog 217 #[.pointer t47] w45.drew λ e50 w51=>∃t52,e50=.returned (.pointer t52)/\
(w51.cell? (a48.add 4)=some (.int .i64 t49))/\
Calls Tryz.prog 218 #[.pointer t52,.int .i64 t49] w51 λ e53 w54=>∃t55,e53=.returned (.pointer t55)/\
nilK x42 λ a56=>
stK w54 (a56.add 0) (.pointer t55) λ w57=>
V150J3 Q x42 x43 w57) (
nilK x42 λ a179=>
∃t180,w45.cell? (a179.add 7)=some (.int .i64 t180)/\
bsel (t180 == 3) (
nilK x42 λ a181=>
∃t182,w45.cell? (a181.add 8)=some (.int .i64 t182)/\
Calls Tryz.prog 219 #[.pointer x42,.int .i64 t182] w45 λ e183 w184=>∃t185 t186 t187 t188 t189,e183=.returned (.agg #[.int .i64 t185,.int .i64 t186,.bool t187,.int .i64 t188,.int .i64 t189])/\
stK w184 (x43.add 0) (.int .i64 t185) λ w190=>
stK w190 (x43.add 1) (.int .i64 t186) λ w191=>
stK w191 (x43.add 2) (.bool t187) λ w192=>
stK w192 (x43.add 3) (.int .i64 t188) λ w193=>
stK w193 (x43.add 4) (.int .i64 t189) λ w194=>
∃t195 t196 t197 t198 t199,CellsAt w194 x43 [.int .i64 t195,.int .i64 t196,.bool t197,.int .i64 t198,.int .i64 t199]/\
Q (.agg #[.int .i64 t195,.int .i64 t196,.bool t197,.int .i64 t198,.int .i64 t199]) w194) (
V150J2 Q x42 x43 w45))
def V150J5 (Q:Value->World->Prop) (x20:Option Addr) (x21:Addr) (x22:Bool) (w23:World):Prop:=
bsel x22 (
nilK x20 λ a24=>
∃t25 t26 t27 t28 t29,CellsAt w23 (a24.add 11) [.int .i64 t25,.int .i64 t26,.bool t27,.int .i64 t28,.int .i64 t29]/\
stK w23 (x21.add 0) (.int .i64 t25) λ w30=>
stK w30 (x21.add 1) (.int .i64 t26) λ w31=>
stK w31 (x21.add 2) (.bool t27) λ w32=>
stK w32 (x21.add 3) (.int .i64 t28) λ w33=>
stK w33 (x21.add 4) (.int .i64 t29) λ w34=>
∃t35 t36 t37 t38 t39,CellsAt w34 x21 [.int .i64 t35,.int .i64 t36,.bool t37,.int .i64 t38,.int .i64 t39]/\
Q (.agg #[.int .i64 t35,.int .i64 t36,.bool t37,.int .i64 t38,.int .i64 t39]) w34) (
nilK x20 λ a40=>
∃t41,w23.drew.cell? (a40.add 7)=some (.int .i64 t41)/\
bsel (t41 == 0) (
V150J4 Q x20 x21 true w23.drew) (
nilK x20 λ a200=>
∃t201,w23.drew.cell? (a200.add 10)=some (.int .u64 t201)/\
nilK x20 λ a202=>
∃t203,w23.drew.cell? (a202.add 1)=some (.pointer t203)/\
nilK t203 λ a204=>
∃t205,w23.drew.cell? (a204.add 2)=some (.int .u64 t205)/\
V150J4 Q x20 x21 (t201 != t205) w23.drew))
def V150J6 (Q:Value->World->Prop) (x4:Option Addr) (x5:Addr) (x6:Bool) (w7:World):Prop:=
bsel x6 (
stK w7 (x5.add 0) (.int .i64 0) λ w8=>
stK w8 (x5.add 1) (.int .i64 0) λ w9=>
stK w9 (x5.add 2) (.bool false) λ w10=>
stK w10 (x5.add 3) (.int .i64 0) λ w11=>
stK w11 (x5.add 4) (.int .i64 0) λ w12=>
∃t13 t14 t15 t16 t17,CellsAt w12 x5 [.int .i64 t13,.int .i64 t14,.bool t15,.int .i64 t16,.int .i64 t17]/\
Q (.agg #[.int .i64 t13,.int .i64 t14,.bool t15,.int .i64 t16,.int .i64 t17]) w12) (
nilK x4 λ a18=>
∃t19,w7.cell? (a18.add 7)=some (.int .i64 t19)/\
bsel (t19 == 4) (
V150J5 Q x4 x5 true w7) (
nilK x4 λ a206=>
∃t207,w7.cell? (a206.add 7)=some (.int .i64 t207)/\
V150J5 Q x4 x5 (t207 == 2) w7))
def V150 (x1:Option Addr) (w:World) (Q:Value->World->Prop):Prop:=
newK w #[.int .i64 0,.int .i64 0,.bool false,.int .i64 0,.int .i64 0] 272 λ a2 w3=>
bsel (Option.isNone x1) (
V150J6 Q x1 a2 true w3) (
nilK x1 λ a208=>
∃t209,w3.cell? (a208.add 1)=some (.pointer t209)/\
V150J6 Q x1 a2 (Option.isNone t209) w3)
def V150_ann:Nat->Ann:=λ k=>match k with | 0=>⟨[0,2],[]⟩ | _=>⟨[],[]⟩
theorem V150_sound (x1 w Q) (h:V150 x1 w Q):Calls Tryz.prog 150 #[.pointer x1] w λ e w'=>∃v,e=.returned v/\Q v w':=
 sound_of Tryz.func150 V150_ann rfl (Eq.mpr (by kernel_rfl) h)
def V152 (x1:Option Addr) (x2:Bool) (w:World) (Q:Value->World->Prop):Prop:=
bsel (Option.isNone x1) (
Q (.int .i64 1) w) (
nilK x1 λ a3=>
∃t4,w.cell? (a3.add 7)=some (.int .i64 t4)/\
bsel (t4 != 2) (
Q (.int .i64 8) w) (
bsel x2 (
nilK x1 λ a5=>
stK w (a5.add 7) (.int .i64 3) λ w6=>
Q (.int .i64 0) w6) (
nilK x1 λ a8=>
stK w (a8.add 7) (.int .i64 1) λ w9=>
Q (.int .i64 0) w9)))
def V152_ann:Nat->Ann:=λ _=>⟨[],[]⟩
theorem V152_sound (x1 x2 w Q) (h:V152 x1 x2 w Q):Calls Tryz.prog 152 #[.pointer x1,.bool x2] w λ e w'=>∃v,e=.returned v/\Q v w':=
 sound_of Tryz.func152 V152_ann rfl (Eq.mpr (by kernel_rfl) h)
def V215 (x1:Option Addr) (w:World) (Q:Value->World->Prop):Prop:=
nilK x1 λ a2=>
∃t3,w.cell? (a2.add 3)=some (.pointer t3)/\
bsel (Option.isNone t3) (
Calls Tryz.prog 214 #[.pointer none] w λ e4 w5=>∃t6,e4=.returned (.pointer t6)/\
∃w7:World,∃t8,(Instr.makeMap 259 none).run Tryz.prog w5=.ok (.map t8) w7/\
nilK x1 λ a9=>
stK w7 (a9.add 3) (.pointer t6) λ w10=>
nilK x1 λ a11=>
stK w10 (a11.add 5) (.map t8) λ w12=>
Q (.pointer x1) w12) (
Q (.pointer x1) w)
def V215_ann:Nat->Ann:=λ _=>⟨[],[]⟩
theorem V215_sound (x1 w Q) (h:V215 x1 w Q):Calls Tryz.prog 215 #[.pointer x1] w λ e w'=>∃v,e=.returned v/\Q v w':=
 sound_of Tryz.func215 V215_ann rfl (Eq.mpr (by kernel_rfl) h)
end Go.Fw
