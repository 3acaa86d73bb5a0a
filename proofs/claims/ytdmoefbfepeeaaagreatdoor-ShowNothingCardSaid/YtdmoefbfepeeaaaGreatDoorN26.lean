/- Part of a proof over the given program: texts of lemmas (conditions: none beyond each lemma as stated). -/
import Derived.Test.YtdmoefbfepeeaaaGreatDoorN25
set_option linter.unnecessarySimpa false
set_option linter.unusedVariables false
set_option linter.unusedSimpArgs false

set_option maxRecDepth 100000
namespace Go.Fw
open Go.Proofs
def V180 (x1:Bool) (x2:Option Addr) (x3 x4:Nat) (w:World) (Q:Value->World->Prop):Prop:=
newK w #[.bool x1,.slice x2 x3 x4] 40 λ a5 w6=>
newK w6 #[.bool false,.slice none 0 0] 40 λ a7 w8=>
∃t9,w8.cell? (a5.add 0)=some (.bool t9)/\
∃t10 t11 t12,w8.cell? (a5.add 1)=some (.slice t10 t11 t12)/\
Calls Tryz.prog 243 #[.bool t9,.slice t10 t11 t12] w8 λ e13 w14=>∃t15 t16 t17 t18,e13=.returned (.agg #[.bool t15,.slice t16 t17 t18])/\
stK w14 (a7.add 0) (.bool t15) λ w19=>
stK w19 (a7.add 1) (.slice t16 t17 t18) λ w20=>
∃t21 t22 t23 t24,CellsAt w20 a7 [.bool t21,.slice t22 t23 t24]/\
Q (.agg #[.bool t21,.slice t22 t23 t24]) w20
def V180_ann:Nat->Ann:=λ _=>⟨[],[]⟩
theorem V180_sound (x1 x2 x3 x4 w Q) (h:V180 x1 x2 x3 x4 w Q):Calls Tryz.prog 180 #[.agg #[.bool x1,.slice x2 x3 x4]] w λ e w'=>∃v,e=.returned v/\Q v w':=
 sound_of Tryz.func180 V180_ann rfl (Eq.mpr (by kernel_rfl) h)
def V243 (x1:Bool) (x2:Option Addr) (x3 x4:Nat) (w:World) (Q:Value->World->Prop):Prop:=
newK w #[.bool false,.slice none 0 0] 40 λ a5 w6=>
Calls Tryz.prog 302 #[.slice x2 x3 x4] w6 λ e7 w8=>∃t9 t10 t11,e7=.returned (.slice t9 t10 t11)/\
bsel x1 (
stK w8 (a5.add 0) (.bool (decide ((t10:Int)>0))) λ w12=>
stK w12 (a5.add 1) (.slice t9 t10 t11) λ w13=>
∃t20 t21 t22 t23,CellsAt w13 a5 [.bool t20,.slice t21 t22 t23]/\
Q (.agg #[.bool t20,.slice t21 t22 t23]) w13) (
stK w8 (a5.add 0) (.bool false) λ w24=>
stK w24 (a5.add 1) (.slice t9 t10 t11) λ w25=>
∃t26 t27 t28 t29,CellsAt w25 a5 [.bool t26,.slice t27 t28 t29]/\
Q (.agg #[.bool t26,.slice t27 t28 t29]) w25)
def V243_ann:Nat->Ann:=λ _=>⟨[],[]⟩
theorem V243_sound (x1 x2 x3 x4 w Q) (h:V243 x1 x2 x3 x4 w Q):Calls Tryz.prog 243 #[.bool x1,.slice x2 x3 x4] w λ e w'=>∃v,e=.returned v/\Q v w':=
 sound_of Tryz.func243 V243_ann rfl (Eq.mpr (by kernel_rfl) h)
def V302J1 (Q:Value->World->Prop) (I4:Int->World->Prop) (μ5:Int->World->Nat) (i6:Int) (w7:World) (x11:Option Addr) (x12 x13:Nat) (x14:Int) (x15:Bool) (w16:World):Prop:=
bsel x15 (
(I4 (IntKind.wrap .i64 (x14-1)) w16/\μ5 (IntKind.wrap .i64 (x14-1)) w16<μ5 i6 w7)) (
slcK x11 x13 0 x14 1 λ t17 t18 t19=>
∃w20:World,∃t21 t22 t23,(vcEff.bltV .append #[38,38] 38 #[.slice none 0 0,.slice t17 t18 t19]).run Tryz.prog w16=.ok (.slice t21 t22 t23) w20/\
Q (.slice t21 t22 t23) w20)
def V302 (x1:Option Addr) (x2 x3:Nat) (w:World) (Q:Value->World->Prop):Prop:=
∃(I4:Int->World->Prop) (μ5:Int->World->Nat),I4 (x2:Int) w/\∀(j8:Fr) (i6:Int) (w7:World),I4 i6 w7->
bsel (decide (i6>0)) (
idxK x1 x2 (IntKind.wrap .i64 (i6-1)) 1 λ a9=>
∃t10,w7.cell? a9=some (.int .u32 t10)/\
V302J1 Q I4 μ5 i6 w7 x1 x2 x3 i6 (t10 == 0) w7) (
V302J1 Q I4 μ5 i6 w7 x1 x2 x3 i6 false w7)
def V302_ann:Nat->Ann:=λ k=>match k with | 0=>⟨[0],[(3,.int .i64)]⟩ | _=>⟨[],[]⟩
theorem V302_sound (x1 x2 x3 w Q) (h:V302 x1 x2 x3 w Q):Calls Tryz.prog 302 #[.slice x1 x2 x3] w λ e w'=>∃v,e=.returned v/\Q v w':=
 sound_of Tryz.func302 V302_ann rfl (Eq.mpr (by kernel_rfl) h)
def V250J1 (Q:Value->World->Prop) (x4:Int) (x5:Addr) (x6:Int) (w7:World):Prop:=
((0:Int)<=32)/\
newK w7 #[.int .u32 (IntKind.wrap .u32 x6),.int .u32 (IntKind.wrap .u32 (shr .u64 x6 32))] 45 λ a8 w9=>
Calls Tryz.prog 243 #[.bool (decide (x4<0)),.slice (some a8) 2 2] w9 λ e10 w11=>∃t12 t13 t14 t15,e10=.returned (.agg #[.bool t12,.slice t13 t14 t15])/\
stK w11 (x5.add 0) (.bool t12) λ w16=>
stK w16 (x5.add 1) (.slice t13 t14 t15) λ w17=>
∃t18 t19 t20 t21,CellsAt w17 x5 [.bool t18,.slice t19 t20 t21]/\
Q (.agg #[.bool t18,.slice t19 t20 t21]) w17
def V250 (x1:Int) (w:World) (Q:Value->World->Prop):Prop:=
newK w #[.bool false,.slice none 0 0] 40 λ a2 w3=>
bsel (decide (x1<0)) (
V250J1 Q x1 a2 (IntKind.wrap .u64 (0-IntKind.wrap .u64 x1)) w3) (
V250J1 Q x1 a2 (IntKind.wrap .u64 x1) w3)
def V250_ann:Nat->Ann:=λ _=>⟨[],[]⟩
theorem V250_sound (x1 w Q) (h:V250 x1 w Q):Calls Tryz.prog 250 #[.int .i64 x1] w λ e w'=>∃v,e=.returned v/\Q v w':=
 sound_of Tryz.func250 V250_ann rfl (Eq.mpr (by kernel_rfl) h)
def V251 (x1 x2:Int) (x3 x4 x5:Bool) (x6:Option Addr) (x7 x8:Nat) (x9:ByteArray) (x10:Option Addr) (x11 x12:Nat) (x13:Option Addr) (x14:Int) (x15:Option Addr) (x16 x17:Nat) (x18 x19:Int) (x20 x21:Int) (x22 x23:Option Addr) (x24:Int) (x25:Option Addr) (x26 x27 x28:Bool) (w:World) (Q:Value->World->Prop):Prop:=
newK w #[.int .i64 x1,.int .i64 x2,.bool x3,.bool x4,.bool x5,.slice x6 x7 x8,.string x9,.slice x10 x11 x12,.pointer x13,.int .i64 x14,.slice x15 x16 x17,.int .i64 x18,.int .i64 x19,.int .i64 x20,.int .i64 x21,.pointer x22,.pointer x23,.int .i64 x24,.pointer x25,.bool x26,.bool x27,.bool x28] 226 λ a29 w30=>
newK w30 #[.bool false,.slice none 0 0] 40 λ a31 w32=>
∃t33,w32.cell? (a29.add 0)=some (.int .i64 t33)/\
bsel (t33 == 2) (
∃t34,w32.cell? (a29.add 3)=some (.bool t34)/\
bsel t34 (
Calls Tryz.prog 250 #[.int .i64 1] w32 λ e35 w36=>∃t37 t38 t39 t40,e35=.returned (.agg #[.bool t37,.slice t38 t39 t40])/\
stK w36 (a31.add 0) (.bool t37) λ w41=>
stK w41 (a31.add 1) (.slice t38 t39 t40) λ w42=>
∃t43 t44 t45 t46,CellsAt w42 a31 [.bool t43,.slice t44 t45 t46]/\
Q (.agg #[.bool t43,.slice t44 t45 t46]) w42) (
Calls Tryz.prog 250 #[.int .i64 0] w32 λ e47 w48=>∃t49 t50 t51 t52,e47=.returned (.agg #[.bool t49,.slice t50 t51 t52])/\
stK w48 (a31.add 0) (.bool t49) λ w53=>
stK w53 (a31.add 1) (.slice t50 t51 t52) λ w54=>
∃t55 t56 t57 t58,CellsAt w54 a31 [.bool t55,.slice t56 t57 t58]/\
Q (.agg #[.bool t55,.slice t56 t57 t58]) w54)) (
∃t59 t60 t61 t62,CellsAt w32 (a29.add 4) [.bool t59,.slice t60 t61 t62]/\
stK w32 (a31.add 0) (.bool t59) λ w63=>
stK w63 (a31.add 1) (.slice t60 t61 t62) λ w64=>
∃t65 t66 t67 t68,CellsAt w64 a31 [.bool t65,.slice t66 t67 t68]/\
Q (.agg #[.bool t65,.slice t66 t67 t68]) w64)
def V251_ann:Nat->Ann:=λ _=>⟨[],[]⟩
theorem V251_sound (x1 x2 x3 x4 x5 x6 x7 x8 x9 x10 x11 x12 x13 x14 x15 x16 x17 x18 x19 x20 x21 x22 x23 x24 x25 x26 x27 x28 w Q) (h:V251 x1 x2 x3 x4 x5 x6 x7 x8 x9 x10 x11 x12 x13 x14 x15 x16 x17 x18 x19 x20 x21 x22 x23 x24 x25 x26 x27 x28 w Q):Calls Tryz.prog 251 #[.agg #[.int .i64 x1,.int .i64 x2,.bool x3,.bool x4,.bool x5,.slice x6 x7 x8,.string x9,.slice x10 x11 x12,.pointer x13,.int .i64 x14,.slice x15 x16 x17,.int .i64 x18,.int .i64 x19,.int .i64 x20,.int .i64 x21,.pointer x22,.pointer x23,.int .i64 x24,.pointer x25,.bool x26,.bool x27,.bool x28]] w λ e w'=>∃v,e=.returned v/\Q v w':=
 sound_of Tryz.func251 V251_ann rfl (Eq.mpr (by kernel_rfl) h)
def V303 (x1:Bool) (x2:Option Addr) (x3 x4:Nat) (x5:Bool) (x6:Option Addr) (x7 x8:Nat) (w:World) (Q:Value->World->Prop):Prop:=
newK w #[.bool x1,.slice x2 x3 x4] 40 λ a9 w10=>
newK w10 #[.bool x5,.slice x6 x7 x8] 40 λ a11 w12=>
∃t13 t14 t15 t16,CellsAt w12 a9 [.bool t13,.slice t14 t15 t16]/\
Calls Tryz.prog 180 #[.agg #[.bool t13,.slice t14 t15 t16]] w12 λ e17 w18=>∃t19 t20 t21 t22,e17=.returned (.agg #[.bool t19,.slice t20 t21 t22])/\
stK w18 (a9.add 0) (.bool t19) λ w23=>
stK w23 (a9.add 1) (.slice t20 t21 t22) λ w24=>
∃t25 t26 t27 t28,CellsAt w24 a11 [.bool t25,.slice t26 t27 t28]/\
Calls Tryz.prog 180 #[.agg #[.bool t25,.slice t26 t27 t28]] w24 λ e29 w30=>∃t31 t32 t33 t34,e29=.returned (.agg #[.bool t31,.slice t32 t33 t34])/\
stK w30 (a11.add 0) (.bool t31) λ w35=>
stK w35 (a11.add 1) (.slice t32 t33 t34) λ w36=>
∃t37,w36.cell? (a9.add 0)=some (.bool t37)/\
∃t38,w36.cell? (a11.add 0)=some (.bool t38)/\
bsel (!(t37 == t38)) (
∃t39,w36.cell? (a9.add 0)=some (.bool t39)/\
bsel t39 (
Q (.int .i64 (-1)) w36) (
Q (.int .i64 1) w36)) (
∃t40 t41 t42,w36.cell? (a9.add 1)=some (.slice t40 t41 t42)/\
∃t43 t44 t45,w36.cell? (a11.add 1)=some (.slice t43 t44 t45)/\
Calls Tryz.prog 343 #[.slice t40 t41 t42,.slice t43 t44 t45] w36 λ e46 w47=>∃t48,e46=.returned (.int .i64 t48)/\
∃t49,w47.cell? (a9.add 0)=some (.bool t49)/\
bsel t49 (
Q (.int .i64 (IntKind.wrap .i64 (0-t48))) w47) (
Q (.int .i64 t48) w47))
def V303_ann:Nat->Ann:=λ _=>⟨[],[]⟩
theorem V303_sound (x1 x2 x3 x4 x5 x6 x7 x8 w Q) (h:V303 x1 x2 x3 x4 x5 x6 x7 x8 w Q):Calls Tryz.prog 303 #[.agg #[.bool x1,.slice x2 x3 x4],.agg #[.bool x5,.slice x6 x7 x8]] w λ e w'=>∃v,e=.returned v/\Q v w':=
 sound_of Tryz.func303 V303_ann rfl (Eq.mpr (by kernel_rfl) h)
def V343 (x1:Option Addr) (x2 x3:Nat) (x4:Option Addr) (x5 x6:Nat) (w:World) (Q:Value->World->Prop):Prop:=
bsel ((x2:Int) != (x5:Int)) (
bsel (decide ((x2:Int)<(x5:Int))) (
Q (.int .i64 (-1)) w) (
Q (.int .i64 1) w)) (
∃(I7:Int->World->Prop) (μ8:Int->World->Nat),I7 (IntKind.wrap .i64 ((x2:Int)-1)) w/\∀(j11:Fr) (i9:Int) (w10:World),I7 i9 w10->
bsel (decide (i9>=0)) (
idxK x1 x2 i9 1 λ a12=>
∃t13,w10.drew.cell? a12=some (.int .u32 t13)/\
idxK x4 x5 i9 1 λ a14=>
∃t15,w10.drew.cell? a14=some (.int .u32 t15)/\
bsel (decide (t13<t15)) (
Q (.int .i64 (-1)) w10.drew) (
idxK x1 x2 i9 1 λ a16=>
∃t17,w10.drew.drew.cell? a16=some (.int .u32 t17)/\
idxK x4 x5 i9 1 λ a18=>
∃t19,w10.drew.drew.cell? a18=some (.int .u32 t19)/\
bsel (decide (t17>t19)) (
Q (.int .i64 1) w10.drew.drew) (
(I7 (IntKind.wrap .i64 (i9-1)) w10.drew.drew/\μ8 (IntKind.wrap .i64 (i9-1)) w10.drew.drew<μ8 i9 w10)))) (
Q (.int .i64 0) w10))
def V343_ann:Nat->Ann:=λ k=>match k with | 0=>⟨[0,1],[(5,.int .i64)]⟩ | _=>⟨[],[]⟩
theorem V343_sound (x1 x2 x3 x4 x5 x6 w Q) (h:V343 x1 x2 x3 x4 x5 x6 w Q):Calls Tryz.prog 343 #[.slice x1 x2 x3,.slice x4 x5 x6] w λ e w'=>∃v,e=.returned v/\Q v w':=
 sound_of Tryz.func343 V343_ann rfl (Eq.mpr (by kernel_rfl) h)
def V305J1 (Q:Value->World->Prop) (x32 x33:Int) (x34:Bool) (w35:World):Prop:=
bsel x34 (
Q (.tuple #[.int .i64 (IntKind.wrap .i64 (IntKind.wrap .u64 (IntKind.wrap .u64 x32-x33))),.int .i64 0]) w35) (
Q (.tuple #[.int .i64 (IntKind.wrap .i64 x33),.int .i64 0]) w35)
def V305J2 (Q:Value->World->Prop) (x8:Int) (x9:Addr) (x10:Bool) (w11:World):Prop:=
bsel x10 (
Q (.tuple #[.int .i64 0,.int .i64 1]) w11) (
∃t12 t13 t14,w11.cell? (x9.add 1)=some (.slice t12 t13 t14)/\
∃(I15:Int->Int->World->Prop) (μ16:Int->Int->World->Nat),I15 0 (IntKind.wrap .i64 (IntKind.wrap .i64 (32*(t13:Int))-1)) w11/\∀(j20:Fr) (i17:Int) (i18:Int) (w19:World),I15 i17 i18 w19->
bsel (decide (i18>=0)) (
∃t21 t22 t23,w19.cell? (x9.add 1)=some (.slice t21 t22 t23)/\
((32:Int)≠0)/\
idxK t21 t22 (IntKind.wrap .i64 (Int.tdiv i18 32)) 1 λ a24=>
∃t25,w19.cell? a24=some (.int .u32 t25)/\
((32:Int)≠0)/\
((0:Int)<=Int.tmod i18 32)/\
bsel (decide (IntKind.wrap .u64 (IntKind.wrap .u64 (2*i17)+IntKind.wrap .u64 (bAnd .u32 (shr .u32 t25 (Int.tmod i18 32)) 1))>=IntKind.wrap .u64 x8)) (
(I15 (IntKind.wrap .u64 (IntKind.wrap .u64 (IntKind.wrap .u64 (2*i17)+IntKind.wrap .u64 (bAnd .u32 (shr .u32 t25 (Int.tmod i18 32)) 1))-IntKind.wrap .u64 x8)) (IntKind.wrap .i64 (i18-1)) w19/\μ16 (IntKind.wrap .u64 (IntKind.wrap .u64 (IntKind.wrap .u64 (2*i17)+IntKind.wrap .u64 (bAnd .u32 (shr .u32 t25 (Int.tmod i18 32)) 1))-IntKind.wrap .u64 x8)) (IntKind.wrap .i64 (i18-1)) w19<μ16 i17 i18 w19)) (
(I15 (IntKind.wrap .u64 (IntKind.wrap .u64 (2*i17)+IntKind.wrap .u64 (bAnd .u32 (shr .u32 t25 (Int.tmod i18 32)) 1))) (IntKind.wrap .i64 (i18-1)) w19/\μ16 (IntKind.wrap .u64 (IntKind.wrap .u64 (2*i17)+IntKind.wrap .u64 (bAnd .u32 (shr .u32 t25 (Int.tmod i18 32)) 1))) (IntKind.wrap .i64 (i18-1)) w19<μ16 i17 i18 w19))) (
∃t31,w19.cell? (x9.add 0)=some (.bool t31)/\
bsel t31 (
V305J1 Q x8 i17 (decide (i17>0)) w19) (
V305J1 Q x8 i17 false w19)))
def V305 (x1:Bool) (x2:Option Addr) (x3 x4:Nat) (x5:Int) (w:World) (Q:Value->World->Prop):Prop:=
newK w #[.bool x1,.slice x2 x3 x4] 40 λ a6 w7=>
bsel (decide (x5<1)) (
V305J2 Q x5 a6 true w7) (
V305J2 Q x5 a6 (decide (x5>4611686018427387904)) w7)
def V305_ann:Nat->Ann:=λ k=>match k with | 0=>⟨[1,2],[(6,.int .u64),(7,.int .i64)]⟩ | _=>⟨[],[]⟩
theorem V305_sound (x1 x2 x3 x4 x5 w Q) (h:V305 x1 x2 x3 x4 x5 w Q):Calls Tryz.prog 305 #[.agg #[.bool x1,.slice x2 x3 x4],.int .i64 x5] w λ e w'=>∃v,e=.returned v/\Q v w':=
 sound_of Tryz.func305 V305_ann rfl (Eq.mpr (by kernel_rfl) h)
def V306 (x1 x2:Int) (w:World) (Q:Value->World->Prop):Prop:=
bsel (IntKind.wrap .i64 x1 == (-1)) (
Q (.int .i64 x2) w) (
Q (.int .i64 (IntKind.wrap .i64 x1)) w)
def V306_ann:Nat->Ann:=λ _=>⟨[],[]⟩
theorem V306_sound (x1 x2 w Q) (h:V306 x1 x2 w Q):Calls Tryz.prog 306 #[.int .u64 x1,.int .i64 x2] w λ e w'=>∃v,e=.returned v/\Q v w':=
 sound_of Tryz.func306 V306_ann rfl (Eq.mpr (by kernel_rfl) h)
def V249J1 (Q:Value->World->Prop) (x15:Int) (w16:World):Prop:=
Calls Tryz.prog 306 #[.int .u64 (IntKind.wrap .u64 x15),.int .i64 (-2)] w16 λ e17 w18=>∃t19,e17=.returned (.int .i64 t19)/\
Q (.int .i64 t19) w18
def V249 (x1:Bool) (x2:Option Addr) (x3 x4:Nat) (w:World) (Q:Value->World->Prop):Prop:=
newK w #[.bool x1,.slice x2 x3 x4] 40 λ a5 w6=>
∃t7 t8 t9,w6.cell? (a5.add 1)=some (.slice t7 t8 t9)/\
Calls Tryz.prog 305 #[.agg #[.bool false,.slice t7 t8 t9],.int .i64 2305843009213693951] w6 λ e10 w11=>∃t12 t13,e10=.returned (.tuple #[.int .i64 t12,.int .i64 t13])/\
∃t14,w11.cell? (a5.add 0)=some (.bool t14)/\
bsel t14 (
V249J1 Q (IntKind.wrap .i64 (0-t12)) w11) (
V249J1 Q t12 w11)
def V249_ann:Nat->Ann:=λ _=>⟨[],[]⟩
theorem V249_sound (x1 x2 x3 x4 w Q) (h:V249 x1 x2 x3 x4 w Q):Calls Tryz.prog 249 #[.agg #[.bool x1,.slice x2 x3 x4]] w λ e w'=>∃v,e=.returned v/\Q v w':=
 sound_of Tryz.func249 V249_ann rfl (Eq.mpr (by kernel_rfl) h)
def V252 (x1:ByteArray) (w:World) (Q:Value->World->Prop):Prop:=
∃(I2:Int->Int->World->Prop) (μ3:Int->Int->World->Nat),I2 14695981039346656037 0 w/\∀(j7:Fr) (i4:Int) (i5:Int) (w6:World),I2 i4 i5 w6->
bsel (decide (i5<(x1.size:Int))) (
sidxK x1 i5 λ c8=>
(I2 (IntKind.wrap .u64 (bXor .u64 i4 (IntKind.wrap .u64 c8)*1099511628211)) (IntKind.wrap .i64 (i5+1)) w6/\μ3 (IntKind.wrap .u64 (bXor .u64 i4 (IntKind.wrap .u64 c8)*1099511628211)) (IntKind.wrap .i64 (i5+1)) w6<μ3 i4 i5 w6)) (
Calls Tryz.prog 306 #[.int .u64 i4,.int .i64 (-2)] w6 λ e9 w10=>∃t11,e9=.returned (.int .i64 t11)/\
Q (.int .i64 t11) w10)
def V252_ann:Nat->Ann:=λ k=>match k with | 0=>⟨[0],[(3,.int .u64),(4,.int .i64)]⟩ | _=>⟨[],[]⟩
theorem V252_sound (x1 w Q) (h:V252 x1 w Q):Calls Tryz.prog 252 #[.string x1] w λ e w'=>∃v,e=.returned v/\Q v w':=
 sound_of Tryz.func252 V252_ann rfl (Eq.mpr (by kernel_rfl) h)
def V253 (x1:Int) (w:World) (Q:Value->World->Prop):Prop:=
((0:Int)<=4)/\
((0:Int)<=60)/\
Calls Tryz.prog 306 #[.int .u64 (bOr .u64 (shr .u64 (IntKind.wrap .u64 x1) 4) (shl .u64 (IntKind.wrap .u64 x1) 60)),.int .i64 (-2)] w λ e2 w3=>∃t4,e2=.returned (.int .i64 t4)/\
Q (.int .i64 t4) w3
def V253_ann:Nat->Ann:=λ _=>⟨[],[]⟩
theorem V253_sound (x1 w Q) (h:V253 x1 w Q):Calls Tryz.prog 253 #[.int .i64 x1] w λ e w'=>∃v,e=.returned v/\Q v w':=
 sound_of Tryz.func253 V253_ann rfl (Eq.mpr (by kernel_rfl) h)
end Go.Fw

namespace Go.Fw
open Go.Proofs Go.RowKit
theorem appendWords {w:World} {a:Option Addr} {ms:List Int} {c:Nat} (h:WordsAt w a ms) (hl:ms.length<1000000000000) {K:World->Option Addr->Nat->Nat->Prop}
  (hK:∀w' a' c',NewWords w.heap.size w' (.slice a' ms.length c') ms->Keep No w w'->K w' a' ms.length c') :
  ∃w':World,∃a':Option Addr,∃l:Nat,∃c':Nat,(vcEff.bltV .append #[38,38] 38 #[.slice none 0 0,.slice a ms.length c]).run Tryz.prog w=.ok (.slice a' l c') w'/\K w' a' l c':=by
 obtain ⟨i,hi,hi1,hi2,z,hz,hz1⟩:=infoU32
 cases a with
 | none=>
  have h0:ms=[]:=h.none_nil
  subst h0
  have hr:∀c,(Builtin.append_ #[38,38] 38 #[.slice none 0 0,.slice none 0 c]).run Tryz.prog w=.ok (.slice none 0 0) w:=λ c=>by
   simp [Builtin.append_,run_underlying Tryz.underlying38,sizeOf,typeInfo,hi,Builtin.lenOf,Builtin.firstCells]
  exact ⟨w,none,0,0,hr c,hK w none 0 ⟨none,0,rfl,λ i m hm=>by simp at hm,Nat.le_refl _,λ p hp=>by cases hp⟩ (Keep.refl _ _)⟩
 | some p=>
  obtain ⟨v',w',hr,h2,h3,h4,h5⟩:=run_append_own_at (P:=Tryz.prog) w w.heap.size 38 38 45 i z 1 4 Tryz.underlying38 hi hz hi1 hi2 hz1 (by omega) (.slice none 0 0) 0 [] (World.ownsRow_nil _ _ _ _) p ms.length c (ms.map (.int .u32)) (by simp)
   (by
    intro j u hj
    obtain ⟨m,hm,rfl⟩:∃m,ms[j]?=some m/\Value.int .u32 m=u:=by simpa using hj
    obtain ⟨q,hq,hc⟩:=h j m hm
    cases hq
    exact hc) (by intro u hu;obtain ⟨m,_,rfl⟩:=List.mem_map.1 hu;rfl) (by simp [maxLen];omega) (by omega) (Nat.le_refl _)
  rw [Nat.zero_add,List.nil_append] at h2
  obtain ⟨a',c',rfl⟩:=ownsRow_slice h2
  refine ⟨w',_,_,_,hr,hK w' a' c' (NewWords.of_row h2 rfl) ((Keep.of_grown h3).mono λ k _ hk=>by simp [Value.ownBlock] at hk)⟩
theorem C302 {w:World} {a:Option Addr} {ms:List Int} {c:Nat} (h:WordsAt w a ms) (hc:ms.length<=c) (hl:ms.length<1000000000000) :
  Calls Tryz.prog 302 #[.slice a ms.length c] w λ e w'=>∃v,e=.returned v/\NewWords w.heap.size w' v (trimmed ms)/\Keep No w w':=by
 refine V302_sound a ms.length c w (λ v w'=>NewWords w.heap.size w' v (trimmed ms)/\Keep No w w') ?_
 unfold V302
 have hend:∀n:Nat,n<=ms.length->trimN ms ms.length=n->slcK a c 0 (n:Int) 1 λ t17 t18 t19=>∃w20:World,∃t21:Option Addr,∃t22:Nat,∃t23:Nat,(vcEff.bltV .append #[38,38] 38 #[.slice none 0 0,.slice t17 t18 t19]).run Tryz.prog w=.ok (.slice t21 t22 t23) w20/\(NewWords w.heap.size w20 (.slice t21 t22 t23) (trimmed ms)/\Keep No w w20):=by
  intro n hn ht
  refine ⟨⟨by omega,by omega,by omega⟩,?_⟩
  have htl:(trimmed ms).length=n:=by unfold trimmed;rw [List.length_take,ht];omega
  have hw:WordsAt w (if (c:Int)=0 then a else a.map (·.add ((0:Int).toNat*1))) (trimmed ms):=by
   have h1:WordsAt w a (trimmed ms):=h.take _
   split
   ·exact h1
   ·cases a with
    | none=>exact h1
    | some p=>simpa [add_zero'] using h1
  have:=appendWords (c:=c-(0:Int).toNat) hw (by rw [htl];omega) (K:=λ w' a' l c'=>NewWords w.heap.size w' (.slice a' l c') (trimmed ms)/\Keep No w w') (λ w' a' c' h1 h2=>⟨h1,h2⟩)
  rw [htl] at this
  simpa using this
 refine ⟨λ n w'=>w'=w/\0<=n/\n<=ms.length/\trimN ms n.toNat=trimN ms ms.length,λ n _=>n.toNat,⟨rfl,by omega,by omega,by simp⟩,?_⟩
 rintro _ n _ ⟨rfl,hn0,hn,ht⟩
 refine bsel_split (λ hp=>?_) λ hp=>?_
 ·simp at hp
  obtain ⟨k,rfl⟩:∃k:Nat,n=(k:Int)+1:=⟨n.toNat-1,by omega⟩
  obtain ⟨m,hm⟩:∃m,ms[k]?=some m:=⟨_,List.getElem?_eq_getElem (by omega)⟩
  obtain ⟨p,rfl,hcell⟩:=h k m hm
  have hw:IntKind.wrap .i64 ((k:Int)+1-1)=(k:Int):=by rw [wrap_i64 (by omega)];omega
  rw [hw]
  rw [show ((k:Int)+1).toNat=k+1 by omega,trimN_succ,hm] at ht
  refine idxK_of (by omega) ⟨m,by simpa using hcell,?_⟩
  unfold V302J1
  rw [hw]
  refine bsel_split (λ h0=>?_) λ h0=>?_
  ·simp at h0
   subst h0
   refine ⟨⟨rfl,by omega,by omega,?_⟩,by simp only;omega⟩
   rw [if_pos rfl] at ht
   rw [<-ht];simp
  ·simp at h0
   rw [if_neg (by simpa using h0)] at ht
   exact hend (k+1) (by omega) ht.symm
 ·simp at hp
  obtain rfl:n=0:=by omega
  unfold V302J1
  exact bsel_neg rfl (hend 0 (by omega) (by rw [<-ht];rfl))
theorem isEmpty_len (l:List Int):(decide ((l.length:Int)>0))=!l.isEmpty:=by cases l <;> simp <;> omega
theorem C243 {w:World} {x:Bool} {a:Option Addr} {ms:List Int} {c:Nat} (h:WordsAt w a ms) (hc:ms.length<=c) (hl:ms.length<1000000000000) :
  Calls Tryz.prog 243 #[.bool x,.slice a ms.length c] w λ e w'=>∃v,e=.returned v/\FormAt w.heap.size w' v x ms/\Keep No w w':=by
 refine V243_sound x a ms.length c w (λ v w'=>FormAt w.heap.size w' v x ms/\Keep No w w') ?_
 unfold V243
 refine newK_of λ b w1 hb hbb hk=>(C302 (h.no hk) hc hl).mono ?_
 rintro _ w2 ⟨v,rfl,hv,hk2⟩
 obtain ⟨a',c',rfl,hv2⟩:=id hv
 have hb2:=hk2.nblk hbb
 have hfin:∀(y:Bool),y=(x && !(trimmed ms).isEmpty)->stK w2 ((⟨b,0,none⟩:Addr).add 0) (.bool y) λ w12=>stK w12 ((⟨b,0,none⟩:Addr).add 1) (.slice a' (trimmed ms).length c') λ w13=>∃t20:Bool,∃t21:Option Addr,∃t22:Nat,∃t23:Nat,CellsAt w13 ⟨b,0,none⟩ [.bool t20,.slice t21 t22 t23]/\(FormAt w.heap.size w13 (.agg #[.bool t20,.slice t21 t22 t23]) x ms/\Keep No w w13):=by
  intro y hy
  refine stK_add hb2 (by simp) λ w3 hb3 hk3=>stK_add hb3 (by simp) λ w4 hb4 hk4=>?_
  have hs:=hk.size
  refine ⟨_,_,_,_,hb4.cells0,⟨.slice a' (trimmed ms).length c',?_,by rw [hy]⟩,((hk.no hk2).news hk3 (by rintro k rfl;omega)).news hk4 (by rintro k rfl;omega)⟩
  exact ((hv.one hb2 (by decide) hk3).one hb3 (by decide) hk4).mono hs
 refine ⟨_,_,_,rfl,bsel_split (λ hx=>?_) λ hx=>?_⟩
 ·exact hfin _ (by rw [hx,isEmpty_len];rfl)
 ·exact hfin _ (by rw [hx];rfl)
theorem C180 {w:World} {x:Bool} {a:Option Addr} {ms:List Int} {c:Nat} (h:WordsAt w a ms) (hc:ms.length<=c) (hl:ms.length<1000000000000) :
  Calls Tryz.prog 180 #[.agg #[.bool x,.slice a ms.length c]] w λ e w'=>∃v,e=.returned v/\FormAt w.heap.size w' v x ms/\Keep No w w':=by
 refine V180_sound x a ms.length c w (λ v w'=>FormAt w.heap.size w' v x ms/\Keep No w w') ?_
 unfold V180
 refine newK_of λ b w1 hb hbb hk=>newK_of λ b2 w2 hb2 hbb2 hk2=>?_
 have hkk:=hk.no hk2
 have hbx:=hk2.nblk hbb
 refine ⟨_,hbx.add 0 rfl,_,_,_,hbx.add 1 rfl,(C243 (h.no hkk) hc hl).mono ?_⟩
 rintro _ w3 ⟨v,rfl,hv,hk3⟩
 obtain ⟨a',c',rfl,_⟩:=hv.cells
 refine ⟨_,_,_,_,rfl,?_⟩
 have hs:=hkk.size
 have hs1:=hk.size
 refine stK_add (hk3.nblk hbb2) (by simp) λ w4 hb4 hk4=>stK_add hb4 (by simp) λ w5 hb5 hk5=>?_
 refine ⟨_,_,_,_,hb5.cells0,?_,((hkk.no hk3).news hk4 (by rintro k rfl;omega)).news hk5 (by rintro k rfl;omega)⟩
 exact ((hv.one (hk3.nblk hbb2) (by decide) hk4).one hb4 (by decide) hk5).mono hs
def ofWords (n:Int):List Int:=[IntKind.wrap .u32 (if n<0 then IntKind.wrap .u64 (0-IntKind.wrap .u64 n) else IntKind.wrap .u64 n),IntKind.wrap .u32 (shr .u64 (if n<0 then IntKind.wrap .u64 (0-IntKind.wrap .u64 n) else IntKind.wrap .u64 n) 32)]
theorem C250 (n:Int) (w:World):Calls Tryz.prog 250 #[.int .i64 n] w λ e w'=>∃v,e=.returned v/\FormAt w.heap.size w' v (decide (n<0)) (ofWords n)/\Keep No w w':=by
 refine V250_sound n w (λ v w'=>FormAt w.heap.size w' v (decide (n<0)) (ofWords n)/\Keep No w w') ?_
 unfold V250
 refine newK_of λ b w1 hb hbb hk=>?_
 have hJ:∀u:Int,u=(if n<0 then IntKind.wrap .u64 (0-IntKind.wrap .u64 n) else IntKind.wrap .u64 n)->V250J1 (λ v w'=>FormAt w.heap.size w' v (decide (n<0)) (ofWords n)/\Keep No w w') n ⟨b,0,none⟩ u w1:=by
  intro u hu
  unfold V250J1
  refine ⟨by omega,newK_of λ b2 w2 hb2 hbb2 hk2=>?_⟩
  have hkk:=hk.no hk2
  have hw:WordsAt w2 (some ⟨b2,0,none⟩) (ofWords n):=by
   intro i m hm
   refine ⟨_,rfl,hbb2.add i ?_⟩
   unfold ofWords at hm
   rw [<-hu] at hm
   rcases i with _ | _ | i
   ·cases hm;rfl
   ·cases hm;rfl
   ·simp at hm
  refine (C243 hw (c:=2) (by simp [ofWords]) (by simp [ofWords])).mono ?_
  rintro _ w3 ⟨v,rfl,hv,hk3⟩
  obtain ⟨a',c',rfl,_⟩:=hv.cells
  have hb3:=hk3.nblk (hk2.nblk hbb)
  refine ⟨_,_,_,_,rfl,stK_add hb3 (by simp) λ w4 hb4 hk4=>stK_add hb4 (by simp) λ w5 hb5 hk5=>?_⟩
  have hs:=hkk.size
  exact ⟨_,_,_,_,hb5.cells0,((hv.one hb3 (by decide) hk4).one hb4 (by decide) hk5).mono hs,((hkk.no hk3).news hk4 (by rintro k rfl;omega)).news hk5 (by rintro k rfl;omega)⟩
 refine bsel_split (λ h0=>hJ _ ?_) λ h0=>hJ _ ?_
 ·rw [if_pos (by simpa using h0)]
 ·rw [if_neg (by simpa using h0)]
theorem C343 {w:World} {a a2:Option Addr} {ms ms2:List Int} {c c2:Nat} (h:WordsAt w a ms) (h2:WordsAt w a2 ms2) (hl:ms.length<1000000000000) :
  Calls Tryz.prog 343 #[.slice a ms.length c,.slice a2 ms2.length c2] w λ e w'=>∃r:Int,e=.returned (.int .i64 r)/\(r=0↔ms=ms2)/\(-1<=r/\r<=1)/\Keep No w w':=by
 refine (V343_sound a ms.length c a2 ms2.length c2 w (λ v w'=>∃r:Int,v=.int .i64 r/\(r=0↔ms=ms2)/\(-1<=r/\r<=1)/\Keep No w w') ?_).mono (by rintro _ _ ⟨_,rfl,r,rfl,h⟩;exact ⟨r,rfl,h⟩)
 unfold V343
 refine bsel_split (λ hne=>?_) λ heq=>?_
 ·have hne:ms≠ms2:=by
   intro e
   simp [e] at hne
  exact bsel_split (λ _=>⟨-1,rfl,by simp [hne],by omega,Keep.refl _ _⟩) λ _=>⟨1,rfl,by simp [hne],by omega,Keep.refl _ _⟩
 ·simp at heq
  replace heq:ms.length=ms2.length:=by omega
  refine ⟨λ i w'=>-1<=i/\i<ms.length/\(∀j:Nat,i<j->ms[j]?=ms2[j]?)/\Keep No w w',λ i _=>(i+1).toNat,⟨?_,?_,λ j hj=>?_,Keep.refl _ _⟩,?_⟩
  ·rw [wrap_i64 (by omega)];omega
  ·rw [wrap_i64 (by omega)];omega
  ·rw [wrap_i64 (by omega)] at hj
   rw [List.getElem?_eq_none (by omega),List.getElem?_eq_none (by omega)]
  rintro _ i w' ⟨hi1,hi2,hall,hk⟩
  refine bsel_split (λ hge=>?_) λ hlt=>?_
  ·simp at hge
   obtain ⟨n,rfl⟩:=Int.eq_ofNat_of_zero_le hge
   have hn:n<ms.length:=by omega
   obtain ⟨x,hx⟩:∃x,ms[n]?=some x:=⟨_,List.getElem?_eq_getElem hn⟩
   obtain ⟨y,hy⟩:∃y,ms2[n]?=some y:=⟨_,List.getElem?_eq_getElem (by omega)⟩
   obtain ⟨p,rfl,hcx⟩:=h n x hx
   obtain ⟨q,rfl,hcy⟩:=h2 n y hy
   have hkd:=hk.no (Keep.drawn w')
   have hkdd:=hkd.no (Keep.drawn w'.drew)
   refine idxK_of hn ⟨x,by simpa using hkd.cell hcx id,idxK_of (by omega) ⟨y,by simpa using hkd.cell hcy id,?_⟩⟩
   have hne:x≠y->ms≠ms2:=λ hxy e=>by
    rw [e,hy] at hx
    exact hxy (Option.some.inj hx).symm
   refine bsel_split (λ hl=>⟨-1,rfl,?_,by omega,hkd⟩) λ hnl=>?_
   ·simp at hl
    simp [hne (by omega)]
   ·refine idxK_of hn ⟨x,by simpa using hkdd.cell hcx id,idxK_of (by omega) ⟨y,by simpa using hkdd.cell hcy id,?_⟩⟩
    refine bsel_split (λ hl=>⟨1,rfl,?_,by omega,hkdd⟩) λ hng=>?_
    ·simp at hl
     simp [hne (by omega)]
    ·simp at hnl hng
     have hxy:x=y:=by omega
     rw [wrap_i64 (by omega)]
     refine ⟨⟨by omega,by omega,λ j hj=>?_,hkdd⟩,by simp only;omega⟩
     by_cases hjn:j=n
     ·subst hjn;rw [hx,hy,hxy]
     ·exact hall j (by omega)
  ·simp at hlt
   refine ⟨0,rfl,⟨λ _=>List.ext_getElem? λ j=>hall j (by omega),λ _=>rfl⟩,by omega,hk⟩
theorem C303 {w:World} {x x2:Bool} {a a2:Option Addr} {ms ms2:List Int} {c c2:Nat} (h:WordsAt w a ms) (hc:ms.length<=c) (hl:ms.length<1000000000000) (h2:WordsAt w a2 ms2) (hc2:ms2.length<=c2) (hl2:ms2.length<1000000000000) :
  Calls Tryz.prog 303 #[.agg #[.bool x,.slice a ms.length c],.agg #[.bool x2,.slice a2 ms2.length c2]] w λ e w'=>∃r:Int,e=.returned (.int .i64 r)/\(r=0↔(sgnI x ms=sgnI x2 ms2/\trimmed ms=trimmed ms2))/\Keep No w w':=by
 refine (V303_sound x a ms.length c x2 a2 ms2.length c2 w (λ v w'=>∃r:Int,v=.int .i64 r/\(r=0↔(sgnI x ms=sgnI x2 ms2/\trimmed ms=trimmed ms2))/\Keep No w w') ?_).mono (by rintro _ _ ⟨_,rfl,r,rfl,h⟩;exact ⟨r,rfl,h⟩)
 unfold V303
 refine newK_of λ b w1 hb hbb hk=>newK_of λ b2 w2 hb2 hbb2 hk2=>?_
 have hkk:=hk.no hk2
 have hbx:=hk2.nblk hbb
 refine ⟨_,_,_,_,hbx.cells0,(C180 (h.no hkk) hc hl).mono ?_⟩
 rintro _ w3 ⟨v,rfl,hv,hk3⟩
 obtain ⟨va,vc,rfl,hvw,hvc⟩:=hv.cells
 refine ⟨_,_,_,_,rfl,?_⟩
 have hne:b2≠b:=by have:=hbb.lt;omega
 refine stK_add (hk3.nblk hbx) (by simp) λ w4 hb4 hk4=>stK_add hb4 (by simp) λ w5 hb5 hk5=>?_
 have hv5:=(hv.one (hk3.nblk hbx) (by decide) hk4).one hb4 (by decide) hk5
 have hkb:Keep (λ k=>k=b) w3 w5:=hk4.trans hk5 λ _ _ e=>e
 have hk05:Keep No w w5:=(hkk.no hk3).news hkb (by rintro k rfl;omega)
 have hb25:=hkb.blk (hk3.nblk hbb2) hne
 refine ⟨_,_,_,_,hb25.cells0,(C180 (h2.no hk05) hc2 hl2).mono ?_⟩
 rintro _ w6 ⟨u,rfl,hu,hk6⟩
 obtain ⟨ua,uc,rfl,huw,huc⟩:=hu.cells
 refine ⟨_,_,_,_,rfl,?_⟩
 refine stK_add (hk6.nblk hb25) (by simp) λ w7 hb7 hk7=>stK_add hb7 (by simp) λ w8 hb8 hk8=>?_
 have hu8:=(hu.one (hk6.nblk hb25) (by decide) hk7).one hb7 (by decide) hk8
 have hv8:=((hv5.no hk6).one (hk6.nblk hb25) (by decide) hk7).one hb7 (by decide) hk8
 have hkc:Keep (λ k=>k=b2) w6 w8:=hk7.trans hk8 λ _ _ e=>e
 have hbb8:=hkc.blk (hk6.nblk hb5) (λ e=>hne e.symm)
 have hk08:Keep No w w8:=(hk05.no hk6).news hkc (by rintro k rfl;have:=hk.size;omega)
 obtain ⟨_,_,hve,hvw8,_⟩:=hv8.cells
 cases hve
 obtain ⟨_,_,hue,huw8,_⟩:=hu8.cells
 cases hue
 have hs1:∀(x:Bool) (ms:List Int),(x && !(trimmed ms).isEmpty)=true↔sgnI x ms=-1:=by
  intro x ms
  unfold sgnI
  cases hm:trimmed ms <;> cases x <;> simp
 have hs2:∀(x:Bool) (ms:List Int),sgnI x ms=-1\/sgnI x ms=if trimmed ms=[] then 0 else 1:=by
  intro x ms
  unfold sgnI
  cases hm:trimmed ms <;> cases x <;> simp
 have hf:=hs1 x ms
 have hg:=hs1 x2 ms2
 refine ⟨_,hbb8.add 0 rfl,_,hb8.add 0 rfl,bsel_split (λ hd=>?_) λ hd=>?_⟩
 ·have hd:(x && !(trimmed ms).isEmpty)≠(x2 && !(trimmed ms2).isEmpty):=by simpa using hd
  have hno:¬(sgnI x ms=sgnI x2 ms2/\trimmed ms=trimmed ms2):=by
   rintro ⟨e1,_⟩
   apply hd
   rw [Bool.eq_iff_iff,hf,hg,e1]
  refine ⟨_,hbb8.add 0 rfl,bsel_split (λ _=>⟨-1,rfl,by simp [hno],hk08⟩) λ _=>⟨1,rfl,by simp [hno],hk08⟩⟩
 ·have hd:(x && !(trimmed ms).isEmpty)=(x2 && !(trimmed ms2).isEmpty):=by simpa using hd
  have ht1:=trimmed_length_le ms
  refine ⟨_,_,_,hbb8.add 1 rfl,_,_,_,hb8.add 1 rfl,(C343 hvw8 huw8 (by omega)).mono ?_⟩
  rintro _ w9 ⟨r,rfl,hr0,hr1,hk9⟩
  have hfin:(trimmed ms=trimmed ms2)↔(sgnI x ms=sgnI x2 ms2/\trimmed ms=trimmed ms2):=by
   refine ⟨λ e=>⟨?_,e⟩,λ e=>e.2⟩
   rw [hd,hg] at hf
   rcases hs2 x ms with q | q
   ·rw [q,hf.2 q]
   ·rcases hs2 x2 ms2 with q2 | q2
    ·have:=hf.1 q2;rw [this,q2]
    ·rw [q,q2,e]
  refine ⟨_,rfl,_,(hk9.nblk hbb8).add 0 rfl,bsel_split (λ _=>⟨_,rfl,?_,hk08.no hk9⟩) λ _=>⟨r,rfl,hr0.trans hfin,hk08.no hk9⟩⟩
  rw [<-hfin,<-hr0,wrap_i64 (by omega)]
  omega
end Go.Fw

namespace Go.Fw
def valL:List Int->Nat
 | []=>0
 | m :: ms=>m.toNat+4294967296*valL ms
theorem valL_drop (B:Nat) (hB:B=4294967296):∀(k:Nat) (ms:List Int),(∀m ∈ ms,0<=m/\m<4294967296)->valL ms / B ^ k=valL (ms.drop k)
 | 0,ms,_=>by simp
 | k+1,[],_=>by simp [valL]
 | k+1,m :: ms,h=>by
  have h1:=h m (List.mem_cons_self ..)
  have ih:=valL_drop B hB k ms λ x hx=>h x (List.mem_cons_of_mem _ hx)
  rw [List.drop_succ_cons,<-ih,Nat.pow_succ,Nat.mul_comm,<-Nat.div_div_eq_div_mul]
  congr 1
  show (m.toNat+4294967296*valL ms) / B=valL ms
  rw [<-hB]
  rw [Nat.add_mul_div_left _ _ (by omega),Nat.div_eq_of_lt (by omega),Nat.zero_add]
theorem bit_of (m R j:Nat) (hj:j<32):(m+2 ^ 32*R) / 2 ^ j % 2=m / 2 ^ j % 2:=by
 have e:2 ^ 32*R=2 ^ j*(2 ^ (32-j)*R):=by
  rw [<-Nat.mul_assoc,<-Nat.pow_add]
  congr 2
  omega
 rw [e,Nat.add_mul_div_left _ _ (Nat.pow_pos (by decide))]
 have e2:2 ^ (32-j)*R=2*(2 ^ (31-j)*R):=by
  rw [<-Nat.mul_assoc,<-Nat.pow_succ']
  congr 2
  omega
 rw [e2]
 omega
theorem valL_bit {ms:List Int} (h:∀m ∈ ms,0<=m/\m<4294967296) {i:Nat} {m:Int} (hm:ms[i / 32]?=some m):valL ms / 2 ^ i % 2=m.toNat / 2 ^ (i % 32) % 2:=by
 have e:2 ^ i=4294967296 ^ (i / 32)*2 ^ (i % 32):=by
  have:(4294967296:Nat)=2 ^ 32:=by decide
  rw [this,<-Nat.pow_mul,<-Nat.pow_add]
  congr 1
  omega
 rw [e,<-Nat.div_div_eq_div_mul,valL_drop _ rfl _ _ h]
 obtain ⟨hl,hg⟩:=List.getElem?_eq_some_iff.1 hm
 rw [List.drop_eq_getElem_cons hl,hg]
 show (m.toNat+4294967296*valL (ms.drop (i / 32+1))) / 2 ^ (i % 32) % 2=_
 exact bit_of _ _ _ (Nat.mod_lt _ (by decide))
theorem valL_top (ms:List Int) (h:∀m ∈ ms,0<=m/\m<4294967296):valL ms / 2 ^ (32*ms.length)=0:=by
 have e:2 ^ (32*ms.length)=4294967296 ^ ms.length:=by
  have:(4294967296:Nat)=2 ^ 32:=by decide
  rw [this,<-Nat.pow_mul]
 rw [e,valL_drop _ rfl _ _ h]
 simp [valL]
theorem half_step (V M k:Nat) (hM:0<M):(V / 2 ^ k) % M=if 2*(V / 2 ^ (k+1) % M)+V / 2 ^ k % 2>=M then 2*(V / 2 ^ (k+1) % M)+V / 2 ^ k % 2-M else 2*(V / 2 ^ (k+1) % M)+V / 2 ^ k % 2:=by
 have e:V / 2 ^ (k+1)=V / 2 ^ k / 2:=by rw [Nat.pow_succ,Nat.div_div_eq_div_mul]
 rw [e]
 generalize V / 2 ^ k=A
 have h1:A=2*(A / 2)+A % 2:=(Nat.div_add_mod A 2).symm
 have h2:=Nat.mod_lt (A / 2) hM
 have h4:(2*(A / 2 % M)+A % 2) % M=A % M:=by
  conv=>rhs;rw [h1]
  rw [Nat.add_mod,Nat.mul_mod,Nat.mod_mod,<-Nat.mul_mod,<-Nat.add_mod]
 rw [<-h4]
 have hb:A % 2<2:=Nat.mod_lt _ (by decide)
 generalize A / 2 % M=x at *
 generalize A % 2=b at *
 split
 ·rename_i hge
  rw [Nat.mod_eq_sub_mod hge,Nat.mod_eq_of_lt (by omega)]
 ·rename_i hlt
  rw [Nat.mod_eq_of_lt (by omega)]
end Go.Fw

namespace Go.Fw
open Go.Proofs Go.RowKit
theorem u64_nat (n:Nat) (h:n<18446744073709551616):IntKind.wrap .u64 n=n:=by rw [wrap_u64];omega
theorem bit_u32 (m:Nat) (hm:m<4294967296) (j:Nat) (hj:j<32):bAnd .u32 (shr .u32 (m:Int) j) 1=((m / 2 ^ j % 2:Nat):Int):=by
 have hb:IntKind.bits .u32=32:=rfl
 have hs:shr .u32 (m:Int) j=((m / 2 ^ j:Nat):Int):=by
  unfold shr
  rw [show ((2:Int) ^ (min (j:Int).toNat (IntKind.bits .u32)))=((2 ^ j:Nat):Int) by rw [hb,Int.toNat_natCast,Nat.min_eq_left (show j<=32 by omega)];norm_cast]
  rw [Int.fdiv_eq_ediv_of_nonneg _ (Int.natCast_nonneg _)]
  norm_cast
 rw [hs]
 have hlt:m / 2 ^ j<4294967296:=Nat.lt_of_le_of_lt (Nat.div_le_self _ _) hm
 generalize m / 2 ^ j=x at *
 unfold bAnd
 rw [hb,BitVec.ofInt_natCast,show (1:Int)=((1:Nat):Int) from rfl,BitVec.ofInt_natCast,BitVec.toNat_and,BitVec.toNat_ofNat,BitVec.toNat_ofNat]
 rw [Nat.mod_eq_of_lt (show x<2 ^ 32 by omega),Nat.mod_eq_of_lt (show 1<2 ^ 32 by decide),Nat.and_one_is_mod]
 have h2:x % 2<2:=Nat.mod_lt _ (by decide)
 unfold IntKind.wrap
 have hs2:IntKind.signed .u32=false:=rfl
 simp [hb,hs2]
 omega
theorem bOr_comm (k:IntKind) (x y:Int):bOr k x y=bOr k y x:=by
 unfold bOr
 rw [BitVec.or_comm]
theorem C306 (x:Int) (w:World):Calls Tryz.prog 306 #[.int .u64 x,.int .i64 (-2)] w λ e w'=>e=.returned (.int .i64 (hash64 (IntKind.wrap .i64 x)))/\w'=w:=by
 refine ret_mono (V306_sound x (-2) w (λ r w'=>r=.int .i64 (hash64 (IntKind.wrap .i64 x))/\w'=w) ?_) (by rintro _ _ ⟨rfl,h⟩;exact ⟨rfl,h⟩)
 unfold V306 hash64
 refine bsel_split (λ h=>⟨by rw [if_pos (by simpa using h)],rfl⟩) λ h=>⟨by rw [if_neg (by simpa using h)],rfl⟩
theorem C253 (n:Int) (w:World):Calls Tryz.prog 253 #[.int .i64 n] w λ e w'=>e=.returned (.int .i64 (hNumber n))/\w'=w:=by
 refine ret_mono (V253_sound n w (λ r w'=>r=.int .i64 (hNumber n)/\w'=w) ?_) (by rintro _ _ ⟨rfl,h⟩;exact ⟨rfl,h⟩)
 unfold V253
 refine ⟨by decide,by decide,(C306 _ w).mono ?_⟩
 rintro _ w1 ⟨rfl,rfl⟩
 refine ⟨_,rfl,?_,rfl⟩
 unfold hNumber
 rw [bOr_comm]
theorem C252 (s:ByteArray) (hs:s.size<9000000000000000000) (w:World):Calls Tryz.prog 252 #[.string s] w λ e w'=>e=.returned (.int .i64 (hText s))/\w'=w:=by
 refine ret_mono (V252_sound s w (λ r w'=>r=.int .i64 (hText s)/\w'=w) ?_) (by rintro _ _ ⟨rfl,h⟩;exact ⟨rfl,h⟩)
 unfold V252
 refine ⟨λ x i w'=>0<=i/\i<=s.size/\w'=w/\fnv x (s.data.toList.drop i.toNat)=fnv 14695981039346656037 s.data.toList,λ _ i _=>(s.size-i).toNat,⟨by omega,by omega,rfl,rfl⟩,?_⟩
 rintro j x i w1 ⟨hi0,hin,rfl,hf⟩
 have hsz:s.size=s.data.toList.length:=by rw [Array.length_toList];rfl
 refine bsel_split (λ hlt=>?_) λ hge=>?_
 ·have hlt:i<s.size:=by simpa using hlt
  obtain ⟨n,rfl⟩:=Int.eq_ofNat_of_zero_le hi0
  simp only [Int.toNat_natCast] at hf
  have hn:n<s.data.toList.length:=by omega
  refine ⟨s.data.toList[n],⟨by omega,?_⟩,?_⟩
  ·rw [Int.toNat_natCast]
   exact (getElem?_pos s n (by omega)).trans (by rw [Array.getElem_toList];rfl)
  rw [wrap_i64 (n:=(n:Int)+1) (by omega)]
  refine ⟨⟨by omega,by omega,rfl,?_⟩,by simp only;omega⟩
  have e1:((n:Int)+1).toNat=n+1:=by omega
  rw [e1,<-hf,List.drop_eq_getElem_cons hn]
  rfl
 ·have hge:(s.size:Int)<=i:=by simpa using hge
  have:i.toNat=s.data.toList.length:=by omega
  rw [this,List.drop_length] at hf
  refine (C306 _ w1).mono ?_
  rintro _ w2 ⟨rfl,rfl⟩
  refine ⟨_,rfl,?_,rfl⟩
  unfold hText
  rw [<-hf]
  rfl
theorem rstep_val (M:Nat) (hM:M=2305843009213693951) (r:Nat) (m:Int) (h0:0<=m) (h1:m<4294967296):rstep r m=(r*4294967296+m.toNat) % M:=by
 have hu:u64 m=m.toNat:=by
  unfold u64
  omega
 have e1:(r % 4294967296*4294967296) ||| m.toNat=r % 4294967296*4294967296+m.toNat:=or_add _ _ 32 (by omega)
 have e2:r / 4294967296*18446744073709551616+(r % 4294967296*4294967296+m.toNat)=r*4294967296+m.toNat:=by omega
 rw [rstep,hu,e1,e2,hM]
theorem mod_step (M V x:Nat):(V % M*4294967296+x) % M=(x+4294967296*V) % M:=by
 rw [Nat.add_mod,Nat.mul_mod,Nat.mod_mod,<-Nat.mul_mod,<-Nat.add_mod,Nat.add_comm,Nat.mul_comm]
theorem fold_val (st:Nat->Int->Nat) (M:Nat) (hst:∀r m,0<=m->m<4294967296->st r m=(r*4294967296+m.toNat) % M) (ms:List Int):(∀m ∈ ms,0<=m/\m<4294967296)->ms.foldr (λ m r=>st r m) 0=valL ms % M:=by
 induction ms with
 | nil=>intro _;exact (Nat.zero_mod M).symm
 | cons m ms ih=>
  intro h
  have h1:=h m (List.mem_cons_self ..)
  have ih:=ih λ x hx=>h x (List.mem_cons_of_mem _ hx)
  rw [List.foldr_cons,ih,hst _ _ h1.1 h1.2]
  exact mod_step _ _ _
theorem restW_val (M:Nat) (hM:M=2305843009213693951) (ms:List Int) (h:∀m ∈ ms,0<=m/\m<4294967296):restW ms=valL ms % M:=by
 unfold restW
 exact fold_val rstep M (rstep_val M hM) ms h
theorem valL_trim (ms:List Int):∀n,n<=ms.length->valL (ms.take (trimN ms n))=valL (ms.take n)
 | 0,_=>rfl
 | n+1,h=>by
  rw [trimN_succ]
  split
  ·rename_i h0
   rw [valL_trim ms n (by omega)]
   obtain ⟨hl,hg⟩:=List.getElem?_eq_some_iff.1 h0
   rw [List.take_succ_eq_append_getElem hl,hg]
   have:∀l:List Int,valL (l ++ [0])=valL l:=by
    intro l
    induction l with
    | nil=>rfl
    | cons a l ih=>show a.toNat+4294967296*valL (l ++ [0])=_;rw [ih];rfl
   rw [this]
  ·rfl
theorem valL_trimmed (ms:List Int):valL (trimmed ms)=valL ms:=by
 unfold trimmed
 rw [valL_trim ms _ (Nat.le_refl _),List.take_length]
theorem trimmed_mem {ms:List Int} {m:Int} (h:m ∈ trimmed ms):m ∈ ms:=List.mem_of_mem_take h
theorem C305g {w:World} {a:Option Addr} {ms:List Int} {c M:Nat} (h:WordsAt w a ms) (hl:ms.length<1000000000) (hr:∀m ∈ ms,0<=m/\m<4294967296) (hM0:1<=M) (hM:M<=4611686018427387904) :
  Calls Tryz.prog 305 #[.agg #[.bool false,.slice a ms.length c],.int .i64 M] w λ e w'=>e=.returned (.tuple #[.int .i64 ((valL ms % M:Nat):Int),.int .i64 0])/\Keep No w w':=by
 refine ret_mono (V305_sound false a ms.length c M w (λ r w'=>r=.tuple #[.int .i64 ((valL ms % M:Nat):Int),.int .i64 0]/\Keep No w w') ?_) (by rintro _ _ ⟨rfl,h⟩;exact ⟨rfl,h⟩)
 unfold V305
 refine newK_of λ b w1 hb hbb hk=>bsel_neg (by simp;omega) ?_
 unfold V305J2
 refine bsel_neg (by simp;omega) ⟨_,_,_,hbb.add 1 rfl,?_⟩
 have ew:IntKind.wrap .i64 (IntKind.wrap .i64 (32*(ms.length:Int))-1)=32*(ms.length:Int)-1:=by
  rw [wrap_i64 (n:=32*(ms.length:Int)) (by omega),wrap_i64 (by omega)]
 rw [ew]
 have eM:IntKind.wrap .u64 (M:Int)=M:=u64_nat M (by omega)
 simp only [eM]
 refine ⟨λ r i w'=>w'=w1/\-1<=i/\i<32*ms.length/\r=((valL ms / 2 ^ (i+1).toNat % M:Nat):Int),λ _ i _=>(i+1).toNat,⟨rfl,by omega,by omega,?_⟩,?_⟩
 ·rw [show (32*(ms.length:Int)-1+1).toNat=32*ms.length by omega,valL_top ms hr]
  simp
 rintro j r i _ ⟨rfl,hi1,hi2,rfl⟩
 refine bsel_split (λ hge=>?_) λ hlt=>?_
 ·simp at hge
  obtain ⟨n,rfl⟩:=Int.eq_ofNat_of_zero_le hge
  have hn:n / 32<ms.length:=by omega
  obtain ⟨m,hm⟩:∃m,ms[n / 32]?=some m:=⟨_,List.getElem?_eq_getElem hn⟩
  obtain ⟨p,rfl,hcell⟩:=h _ m hm
  have hmr:=hr m (List.mem_of_getElem? hm)
  have e1:IntKind.wrap .i64 (Int.tdiv (n:Int) 32)=((n / 32:Nat):Int):=by
   rw [show Int.tdiv (n:Int) 32=((n / 32:Nat):Int) by rw [Int.tdiv_eq_ediv_of_nonneg (by omega)];norm_cast]
   exact wrap_i64 (by omega)
  have e2:Int.tmod (n:Int) 32=((n % 32:Nat):Int):=by
   rw [Int.tmod_eq_emod_of_nonneg (by omega)];norm_cast
  refine ⟨_,_,_,hbb.add 1 rfl,by decide,?_⟩
  rw [e1]
  refine idxK_of hn ⟨m,by simpa using hk.cell hcell id,by decide,by rw [e2];omega,?_⟩
  have hbit:=valL_bit hr hm
  have hj:n % 32<32:=Nat.mod_lt _ (by decide)
  have e3:bAnd .u32 (shr .u32 m (Int.tmod (n:Int) 32)) 1=((valL ms / 2 ^ n % 2:Nat):Int):=by
   rw [hbit,e2,show m=((m.toNat:Nat):Int) by omega]
   exact bit_u32 _ (by omega) _ hj
  have hstep:=half_step (valL ms) M n hM0
  have hx:=Nat.mod_lt (valL ms / 2 ^ (n+1)) (show M>0 by omega)
  have hbl:valL ms / 2 ^ n % 2<2:=Nat.mod_lt _ (by decide)
  rw [e3,show ((n:Int)+1).toNat=n+1 by omega]
  rw [show (valL ms / 2 ^ (n+1) % M:Nat)=(valL ms / 2 ^ (n+1) % M:Nat) from rfl] at *
  generalize valL ms / 2 ^ (n+1) % M=x at *
  generalize valL ms / 2 ^ n % 2=bt at *
  have e4:IntKind.wrap .u64 (IntKind.wrap .u64 (2*(x:Int))+IntKind.wrap .u64 (bt:Int))=((2*x+bt:Nat):Int):=by
   rw [show (2*(x:Int))=((2*x:Nat):Int) by norm_cast,u64_nat (2*x) (by omega),u64_nat bt (by omega),show (((2*x:Nat):Int)+(bt:Int))=((2*x+bt:Nat):Int) by norm_cast]
   exact u64_nat _ (by omega)
  rw [e4,wrap_i64 (n:=(n:Int)-1) (by omega)]
  have e5:((n:Int)-1+1).toNat=n:=by omega
  refine bsel_split (λ hc=>?_) λ hc=>?_
  ·have hc:M<=2*x+bt:=by simp at hc;omega
   rw [if_pos hc] at hstep
   refine ⟨⟨rfl,by omega,by omega,?_⟩,by simp only;omega⟩
   rw [e5,hstep,show (((2*x+bt:Nat):Int)-(M:Int))=((2*x+bt-M:Nat):Int) by omega]
   exact u64_nat _ (by omega)
  ·have hc:¬M<=2*x+bt:=by simp at hc;omega
   rw [if_neg hc] at hstep
   refine ⟨⟨rfl,by omega,by omega,?_⟩,by simp only;omega⟩
   rw [e5,hstep]
 ·simp at hlt
  obtain rfl:i=-1:=by omega
  refine ⟨_,hbb.add 0 rfl,bsel_neg rfl ?_⟩
  unfold V305J1
  refine bsel_neg rfl ⟨?_,hk⟩
  have hx:=Nat.mod_lt (valL ms) (show M>0 by omega)
  rw [show ((-1:Int)+1).toNat=0 by rfl,Nat.pow_zero,Nat.div_one,wrap_i64 (by omega)]
theorem wrap_back (L:Int) (hL:L<=4611686018427387904) (x:Int) (hx:-L<x/\x<L):IntKind.wrap .i64 (IntKind.wrap .u64 x)=x:=by
 rw [wrap_u64]
 have h1:IntKind.bits .i64=64:=rfl
 have h2:IntKind.signed .i64=true:=rfl
 unfold IntKind.wrap
 simp only [h1,h2,Bool.true_and,decide_eq_true_eq]
 split <;> omega
theorem C249g {w:World} {neg:Bool} {a:Option Addr} {ms:List Int} {c R:Nat} (hR:R<2305843009213693951) (hb0:∀w1,Keep No w w1->Calls Tryz.prog 305 #[.agg #[.bool false,.slice a ms.length c],.int .i64 2305843009213693951] w1 λ e w'=>e=.returned (.tuple #[.int .i64 (R:Int),.int .i64 0])/\Keep No w1 w') :
  Calls Tryz.prog 249 #[.agg #[.bool neg,.slice a ms.length c]] w λ e w'=>e=.returned (.int .i64 (hash64 (if neg then -(R:Int) else R)))/\Keep No w w':=by
 refine ret_mono (V249_sound neg a ms.length c w (λ r w'=>r=.int .i64 (hash64 (if neg then -(R:Int) else R))/\Keep No w w') ?_) (by rintro _ _ ⟨rfl,h⟩;exact ⟨rfl,h⟩)
 unfold V249
 refine newK_of λ b w1 hs1 hb hk1=>⟨_,_,_,hb.add 1 rfl,(hb0 w1 hk1).mono ?_⟩
 rintro _ w2 ⟨rfl,hk2⟩
 refine ⟨_,_,rfl,_,(hk2.nblk hb).add 0 rfl,bsel_split (λ hn=>?_) λ hn=>?_⟩
 ·unfold V249J1
  refine (C306 _ _).mono ?_
  rintro _ w3 ⟨rfl,rfl⟩
  refine ⟨_,rfl,?_,hk1.no hk2⟩
  rw [if_pos hn,wrap_i64 (n:=0-(R:Int)) (by omega),wrap_back 4611686018427387904 (by omega) _ (by omega),Int.zero_sub]
 ·unfold V249J1
  refine (C306 _ _).mono ?_
  rintro _ w3 ⟨rfl,rfl⟩
  refine ⟨_,rfl,?_,hk1.no hk2⟩
  rw [if_neg (by simp [hn]),wrap_back 4611686018427387904 (by omega) _ (by omega)]
theorem C249m (M:Nat) (hM:M=2305843009213693951) (y:Int) (hy:(M:Int)=y) (hM2:M<=4611686018427387904) {w:World} {a:Option Addr} {ms:List Int} {c:Nat} (h:WordsAt w a ms) (hl:ms.length<1000000000) (hr:∀m ∈ ms,0<=m/\m<4294967296) (h1:1<=M) :
  Calls Tryz.prog 305 #[.agg #[.bool false,.slice a ms.length c],.int .i64 y] w λ e w'=>e=.returned (.tuple #[.int .i64 ((restW (trimmed ms):Nat):Int),.int .i64 0])/\Keep No w w':=by
 have e:restW (trimmed ms)=valL ms % M:=by
  rw [restW_val M hM _ λ m hm=>hr m (trimmed_mem hm),valL_trimmed]
 rw [e,<-hy]
 exact C305g (M:=M) h hl hr h1 hM2
theorem C249 {w:World} {neg:Bool} {a:Option Addr} {ms:List Int} {c:Nat} (h:WordsAt w a ms) (hl:ms.length<1000000000) (hr:∀m ∈ ms,0<=m/\m<4294967296) :
  Calls Tryz.prog 249 #[.agg #[.bool neg,.slice a ms.length c]] w λ e w'=>e=.returned (.int .i64 (hWhole neg ms))/\Keep No w w':=
 C249g (restW_lt (trimmed ms)) λ w1 hk=>C249m _ rfl _ rfl (by decide) (h.no hk) hl hr (by decide)
end Go.Fw

namespace Go.Fw
open Go.Proofs Go.RowKit
structure RTb where
 ev:Value
 cg:Nat
 log:Nat
 es:List Ent
 cells:List Int
 live:Int
 births:Int
 made:Int
 turns:Int
def RTb.all (T:RTb) (mc:Nat):List Value:=[T.ev,.int .i64 T.log,.slice (some ⟨T.cg,0,none⟩) (2 ^ T.log) (2 ^ T.log),.int .i64 T.live,.int .i64 T.births,.int .i64 T.made,.int .i64 T.turns,.pointer (some ⟨mc,0,none⟩)]
def RTb.own (T:RTb) (t:Nat):Nat->Prop:=λ k=>k=t\/T.ev.ownBlock=some k\/k=T.cg
def icells (l:List Int):List Value:=l.map (.int .i64)
structure RTabAt (w:World) (R t mc:Nat) (T:RTb):Prop where
 blk:Blk w t 420 (T.all mc)
 row:w.ownsRow R 295 5 T.ev T.es.length (T.es.flatMap Ent.cells)
 cel:Blk w T.cg 3 (icells T.cells)
 clen:T.cells.length=2 ^ T.log
 lg:3<=T.log/\T.log<=20
 ge:R<=t/\R<=T.cg
 len:T.es.length<=room T.log
structure RTbOk (T:RTb):Prop where
 idx:IdxOk T.es T.log T.cells
 live:∀e ∈ T.es,e.live=true
 cnt:T.live=T.es.length
 num:0<=T.births/\0<=T.made/\0<=T.turns
def CntAt (w:World) (mc:Nat):Prop:=∃(c0 c1:Int) (rest:List Value),Blk w mc 217 (.int .i64 c0 :: .int .i64 c1 :: rest)
section
variable {w w':World} {R t mc:Nat} {T:RTb} {fp:Nat->Prop}
theorem CntAt.keep (h:CntAt w mc) (hk:Keep fp w w') (hn:¬fp mc):CntAt w' mc:=by
 obtain ⟨a,b,r,h⟩:=h
 exact ⟨a,b,r,hk.blk h hn⟩
theorem CntAt.no (h:CntAt w mc) (hk:Keep No w w'):CntAt w' mc:=h.keep hk id
theorem CntAt.etype (h:CntAt w mc):Fw.etype w mc=some 217:=by
 obtain ⟨a,b,r,h⟩:=h
 exact h.etype
theorem CntAt.lt (h:CntAt w mc):mc<w.heap.size:=by
 obtain ⟨a,b,r,h⟩:=h
 exact h.lt
theorem RTabAt.keep (h:RTabAt w R t mc T) (hk:Keep fp w w') (hn:∀k,T.own t k->¬fp k):RTabAt w' R t mc T:=
 ⟨hk.blk h.blk (hn t (.inl rfl)),hk.row h.row λ g hg=>hn g (.inr (.inl hg)),hk.blk h.cel (hn _ (.inr (.inr rfl))),h.clen,h.lg,h.ge,h.len⟩
theorem RTabAt.no (h:RTabAt w R t mc T) (hk:Keep No w w'):RTabAt w' R t mc T:=h.keep hk λ _ _=>id
def rtabTy:List TypeId:=[420,295,3]
theorem RTabAt.ty (h:RTabAt w R t mc T) {k:Nat} (hk:T.own t k):R<=k/\k<w.heap.size/\∃e,etype w k=some e/\e ∈ rtabTy:=by
 rcases hk with rfl | hk | rfl
 ·exact ⟨h.ge.1,h.blk.lt,_,h.blk.etype,by decide⟩
 ·exact ⟨(h.row.lt k hk).1,(h.row.lt k hk).2,_,ownsRow_etype h.row hk,by decide⟩
 ·exact ⟨h.ge.2,h.cel.lt,_,h.cel.etype,by decide⟩
theorem RTabAt.not_own (h:RTabAt w R t mc T) {b:Nat} {x:Option TypeId} (hb:etype w b=x) (hx:∀e,x=some e->e ∉ rtabTy):¬T.own t b:=λ hk=>by
 obtain ⟨_,_,e,he,hm⟩:=h.ty hk
 rw [hb] at he
 exact hx e he hm
theorem RTabAt.ne (h:RTabAt w R t mc T):T.ev.ownBlock≠some t/\T.cg≠t/\T.ev.ownBlock≠some T.cg:=by
 refine ⟨λ e=>?_,λ e=>?_,λ e=>?_⟩
 ·have:=ownsRow_etype h.row e;rw [h.blk.etype] at this;cases this
 ·have:=h.cel.etype;rw [e,h.blk.etype] at this;cases this
 ·have:=ownsRow_etype h.row e;rw [h.cel.etype] at this;cases this
theorem row_mono {w:World} {B B' e size n:Nat} {v:Value} {xs:List Value} (h:w.ownsRow B e size v n xs) (hB:B'<=B):w.ownsRow B' e size v n xs:=
 ⟨h.1,h.2.elim .inl λ ⟨g,cap,cur,h1,h2,h3⟩=>.inr ⟨g,cap,cur,h1,by omega,h3⟩⟩
theorem RTabAt.mono {R':Nat} (h:RTabAt w R t mc T) (hR:R'<=R):RTabAt w R' t mc T:=⟨h.blk,row_mono h.row hR,h.cel,h.clen,h.lg,⟨by have:=h.ge;omega,by have:=h.ge;omega⟩,h.len⟩
theorem ents_at {ev:Value} {es:List Ent} (h:w.ownsRow R 295 5 ev es.length (es.flatMap Ent.cells)) {i:Nat} {e:Ent} (he:es[i]?=some e):∃g cap,ev=.slice (some ⟨g,0,none⟩) es.length cap/\i<es.length/\CellsAt w ((⟨g,0,none⟩:Addr).add (i*5)) e.cells:=by
 have hi:=(List.getElem?_eq_some_iff.1 he).1
 have hf:∀k,k<5->(es.flatMap Ent.cells)[i*5+k]?=e.cells[k]?:=λ k hk=>flat_get ent_len hk _ _ _ he
 obtain ⟨g,cap,hv,_,hc,_⟩:=row_at h (hf 0 (by decide))
 refine ⟨g,cap,hv,hi,?_⟩
 have hx:∀k v,k<5->e.cells[k]?=some v->w.cell? ⟨g,i*5+k,none⟩=some v:=by
  intro k v hk hv'
  obtain ⟨g',cap',hv2,_,hc2,_⟩:=row_at h ((hf k hk).trans hv')
  rw [hv] at hv2
  cases hv2
  exact hc2
 rw [add_mk,Nat.zero_add]
 have key:∀(l:List Value) (j:Nat),(∀m v,l[m]?=some v->w.cell? ⟨g,i*5+(j+m),none⟩=some v)->cellsFrom w ⟨g,i*5,none⟩ l j:=by
  intro l
  induction l with
  | nil=>intro j _;trivial
  | cons v l ih=>
   intro j hm
   refine cellsFrom_cons.2 ⟨?_,ih (j+1) λ m u hu=>?_⟩
   ·rw [add_mk];exact hm 0 v rfl
   ·have:=hm (m+1) u (by simpa using hu)
    rw [<-this];congr 2;omega
 refine key _ 0 λ m v hm=>?_
 have hm5:m<5:=(List.getElem?_eq_some_iff.1 hm).1
 rw [Nat.zero_add]
 exact hx m v hm5 hm
theorem tmod_nat (a b:Nat):Int.tmod (a:Int) (b:Int)=((a % b:Nat):Int):=by
 rw [Int.tmod_eq_emod_of_nonneg (by omega)];norm_cast
theorem pow_ne (log:Nat):((2 ^ log:Nat):Int)≠0:=by have:=pow_pos' log;omega
theorem C345 {log:Nat} (hl:log<=20) (h:Int) (w:World):Calls Tryz.prog 345 #[.int .i64 h,.int .i64 log] w λ e w'=>e=.returned (.int .i64 (trStart log h).1)/\w'=w:=by
 refine ret_mono (V345_sound _ _ w (λ r w'=>r=.int .i64 (trStart log h).1/\w'=w) ?_) (by rintro _ _ ⟨rfl,h⟩;exact ⟨rfl,h⟩)
 unfold V345
 refine bsel_neg (by simp) ?_
 unfold V345J1
 have hp:=pow_le20 hl
 have hp0:=pow_pos' log
 refine bsel_neg (by simp;omega) ⟨by omega,by rw [shl_u64 hl];exact pow_ne log,?_,rfl⟩
 rw [shl_u64 hl,wrap_hash,tmod_nat]
 unfold trStart
 have:=Nat.mod_lt (u64 h) hp0
 rw [wrap_i64 (by generalize 2 ^ log=a at *;omega)]
theorem C349 {log:Nat} (hl:log<=20) {x:Nat × Nat} (hx:x.1<2 ^ log/\x.2<18446744073709551616) (w:World):Calls Tryz.prog 349 #[.int .i64 x.1,.int .u64 x.2,.int .i64 log] w λ e w'=>e=.returned (.tuple #[.int .i64 (trNext log x).1,.int .u64 (trNext log x).2])/\w'=w:=by
 refine ret_mono (V349_sound _ _ _ w (λ r w'=>r=.tuple #[.int .i64 (trNext log x).1,.int .u64 (trNext log x).2]/\w'=w) ?_) (by rintro _ _ ⟨rfl,h⟩;exact ⟨rfl,h⟩)
 unfold V349
 have hp:=pow_le20 hl
 have hp0:=pow_pos' log
 refine ⟨by decide,by omega,by rw [shl_u64 hl];exact pow_ne log,?_,rfl⟩
 rw [shl_u64 hl,shr_five hx.2]
 have e1:IntKind.wrap .u64 (IntKind.wrap .u64 (IntKind.wrap .u64 (IntKind.wrap .u64 (x.1:Int)*5)+((x.2 / 32:Nat):Int))+1)=((5*x.1+x.2 / 32+1:Nat):Int):=by
  have h1:x.1<1048576:=by omega
  rw [u64_nat x.1 (by omega),show ((x.1:Int)*5)=((5*x.1:Nat):Int) by omega,u64_nat (5*x.1) (by omega),show (((5*x.1:Nat):Int)+((x.2 / 32:Nat):Int))=((5*x.1+x.2 / 32:Nat):Int) by omega,u64_nat _ (by omega),show (((5*x.1+x.2 / 32:Nat):Int)+1)=((5*x.1+x.2 / 32+1:Nat):Int) by omega]
  exact u64_nat _ (by omega)
 rw [e1,tmod_nat]
 unfold trNext
 have:=Nat.mod_lt (5*x.1+x.2 / 32+1) hp0
 rw [wrap_i64 (n:=(((5*x.1+x.2 / 32+1) % 2 ^ log:Nat):Int)) (by generalize 2 ^ log=a at *;omega)]
theorem C366 {log:Nat} (hl:3<=log/\log<=20) (w:World):Calls Tryz.prog 366 #[.int .i64 log] w λ e w'=>e=.returned (.int .i64 (room log))/\w'=w:=by
 refine ret_mono (V366_sound _ w (λ r w'=>r=.int .i64 (room log)/\w'=w) ?_) (by rintro _ _ ⟨rfl,h⟩;exact ⟨rfl,h⟩)
 unfold V366
 have hp:=pow_le20 hl.2
 refine bsel_neg (by simp;omega) (bsel_neg (by simp;omega) ⟨by omega,by decide,?_,rfl⟩)
 have e1:shl .i64 2 (log:Int)=((2*2 ^ log:Nat):Int):=by
  unfold shl
  rw [Int.toNat_natCast,show min log (IntKind.bits .i64)=log by simp [IntKind.bits];omega,pow_cast]
  rw [show (2:Int)*((2 ^ log:Nat):Int)=((2*2 ^ log:Nat):Int) by push_cast;rfl]
  generalize 2 ^ log=a at *
  exact wrap_i64 (by omega)
 rw [e1,show Int.tdiv ((2*2 ^ log:Nat):Int) 3=((2*2 ^ log / 3:Nat):Int) by rw [Int.tdiv_eq_ediv_of_nonneg (by omega)];norm_cast]
 unfold room
 generalize 2 ^ log=a at *
 rw [wrap_i64 (by omega)]
theorem madeInts {log:Nat} (hl:log<=20) {K:World->Option Addr->Nat->Nat->Prop}
  (h:∀w',Blk w' w.heap.size 3 (List.replicate (2 ^ log) (.int .i64 0))->Keep No w w'->K w' (some ⟨w.heap.size,0,none⟩) (2 ^ log) (2 ^ log)) :
  ∃w':World,∃a:Option Addr,∃l:Nat,∃c:Nat,(Instr.makeSlice 30 (.int .i64 (shl .i64 1 log)) (.int .i64 (shl .i64 1 log))).run Tryz.prog w=.ok (.slice a l c) w'/\K w' a l c:=by
 obtain ⟨i,hi,hz,hs,hb⟩:=rowInts.info
 have hp:=pow_le20 hl
 rw [shl_i64 hl]
 have hr:=run_make (P:=Tryz.prog) w 30 3 i _ rowInts.und hi hz .i64 .i64 (2 ^ log:Nat) (2 ^ log:Nat) (Int.natCast_nonneg _) (Int.le_refl _)
  (by
   rw [hb,<-Int.natCast_mul]
   generalize 2 ^ log=a at *
   omega) (by generalize 2 ^ log=a at *;omega)
 refine ⟨_,_,_,_,hr,?_⟩
 have e1:(madeCells (Value.int .i64 0).cells (((2 ^ log:Nat):Int).toNat*i.size)).toList=List.replicate (2 ^ log) (.int .i64 0):=by
  rw [hs,Nat.mul_one,Int.toNat_natCast]
  exact toList_madeCells_one _ _
 have hB:=Blk.new w (madeCells (Value.int .i64 0).cells (((2 ^ log:Nat):Int).toNat*i.size)) 3
 rw [e1] at hB
 exact h _ hB (Keep.fresh w _)
theorem C364 {log:Nat} (hl:3<=log/\log<=20) (w:World):Calls Tryz.prog 364 #[.int .i64 log] w λ e w'=>∃g,e=.returned (.tuple #[.agg #[.int .i64 log,.slice (some ⟨g,0,none⟩) (2 ^ log) (2 ^ log)],.int .i64 0])/\Blk w' g 3 (icells (List.replicate (2 ^ log) (-1)))/\w.heap.size<=g/\Keep No w w':=by
 refine (V364_sound _ w (λ r w'=>∃g,r=.tuple #[.agg #[.int .i64 log,.slice (some ⟨g,0,none⟩) (2 ^ log) (2 ^ log)],.int .i64 0]/\Blk w' g 3 (icells (List.replicate (2 ^ log) (-1)))/\w.heap.size<=g/\Keep No w w') ?_).mono (by rintro _ _ ⟨_,rfl,g,rfl,h⟩;exact ⟨g,rfl,h⟩)
 unfold V364
 refine newK_of λ b w1 hs1 hb hk1=>bsel_neg (by simp;omega) ?_
 unfold V364J1
 have hp:=pow_le20 hl.2
 refine bsel_neg (by simp;omega) ⟨by omega,madeInts hl.2 λ w2 hg hk2=>newK_of λ c w3 hs3 hc hk3=>stK_add hc (by simp) λ w4 hc4 hk4=>stK_add hc4 (by simp) λ w5 hc5 hk5=>?_⟩
 have hs2:=hk2.size
 have hgl:=hg.lt
 have hk13:=(hk1.no hk2).no hk3
 have hs13:=hk13.size
 have hk45:Keep (λ k=>k=c) w3 w5:=hk4.trans hk5 λ _ _ e=>e
 have hk05:Keep No w w5:=hk13.news hk45 (by rintro k rfl;have:=hk1.size;omega)
 have hg5:Blk w5 w1.heap.size 3 (icells (List.replicate 0 (-1) ++ List.replicate (2 ^ log-0) 0)):=by
  have:=hk45.blk (hk3.nblk hg) (by omega)
  simpa [icells] using this
 have hbc:b≠c:=by have:=hb.lt;omega
 have hb5:=hk45.blk (hk3.nblk (hk2.nblk hb)) hbc
 refine ⟨λ i w'=>0<=i/\i<=(2 ^ log:Nat)/\Blk w' w1.heap.size 3 (icells (List.replicate i.toNat (-1) ++ List.replicate (2 ^ log-i.toNat) 0))/\Blk w' c 418 [.int .i64 log,.slice (some ⟨w1.heap.size,0,none⟩) (2 ^ log) (2 ^ log)]/\Blk w' b 418 [.int .i64 0,.slice none 0 0]/\Keep No w w',λ i _=>((2 ^ log:Nat)-i).toNat,
  ⟨by omega,Int.natCast_nonneg _,hg5,hc5,hb5,hk05⟩,?_⟩
 rintro j i w6 ⟨hi0,hin,hg6,hc6,hb6,hk6⟩
 have hw1:w.heap.size<=w1.heap.size:=hk1.size
 refine ⟨_,_,_,hc6.add 1 rfl,bsel_split (λ hlt=>?_) λ hge=>?_⟩
 ·obtain ⟨n,rfl⟩:=Int.eq_ofNat_of_zero_le hi0
  have hn:n<2 ^ log:=by simp only [decide_eq_true_eq] at hlt;exact Int.ofNat_lt.1 hlt
  simp only [Int.toNat_natCast] at hg6
  refine ⟨_,_,_,hc6.add 1 rfl,idxK_of hn (by
   rw [Nat.mul_one]
   exact stK_add hg6 (by simp [icells];omega) λ w7 hg7 hk7=>by
    rw [wrap_i64 (by generalize 2 ^ log=a at *;omega)]
    have e1:((n:Int)+1).toNat=n+1:=by omega
    have hcg:c≠w1.heap.size:=hc6.ne hg6 (by decide)
    have hbg:b≠w1.heap.size:=hb6.ne hg6 (by decide)
    refine ⟨⟨by omega,by generalize 2 ^ log=a at *;omega,?_,hk7.blk hc6 hcg,hk7.blk hb6 hbg,hk6.news hk7 (by rintro k rfl;exact hw1)⟩,by simp only;generalize 2 ^ log=a at *;omega⟩
    rw [e1,<-rep_set _ _ _ _ hn]
    have:icells ((List.replicate n (-1) ++ List.replicate (2 ^ log-n) 0).set n (-1))=(icells (List.replicate n (-1) ++ List.replicate (2 ^ log-n) 0)).set n (.int .i64 (-1)):=by unfold icells;rw [List.map_set]
    rw [this];exact hg7)⟩
 ·have hi:i=(2 ^ log:Nat):=by simp only [decide_eq_false_iff_not,Int.not_lt] at hge;omega
  subst hi
  rw [Int.toNat_natCast,Nat.sub_self,List.replicate_zero,List.append_nil] at hg6
  refine ⟨_,_,_,_,hc6.cells0,stK_add hb6 (by simp) λ w7 hb7 hk7=>stK_add hb7 (by simp) λ w8 hb8 hk8=>?_⟩
  have hgb:w1.heap.size≠b:=hg6.ne hb6 (by decide)
  refine ⟨_,_,_,_,hb8.cells0,_,rfl,hk8.blk (hk7.blk hg6 hgb) hgb,hw1,(hk6.news hk7 (by rintro k rfl;omega)).news hk8 (by rintro k rfl;omega)⟩
theorem C344 {ev lg0 sl:Value} {lv bi ma tu:Int} {log:Nat} (hl:3<=log/\log<=20) (hb:Blk w t 420 [ev,lg0,sl,.int .i64 lv,.int .i64 bi,.int .i64 ma,.int .i64 tu,.pointer (some ⟨mc,0,none⟩)]) (hc:CntAt w mc) (hma:0<=ma/\ma<1000000000000) :
  Calls Tryz.prog 344 #[.pointer (some ⟨t,0,none⟩),.int .i64 log] w λ e w'=>e=.returned (.tuple #[])/\∃g,Blk w' t 420 [ev,.int .i64 log,.slice (some ⟨g,0,none⟩) (2 ^ log) (2 ^ log),.int .i64 lv,.int .i64 bi,.int .i64 (ma+1),.int .i64 tu,.pointer (some ⟨mc,0,none⟩)]/\Blk w' g 3 (icells (List.replicate (2 ^ log) (-1)))/\w.heap.size<=g/\CntAt w' mc/\Keep (λ k=>k=t\/k=mc) w w':=by
 refine ret_mono (V344_sound _ _ w (λ r w'=>r=.tuple #[]/\∃g,Blk w' t 420 [ev,.int .i64 log,.slice (some ⟨g,0,none⟩) (2 ^ log) (2 ^ log),.int .i64 lv,.int .i64 bi,.int .i64 (ma+1),.int .i64 tu,.pointer (some ⟨mc,0,none⟩)]/\Blk w' g 3 (icells (List.replicate (2 ^ log) (-1)))/\w.heap.size<=g/\CntAt w' mc/\Keep (λ k=>k=t\/k=mc) w w') ?_) (by rintro _ _ ⟨rfl,h⟩;exact ⟨rfl,h⟩)
 unfold V344
 refine (C364 hl w).mono ?_
 rintro _ w1 ⟨g,rfl,hg,hgw,hk1⟩
 have hb1:=hk1.nblk hb
 refine ⟨_,_,_,_,_,rfl,?_⟩
 simp only [nilK_some,add_add]
 refine stK_add hb1 (by simp) λ w2 hb2 hk2=>stK_add hb2 (by simp) λ w3 hb3 hk3=>⟨_,hb3.add 5 rfl,stK_add hb3 (by simp) λ w4 hb4 hk4=>?_⟩
 have hk14:Keep (λ k=>k=t) w1 w4:=(hk2.trans hk3 λ _ _ e=>e).trans hk4 λ _ _ e=>e
 have htm:mc≠t:=λ e=>by have:=hc.etype;rw [e,hb.etype] at this;cases this
 have htg:g≠t:=hg.ne hb1 (by decide)
 have hc4:=(hc.no hk1).keep hk14 htm
 have hg4:=hk14.blk hg htg
 rw [wrap_i64 (n:=ma+1) (by omega)] at hb4
 refine ⟨_,hb4.add 7 rfl,bsel_pos rfl ⟨_,hb4.add 7 rfl,?_⟩⟩
 obtain ⟨c0,c1,rest,hcc⟩:=hc4
 simp only [nilK_some]
 refine ⟨_,hcc.add 0 rfl,stK_add hcc (by simp) λ w5 hc5 hk5=>?_⟩
 have hgm:g≠mc:=hg4.ne hcc (by decide)
 refine ⟨by trivial,g,hk5.blk hb4 (λ e=>htm e.symm),hk5.blk hg4 hgm,hgw,⟨_,_,_,hc5⟩,?_⟩
 exact ((Keep.of_no hk1).trans hk14 λ k _ e=>.inl e).trans hk5 λ k _ e=>.inr e
theorem C304 (hc:CntAt w mc):Calls Tryz.prog 304 #[.pointer (some ⟨mc,0,none⟩)] w λ e w'=>∃t g,e=.returned (.pointer (some ⟨t,0,none⟩))/\RTabAt w' w.heap.size t mc ⟨.slice none 0 0,g,3,[],List.replicate 8 (-1),0,0,1,0⟩/\CntAt w' mc/\Keep (λ k=>k=mc) w w':=by
 refine (V304_sound _ w (λ r w'=>∃t g,r=.pointer (some ⟨t,0,none⟩)/\RTabAt w' w.heap.size t mc ⟨.slice none 0 0,g,3,[],List.replicate 8 (-1),0,0,1,0⟩/\CntAt w' mc/\Keep (λ k=>k=mc) w w') ?_).mono (by rintro _ _ ⟨_,rfl,t,g,rfl,h⟩;exact ⟨t,g,rfl,h⟩)
 unfold V304
 refine newK_of λ t w1 hs hb hk=>(C344 (log:=3) (by decide) hb (hc.no hk) (by decide)).mono ?_
 rintro _ w2 ⟨rfl,g,hb2,hg,hgw,hc2,hk2⟩
 have hs1:=hk.size
 refine ⟨_,rfl,t,g,rfl,⟨hb2,World.ownsRow_nil _ _ _ _,hg,by simp,by simp,⟨by omega,by simp only;omega⟩,by simp⟩,hc2,?_⟩
 exact (Keep.of_no hk).trans hk2 λ k hk' e=>by
  rcases e with e | e
  ·omega
  ·exact e
end
end Go.Fw

namespace Go.Fw
open Go.Proofs Go.RowKit
def dist (cells:List Int) (log:Nat):Nat->Nat × Nat->Nat
 | 0,_=>0
 | n+1,x=>if cells[x.1]?=some (-1) then 0 else dist cells log n (trNext log x)+1
theorem trFrom_step (log:Nat) (x:Nat × Nat) (m:Nat):trFrom log x (m+1)=trFrom log (trNext log x) m:=by
 rw [show m+1=1+m by omega,trFrom_add]
 rfl
theorem dist_of {cells:List Int} {log:Nat}:∀(m F:Nat) (x:Nat × Nat),m<F->(∀i,i<m->cells[(trFrom log x i).1]?≠some (-1))->cells[(trFrom log x m).1]?=some (-1)->dist cells log F x=m
 | 0,F+1,x,_,_,h=>by
  unfold dist
  have h':cells[x.1]?=some (-1):=h
  rw [if_pos h']
 | m+1,F+1,x,hF,ha,h=>by
  unfold dist
  have h0:cells[x.1]?≠some (-1):=ha 0 (by omega)
  rw [if_neg h0]
  rw [dist_of m F (trNext log x) (by omega) (λ i hi=>by rw [<-trFrom_step];exact ha (i+1) (by omega)) (by rw [<-trFrom_step];exact h)]
section
variable {w w':World} {R t mc:Nat} {T:RTb} {fp:Nat->Prop}
theorem five_one (a:Bool) (b c d e:Int):∀u ∈ (#[Value.bool a,.int .i64 b,.int .i64 c,.int .i64 d,.int .i64 e]:Array Value).toList,u.oneCell'=true:=by
 intro u hu
 simp at hu
 rcases hu with rfl | rfl | rfl | rfl | rfl <;> rfl
theorem icells_get {l:List Int} {i:Nat} {v:Int} (h:l[i]?=some v):(icells l)[i]?=some (.int .i64 v):=by simp [icells,h]
theorem icells_set (l:List Int) (i:Nat) (v:Int):icells (l.set i v)=(icells l).set i (.int .i64 v):=by unfold icells;rw [List.map_set]
theorem C368 (h:RTabAt w R t mc T) {hash:Int} {n k:Nat} (hk:k<2 ^ T.log+13) (hemp:T.cells[trAt T.log (u64 hash) k]?=some (-1)) (ha:Ahead T.cells T.log hash k) :
  Calls Tryz.prog 368 #[.pointer (some ⟨t,0,none⟩),.int .i64 hash,.int .i64 n] w λ e w'=>e=.returned (.tuple #[])/\RTabAt w' R t mc { T with cells:=lay T.cells T.log hash n }/\Keep (λ x=>x=T.cg) w w':=by
 refine ret_mono (V368_sound _ hash n w (λ r w'=>r=.tuple #[]/\RTabAt w' R t mc { T with cells:=lay T.cells T.log hash n }/\Keep (λ x=>x=T.cg) w w') ?_) (by rintro _ _ ⟨rfl,h⟩;exact ⟨rfl,h⟩)
 unfold V368
 simp only [nilK_some,add_add]
 refine ⟨_,h.blk.add 1 rfl,(C345 h.lg.2 hash w).mono ?_⟩
 rintro _ w1 ⟨rfl,rfl⟩
 have hd:∀j,j<=k->dist T.cells T.log (2 ^ T.log+14) (trFrom T.log (trStart T.log hash) j)=k-j:=by
  intro j hj
  refine dist_of _ _ _ (by omega) (λ i hi=>?_) ?_
  ·rw [<-trFrom_add]
   exact ha (j+i) (by omega)
  ·rw [<-trFrom_add,show j+(k-j)=k by omega]
   exact hemp
 refine ⟨_,rfl,λ i p w'=>w'=w1/\∃j,j<=k/\i=((trFrom T.log (trStart T.log hash) j).1:Int)/\p=((trFrom T.log (trStart T.log hash) j).2:Int),λ i p _=>dist T.cells T.log (2 ^ T.log+14) (i.toNat,p.toNat),
  ⟨rfl,0,by omega,rfl,by rw [wrap_hash];rfl⟩,?_⟩
 rintro _ i p _ ⟨rfl,j,hj,rfl,rfl⟩
 have hlt:=trFrom_fst (log:=T.log) hash j
 have hlt2:=trFrom_snd (log:=T.log) hash j
 have hcl:(trFrom T.log (trStart T.log hash) j).1<T.cells.length:=by rw [h.clen];exact hlt
 obtain ⟨v,hv⟩:∃v,T.cells[(trFrom T.log (trStart T.log hash) j).1]?=some v:=⟨_,List.getElem?_eq_getElem hcl⟩
 refine ⟨_,_,_,h.blk.add 2 rfl,idxK_of hlt ⟨v,by rw [Nat.mul_one,add_mk,Nat.zero_add];exact h.cel.cell (icells_get hv),bsel_split (λ hne=>?_) λ heq=>?_⟩⟩
 ·have hne:v≠-1:=by simpa using hne
  have hjk:j≠k:=λ e=>by
   subst e
   have:T.cells[(trFrom T.log (trStart T.log hash) j).1]?=some (-1):=hemp
   rw [hv] at this;cases this;exact hne rfl
  refine ⟨_,h.blk.add 1 rfl,(C349 h.lg.2 ⟨hlt,hlt2⟩ _).mono ?_⟩
  rintro _ w2 ⟨rfl,rfl⟩
  refine ⟨_,_,rfl,⟨rfl,j+1,by omega,rfl,rfl⟩,?_⟩
  simp only [Int.toNat_natCast]
  show dist T.cells T.log (2 ^ T.log+14) (trFrom T.log (trStart T.log hash) (j+1))<dist T.cells T.log (2 ^ T.log+14) (trFrom T.log (trStart T.log hash) j)
  rw [hd j hj,hd (j+1) (by omega)]
  omega
 ·have heq:v=-1:=by simpa using heq
  subst heq
  have hjk:j=k:=by
   rcases Nat.lt_or_ge j k with hc | hc
   ·exact absurd hv (ha j hc)
   ·omega
  subst hjk
  refine ⟨_,_,_,h.blk.add 2 rfl,idxK_of hlt ?_⟩
  rw [Nat.mul_one]
  refine stK_add h.cel (by simp [icells];exact hcl) λ w2 hb2 hk2=>⟨by trivial,?_,hk2⟩
  rw [lay_at hk hemp ha]
  obtain ⟨n1,n2,n3⟩:=h.ne
  exact ⟨hk2.blk h.blk (λ e=>n2 e.symm),hk2.row h.row λ g hg e=>n3 (by rw [hg,e]),by rw [icells_set];exact hb2,by rw [List.length_set];exact h.clen,h.lg,h.ge,h.len⟩
theorem C367 (h:RTabAt w R t mc T) (ho:RTbOk T) (hc:CntAt w mc) {log:Nat} (hl:3<=log/\log<=20) (hroom:T.es.length<=room log) (hR:R<=w.heap.size) (hn:T.made<1000000000000) :
  Calls Tryz.prog 367 #[.pointer (some ⟨t,0,none⟩),.int .i64 log] w λ e w'=>e=.returned (.tuple #[])/\∃ev g cs,RTabAt w' R t mc { T with ev:=ev,cg:=g,log:=log,cells:=cs,made:=T.made+1 }/\IdxOk T.es log cs/\CntAt w' mc/\(∀k,ev.ownBlock=some k->w.heap.size<=k)/\w.heap.size<=g/\Keep (λ k=>k=t\/k=mc) w w':=by
 refine ret_mono (V367_sound _ log w (λ r w'=>r=.tuple #[]/\∃ev g cs,RTabAt w' R t mc { T with ev:=ev,cg:=g,log:=log,cells:=cs,made:=T.made+1 }/\IdxOk T.es log cs/\CntAt w' mc/\(∀k,ev.ownBlock=some k->w.heap.size<=k)/\w.heap.size<=g/\Keep (λ k=>k=t\/k=mc) w w') ?_) (by rintro _ _ ⟨rfl,h⟩;exact ⟨rfl,h⟩)
 unfold V367
 have hroom2:=room_bound hl.2
 have hlen:=h.len
 refine (C344 hl h.blk hc ⟨ho.num.2.1,hn⟩).mono ?_
 rintro _ w1 ⟨rfl,g,hb1,hg1,hgw,hc1,hk1⟩
 have htm:mc≠t:=λ e=>by have:=hc.etype;rw [e,h.blk.etype] at this;cases this
 have hmo:¬T.own t mc:=h.not_own hc.etype (by rintro _ ⟨⟩;decide)
 have hne:=h.ne
 have hrow1:w1.ownsRow R 295 5 T.ev T.es.length (T.es.flatMap Ent.cells):=hk1.row h.row λ g' hg' e=>by
  rcases e with e | e
  ·exact hne.1 (by rw [hg',e])
  ·exact hmo (.inr (.inl (by rw [hg',e])))
 obtain ⟨sa,cap,hev⟩:=row_slice h.row
 obtain ⟨ii,zz,q1,q2,q3,q4,q5⟩:=ents_info
 have hsz1:=hk1.size
 refine ⟨_,rfl,λ a n c i w'=>∃i0:Nat,i=i0/\i0<=T.es.length/\n=i0/\w'.ownsRow w.heap.size 295 5 (.slice a n c) i0 ((T.es.take i0).flatMap Ent.cells)/\Blk w' t 420 [T.ev,.int .i64 log,.slice (some ⟨g,0,none⟩) (2 ^ log) (2 ^ log),.int .i64 T.live,.int .i64 T.births,.int .i64 (T.made+1),.int .i64 T.turns,.pointer (some ⟨mc,0,none⟩)]/\w'.ownsRow R 295 5 T.ev T.es.length (T.es.flatMap Ent.cells)/\Blk w' g 3 (icells (List.replicate (2 ^ log) (-1)))/\CntAt w' mc/\Keep (λ k=>k=t\/k=mc) w w'/\(∀k,(Value.slice a n c).ownBlock=some k->T.ev.ownBlock≠some k/\w.heap.size<=k),
  λ _ _ _ i _=>(T.es.length-i).toNat,⟨0,rfl,by omega,rfl,World.ownsRow_nil _ _ _ _,hb1,hrow1,hg1,hc1,hk1,λ k hk=>by simp [Value.ownBlock] at hk⟩,?_⟩
 rintro _ a n c i w2 ⟨i0,rfl,hin,rfl,hnew,hb2,hrow2,hg2,hc2,hk2,hap⟩
 have hfld:∀{w1:World},Blk w1 t 420 [T.ev,.int .i64 log,.slice (some ⟨g,0,none⟩) (2 ^ log) (2 ^ log),.int .i64 T.live,.int .i64 T.births,.int .i64 (T.made+1),.int .i64 T.turns,.pointer (some ⟨mc,0,none⟩)]->w1.cell? ((⟨t,0,none⟩:Addr).add 0)=some (.slice sa T.es.length cap):=λ h1=>h1.add 0 (by rw [hev];rfl)
 simp only [nilK_some]
 refine ⟨_,_,_,hfld hb2,bsel_split (λ hlt=>?_) λ hge=>?_⟩
 ·simp at hlt
  obtain ⟨e,he⟩:∃e,T.es[n]?=some e:=⟨_,List.getElem?_eq_getElem (by omega)⟩
  have hel:=ho.live e (List.mem_of_getElem? he)
  obtain ⟨g1,cap1,hev1,hm,hent⟩:=ents_at hrow2 he
  rw [hev] at hev1
  cases hev1
  refine ⟨_,_,_,hfld hb2,idxK_of hm ⟨_,hent.get 0 rfl,bsel_pos hel ?_⟩⟩
  refine ⟨_,_,_,hfld hb2,idxK_of hm ⟨_,_,_,_,_,hent,newK_of λ b w3 hs3 hb3 hk3=>?_⟩⟩
  refine appendN (m:=1) ents_und q1 q2 q3 q4 q5 (by decide) (hk3.nrow hnew) hb3 rfl (five_one _ _ _ _ _) (by decide) (by omega) (by decide) (by have:=hk3.size;have:=hk2.size;omega) λ g' cap' w4 hrow4 hk4 hat=>?_
  have hsz2:=hk2.size
  have hsz3:=hk3.size
  have hX:∀{b':Nat} {e':TypeId} {cs:List Value},Blk w3 b' e' cs->e'≠295->Blk w4 b' e' cs:=λ hb' he'=>hk4.blk hb' λ ee=>ownsRow_ne (hk3.nrow hnew) hb' (λ e=>he' e.symm) ee
  have hg':(Value.slice a n c).ownBlock=some g'\/g'=w3.heap.size:=hat
  rw [wrap_i64 (n:=(n:Int)+1) (by omega)]
  have etk:(T.es.take n).flatMap Ent.cells ++ e.cells=(T.es.take (n+1)).flatMap Ent.cells:=by
   have he2:=List.getElem?_eq_some_iff.1 he
   rw [List.take_succ_eq_append_getElem he2.1,List.flatMap_append,he2.2]
   simp
  refine ⟨⟨n+1,by omega,by omega,rfl,by rw [<-etk];exact hrow4,hX (hk3.nblk hb2) (by decide),?_,hX (hk3.nblk hg2) (by decide),?_,?_,λ k hk=>?_⟩,by omega⟩
  ·exact hk4.row (hk3.nrow hrow2) λ g'' hg'' ee=>(hap g'' ee).1 hg''
  ·obtain ⟨c0,c1,rest,hcc⟩:=hc2
   exact ⟨c0,c1,rest,hX (hk3.nblk hcc) (by decide)⟩
  ·exact (hk2.no hk3).news hk4 λ k ee=>(hap k ee).2
  ·cases hk
   rcases hg' with hg' | hg'
   ·exact hap _ hg'
   ·have hgl:w.heap.size<=g':=by omega
    refine ⟨λ ee=>?_,hgl⟩
    have:=((hk3.nrow hrow2).lt _ ee).2
    simp only at this
    omega
 ·simp at hge
  have hnl:n=T.es.length:=by omega
  subst hnl
  rw [List.take_length] at hnew
  have hsz2:=hk2.size
  refine stK_add hb2 (by simp) λ w3 hb3 hk3=>?_
  have hgt:g≠t:=hg2.ne hb2 (by decide)
  have hmt:mc≠t:=htm
  have h3:RTabAt w3 R t mc { T with ev:=.slice a T.es.length c,cg:=g,log:=log,cells:=List.replicate (2 ^ log) (-1),made:=T.made+1 }:=by
   refine ⟨hb3,row_mono (hk3.row hnew λ g' hg' ee=>ownsRow_ne hnew hb2 (by decide) (ee ▸ hg')) hR,hk3.blk hg2 hgt,by simp,hl,⟨h.ge.1,by simp only;omega⟩,hroom⟩
  have hc3:=hc2.keep hk3 hmt
  have hk03:Keep (λ k=>k=t\/k=mc) w w3:=hk2.trans hk3 λ k _ e=>.inl e
  refine ⟨λ i w'=>0<=i/\i<=T.es.length/\∃cs,RTabAt w' R t mc { T with ev:=.slice a T.es.length c,cg:=g,log:=log,cells:=cs,made:=T.made+1 }/\IdxOk (T.es.take i.toNat) log cs/\CntAt w' mc/\Keep (λ k=>k=t\/k=mc) w w',λ i _=>(T.es.length-i).toNat,
   ⟨by omega,by omega,_,h3,IdxOk.fresh hl,hc3,hk03⟩,?_⟩
  rintro _ i w4 ⟨hi0,hin',cs,h4,hI,hc4,hk4⟩
  refine bsel_split (λ hlt=>?_) λ hge'=>?_
  ·simp at hlt
   obtain ⟨n,rfl⟩:=Int.eq_ofNat_of_zero_le hi0
   simp only [Int.toNat_natCast] at hI
   obtain ⟨e,he⟩:∃e,T.es[n]?=some e:=⟨_,List.getElem?_eq_getElem (by omega)⟩
   have htl:(T.es.take n).length=n:=by simp;omega
   obtain ⟨k,hk,hemp,ha⟩:=hI.empty (by rw [htl];omega) e.hash
   obtain ⟨g1,cap1,hev1,hm,hent⟩:=ents_at h4.row he
   cases hev1
   refine idxK_of hm ⟨_,hent.get 1 rfl,(C368 (n:=n) h4 hk hemp ha).mono ?_⟩
   rintro _ w5 ⟨rfl,h5,hk5⟩
   refine ⟨_,rfl,?_⟩
   rw [wrap_i64 (n:=(n:Int)+1) (by omega)]
   have e1:((n:Int)+1).toNat=n+1:=by omega
   have hmg:mc≠g:=λ ee=>by have:=hc4.etype;rw [ee,h4.cel.etype] at this;cases this
   refine ⟨⟨by omega,by omega,_,h5,?_,hc4.keep hk5 hmg,hk4.news hk5 λ k ee=>by simp only at ee;omega⟩,by simp only;omega⟩
   have:=hI.lay (by rw [htl];omega) e (ho.live e (List.mem_of_getElem? he))
   rw [htl] at this
   have he2:=List.getElem?_eq_some_iff.1 he
   rw [e1,List.take_succ_eq_append_getElem he2.1,he2.2]
   exact this
  ·simp at hge'
   have:i=T.es.length:=by omega
   subst this
   rw [Int.toNat_natCast,List.take_length] at hI
   exact ⟨by trivial,_,g,cs,h4,hI,hc4,λ k hk=>(hap k hk).2,by omega,hk4⟩
end
end Go.Fw
