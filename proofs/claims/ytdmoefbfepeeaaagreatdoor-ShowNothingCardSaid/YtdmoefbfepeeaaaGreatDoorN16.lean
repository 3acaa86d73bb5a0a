/- Part of a proof over the given program: texts of lemmas (conditions: none beyond each lemma as stated). -/
import Derived.Test.YtdmoefbfepeeaaaGreatDoorN15
set_option linter.unnecessarySimpa false
set_option linter.unusedVariables false
set_option linter.unusedSimpArgs false

set_option maxRecDepth 100000
namespace Go.Fw
open Go.Proofs
def V30  (w:World) (Q:Value->World->Prop):Prop:=
newK w #[.int .i64 0] 3 λ a1 w2=>
newK w2 #[.int .i64 4,.bool false,.bool false,.slice none 0 0,.string (⟨#[97]⟩:ByteArray),.slice none 0 0,.bool false,.bool false,.int .i64 5,.bool false,.bool false,.slice none 0 0,.string ⟨#[]⟩,.slice (some a1) 1 1,.bool false,.bool false] 42 λ a3 w4=>
Calls Tryz.prog 31 #[.slice (some a3) 2 2] w4 λ e5 w6=>∃t7 t8 t9 t10 t11 t12 t13 t14 t15,e5=.returned (.tuple #[.pointer t7,.slice t8 t9 t10,.pointer t11,.slice t12 t13 t14,.bool t15])/\
bsel t15 (
bsel ((t9:Int) == 2) (
idxK t8 t9 1 1 λ a16=>
∃t17,w6.cell? a16=some (.int .i64 t17)/\
Calls Tryz.prog 32 #[.pointer t7,.int .i64 t17,.bool false] w6 λ e18 w19=>∃t20,e18=.returned (.string t20)/\
bsel (t20.toList == (⟨#[40,39,97,39,44,41]⟩:ByteArray).toList) (
idxK t8 t9 0 1 λ a21=>
∃t22,w19.cell? a21=some (.int .i64 t22)/\
Calls Tryz.prog 32 #[.pointer t7,.int .i64 t22,.bool true] w19 λ e23 w24=>∃t25,e23=.returned (.string t25)/\
Q (.bool (t25.toList == (⟨#[97]⟩:ByteArray).toList)) w24) (
Q (.bool false) w19)) (
Q (.bool false) w6)) (
Q (.bool false) w6)
def V30_ann:Nat->Ann:=λ _=>⟨[],[]⟩
theorem V30_sound (w Q) (h:V30  w Q):Calls Tryz.prog 30 #[] w λ e w'=>∃v,e=.returned v/\Q v w':=
 sound_of Tryz.func30 V30_ann rfl (Eq.mpr (by kernel_rfl) h)
def V31J1 (Q:Value->World->Prop) (x37:Option Addr) (x38 x39:Nat) (x40 x41:Option Addr) (x42:Bool) (w43:World):Prop:=
bsel x42 (
Q (.tuple #[.pointer none,.slice none 0 0,.pointer none,.slice none 0 0,.bool false]) w43) (
Calls Tryz.prog 13 #[.pointer x40,.slice x37 x38 x39] w43 λ e44 w45=>∃t46 t47 t48 t49,e44=.returned (.tuple #[.slice t46 t47 t48,.int .i64 t49])/\
Calls Tryz.prog 66 #[.pointer x41,.slice x37 x38 x39] w45 λ e50 w51=>∃t52 t53 t54 t55,e50=.returned (.tuple #[.slice t52 t53 t54,.int .i64 t55])/\
bsel (t49 == t55) (
Q (.tuple #[.pointer x40,.slice t46 t47 t48,.pointer x41,.slice t52 t53 t54,.bool ((t47:Int) == (t53:Int))]) w51) (
Q (.tuple #[.pointer x40,.slice t46 t47 t48,.pointer x41,.slice t52 t53 t54,.bool false]) w51))
def V31 (x1:Option Addr) (x2 x3:Nat) (w:World) (Q:Value->World->Prop):Prop:=
newK w #[.int .i64 0,.int .i64 0,.int .i64 0,.slice none 0 0,.slice none 0 0] 32 λ a4 w5=>
stK w5 (a4.add 0) (.int .i64 0) λ w6=>
stK w6 (a4.add 1) (.int .i64 60000) λ w7=>
stK w7 (a4.add 2) (.int .i64 4) λ w8=>
stK w8 (a4.add 3) (.slice none 0 0) λ w9=>
stK w9 (a4.add 4) (.slice none 0 0) λ w10=>
∃t11 t12 t13 t14 t15 t16 t17 t18 t19,CellsAt w10 a4 [.int .i64 t11,.int .i64 t12,.int .i64 t13,.slice t14 t15 t16,.slice t17 t18 t19]/\
Calls Tryz.prog 11 #[.agg #[.int .i64 t11,.int .i64 t12,.int .i64 t13,.slice t14 t15 t16,.slice t17 t18 t19],.pointer none] w10 λ e20 w21=>∃t22 t23,e20=.returned (.tuple #[.pointer t22,.int .i64 t23])/\
∃t24 t25 t26 t27 t28 t29 t30 t31 t32,CellsAt w21 a4 [.int .i64 t24,.int .i64 t25,.int .i64 t26,.slice t27 t28 t29,.slice t30 t31 t32]/\
Calls Tryz.prog 65 #[.agg #[.int .i64 t24,.int .i64 t25,.int .i64 t26,.slice t27 t28 t29,.slice t30 t31 t32]] w21 λ e33 w34=>∃t35 t36,e33=.returned (.tuple #[.pointer t35,.int .i64 t36])/\
bsel (t23 != 0) (
V31J1 Q x1 x2 x3 t22 t35 true w34) (
V31J1 Q x1 x2 x3 t22 t35 (Option.isNone t22) w34)
def V31_ann:Nat->Ann:=λ _=>⟨[],[]⟩
theorem V31_sound (x1 x2 x3 w Q) (h:V31 x1 x2 x3 w Q):Calls Tryz.prog 31 #[.slice x1 x2 x3] w λ e w'=>∃v,e=.returned v/\Q v w':=
 sound_of Tryz.func31 V31_ann rfl (Eq.mpr (by kernel_rfl) h)
def V32J1 (Q:Value->World->Prop) (w16:World) (x36:Addr) (w37:World):Prop:=
Calls Tryz.prog 70 #[.pointer (some x36)] w37 λ e38 w39=>∃t40,e38=.returned (.string t40)/\
((w39.heap[w16.heap.size]?=some (.deferred (some [])))/\Q (.string t40) (w39.putObj w16.heap.size (.deferred none)))
def V32J2 (Q:Value->World->Prop) (x8:Option Addr) (x9:Int) (x10:ByteArray) (x11:Bool) (w12:World):Prop:=
bsel x11 (
Q (.string x10) w12) (
newK w12 #[.pointer none,.slice none 0 0] 150 λ a13 w14=>
Calls Tryz.prog 67 #[.pointer x8,.int .i64 x9] w14 λ e15 w16=>∃t17,e15=.returned (t17)/\
∀Rec18:LoopState->Option Code->Obj,(∀s p c e f,Rec18 s p≠.cells c e f)->
(∀(w19:World) (K20:Bool->World->Prop),w19.heap[(w16.heap.size+1)]?=some (Rec18 .ready none)->∀(y21:ByteArray),(
w19.heap[(w16.heap.size+1)]?=some (Rec18 .ready none)/\
Calls Tryz.prog 68 #[.pointer (some a13)] (w19.putObj (w16.heap.size+1) (Rec18 .busy none)) λ e22 w23=>∃t24,e22=.returned (.int .i64 t24)/\
bsel (decide (t24>=4096)) (
Calls Tryz.prog 69 #[.pointer (some a13),.string (⟨#[46,46,46]⟩:ByteArray)] w23 λ e25 w26=>∃t27 t28,e25=.returned (.tuple #[.int .i64 t27,t28])/\
((∃s p,w26.heap[(w16.heap.size+1)]?=some (Rec18 s p))/\K20 false (w26.putObj (w16.heap.size+1) (Rec18 .done (some (.exit 0)))))) (
Calls Tryz.prog 69 #[.pointer (some a13),.string y21] w23 λ e29 w30=>∃t31 t32,e29=.returned (.tuple #[.int .i64 t31,t32])/\
((∃s p,w30.heap[(w16.heap.size+1)]?=some (Rec18 s p))/\K20 true (w30.putObj (w16.heap.size+1) (Rec18 .ready none)))))->RoundK Tryz.prog (w16.heap.size+1) #[.string y21] w19 K20)->
CallG Tryz.prog t17 #[.func (.yield (w16.heap.size+1)) #[] #[]] ((w16.alloc (.deferred (some []))).alloc (Rec18 .ready none)) λ e33 w34=>(∃v35,e33=.returned v35)/\((w34.heap[(w16.heap.size+1)]?=some (Rec18 .ready none)/\
V32J1 Q w16 a13 (w34.putObj (w16.heap.size+1) (Rec18 .exhausted none)))\/
(w34.heap[(w16.heap.size+1)]?=some (Rec18 .done (some (.exit 0)))/\
V32J1 Q w16 a13 (w34.putObj (w16.heap.size+1) (Rec18 .exhausted (some (.exit 0)))))\/False))
def V32 (x1:Option Addr) (x2:Int) (x3:Bool) (w:World) (Q:Value->World->Prop):Prop:=
Calls Tryz.prog 44 #[.pointer x1,.int .i64 x2] w λ e4 w5=>∃t6 t7,e4=.returned (.tuple #[.string t6,.bool t7])/\
bsel t7 (
V32J2 Q x1 x2 t6 x3 w5) (
V32J2 Q x1 x2 t6 false w5)
def V32_sh:Nat->List (Nat × Shape):=λ k=>match k with | 0=>[(25,.one (.str))] | _=>[]
def V32_ann:Nat->Ann:=λ _=>⟨[],[]⟩
theorem V32_sound (x1 x2 x3 w Q) (h:V32 x1 x2 x3 w Q):Calls Tryz.prog 32 #[.pointer x1,.int .i64 x2,.bool x3] w λ e w'=>∃v,e=.returned v/\Q v w':=
 sound_ofM Tryz.func32 V32_ann V32_sh rfl (Eq.mpr (by kernel_rfl) h)
def V48 (x1:Option Addr) (x2:Int) (w:World) (Q:Value->World->Prop):Prop:=
Calls Tryz.prog 41 #[.pointer x1,.int .i64 x2] w λ e3 w4=>∃t5,e3=.returned (t5)/\
eqNilI t5 λ b6=>
bsel b6 (
Q .nilIface w4) (
InvK Tryz.prog t5 "lexicon/store.numbered" #[] w4 λ e10 w11=>∃t12,e10=.returned (.int .i64 t12)/\
bsel (t12 == 0) (
InvK Tryz.prog t5 "Kind" #[] w11 λ e13 w14=>∃t15,e13=.returned (.int .i64 t15)/\
bsel (t15 != 11) (
Q .nilIface w14) (
Q t5 w14)) (
Q t5 w11))
def V48_ann:Nat->Ann:=λ _=>⟨[],[]⟩
theorem V48_sound (x1 x2 w Q) (h:V48 x1 x2 w Q):Calls Tryz.prog 48 #[.pointer x1,.int .i64 x2] w λ e w'=>∃v,e=.returned v/\Q v w':=
 sound_of Tryz.func48 V48_ann rfl (Eq.mpr (by kernel_rfl) h)
def V67 (x1:Option Addr) (x2:Int) (w:World) (Q:Value->World->Prop):Prop:=
newK w #[.pointer x1] 25 λ a3 w4=>
newK w4 #[.int .i64 x2] 3 λ a5 w6=>
Q (.func (.func 118) #[] #[.pointer (some a3),.pointer (some a5)]) w6
def V67_ann:Nat->Ann:=λ _=>⟨[],[]⟩
theorem V67_sound (x1 x2 w Q) (h:V67 x1 x2 w Q):Calls Tryz.prog 67 #[.pointer x1,.int .i64 x2] w λ e w'=>∃v,e=.returned v/\Q v w':=
 sound_of Tryz.func67 V67_ann rfl (Eq.mpr (by kernel_rfl) h)
def V68 (x1:Option Addr) (w:World) (Q:Value->World->Prop):Prop:=
nilK x1 λ a2=>
∃t3 t4 t5,w.cell? (a2.add 1)=some (.slice t3 t4 t5)/\
Q (.int .i64 (t4:Int)) w
def V68_ann:Nat->Ann:=λ _=>⟨[],[]⟩
theorem V68_sound (x1 w Q) (h:V68 x1 w Q):Calls Tryz.prog 68 #[.pointer x1] w λ e w'=>∃v,e=.returned v/\Q v w':=
 sound_of Tryz.func68 V68_ann rfl (Eq.mpr (by kernel_rfl) h)
def V118 (x1:Value) (x2 x3:Addr) (w:World) (Q:Value->World->Prop):Prop:=
∃t4,w.cell? x2=some (.pointer t4)/\
plK x1 (
newK w #[.pointer t4,x1,.slice none 0 0,.bool true] 231 λ a5 w6=>
∃t7,w6.cell? x3=some (.int .i64 t7)/\
Calls Tryz.prog 119 #[.pointer (some a5),.int .i64 t7] w6 λ e8 w9=>∃t10,e8=.returned (t10)/\
Q (.tuple #[]) w9)
def V118_ann:Nat->Ann:=λ _=>⟨[],[]⟩
theorem V118_sound (x1 x2 x3 w Q) (h:V118 x1 x2 x3 w Q):Calls Tryz.prog 118 #[x1,.pointer (some x2),.pointer (some x3)] w λ e w'=>∃v,e=.returned v/\Q v w':=
 sound_of Tryz.func118 V118_ann rfl (Eq.mpr (by kernel_rfl) h)
def V119 (x1:Option Addr) (x2:Int) (w:World) (Q:Value->World->Prop):Prop:=
newK w #[.pointer x1] 229 λ a3 w4=>
∃t5,w4.cell? a3=some (.pointer t5)/\
nilK t5 λ a6=>
∃t7,w4.cell? (a6.add 3)=some (.bool t7)/\
bsel (!t7) (
Q (.tuple #[]) w4) (
∃t8,w4.cell? a3=some (.pointer t8)/\
nilK t8 λ a9=>
∃t10,w4.cell? (a9.add 0)=some (.pointer t10)/\
Calls Tryz.prog 48 #[.pointer t10,.int .i64 x2] w4 λ e11 w12=>∃t13,e11=.returned (t13)/\
∃t14 t15,(∀w:World,(Instr.typeAssert t13 20 94 true).run Tryz.prog w=.ok (.tuple #[.pointer t14,.bool t15]) w)/\
bsel t15 (
newK w12 #[.pointer none] 94 λ a16 w17=>
stK w17 a16 (.pointer t14) λ w18=>
∃t19,w18.cell? a3=some (.pointer t19)/\
Calls Tryz.prog 191 #[.pointer t19,.int .i64 x2,.func (.func 192) #[] #[.pointer (some a3),.pointer (some a16)]] w18 λ e20 w21=>∃t22,e20=.returned (t22)/\
Q (.tuple #[]) w21) (
∃t24 t25,(∀w:World,(Instr.typeAssert t13 20 111 true).run Tryz.prog w=.ok (.tuple #[.pointer t24,.bool t25]) w)/\
bsel t25 (
newK w12 #[.pointer none] 111 λ a26 w27=>
stK w27 a26 (.pointer t24) λ w28=>
∃t29,w28.cell? a3=some (.pointer t29)/\
Calls Tryz.prog 191 #[.pointer t29,.int .i64 x2,.func (.func 194) #[] #[.pointer (some a3),.pointer (some a26)]] w28 λ e30 w31=>∃t32,e30=.returned (t32)/\
Q (.tuple #[]) w31) (
∃t34 t35,(∀w:World,(Instr.typeAssert t13 20 162 true).run Tryz.prog w=.ok (.tuple #[.pointer t34,.bool t35]) w)/\
bsel t35 (
newK w12 #[.pointer none] 162 λ a36 w37=>
stK w37 a36 (.pointer t34) λ w38=>
∃t39,w38.cell? a3=some (.pointer t39)/\
Calls Tryz.prog 191 #[.pointer t39,.int .i64 x2,.func (.func 196) #[] #[.pointer (some a3),.pointer (some a36)]] w38 λ e40 w41=>∃t42,e40=.returned (t42)/\
Q (.tuple #[]) w41) (
∃t44 t45,(∀w:World,(Instr.typeAssert t13 20 163 true).run Tryz.prog w=.ok (.tuple #[.pointer t44,.bool t45]) w)/\
bsel t45 (
∃t46,w12.cell? a3=some (.pointer t46)/\
Calls Tryz.prog 198 #[.pointer t46,.int .i64 x2,.pointer t44] w12 λ e47 w48=>∃t49,e47=.returned (t49)/\
Q (.tuple #[]) w48) (
∃t51 t52,(∀w:World,(Instr.typeAssert t13 20 284 true).run Tryz.prog w=.ok (.tuple #[.pointer t51,.bool t52]) w)/\
bsel t52 (
∃t53,w12.drew.cell? a3=some (.pointer t53)/\
nilK t51 λ a54=>
∃t55,w12.drew.cell? (a54.add 2)=some (.string t55)/\
((((⟨#[60,102,117,110,99,116,105,111,110,32]⟩:ByteArray).size+t55.size:Nat):Int)<=9223372036854775807)/\
(((((⟨#[60,102,117,110,99,116,105,111,110,32]⟩:ByteArray) ++ t55).size+(⟨#[62]⟩:ByteArray).size:Nat):Int)<=9223372036854775807)/\
newK w12.drew #[.string (((⟨#[60,102,117,110,99,116,105,111,110,32]⟩:ByteArray) ++ t55) ++ (⟨#[62]⟩:ByteArray))] 9 λ a56 w57=>
(w57.cell? a3=some (.pointer t53))/\
Calls Tryz.prog 199 #[.pointer t53,.slice (some a56) 1 1] w57 λ e58 w59=>∃t60,e58=.returned (t60)/\
Q (.tuple #[]) w59) (
∃t63 t64 t65,(∀w:World,(Instr.typeAssert t13 20 105 true).run Tryz.prog w=.ok (.tuple #[.agg #[.int .i64 t63,.string t64],.bool t65]) w)/\
bsel t65 (
newK w12 #[.int .i64 0,.string ⟨#[]⟩] 105 λ a66 w67=>
stK w67 (a66.add 0) (.int .i64 t63) λ w68=>
stK w68 (a66.add 1) (.string t64) λ w69=>
∃t70,w69.drew.cell? a3=some (.pointer t70)/\
∃t71,w69.drew.cell? a3=some (.pointer t71)/\
nilK t71 λ a72=>
∃t73,w69.drew.cell? (a72.add 0)=some (.pointer t73)/\
Calls Tryz.prog 34 #[.pointer t73,.int .i64 x2] w69.drew λ e74 w75=>∃t76,e74=.returned (.string t76)/\
(w75.cell? a3=some (.pointer t70))/\
newK w75 #[.string t76] 9 λ a77 w78=>
(w78.cell? a3=some (.pointer t70))/\
Calls Tryz.prog 199 #[.pointer t70,.slice (some a77) 1 1] w78 λ e79 w80=>∃t81,e79=.returned (t81)/\
Q (.tuple #[]) w80) (
∃t84 t85,(∀w:World,(Instr.typeAssert t13 20 285 true).run Tryz.prog w=.ok (.tuple #[.pointer t84,.bool t85]) w)/\
bsel t85 (
∃t86,w12.drew.cell? a3=some (.pointer t86)/\
∃t87,w12.drew.cell? a3=some (.pointer t87)/\
nilK t87 λ a88=>
∃t89,w12.drew.cell? (a88.add 0)=some (.pointer t89)/\
nilK t84 λ a90=>
∃t91,w12.drew.cell? (a90.add 2)=some (.int .i64 t91)/\
Calls Tryz.prog 200 #[.pointer t89,.int .i64 t91] w12.drew λ e92 w93=>∃t94,e92=.returned (.string t94)/\
(w93.cell? a3=some (.pointer t86))/\
((((⟨#[60,109,101,116,104,111,100,32]⟩:ByteArray).size+t94.size:Nat):Int)<=9223372036854775807)/\
(((((⟨#[60,109,101,116,104,111,100,32]⟩:ByteArray) ++ t94).size+(⟨#[62]⟩:ByteArray).size:Nat):Int)<=9223372036854775807)/\
newK w93 #[.string (((⟨#[60,109,101,116,104,111,100,32]⟩:ByteArray) ++ t94) ++ (⟨#[62]⟩:ByteArray))] 9 λ a95 w96=>
(w96.cell? a3=some (.pointer t86))/\
Calls Tryz.prog 199 #[.pointer t86,.slice (some a95) 1 1] w96 λ e97 w98=>∃t99,e97=.returned (t99)/\
Q (.tuple #[]) w98) (
∃t102 t103,(∀w:World,(Instr.typeAssert t13 20 190 true).run Tryz.prog w=.ok (.tuple #[.pointer t102,.bool t103]) w)/\
bsel t103 (
∃t104,w12.drew.cell? a3=some (.pointer t104)/\
nilK t102 λ a105=>
∃t106,w12.drew.cell? (a105.add 2)=some (.string t106)/\
((((⟨#[60,99,108,97,115,115,32]⟩:ByteArray).size+t106.size:Nat):Int)<=9223372036854775807)/\
(((((⟨#[60,99,108,97,115,115,32]⟩:ByteArray) ++ t106).size+(⟨#[62]⟩:ByteArray).size:Nat):Int)<=9223372036854775807)/\
newK w12.drew #[.string (((⟨#[60,99,108,97,115,115,32]⟩:ByteArray) ++ t106) ++ (⟨#[62]⟩:ByteArray))] 9 λ a107 w108=>
(w108.cell? a3=some (.pointer t104))/\
Calls Tryz.prog 199 #[.pointer t104,.slice (some a107) 1 1] w108 λ e109 w110=>∃t111,e109=.returned (t111)/\
Q (.tuple #[]) w110) (
∃t114 t115,(∀w:World,(Instr.typeAssert t13 20 310 true).run Tryz.prog w=.ok (.tuple #[.pointer t114,.bool t115]) w)/\
bsel t115 (
∃t116,w12.cell? a3=some (.pointer t116)/\
newK w12 #[.string (⟨#[60,99,101,108,108,62]⟩:ByteArray)] 9 λ a117 w118=>
Calls Tryz.prog 199 #[.pointer t116,.slice (some a117) 1 1] w118 λ e119 w120=>∃t121,e119=.returned (t121)/\
Q (.tuple #[]) w120) (
eqNilI t13 λ b123=>
bsel b123 (
∃t124,w12.cell? a3=some (.pointer t124)/\
nilK t124 λ a125=>
∃t126,w12.cell? (a125.add 0)=some (.pointer t126)/\
Calls Tryz.prog 34 #[.pointer t126,.int .i64 x2] w12 λ e127 w128=>∃t129,e127=.returned (.string t129)/\
bsel (!(t129.toList == (⟨#[]⟩:ByteArray).toList)) (
∃t130,w128.cell? a3=some (.pointer t130)/\
newK w128 #[.string t129] 9 λ a131 w132=>
Calls Tryz.prog 199 #[.pointer t130,.slice (some a131) 1 1] w132 λ e133 w134=>∃t135,e133=.returned (t135)/\
Q (.tuple #[]) w134) (
Q (.tuple #[]) w128)) (
∃t138,w12.cell? a3=some (.pointer t138)/\
newK w12 #[.string (⟨#[60,105,116,101,114,97,116,111,114,62]⟩:ByteArray)] 9 λ a139 w140=>
Calls Tryz.prog 199 #[.pointer t138,.slice (some a139) 1 1] w140 λ e141 w142=>∃t143,e141=.returned (t143)/\
Q (.tuple #[]) w142)))))))))))
def V119_ann:Nat->Ann:=λ _=>⟨[],[]⟩
theorem V119_sound (x1 x2 w Q) (h:V119 x1 x2 w Q):Calls Tryz.prog 119 #[.pointer x1,.int .i64 x2] w λ e w'=>∃v,e=.returned v/\Q v w':=
 sound_of Tryz.func119 V119_ann rfl (Eq.mpr (by kernel_rfl) h)
def V191J1 (Q:Value->World->Prop) (x11:Option Addr) (x12:Int) (x13:Value) (x14:Bool) (w15:World):Prop:=
bsel x14 (
newK w15 #[.string (⟨#[46,46,46]⟩:ByteArray)] 9 λ a16 w17=>
Calls Tryz.prog 199 #[.pointer x11,.slice (some a16) 1 1] w17 λ e18 w19=>∃t20,e18=.returned (t20)/\
Q (.tuple #[]) w19) (
nilK x11 λ a21=>
∃t22 t23 t24,w15.cell? (a21.add 2)=some (.slice t22 t23 t24)/\
newK w15 #[.int .i64 x12] 3 λ a25 w26=>
∃w27:World,∃t28 t29 t30,(vcEff.bltV .append #[30,30] 30 #[.slice t22 t23 t24,.slice (some a25) 1 1]).run Tryz.prog w26=.ok (.slice t28 t29 t30) w27/\
nilK x11 λ a31=>
stK w27 (a31.add 2) (.slice t28 t29 t30) λ w32=>
CallV Tryz.prog x13 #[] w32 λ e33 w34=>∃t35,e33=.returned (t35)/\
nilK x11 λ a36=>
∃t37 t38 t39,w34.drew.cell? (a36.add 2)=some (.slice t37 t38 t39)/\
nilK x11 λ a40=>
∃t41 t42 t43,w34.drew.cell? (a40.add 2)=some (.slice t41 t42 t43)/\
slcK t37 t39 0 (IntKind.wrap .i64 ((t42:Int)-1)) 1 λ t44 t45 t46=>
nilK x11 λ a47=>
stK w34.drew (a47.add 2) (.slice t44 t45 t46) λ w48=>
Q (.tuple #[]) w48)
def V191 (x1:Option Addr) (x2:Int) (x3:Value) (w:World) (Q:Value->World->Prop):Prop:=
nilK x1 λ a4=>
∃t5 t6 t7,w.cell? (a4.add 2)=some (.slice t5 t6 t7)/\
Calls Tryz.prog 258 #[.slice t5 t6 t7,.int .i64 x2] w λ e8 w9=>∃t10,e8=.returned (.bool t10)/\
bsel t10 (
V191J1 Q x1 x2 x3 true w9) (
nilK x1 λ a49=>
∃t50 t51 t52,w9.cell? (a49.add 2)=some (.slice t50 t51 t52)/\
V191J1 Q x1 x2 x3 (decide ((t51:Int)>=20)) w9)
def V191_ann:Nat->Ann:=λ _=>⟨[],[]⟩
theorem V191_sound (x1 x2 x3 w Q) (h:V191 x1 x2 x3 w Q):Calls Tryz.prog 191 #[.pointer x1,.int .i64 x2,x3] w λ e w'=>∃v,e=.returned v/\Q v w':=
 sound_of Tryz.func191 V191_ann rfl (Eq.mpr (by kernel_rfl) h)
def V192 (x1 x2:Addr) (w:World) (Q:Value->World->Prop):Prop:=
∃t3,w.cell? x1=some (.pointer t3)/\
∃t4,w.cell? x2=some (.pointer t4)/\
Calls Tryz.prog 193 #[.pointer t3,.pointer t4] w λ e5 w6=>∃t7,e5=.returned (t7)/\
Q (.tuple #[]) w6
def V192_ann:Nat->Ann:=λ _=>⟨[],[]⟩
theorem V192_sound (x1 x2 w Q) (h:V192 x1 x2 w Q):Calls Tryz.prog 192 #[.pointer (some x1),.pointer (some x2)] w λ e w'=>∃v,e=.returned v/\Q v w':=
 sound_of Tryz.func192 V192_ann rfl (Eq.mpr (by kernel_rfl) h)
def V193J1 (Q:Value->World->Prop) (x15 x16:Option Addr) (x17 x18:ByteArray) (w19:World):Prop:=
newK w19 #[.string x17] 9 λ a20 w21=>
Calls Tryz.prog 199 #[.pointer x15,.slice (some a20) 1 1] w21 λ e22 w23=>∃t24,e22=.returned (t24)/\
nilK x16 λ a25=>
∃t26 t27 t28,w23.cell? (a25.add 1)=some (.slice t26 t27 t28)/\
Calls Tryz.prog 259 #[.pointer x15,.slice t26 t27 t28,.func (.func 119) #[.pointer x15] #[]] w23 λ e29 w30=>∃t31,e29=.returned (t31)/\
newK w30 #[.string x18] 9 λ a32 w33=>
Calls Tryz.prog 199 #[.pointer x15,.slice (some a32) 1 1] w33 λ e34 w35=>∃t36,e34=.returned (t36)/\
Q (.tuple #[]) w35
def V193J2 (Q:Value->World->Prop) (x10 x11:Option Addr) (x12 x13:ByteArray) (w14:World):Prop:=
V193J1 Q x10 x11 x12 x13 w14
def V193 (x1 x2:Option Addr) (w:World) (Q:Value->World->Prop):Prop:=
Calls Tryz.prog 158 #[.pointer x2] w λ e3 w4=>∃t5,e3=.returned (.int .i64 t5)/\
bsel (t5 == 5) (
nilK x2 λ a6=>
∃t7 t8 t9,w4.cell? (a6.add 1)=some (.slice t7 t8 t9)/\
bsel ((t8:Int) == 1) (
V193J2 Q x1 x2 (⟨#[40]⟩:ByteArray) (⟨#[44,41]⟩:ByteArray) w4) (
V193J2 Q x1 x2 (⟨#[40]⟩:ByteArray) (⟨#[41]⟩:ByteArray) w4)) (
V193J1 Q x1 x2 (⟨#[91]⟩:ByteArray) (⟨#[93]⟩:ByteArray) w4)
def V193_ann:Nat->Ann:=λ _=>⟨[],[]⟩
theorem V193_sound (x1 x2 w Q) (h:V193 x1 x2 w Q):Calls Tryz.prog 193 #[.pointer x1,.pointer x2] w λ e w'=>∃v,e=.returned v/\Q v w':=
 sound_of Tryz.func193 V193_ann rfl (Eq.mpr (by kernel_rfl) h)
def V199 (x1 x2:Option Addr) (x3 x4:Nat) (w:World) (Q:Value->World->Prop):Prop:=
∃(I5:Int->World->Prop) (μ6:Int->World->Nat),I5 0 w/\∀(j9:Fr) (i7:Int) (w8:World),I5 i7 w8->
bsel (decide (i7<(x3:Int))) (
idxK x2 x3 i7 1 λ a10=>
∃t11,w8.cell? a10=some (.string t11)/\
nilK x1 λ a12=>
∃t13,w8.cell? (a12.add 3)=some (.bool t13)/\
bsel t13 (
nilK x1 λ a14=>
∃t15,w8.cell? (a14.add 1)=some (t15)/\
CallV Tryz.prog t15 #[.string t11] w8 λ e16 w17=>∃t18,e16=.returned (.bool t18)/\
nilK x1 λ a19=>
stK w17 (a19.add 3) (.bool t18) λ w20=>
(I5 (IntKind.wrap .i64 (i7+1)) w20/\μ6 (IntKind.wrap .i64 (i7+1)) w20<μ6 i7 w8)) (
nilK x1 λ a28=>
stK w8 (a28.add 3) (.bool false) λ w29=>
(I5 (IntKind.wrap .i64 (i7+1)) w29/\μ6 (IntKind.wrap .i64 (i7+1)) w29<μ6 i7 w8))) (
Q (.tuple #[]) w8)
def V199_ann:Nat->Ann:=λ k=>match k with | 0=>⟨[0,6,7],[(8,.int .i64)]⟩ | _=>⟨[],[]⟩
theorem V199_sound (x1 x2 x3 x4 w Q) (h:V199 x1 x2 x3 x4 w Q):Calls Tryz.prog 199 #[.pointer x1,.slice x2 x3 x4] w λ e w'=>∃v,e=.returned v/\Q v w':=
 sound_of Tryz.func199 V199_ann rfl (Eq.mpr (by kernel_rfl) h)
def V258 (x1:Option Addr) (x2 x3:Nat) (x4:Int) (w:World) (Q:Value->World->Prop):Prop:=
Calls Tryz.prog 314 #[.slice x1 x2 x3,.int .i64 x4] w λ e5 w6=>∃t7,e5=.returned (.int .i64 t7)/\
Q (.bool (decide (t7>=0))) w6
def V258_ann:Nat->Ann:=λ _=>⟨[],[]⟩
theorem V258_sound (x1 x2 x3 x4 w Q) (h:V258 x1 x2 x3 x4 w Q):Calls Tryz.prog 258 #[.slice x1 x2 x3,.int .i64 x4] w λ e w'=>∃v,e=.returned v/\Q v w':=
 sound_of Tryz.func258 V258_ann rfl (Eq.mpr (by kernel_rfl) h)
def V259J1 (I6:Int->World->Prop) (μ7:Int->World->Nat) (i8:Int) (w9:World) (x20:Option Addr) (x21:Value) (x22:Int) (x23:Option Addr) (x24 x25:Nat) (x26 x27:Int) (w28:World):Prop:=
CallV Tryz.prog x21 #[.int .i64 x22] w28 λ e29 w30=>∃t31,e29=.returned (t31)/\
(I6 (IntKind.wrap .i64 (x27+1)) w30/\μ7 (IntKind.wrap .i64 (x27+1)) w30<μ7 i8 w9)
def V259 (x1 x2:Option Addr) (x3 x4:Nat) (x5:Value) (w:World) (Q:Value->World->Prop):Prop:=
∃(I6:Int->World->Prop) (μ7:Int->World->Nat),I6 0 w/\∀(j10:Fr) (i8:Int) (w9:World),I6 i8 w9->
bsel (decide (i8<(x3:Int))) (
idxK x2 x3 i8 1 λ a11=>
∃t12,w9.cell? a11=some (.int .i64 t12)/\
nilK x1 λ a13=>
∃t14,w9.cell? (a13.add 3)=some (.bool t14)/\
bsel (!t14) (
Q (.tuple #[]) w9) (
bsel (decide (i8>0)) (
newK w9 #[.string (⟨#[44,32]⟩:ByteArray)] 9 λ a15 w16=>
Calls Tryz.prog 199 #[.pointer x1,.slice (some a15) 1 1] w16 λ e17 w18=>∃t19,e17=.returned (t19)/\
V259J1 I6 μ7 i8 w9 x1 x5 t12 x2 x3 x4 (x3:Int) i8 w18) (
V259J1 I6 μ7 i8 w9 x1 x5 t12 x2 x3 x4 (x3:Int) i8 w9))) (
Q (.tuple #[]) w9)
def V259_ann:Nat->Ann:=λ k=>match k with | 0=>⟨[0,2,8,9],[(10,.int .i64)]⟩ | _=>⟨[],[]⟩
theorem V259_sound (x1 x2 x3 x4 x5 w Q) (h:V259 x1 x2 x3 x4 x5 w Q):Calls Tryz.prog 259 #[.pointer x1,.slice x2 x3 x4,x5] w λ e w'=>∃v,e=.returned v/\Q v w':=
 sound_of Tryz.func259 V259_ann rfl (Eq.mpr (by kernel_rfl) h)
def V314 (x1:Option Addr) (x2 x3:Nat) (x4:Int) (w:World) (Q:Value->World->Prop):Prop:=
∃(I5:Int->World->Prop) (μ6:Int->World->Nat),I5 0 w/\∀(j9:Fr) (i7:Int) (w8:World),I5 i7 w8->
bsel (decide (i7<(x2:Int))) (
idxK x1 x2 i7 1 λ a10=>
∃t11,w8.cell? a10=some (.int .i64 t11)/\
bsel (x4 == t11) (
Q (.int .i64 i7) w8) (
(I5 (IntKind.wrap .i64 (i7+1)) w8/\μ6 (IntKind.wrap .i64 (i7+1)) w8<μ6 i7 w8))) (
Q (.int .i64 (-1)) w8)
def V314_ann:Nat->Ann:=λ k=>match k with | 0=>⟨[0,1,7],[(8,.int .i64)]⟩ | _=>⟨[],[]⟩
theorem V314_sound (x1 x2 x3 x4 w Q) (h:V314 x1 x2 x3 x4 w Q):Calls Tryz.prog 314 #[.slice x1 x2 x3,.int .i64 x4] w λ e w'=>∃v,e=.returned v/\Q v w':=
 sound_of Tryz.func314 V314_ann rfl (Eq.mpr (by kernel_rfl) h)
end Go.Fw

namespace Go.Fw
abbrev Out:=List UInt8 × Bool
def dots:List UInt8:=[46,46,46]
def emit (s:List UInt8) (o:Out):Out:=match o.2 with
 | true=>if 4096<=o.1.length then (o.1 ++ dots,false) else (o.1 ++ s,true)
 | false=>o
inductive SV where
 | leaf (t:List UInt8)
 | row (tup:Bool) (kids:List Nat)
def tellL (tell:Nat->Out->Out):Bool->List Nat->Out->Out
 | _,[],o=>o
 | first,k :: ks,o=>match o.2 with
  | true=>tellL tell false ks (tell k (if first then o else emit [44,32] o))
  | false=>o
def opens (tup:Bool):List UInt8:=if tup then [40] else [91]
def shuts (tup:Bool) (n:Nat):List UInt8:=if tup then (if n=1 then [44,41] else [41]) else [93]
def tellV (G:Nat->SV):Nat->List Nat->Nat->Out->Out
 | f,op,v,o=>match o.2 with
  | false=>o
  | true=>match G v with
   | .leaf t=>emit t o
   | .row tup kids=>match f with
    | 0=>emit dots o
    | f+1=>if v ∈ op then emit dots o else
     emit (shuts tup kids.length) (tellL (λ k o=>tellV G f (op ++ [v]) k o) true kids (emit (opens tup) o))
theorem emit_off (s:List UInt8) (o:Out) (h:o.2=false):emit s o=o:=by unfold emit;rw [h]
theorem tellV_leaf {G:Nat->SV} {v:Nat} {t:List UInt8} (h:G v=.leaf t) (f:Nat) (op:List Nat) (o:Out):tellV G f op v o=emit t o:=by
 unfold tellV
 obtain ⟨a,b⟩:=o
 cases b
 ·exact (emit_off _ _ rfl).symm
 ·simp only [h]
end Go.Fw
