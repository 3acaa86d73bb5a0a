/- Part of a proof over the given program: a text of lemmas (conditions: none beyond each lemma as stated). -/
import Derived.Test.YtlnpfkmbielifaaGreatDoorFwP
set_option linter.unnecessarySimpa false
set_option linter.unusedSimpArgs false
set_option autoImplicit false
set_option linter.unusedVariables false
set_option maxRecDepth 100000
namespace Go.Fw
open Go.Proofs

def V102 (x1 : Int) (x2 : Int) (w : World) (Q : Value → World → Prop) : Prop :=
newK w #[.int .u8 0, .int .u8 0, .int .u8 0, .int .u8 0] 258 fun a3 w4 =>
∃ (I5 : Int → Int → World → Prop) (μ6 : Int → Int → World → Nat), I5 x1 0 w4 ∧ ∀ (j10 : Fr) (i7 : Int) (i8 : Int) (w9 : World), I5 i7 i8 w9 →
bsel (decide (i8 < x2)) (
sidxK (⟨#[48, 49, 50, 51, 52, 53, 54, 55, 56, 57, 97, 98, 99, 100, 101, 102]⟩ : ByteArray) (bAnd .i32 i7 15) fun c11 =>
aidxK a3 4 (IntKind.wrap .i64 (IntKind.wrap .i64 (x2 - 1) - i8)) 1 fun a12 =>
stK w9 a12 (.int .u8 c11) fun w13 =>
((0 : Int) ≤ 4) ∧
(I5 (shr .i32 i7 4) (IntKind.wrap .i64 (i8 + 1)) w13 ∧ μ6 (shr .i32 i7 4) (IntKind.wrap .i64 (i8 + 1)) w13 < μ6 i7 i8 w9)) (
∃ t14 : Option Addr, ∃ t15 : Nat, ∃ t16 : Nat, (∀ w : World, (Instr.sliceAt 258 (.pointer (some a3)) none (some (.int .i64 x2)) none).run Tryz.prog w = .ok (.slice t14 t15 t16) w) ∧
∃ w17 : World, ∃ t18 : ByteArray, (Go.convert 162 9 (.slice t14 t15 t16)).run Tryz.prog w9 = .ok (.string t18) w17 ∧
Q (.string t18) w17)

def V102_ann : Nat → Ann := fun k => match k with | 0 => ⟨[1, 5, 7], [(0, .int .i32), (8, .int .i64)]⟩ | _ => ⟨[], []⟩
theorem V102_eq (x1 : Int) (x2 : Int) (w : World) (Q : Value → World → Prop) : (match Tryz.f102.body with | some c => wpC Tryz.prog Tryz.f102.ntmps V102_ann c 0 (resQ Tryz.prog Tryz.f102.ntmps Tryz.f102.results.toList Q) (argsF [.int .i32 x1, .int .i64 x2]) w | none => False) = V102 x1 x2 w Q := by kernel_rfl
theorem V102_sound (x1 : Int) (x2 : Int) (w : World) (Q : Value → World → Prop) (h : V102 x1 x2 w Q) : Calls Tryz.prog 102 #[.int .i32 x1, .int .i64 x2] w fun e w' => ∃ v, e = .returned v ∧ Q v w' :=
  sound_of Tryz.func102 V102_ann rfl ((V102_eq x1 x2 w Q).mpr h)

def V220  (w : World) (Q : Value → World → Prop) : Prop :=
newK w #[] 68 fun a1 w2 =>
Q (.int .i64 0) w2

def V220_ann : Nat → Ann := fun _ => ⟨[], []⟩
theorem V220_eq  (w : World) (Q : Value → World → Prop) : (match Tryz.f220.body with | some c => wpC Tryz.prog Tryz.f220.ntmps V220_ann c 0 (resQ Tryz.prog Tryz.f220.ntmps Tryz.f220.results.toList Q) (argsF [.agg #[]]) w | none => False) = V220  w Q := by kernel_rfl
theorem V220_sound  (w : World) (Q : Value → World → Prop) (h : V220  w Q) : Calls Tryz.prog 220 #[.agg #[]] w fun e w' => ∃ v, e = .returned v ∧ Q v w' :=
  sound_of Tryz.func220 V220_ann rfl ((V220_eq  w Q).mpr h)

def V221  (w : World) (Q : Value → World → Prop) : Prop :=
newK w #[] 70 fun a1 w2 =>
Q (.int .i64 1) w2

def V221_ann : Nat → Ann := fun _ => ⟨[], []⟩
theorem V221_eq  (w : World) (Q : Value → World → Prop) : (match Tryz.f221.body with | some c => wpC Tryz.prog Tryz.f221.ntmps V221_ann c 0 (resQ Tryz.prog Tryz.f221.ntmps Tryz.f221.results.toList Q) (argsF [.agg #[]]) w | none => False) = V221  w Q := by kernel_rfl
theorem V221_sound  (w : World) (Q : Value → World → Prop) (h : V221  w Q) : Calls Tryz.prog 221 #[.agg #[]] w fun e w' => ∃ v, e = .returned v ∧ Q v w' :=
  sound_of Tryz.func221 V221_ann rfl ((V221_eq  w Q).mpr h)

def V222 (x1 : Bool) (w : World) (Q : Value → World → Prop) : Prop :=
newK w #[.bool x1] 72 fun a2 w3 =>
Q (.int .i64 2) w3

def V222_ann : Nat → Ann := fun _ => ⟨[], []⟩
theorem V222_eq (x1 : Bool) (w : World) (Q : Value → World → Prop) : (match Tryz.f222.body with | some c => wpC Tryz.prog Tryz.f222.ntmps V222_ann c 0 (resQ Tryz.prog Tryz.f222.ntmps Tryz.f222.results.toList Q) (argsF [.agg #[.bool x1]]) w | none => False) = V222 x1 w Q := by kernel_rfl
theorem V222_sound (x1 : Bool) (w : World) (Q : Value → World → Prop) (h : V222 x1 w Q) : Calls Tryz.prog 222 #[.agg #[.bool x1]] w fun e w' => ∃ v, e = .returned v ∧ Q v w' :=
  sound_of Tryz.func222 V222_ann rfl ((V222_eq x1 w Q).mpr h)

def V223 (x1 : Option Addr) (w : World) (Q : Value → World → Prop) : Prop :=
nilK x1 fun a2 =>
∃ t3 : Int, w.cell? (a2.add 2) = some (.int .i64 t3) ∧
Q (.int .i64 t3) w

def V223_ann : Nat → Ann := fun _ => ⟨[], []⟩
theorem V223_eq (x1 : Option Addr) (w : World) (Q : Value → World → Prop) : (match Tryz.f223.body with | some c => wpC Tryz.prog Tryz.f223.ntmps V223_ann c 0 (resQ Tryz.prog Tryz.f223.ntmps Tryz.f223.results.toList Q) (argsF [.pointer x1]) w | none => False) = V223 x1 w Q := by kernel_rfl
theorem V223_sound (x1 : Option Addr) (w : World) (Q : Value → World → Prop) (h : V223 x1 w Q) : Calls Tryz.prog 223 #[.pointer x1] w fun e w' => ∃ v, e = .returned v ∧ Q v w' :=
  sound_of Tryz.func223 V223_ann rfl ((V223_eq x1 w Q).mpr h)

def V225 (x1 : Int) (w : World) (Q : Value → World → Prop) : Prop :=
newK w #[.int .i64 x1] 84 fun a2 w3 =>
∃ t4 : Int, w3.cell? (a2.add 0) = some (.int .i64 t4) ∧
Q (.int .i64 t4) w3

def V225_ann : Nat → Ann := fun _ => ⟨[], []⟩
theorem V225_eq (x1 : Int) (w : World) (Q : Value → World → Prop) : (match Tryz.f225.body with | some c => wpC Tryz.prog Tryz.f225.ntmps V225_ann c 0 (resQ Tryz.prog Tryz.f225.ntmps Tryz.f225.results.toList Q) (argsF [.agg #[.int .i64 x1]]) w | none => False) = V225 x1 w Q := by kernel_rfl
theorem V225_sound (x1 : Int) (w : World) (Q : Value → World → Prop) (h : V225 x1 w Q) : Calls Tryz.prog 225 #[.agg #[.int .i64 x1]] w fun e w' => ∃ v, e = .returned v ∧ Q v w' :=
  sound_of Tryz.func225 V225_ann rfl ((V225_eq x1 w Q).mpr h)

def V226 (x1 : Int) (x2 : ByteArray) (w : World) (Q : Value → World → Prop) : Prop :=
newK w #[.int .i64 x1, .string x2] 91 fun a3 w4 =>
Q (.int .i64 11) w4

def V226_ann : Nat → Ann := fun _ => ⟨[], []⟩
theorem V226_eq (x1 : Int) (x2 : ByteArray) (w : World) (Q : Value → World → Prop) : (match Tryz.f226.body with | some c => wpC Tryz.prog Tryz.f226.ntmps V226_ann c 0 (resQ Tryz.prog Tryz.f226.ntmps Tryz.f226.results.toList Q) (argsF [.agg #[.int .i64 x1, .string x2]]) w | none => False) = V226 x1 x2 w Q := by kernel_rfl
theorem V226_sound (x1 : Int) (x2 : ByteArray) (w : World) (Q : Value → World → Prop) (h : V226 x1 x2 w Q) : Calls Tryz.prog 226 #[.agg #[.int .i64 x1, .string x2]] w fun e w' => ∃ v, e = .returned v ∧ Q v w' :=
  sound_of Tryz.func226 V226_ann rfl ((V226_eq x1 x2 w Q).mpr h)

def V227 (x1 : ByteArray) (w : World) (Q : Value → World → Prop) : Prop :=
newK w #[.string x1] 96 fun a2 w3 =>
Q (.int .i64 4) w3

def V227_ann : Nat → Ann := fun _ => ⟨[], []⟩
theorem V227_eq (x1 : ByteArray) (w : World) (Q : Value → World → Prop) : (match Tryz.f227.body with | some c => wpC Tryz.prog Tryz.f227.ntmps V227_ann c 0 (resQ Tryz.prog Tryz.f227.ntmps Tryz.f227.results.toList Q) (argsF [.agg #[.string x1]]) w | none => False) = V227 x1 w Q := by kernel_rfl
theorem V227_sound (x1 : ByteArray) (w : World) (Q : Value → World → Prop) (h : V227 x1 w Q) : Calls Tryz.prog 227 #[.agg #[.string x1]] w fun e w' => ∃ v, e = .returned v ∧ Q v w' :=
  sound_of Tryz.func227 V227_ann rfl ((V227_eq x1 w Q).mpr h)

def V229 (x1 : Option Addr) (w : World) (Q : Value → World → Prop) : Prop :=
nilK x1 fun a2 =>
∃ t3 : Int, w.cell? (a2.add 2) = some (.int .i64 t3) ∧
Q (.int .i64 t3) w

def V229_ann : Nat → Ann := fun _ => ⟨[], []⟩
theorem V229_eq (x1 : Option Addr) (w : World) (Q : Value → World → Prop) : (match Tryz.f229.body with | some c => wpC Tryz.prog Tryz.f229.ntmps V229_ann c 0 (resQ Tryz.prog Tryz.f229.ntmps Tryz.f229.results.toList Q) (argsF [.pointer x1]) w | none => False) = V229 x1 w Q := by kernel_rfl
theorem V229_sound (x1 : Option Addr) (w : World) (Q : Value → World → Prop) (h : V229 x1 w Q) : Calls Tryz.prog 229 #[.pointer x1] w fun e w' => ∃ v, e = .returned v ∧ Q v w' :=
  sound_of Tryz.func229 V229_ann rfl ((V229_eq x1 w Q).mpr h)

def V230 (x1 : Option Addr) (w : World) (Q : Value → World → Prop) : Prop :=
nilK x1 fun a2 =>
∃ t3 : Int, w.cell? (a2.add 2) = some (.int .i64 t3) ∧
Q (.int .i64 t3) w

def V230_ann : Nat → Ann := fun _ => ⟨[], []⟩
theorem V230_eq (x1 : Option Addr) (w : World) (Q : Value → World → Prop) : (match Tryz.f230.body with | some c => wpC Tryz.prog Tryz.f230.ntmps V230_ann c 0 (resQ Tryz.prog Tryz.f230.ntmps Tryz.f230.results.toList Q) (argsF [.pointer x1]) w | none => False) = V230 x1 w Q := by kernel_rfl
theorem V230_sound (x1 : Option Addr) (w : World) (Q : Value → World → Prop) (h : V230 x1 w Q) : Calls Tryz.prog 230 #[.pointer x1] w fun e w' => ∃ v, e = .returned v ∧ Q v w' :=
  sound_of Tryz.func230 V230_ann rfl ((V230_eq x1 w Q).mpr h)

def V231 (x1 : Option Addr) (w : World) (Q : Value → World → Prop) : Prop :=
Q (.int .i64 14) w

def V231_ann : Nat → Ann := fun _ => ⟨[], []⟩
theorem V231_eq (x1 : Option Addr) (w : World) (Q : Value → World → Prop) : (match Tryz.f231.body with | some c => wpC Tryz.prog Tryz.f231.ntmps V231_ann c 0 (resQ Tryz.prog Tryz.f231.ntmps Tryz.f231.results.toList Q) (argsF [.pointer x1]) w | none => False) = V231 x1 w Q := by kernel_rfl
theorem V231_sound (x1 : Option Addr) (w : World) (Q : Value → World → Prop) (h : V231 x1 w Q) : Calls Tryz.prog 231 #[.pointer x1] w fun e w' => ∃ v, e = .returned v ∧ Q v w' :=
  sound_of Tryz.func231 V231_ann rfl ((V231_eq x1 w Q).mpr h)

def V234 (x1 : Bool) (x2 : Option Addr) (x3 : Nat) (x4 : Nat) (w : World) (Q : Value → World → Prop) : Prop :=
newK w #[.bool x1, .slice x2 x3 x4] 112 fun a5 w6 =>
Q (.int .i64 3) w6

def V234_ann : Nat → Ann := fun _ => ⟨[], []⟩
theorem V234_eq (x1 : Bool) (x2 : Option Addr) (x3 : Nat) (x4 : Nat) (w : World) (Q : Value → World → Prop) : (match Tryz.f234.body with | some c => wpC Tryz.prog Tryz.f234.ntmps V234_ann c 0 (resQ Tryz.prog Tryz.f234.ntmps Tryz.f234.results.toList Q) (argsF [.agg #[.bool x1, .slice x2 x3 x4]]) w | none => False) = V234 x1 x2 x3 x4 w Q := by kernel_rfl
theorem V234_sound (x1 : Bool) (x2 : Option Addr) (x3 : Nat) (x4 : Nat) (w : World) (Q : Value → World → Prop) (h : V234 x1 x2 x3 x4 w Q) : Calls Tryz.prog 234 #[.agg #[.bool x1, .slice x2 x3 x4]] w fun e w' => ∃ v, e = .returned v ∧ Q v w' :=
  sound_of Tryz.func234 V234_ann rfl ((V234_eq x1 x2 x3 x4 w Q).mpr h)

def V235 (x1 : Option Addr) (w : World) (Q : Value → World → Prop) : Prop :=
Q (.int .i64 13) w

def V235_ann : Nat → Ann := fun _ => ⟨[], []⟩
theorem V235_eq (x1 : Option Addr) (w : World) (Q : Value → World → Prop) : (match Tryz.f235.body with | some c => wpC Tryz.prog Tryz.f235.ntmps V235_ann c 0 (resQ Tryz.prog Tryz.f235.ntmps Tryz.f235.results.toList Q) (argsF [.pointer x1]) w | none => False) = V235 x1 w Q := by kernel_rfl
theorem V235_sound (x1 : Option Addr) (w : World) (Q : Value → World → Prop) (h : V235 x1 w Q) : Calls Tryz.prog 235 #[.pointer x1] w fun e w' => ∃ v, e = .returned v ∧ Q v w' :=
  sound_of Tryz.func235 V235_ann rfl ((V235_eq x1 w Q).mpr h)

def V36 (x1 : Option Addr) (x2 : Nat) (x3 : Nat) (w : World) (Q : Value → World → Prop) : Prop :=
bsel (Option.isNone x1) (
Q (.slice none 0 0) w) (
newK w #[] 3 fun a4 w5 =>
∃ w6 : World, ∃ t7 : Option Addr, ∃ t8 : Nat, ∃ t9 : Nat, (vcEff.bltV .append #[30, 30] 30 #[.slice (some a4) 0 0, .slice x1 x2 x3]).run Tryz.prog w5 = .ok (.slice t7 t8 t9) w6 ∧
Q (.slice t7 t8 t9) w6)

def V36_ann : Nat → Ann := fun _ => ⟨[], []⟩
theorem V36_eq (x1 : Option Addr) (x2 : Nat) (x3 : Nat) (w : World) (Q : Value → World → Prop) : (match Tryz.f36.body with | some c => wpC Tryz.prog Tryz.f36.ntmps V36_ann c 0 (resQ Tryz.prog Tryz.f36.ntmps Tryz.f36.results.toList Q) (argsF [.slice x1 x2 x3]) w | none => False) = V36 x1 x2 x3 w Q := by kernel_rfl
theorem V36_sound (x1 : Option Addr) (x2 : Nat) (x3 : Nat) (w : World) (Q : Value → World → Prop) (h : V36 x1 x2 x3 w Q) : Calls Tryz.prog 36 #[.slice x1 x2 x3] w fun e w' => ∃ v, e = .returned v ∧ Q v w' :=
  sound_of Tryz.func36 V36_ann rfl ((V36_eq x1 x2 x3 w Q).mpr h)

def V37 (x1 : Option Addr) (w : World) (Q : Value → World → Prop) : Prop :=
nilK x1 fun a2 =>
∃ t3 : Option Addr, w.drew.cell? (a2.add 1) = some (.pointer t3) ∧
nilK x1 fun a4 =>
∃ t5 : Int, w.drew.cell? (a4.add 2) = some (.int .i64 t5) ∧
Calls Tryz.prog 38 #[.pointer t3, .bool (t5 == 7)] w.drew fun e6 w7 => ∃ t8 : Option Addr, ∃ t9 : Nat, ∃ t10 : Nat, e6 = .returned (.slice t8 t9 t10) ∧
Q (.slice t8 t9 t10) w7

def V37_ann : Nat → Ann := fun _ => ⟨[], []⟩
theorem V37_eq (x1 : Option Addr) (w : World) (Q : Value → World → Prop) : (match Tryz.f37.body with | some c => wpC Tryz.prog Tryz.f37.ntmps V37_ann c 0 (resQ Tryz.prog Tryz.f37.ntmps Tryz.f37.results.toList Q) (argsF [.pointer x1]) w | none => False) = V37 x1 w Q := by kernel_rfl
theorem V37_sound (x1 : Option Addr) (w : World) (Q : Value → World → Prop) (h : V37 x1 w Q) : Calls Tryz.prog 37 #[.pointer x1] w fun e w' => ∃ v, e = .returned v ∧ Q v w' :=
  sound_of Tryz.func37 V37_ann rfl ((V37_eq x1 w Q).mpr h)

def V38 (x1 : Option Addr) (x2 : Bool) (w : World) (Q : Value → World → Prop) : Prop :=
Calls Tryz.prog 75 #[.pointer x1] w fun e3 w4 => ∃ t5 : Option Addr, ∃ t6 : Nat, ∃ t7 : Nat, e3 = .returned (.slice t5 t6 t7) ∧
∃ (I8 : Option Addr → Nat → Nat → Int → World → Prop) (μ9 : Option Addr → Nat → Nat → Int → World → Nat), I8 none 0 0 0 w4 ∧ ∀ (j15 : Fr) (i10 : Option Addr) (i11 : Nat) (i12 : Nat) (i13 : Int) (w14 : World), I8 i10 i11 i12 i13 w14 →
bsel (decide (i13 < (t6 : Int))) (
idxK t5 t6 i13 5 fun a16 =>
∃ t17 : Bool, ∃ t18 : Int, ∃ t19 : Int, ∃ t20 : Int, ∃ t21 : Int, CellsAt w14 a16 [.bool t17, .int .i64 t18, .int .i64 t19, .int .i64 t20, .int .i64 t21] ∧
newK w14 #[.bool false, .int .i64 0, .int .i64 0, .int .i64 0, .int .i64 0] 182 fun a22 w23 =>
stK w23 (a22.add 0) (.bool t17) fun w24 =>
stK w24 (a22.add 1) (.int .i64 t18) fun w25 =>
stK w25 (a22.add 2) (.int .i64 t19) fun w26 =>
stK w26 (a22.add 3) (.int .i64 t20) fun w27 =>
stK w27 (a22.add 4) (.int .i64 t21) fun w28 =>
∃ t29 : Int, w28.cell? (a22.add 2) = some (.int .i64 t29) ∧
newK w28 #[.int .i64 t29] 3 fun a30 w31 =>
∃ w32 : World, ∃ t33 : Option Addr, ∃ t34 : Nat, ∃ t35 : Nat, (vcEff.bltV .append #[30, 30] 30 #[.slice i10 i11 i12, .slice (some a30) 1 1]).run Tryz.prog w31 = .ok (.slice t33 t34 t35) w32 ∧
bsel x2 (
∃ t36 : Int, w32.cell? (a22.add 3) = some (.int .i64 t36) ∧
newK w32 #[.int .i64 t36] 3 fun a37 w38 =>
∃ w39 : World, ∃ t40 : Option Addr, ∃ t41 : Nat, ∃ t42 : Nat, (vcEff.bltV .append #[30, 30] 30 #[.slice t33 t34 t35, .slice (some a37) 1 1]).run Tryz.prog w38 = .ok (.slice t40 t41 t42) w39 ∧
(I8 t40 t41 t42 (IntKind.wrap .i64 (i13 + 1)) w39 ∧ μ9 t40 t41 t42 (IntKind.wrap .i64 (i13 + 1)) w39 < μ9 i10 i11 i12 i13 w14)) (
(I8 t33 t34 t35 (IntKind.wrap .i64 (i13 + 1)) w32 ∧ μ9 t33 t34 t35 (IntKind.wrap .i64 (i13 + 1)) w32 < μ9 i10 i11 i12 i13 w14))) (
Q (.slice i10 i11 i12) w14)

def V38_ann : Nat → Ann := fun k => match k with | 0 => ⟨[1, 9, 10], [(5, .slice), (11, .int .i64)]⟩ | _ => ⟨[], []⟩
theorem V38_eq (x1 : Option Addr) (x2 : Bool) (w : World) (Q : Value → World → Prop) : (match Tryz.f38.body with | some c => wpC Tryz.prog Tryz.f38.ntmps V38_ann c 0 (resQ Tryz.prog Tryz.f38.ntmps Tryz.f38.results.toList Q) (argsF [.pointer x1, .bool x2]) w | none => False) = V38 x1 x2 w Q := by kernel_rfl
theorem V38_sound (x1 : Option Addr) (x2 : Bool) (w : World) (Q : Value → World → Prop) (h : V38 x1 x2 w Q) : Calls Tryz.prog 38 #[.pointer x1, .bool x2] w fun e w' => ∃ v, e = .returned v ∧ Q v w' :=
  sound_of Tryz.func38 V38_ann rfl ((V38_eq x1 x2 w Q).mpr h)

def V39 (x1 : Option Addr) (w : World) (Q : Value → World → Prop) : Prop :=
nilK x1 fun a2 =>
∃ t3 : Option Addr, w.cell? (a2.add 1) = some (.pointer t3) ∧
Calls Tryz.prog 76 #[.pointer t3] w fun e4 w5 => ∃ t6 : Option Addr, ∃ t7 : Nat, ∃ t8 : Nat, e4 = .returned (.slice t6 t7 t8) ∧
∃ (I9 : Option Addr → Nat → Nat → Int → World → Prop) (μ10 : Option Addr → Nat → Nat → Int → World → Nat), I9 none 0 0 0 w5 ∧ ∀ (j16 : Fr) (i11 : Option Addr) (i12 : Nat) (i13 : Nat) (i14 : Int) (w15 : World), I9 i11 i12 i13 i14 w15 →
bsel (decide (i14 < (t7 : Int))) (
idxK t6 t7 i14 2 fun a17 =>
∃ t18 : ByteArray, ∃ t19 : Int, CellsAt w15 a17 [.string t18, .int .i64 t19] ∧
newK w15 #[.string ⟨#[]⟩, .int .i64 0] 186 fun a20 w21 =>
stK w21 (a20.add 0) (.string t18) fun w22 =>
stK w22 (a20.add 1) (.int .i64 t19) fun w23 =>
∃ t24 : Int, w23.cell? (a20.add 1) = some (.int .i64 t24) ∧
newK w23 #[.int .i64 t24] 3 fun a25 w26 =>
∃ w27 : World, ∃ t28 : Option Addr, ∃ t29 : Nat, ∃ t30 : Nat, (vcEff.bltV .append #[30, 30] 30 #[.slice i11 i12 i13, .slice (some a25) 1 1]).run Tryz.prog w26 = .ok (.slice t28 t29 t30) w27 ∧
(I9 t28 t29 t30 (IntKind.wrap .i64 (i14 + 1)) w27 ∧ μ10 t28 t29 t30 (IntKind.wrap .i64 (i14 + 1)) w27 < μ10 i11 i12 i13 i14 w15)) (
Q (.slice i11 i12 i13) w15)

def V39_ann : Nat → Ann := fun k => match k with | 0 => ⟨[10, 11], [(3, .slice), (12, .int .i64)]⟩ | _ => ⟨[], []⟩
theorem V39_eq (x1 : Option Addr) (w : World) (Q : Value → World → Prop) : (match Tryz.f39.body with | some c => wpC Tryz.prog Tryz.f39.ntmps V39_ann c 0 (resQ Tryz.prog Tryz.f39.ntmps Tryz.f39.results.toList Q) (argsF [.pointer x1]) w | none => False) = V39 x1 w Q := by kernel_rfl
theorem V39_sound (x1 : Option Addr) (w : World) (Q : Value → World → Prop) (h : V39 x1 w Q) : Calls Tryz.prog 39 #[.pointer x1] w fun e w' => ∃ v, e = .returned v ∧ Q v w' :=
  sound_of Tryz.func39 V39_ann rfl ((V39_eq x1 w Q).mpr h)

def V40 (x1 : Option Addr) (w : World) (Q : Value → World → Prop) : Prop :=
nilK x1 fun a2 =>
∃ t3 : Int, w.cell? (a2.add 1) = some (.int .i64 t3) ∧
newK w #[.int .i64 t3] 3 fun a4 w5 =>
Q (.slice (some a4) 1 1) w5

def V40_ann : Nat → Ann := fun _ => ⟨[], []⟩
theorem V40_eq (x1 : Option Addr) (w : World) (Q : Value → World → Prop) : (match Tryz.f40.body with | some c => wpC Tryz.prog Tryz.f40.ntmps V40_ann c 0 (resQ Tryz.prog Tryz.f40.ntmps Tryz.f40.results.toList Q) (argsF [.pointer x1]) w | none => False) = V40 x1 w Q := by kernel_rfl
theorem V40_sound (x1 : Option Addr) (w : World) (Q : Value → World → Prop) (h : V40 x1 w Q) : Calls Tryz.prog 40 #[.pointer x1] w fun e w' => ∃ v, e = .returned v ∧ Q v w' :=
  sound_of Tryz.func40 V40_ann rfl ((V40_eq x1 w Q).mpr h)

def V26 (x1 : Option Addr) (x2 : Int) (w : World) (Q : Value → World → Prop) : Prop :=
newK w #[.bool false, .slice none 0 0] 40 fun a3 w4 =>
Calls Tryz.prog 25 #[.pointer x1, .int .i64 x2] w4 fun e5 w6 => ∃ t7 : Value, e5 = .returned (t7) ∧
∃ t8 : Bool, ∃ t9 : Bool, (∀ w : World, (Instr.typeAssert t7 63 72 true).run Tryz.prog w = .ok (.tuple #[.agg #[.bool t8], .bool t9]) w) ∧
bsel t9 (
newK w6 #[.bool false] 72 fun a10 w11 =>
stK w11 (a10.add 0) (.bool t8) fun w12 =>
∃ t13 : Bool, w12.cell? (a10.add 0) = some (.bool t13) ∧
bsel t13 (
Calls Tryz.prog 58 #[.int .i64 1] w12 fun e14 w15 => ∃ t16 : Bool, ∃ t17 : Option Addr, ∃ t18 : Nat, ∃ t19 : Nat, e14 = .returned (.agg #[.bool t16, .slice t17 t18 t19]) ∧
stK w15 (a3.add 0) (.bool t16) fun w20 =>
stK w20 (a3.add 1) (.slice t17 t18 t19) fun w21 =>
∃ t22 : Bool, ∃ t23 : Option Addr, ∃ t24 : Nat, ∃ t25 : Nat, CellsAt w21 a3 [.bool t22, .slice t23 t24 t25] ∧
Q (.tuple #[.agg #[.bool t22, .slice t23 t24 t25], .bool true]) w21) (
Calls Tryz.prog 58 #[.int .i64 0] w12 fun e26 w27 => ∃ t28 : Bool, ∃ t29 : Option Addr, ∃ t30 : Nat, ∃ t31 : Nat, e26 = .returned (.agg #[.bool t28, .slice t29 t30 t31]) ∧
stK w27 (a3.add 0) (.bool t28) fun w32 =>
stK w32 (a3.add 1) (.slice t29 t30 t31) fun w33 =>
∃ t34 : Bool, ∃ t35 : Option Addr, ∃ t36 : Nat, ∃ t37 : Nat, CellsAt w33 a3 [.bool t34, .slice t35 t36 t37] ∧
Q (.tuple #[.agg #[.bool t34, .slice t35 t36 t37], .bool true]) w33)) (
∃ t38 : Bool, ∃ t39 : Option Addr, ∃ t40 : Nat, ∃ t41 : Nat, ∃ t42 : Bool, (∀ w : World, (Instr.typeAssert t7 63 112 true).run Tryz.prog w = .ok (.tuple #[.agg #[.bool t38, .slice t39 t40 t41], .bool t42]) w) ∧
bsel t42 (
newK w6 #[.bool false, .slice none 0 0] 112 fun a43 w44 =>
stK w44 (a43.add 0) (.bool t38) fun w45 =>
stK w45 (a43.add 1) (.slice t39 t40 t41) fun w46 =>
∃ t47 : Bool, ∃ t48 : Option Addr, ∃ t49 : Nat, ∃ t50 : Nat, CellsAt w46 (a43.add 0) [.bool t47, .slice t48 t49 t50] ∧
stK w46 (a3.add 0) (.bool t47) fun w51 =>
stK w51 (a3.add 1) (.slice t48 t49 t50) fun w52 =>
∃ t53 : Bool, ∃ t54 : Option Addr, ∃ t55 : Nat, ∃ t56 : Nat, CellsAt w52 a3 [.bool t53, .slice t54 t55 t56] ∧
Q (.tuple #[.agg #[.bool t53, .slice t54 t55 t56], .bool true]) w52) (
stK w6 (a3.add 0) (.bool false) fun w57 =>
stK w57 (a3.add 1) (.slice none 0 0) fun w58 =>
∃ t59 : Bool, ∃ t60 : Option Addr, ∃ t61 : Nat, ∃ t62 : Nat, CellsAt w58 a3 [.bool t59, .slice t60 t61 t62] ∧
Q (.tuple #[.agg #[.bool t59, .slice t60 t61 t62], .bool false]) w58))

def V26_ann : Nat → Ann := fun _ => ⟨[], []⟩
theorem V26_eq (x1 : Option Addr) (x2 : Int) (w : World) (Q : Value → World → Prop) : (match Tryz.f26.body with | some c => wpC Tryz.prog Tryz.f26.ntmps V26_ann c 0 (resQ Tryz.prog Tryz.f26.ntmps Tryz.f26.results.toList Q) (argsF [.pointer x1, .int .i64 x2]) w | none => False) = V26 x1 x2 w Q := by kernel_rfl
theorem V26_sound (x1 : Option Addr) (x2 : Int) (w : World) (Q : Value → World → Prop) (h : V26 x1 x2 w Q) : Calls Tryz.prog 26 #[.pointer x1, .int .i64 x2] w fun e w' => ∃ v, e = .returned v ∧ Q v w' :=
  sound_of Tryz.func26 V26_ann rfl ((V26_eq x1 x2 w Q).mpr h)

def V27J1 (Q : Value → World → Prop) (x27 : Addr) (x28 : Addr) (x29 : Int) (x30 : Int) (w31 : World) : Prop :=
bsel (decide (x29 < x30)) (
Q (.int .i64 (-1)) w31) (
bsel (decide (x29 > x30)) (
Q (.int .i64 1) w31) (
∃ t32 : Option Addr, ∃ t33 : Nat, ∃ t34 : Nat, w31.cell? (x27.add 1) = some (.slice t32 t33 t34) ∧
∃ t35 : Option Addr, ∃ t36 : Nat, ∃ t37 : Nat, w31.cell? (x28.add 1) = some (.slice t35 t36 t37) ∧
Calls Tryz.prog 60 #[.slice t32 t33 t34, .slice t35 t36 t37] w31 fun e38 w39 => ∃ t40 : Int, e38 = .returned (.int .i64 t40) ∧
Q (.int .i64 (IntKind.wrap .i64 (x29 * t40))) w39))

def V27 (x1 : Bool) (x2 : Option Addr) (x3 : Nat) (x4 : Nat) (x5 : Bool) (x6 : Option Addr) (x7 : Nat) (x8 : Nat) (w : World) (Q : Value → World → Prop) : Prop :=
newK w #[.bool x1, .slice x2 x3 x4] 40 fun a9 w10 =>
newK w10 #[.bool x5, .slice x6 x7 x8] 40 fun a11 w12 =>
∃ t13 : Bool, ∃ t14 : Option Addr, ∃ t15 : Nat, ∃ t16 : Nat, CellsAt w12.drew a9 [.bool t13, .slice t14 t15 t16] ∧
∃ t17 : Bool, ∃ t18 : Option Addr, ∃ t19 : Nat, ∃ t20 : Nat, CellsAt w12.drew a11 [.bool t17, .slice t18 t19 t20] ∧
Calls Tryz.prog 59 #[.agg #[.bool t13, .slice t14 t15 t16]] w12.drew fun e21 w22 => ∃ t23 : Int, e21 = .returned (.int .i64 t23) ∧
(CellsAt w22 a11 [.bool t17, .slice t18 t19 t20]) ∧
Calls Tryz.prog 59 #[.agg #[.bool t17, .slice t18 t19 t20]] w22 fun e24 w25 => ∃ t26 : Int, e24 = .returned (.int .i64 t26) ∧
V27J1 Q a9 a11 t23 t26 w25

def V27_ann : Nat → Ann := fun _ => ⟨[], []⟩
theorem V27_eq (x1 : Bool) (x2 : Option Addr) (x3 : Nat) (x4 : Nat) (x5 : Bool) (x6 : Option Addr) (x7 : Nat) (x8 : Nat) (w : World) (Q : Value → World → Prop) : (match Tryz.f27.body with | some c => wpC Tryz.prog Tryz.f27.ntmps V27_ann c 0 (resQ Tryz.prog Tryz.f27.ntmps Tryz.f27.results.toList Q) (argsF [.agg #[.bool x1, .slice x2 x3 x4], .agg #[.bool x5, .slice x6 x7 x8]]) w | none => False) = V27 x1 x2 x3 x4 x5 x6 x7 x8 w Q := by kernel_rfl
theorem V27_sound (x1 : Bool) (x2 : Option Addr) (x3 : Nat) (x4 : Nat) (x5 : Bool) (x6 : Option Addr) (x7 : Nat) (x8 : Nat) (w : World) (Q : Value → World → Prop) (h : V27 x1 x2 x3 x4 x5 x6 x7 x8 w Q) : Calls Tryz.prog 27 #[.agg #[.bool x1, .slice x2 x3 x4], .agg #[.bool x5, .slice x6 x7 x8]] w fun e w' => ∃ v, e = .returned v ∧ Q v w' :=
  sound_of Tryz.func27 V27_ann rfl ((V27_eq x1 x2 x3 x4 x5 x6 x7 x8 w Q).mpr h)

def V28 (x1 : Option Addr) (x2 : Int) (w : World) (Q : Value → World → Prop) : Prop :=
Calls Tryz.prog 25 #[.pointer x1, .int .i64 x2] w fun e3 w4 => ∃ t5 : Value, e3 = .returned (t5) ∧
∃ t6 : ByteArray, ∃ t7 : Bool, (∀ w : World, (Instr.typeAssert t5 63 96 true).run Tryz.prog w = .ok (.tuple #[.agg #[.string t6], .bool t7]) w) ∧
newK w4 #[.string ⟨#[]⟩] 96 fun a8 w9 =>
stK w9 (a8.add 0) (.string t6) fun w10 =>
∃ t11 : ByteArray, w10.cell? (a8.add 0) = some (.string t11) ∧
Q (.tuple #[.string t11, .bool t7]) w10

def V28_ann : Nat → Ann := fun _ => ⟨[], []⟩
theorem V28_eq (x1 : Option Addr) (x2 : Int) (w : World) (Q : Value → World → Prop) : (match Tryz.f28.body with | some c => wpC Tryz.prog Tryz.f28.ntmps V28_ann c 0 (resQ Tryz.prog Tryz.f28.ntmps Tryz.f28.results.toList Q) (argsF [.pointer x1, .int .i64 x2]) w | none => False) = V28 x1 x2 w Q := by kernel_rfl
theorem V28_sound (x1 : Option Addr) (x2 : Int) (w : World) (Q : Value → World → Prop) (h : V28 x1 x2 w Q) : Calls Tryz.prog 28 #[.pointer x1, .int .i64 x2] w fun e w' => ∃ v, e = .returned v ∧ Q v w' :=
  sound_of Tryz.func28 V28_ann rfl ((V28_eq x1 x2 w Q).mpr h)

def V30 (x1 : Option Addr) (w : World) (Q : Value → World → Prop) : Prop :=
bsel (Option.isNone x1) (
Q (.int .i64 0) w) (
nilK x1 fun a2 =>
∃ t3 : Option Addr, w.cell? (a2.add 0) = some (.pointer t3) ∧
Calls Tryz.prog 61 #[.pointer t3] w fun e4 w5 => ∃ t6 : Int, e4 = .returned (.int .i64 t6) ∧
Q (.int .i64 t6) w5)

def V30_ann : Nat → Ann := fun _ => ⟨[], []⟩
theorem V30_eq (x1 : Option Addr) (w : World) (Q : Value → World → Prop) : (match Tryz.f30.body with | some c => wpC Tryz.prog Tryz.f30.ntmps V30_ann c 0 (resQ Tryz.prog Tryz.f30.ntmps Tryz.f30.results.toList Q) (argsF [.pointer x1]) w | none => False) = V30 x1 w Q := by kernel_rfl
theorem V30_sound (x1 : Option Addr) (w : World) (Q : Value → World → Prop) (h : V30 x1 w Q) : Calls Tryz.prog 30 #[.pointer x1] w fun e w' => ∃ v, e = .returned v ∧ Q v w' :=
  sound_of Tryz.func30 V30_ann rfl ((V30_eq x1 w Q).mpr h)

def V31 (x1 : Option Addr) (w : World) (Q : Value → World → Prop) : Prop :=
Calls Tryz.prog 62 #[.pointer x1] w fun e2 w3 => ∃ t4 : Bool, e2 = .returned (.bool t4) ∧
bsel t4 (
Q (.int .i64 0) w3) (
nilK x1 fun a5 =>
∃ t6 : Value, w3.cell? (a5.add 1) = some (t6) ∧
InvK Tryz.prog t6 "lexicon/shared.len" #[] w3 fun e7 w8 => ∃ t9 : Int, e7 = .returned (.int .i64 t9) ∧
Q (.int .i64 t9) w8)

def V31_ann : Nat → Ann := fun _ => ⟨[], []⟩
theorem V31_eq (x1 : Option Addr) (w : World) (Q : Value → World → Prop) : (match Tryz.f31.body with | some c => wpC Tryz.prog Tryz.f31.ntmps V31_ann c 0 (resQ Tryz.prog Tryz.f31.ntmps Tryz.f31.results.toList Q) (argsF [.pointer x1]) w | none => False) = V31 x1 w Q := by kernel_rfl
theorem V31_sound (x1 : Option Addr) (w : World) (Q : Value → World → Prop) (h : V31 x1 w Q) : Calls Tryz.prog 31 #[.pointer x1] w fun e w' => ∃ v, e = .returned v ∧ Q v w' :=
  sound_of Tryz.func31 V31_ann rfl ((V31_eq x1 w Q).mpr h)

def V32 (x1 : Option Addr) (x2 : Int) (w : World) (Q : Value → World → Prop) : Prop :=
Calls Tryz.prog 25 #[.pointer x1, .int .i64 x2] w fun e3 w4 => ∃ t5 : Value, e3 = .returned (t5) ∧
∃ t6 : Option Addr, ∃ t7 : Bool, (∀ w : World, (Instr.typeAssert t5 63 98 true).run Tryz.prog w = .ok (.tuple #[.pointer t6, .bool t7]) w) ∧
bsel t7 (
nilK t6 fun a8 =>
∃ t9 : Option Addr, w4.cell? (a8.add 1) = some (.pointer t9) ∧
Q (.pointer t9) w4) (
∃ t10 : Option Addr, ∃ t11 : Bool, (∀ w : World, (Instr.typeAssert t5 63 117 true).run Tryz.prog w = .ok (.tuple #[.pointer t10, .bool t11]) w) ∧
bsel t11 (
nilK t10 fun a12 =>
∃ t13 : Option Addr, w4.cell? (a12.add 1) = some (.pointer t13) ∧
Q (.pointer t13) w4) (
Q (.pointer none) w4))

def V32_ann : Nat → Ann := fun _ => ⟨[], []⟩
theorem V32_eq (x1 : Option Addr) (x2 : Int) (w : World) (Q : Value → World → Prop) : (match Tryz.f32.body with | some c => wpC Tryz.prog Tryz.f32.ntmps V32_ann c 0 (resQ Tryz.prog Tryz.f32.ntmps Tryz.f32.results.toList Q) (argsF [.pointer x1, .int .i64 x2]) w | none => False) = V32 x1 x2 w Q := by kernel_rfl
theorem V32_sound (x1 : Option Addr) (x2 : Int) (w : World) (Q : Value → World → Prop) (h : V32 x1 x2 w Q) : Calls Tryz.prog 32 #[.pointer x1, .int .i64 x2] w fun e w' => ∃ v, e = .returned v ∧ Q v w' :=
  sound_of Tryz.func32 V32_ann rfl ((V32_eq x1 x2 w Q).mpr h)

def V33 (x1 : Bool) (x2 : Option Addr) (x3 : Nat) (x4 : Nat) (w : World) (Q : Value → World → Prop) : Prop :=
newK w #[.bool x1, .slice x2 x3 x4] 40 fun a5 w6 =>
∃ t7 : Option Addr, ∃ t8 : Nat, ∃ t9 : Nat, w6.cell? (a5.add 1) = some (.slice t7 t8 t9) ∧
Calls Tryz.prog 64 #[.slice t7 t8 t9] w6 fun e10 w11 => ∃ t12 : Option Addr, ∃ t13 : Nat, ∃ t14 : Nat, e10 = .returned (.slice t12 t13 t14) ∧
Calls Tryz.prog 63 #[.slice t12 t13 t14] w11 fun e15 w16 => ∃ t17 : Option Addr, ∃ t18 : Nat, ∃ t19 : Nat, e15 = .returned (.slice t17 t18 t19) ∧
bsel ((t18 : Int) == 0) (
Q (.string (⟨#[48]⟩ : ByteArray)) w16) (
∃ (I20 : Option Addr → Nat → Nat → Option Addr → Nat → Nat → World → Prop) (μ21 : Option Addr → Nat → Nat → Option Addr → Nat → Nat → World → Nat), I20 t17 t18 t19 none 0 0 w16 ∧ ∀ (j29 : Fr) (i22 : Option Addr) (i23 : Nat) (i24 : Nat) (i25 : Option Addr) (i26 : Nat) (i27 : Nat) (w28 : World), I20 i22 i23 i24 i25 i26 i27 w28 →
bsel (decide ((i23 : Int) > 0)) (
∃ (I30 : Int → Int → World → Prop) (μ31 : Int → Int → World → Nat), I30 0 (IntKind.wrap .i64 ((i23 : Int) - 1)) w28 ∧ ∀ (j35 : Fr) (i32 : Int) (i33 : Int) (w34 : World), I30 i32 i33 w34 →
bsel (decide (i33 ≥ 0)) (
idxK i22 i23 i33 1 fun a36 =>
∃ t37 : Int, w34.cell? a36 = some (.int .u32 t37) ∧
Calls Tryz.prog 65 #[.int .u32 i32, .int .u32 t37, .int .u32 1000000000] w34 fun e38 w39 => ∃ t40 : Int, ∃ t41 : Int, e38 = .returned (.tuple #[.int .u32 t40, .int .u32 t41]) ∧
idxK i22 i23 i33 1 fun a42 =>
stK w39 a42 (.int .u32 t40) fun w43 =>
(I30 t41 (IntKind.wrap .i64 (i33 - 1)) w43 ∧ μ31 t41 (IntKind.wrap .i64 (i33 - 1)) w43 < μ31 i32 i33 w34)) (
newK w34 #[.int .u32 i32] 158 fun a44 w45 =>
∃ w46 : World, ∃ t47 : Option Addr, ∃ t48 : Nat, ∃ t49 : Nat, (vcEff.bltV .append #[38, 38] 38 #[.slice i25 i26 i27, .slice (some a44) 1 1]).run Tryz.prog w45 = .ok (.slice t47 t48 t49) w46 ∧
Calls Tryz.prog 64 #[.slice i22 i23 i24] w46 fun e50 w51 => ∃ t52 : Option Addr, ∃ t53 : Nat, ∃ t54 : Nat, e50 = .returned (.slice t52 t53 t54) ∧
(I20 t52 t53 t54 t47 t48 t49 w51 ∧ μ21 t52 t53 t54 t47 t48 t49 w51 < μ21 i22 i23 i24 i25 i26 i27 w28))) (
newK w28 #[.pointer none, .slice none 0 0] 164 fun a55 w56 =>
Calls Tryz.prog 66 #[.slice i25 i26 i27] w56 fun e57 w58 => ∃ t59 : Value, e57 = .returned (t59) ∧
False))

def V33_ann : Nat → Ann := fun k => match k with | 0 => ⟨[], [(3, .slice), (4, .slice)]⟩ | 1 => ⟨[3, 4], [(5, .int .u32), (6, .int .i64)]⟩ | _ => ⟨[], []⟩
theorem V33_eq (x1 : Bool) (x2 : Option Addr) (x3 : Nat) (x4 : Nat) (w : World) (Q : Value → World → Prop) : (match Tryz.f33.body with | some c => wpC Tryz.prog Tryz.f33.ntmps V33_ann c 0 (resQ Tryz.prog Tryz.f33.ntmps Tryz.f33.results.toList Q) (argsF [.agg #[.bool x1, .slice x2 x3 x4]]) w | none => False) = V33 x1 x2 x3 x4 w Q := by kernel_rfl
theorem V33_sound (x1 : Bool) (x2 : Option Addr) (x3 : Nat) (x4 : Nat) (w : World) (Q : Value → World → Prop) (h : V33 x1 x2 x3 x4 w Q) : Calls Tryz.prog 33 #[.agg #[.bool x1, .slice x2 x3 x4]] w fun e w' => ∃ v, e = .returned v ∧ Q v w' :=
  sound_of Tryz.func33 V33_ann rfl ((V33_eq x1 x2 x3 x4 w Q).mpr h)

end Go.Fw
