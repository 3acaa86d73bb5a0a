/- Part of a proof over the given program: a text of lemmas (conditions: none beyond each lemma as stated). -/
import Derived.Test.YtlnpfkmbielifaaGreatDoorFwP
set_option linter.unnecessarySimpa false
set_option linter.unusedSimpArgs false
set_option autoImplicit false
set_option linter.unusedVariables false
set_option maxRecDepth 100000
namespace Go.Fw
open Go.Proofs

def V4J1 (Q : Value → World → Prop) (x57 : Option Addr) (x58 : Int) (w59 : World) : Prop :=
Calls Tryz.prog 14 #[.pointer x57, .int .i64 x58] w59 fun e60 w61 => ∃ t62 : Int, ∃ t63 : Int, e60 = .returned (.tuple #[.int .i64 t62, .int .i64 t63]) ∧
Calls Tryz.prog 15 #[.pointer x57, .int .i64 x58] w61 fun e64 w65 => ∃ t66 : Int, e64 = .returned (.int .i64 t66) ∧
bsel (t66 == 0) (
Calls Tryz.prog 11 #[.pointer x57, .int .i64 x58] w65 fun e67 w68 => ∃ t69 : Int, e67 = .returned (.int .i64 t69) ∧
bsel (t69 == 0) (
Calls Tryz.prog 16 #[.pointer x57, .int .i64 x58] w68 fun e70 w71 => ∃ t72 : ByteArray, e70 = .returned (.string t72) ∧
bsel (t72.toList == (⟨#[]⟩ : ByteArray).toList) (
Calls Tryz.prog 17 #[.pointer x57, .int .i64 x58] w71 fun e73 w74 => ∃ t75 : Bool, e73 = .returned (.bool t75) ∧
bsel (!t75) (
bsel (t62 == 0) (
bsel (t63 == 12) (
Calls Tryz.prog 12 #[.pointer x57, .int .i64 x58, .int .i64 x58] w74 fun e76 w77 => ∃ t78 : Bool, e76 = .returned (.bool t78) ∧
bsel (!t78) (
Calls Tryz.prog 13 #[.pointer x57, .int .i64 x58, .int .i64 x58] w77 fun e79 w80 => ∃ t81 : Bool, e79 = .returned (.bool t81) ∧
bsel (!t81) (
Calls Tryz.prog 18 #[.pointer x57, .int .i64 x58] w80 fun e82 w83 => ∃ t84 : Option Addr, ∃ t85 : Nat, ∃ t86 : Nat, e82 = .returned (.slice t84 t85 t86) ∧
bsel ((t85 : Int) == 0) (
Calls Tryz.prog 6 #[] w83 fun e87 w88 => ∃ t89 : Bool, e87 = .returned (.bool t89) ∧
Q (.bool t89) w88) (
Q (.bool false) w83)) (
Q (.bool false) w80)) (
Q (.bool false) w77)) (
Q (.bool false) w74)) (
Q (.bool false) w74)) (
Q (.bool false) w74)) (
Q (.bool false) w71)) (
Q (.bool false) w68)) (
Q (.bool false) w65)

def V4J2 (Q : Value → World → Prop) (x53 : Int) (x54 : Option Addr) (x55 : Bool) (w56 : World) : Prop :=
bsel x55 (
Q (.bool false) w56) (
bsel (decide (x53 < 0)) (
V4J1 Q x54 x53 w56) (
V4J1 Q x54 (IntKind.wrap .i64 ((-1) - x53)) w56))

def V4J3 (Q : Value → World → Prop) (x33 : Int) (x34 : Bool) (w35 : World) : Prop :=
bsel x34 (
Q (.bool false) w35) (
Calls Tryz.prog 8 #[.int .i64 1000, .int .i64 5] w35 fun e36 w37 => ∃ t38 : Int, ∃ t39 : Int, ∃ t40 : Int, ∃ t41 : Option Addr, ∃ t42 : Nat, ∃ t43 : Nat, ∃ t44 : Option Addr, ∃ t45 : Nat, ∃ t46 : Nat, e36 = .returned (.agg #[.int .i64 t38, .int .i64 t39, .int .i64 t40, .slice t41 t42 t43, .slice t44 t45 t46]) ∧
newK w37 #[.int .i64 0, .int .i64 0, .int .i64 0, .int .i64 0] 58 fun a47 w48 =>
Calls Tryz.prog 7 #[.agg #[.int .i64 t38, .int .i64 t39, .int .i64 t40, .slice t41 t42 t43, .slice t44 t45 t46], .pointer (some a47)] w48 fun e49 w50 => ∃ t51 : Option Addr, ∃ t52 : Int, e49 = .returned (.tuple #[.pointer t51, .int .i64 t52]) ∧
bsel (t52 != 0) (
V4J2 Q x33 t51 true w50) (
V4J2 Q x33 t51 (Option.isNone t51) w50))

def V4J4 (Q : Value → World → Prop) (x11 : Option Addr) (x12 : Nat) (x13 : Nat) (x14 : Int) (x15 : Option Addr) (x16 : Nat) (x17 : Nat) (x18 : Bool) (w19 : World) : Prop :=
bsel x18 (
Calls Tryz.prog 6 #[] w19 fun e20 w21 => ∃ t22 : Bool, e20 = .returned (.bool t22) ∧
Q (.bool t22) w21) (
Calls Tryz.prog 9 #[.pointer none, .slice x11 x12 x13] w19 fun e23 w24 => ∃ t25 : Option Addr, ∃ t26 : Nat, ∃ t27 : Nat, ∃ t28 : Int, e23 = .returned (.tuple #[.slice t25 t26 t27, .int .i64 t28]) ∧
Calls Tryz.prog 14 #[.pointer none, .int .i64 x14] w24 fun e29 w30 => ∃ t31 : Int, ∃ t32 : Int, e29 = .returned (.tuple #[.int .i64 t31, .int .i64 t32]) ∧
bsel ((t26 : Int) != 0) (
V4J3 Q x14 true w30) (
bsel (t28 != 1) (
V4J3 Q x14 true w30) (
bsel (t31 != 0) (
V4J3 Q x14 true w30) (
Calls Tryz.prog 15 #[.pointer none, .int .i64 x14] w30 fun e92 w93 => ∃ t94 : Int, e92 = .returned (.int .i64 t94) ∧
bsel (t94 != 0) (
V4J3 Q x14 true w93) (
Calls Tryz.prog 11 #[.pointer none, .int .i64 x14] w93 fun e95 w96 => ∃ t97 : Int, e95 = .returned (.int .i64 t97) ∧
bsel (t97 != 0) (
V4J3 Q x14 true w96) (
Calls Tryz.prog 16 #[.pointer none, .int .i64 x14] w96 fun e98 w99 => ∃ t100 : ByteArray, e98 = .returned (.string t100) ∧
bsel (!(t100.toList == (⟨#[]⟩ : ByteArray).toList)) (
V4J3 Q x14 true w99) (
Calls Tryz.prog 17 #[.pointer none, .int .i64 x14] w99 fun e101 w102 => ∃ t103 : Bool, e101 = .returned (.bool t103) ∧
bsel t103 (
V4J3 Q x14 true w102) (
Calls Tryz.prog 12 #[.pointer none, .int .i64 x14, .int .i64 x14] w102 fun e104 w105 => ∃ t106 : Bool, e104 = .returned (.bool t106) ∧
bsel t106 (
V4J3 Q x14 true w105) (
Calls Tryz.prog 13 #[.pointer none, .int .i64 x14, .int .i64 x14] w105 fun e107 w108 => ∃ t109 : Bool, e107 = .returned (.bool t109) ∧
bsel t109 (
V4J3 Q x14 true w108) (
Calls Tryz.prog 18 #[.pointer none, .int .i64 x14] w108 fun e110 w111 => ∃ t112 : Option Addr, ∃ t113 : Nat, ∃ t114 : Nat, e110 = .returned (.slice t112 t113 t114) ∧
bsel ((t113 : Int) != 0) (
V4J3 Q x14 true w111) (
Calls Tryz.prog 10 #[.pointer none] w111 fun e115 w116 => ∃ t117 : Int, e115 = .returned (.int .i64 t117) ∧
bsel (t117 != 0) (
V4J3 Q x14 true w116) (
Calls Tryz.prog 19 #[.pointer none, .slice x15 x16 x17] w116 fun e118 w119 => ∃ t120 : Int, e118 = .returned (.int .i64 t120) ∧
bsel (t120 != 0) (
V4J3 Q x14 true w119) (
bsel (t32 == 0) (
V4J3 Q x14 (t31 != 0) w119) (
V4J3 Q x14 false w119))))))))))))))

def V4 (x1 : Option Addr) (x2 : Nat) (x3 : Nat) (x4 : Int) (x5 : Option Addr) (x6 : Nat) (x7 : Nat) (w : World) (Q : Value → World → Prop) : Prop :=
Calls Tryz.prog 5 #[.slice x1 x2 x3] w fun e8 w9 => ∃ t10 : Bool, e8 = .returned (.bool t10) ∧
bsel t10 (
V4J4 Q x1 x2 x3 x4 x5 x6 x7 true w9) (
V4J4 Q x1 x2 x3 x4 x5 x6 x7 (decide ((x6 : Int) > 120)) w9)

def V4_ann : Nat → Ann := fun _ => ⟨[], []⟩
theorem V4_eq (x1 : Option Addr) (x2 : Nat) (x3 : Nat) (x4 : Int) (x5 : Option Addr) (x6 : Nat) (x7 : Nat) (w : World) (Q : Value → World → Prop) : (match Tryz.f4.body with | some c => wpC Tryz.prog Tryz.f4.ntmps V4_ann c 0 (resQ Tryz.prog Tryz.f4.ntmps Tryz.f4.results.toList Q) (argsF [.slice x1 x2 x3, .int .i64 x4, .slice x5 x6 x7]) w | none => False) = V4 x1 x2 x3 x4 x5 x6 x7 w Q := by kernel_rfl
theorem V4_sound (x1 : Option Addr) (x2 : Nat) (x3 : Nat) (x4 : Int) (x5 : Option Addr) (x6 : Nat) (x7 : Nat) (w : World) (Q : Value → World → Prop) (h : V4 x1 x2 x3 x4 x5 x6 x7 w Q) : Calls Tryz.prog 4 #[.slice x1 x2 x3, .int .i64 x4, .slice x5 x6 x7] w fun e w' => ∃ v, e = .returned v ∧ Q v w' :=
  sound_of Tryz.func4 V4_ann rfl ((V4_eq x1 x2 x3 x4 x5 x6 x7 w Q).mpr h)

def V5J1 (Q : Value → World → Prop) (I4 : Int → Int → World → Prop) (μ5 : Int → Int → World → Nat) (i6 : Int) (i7 : Int) (w8 : World) (x10 : Option Addr) (x11 : Nat) (x12 : Nat) (x13 : Int) (x14 : Int) (x15 : Bool) (w16 : World) : Prop :=
bsel x15 (
idxK x10 x11 x14 8 fun a17 =>
∃ t18 : Option Addr, ∃ t19 : Nat, ∃ t20 : Nat, w16.drew.cell? (a17.add 5) = some (.slice t18 t19 t20) ∧
idxK x10 x11 x14 8 fun a21 =>
∃ t22 : ByteArray, w16.drew.cell? (a21.add 4) = some (.string t22) ∧
idxK x10 x11 x14 8 fun a23 =>
∃ t24 : Option Addr, ∃ t25 : Nat, ∃ t26 : Nat, w16.drew.cell? ((a23.add 2).add 1) = some (.slice t24 t25 t26) ∧
(I4 (IntKind.wrap .i64 (IntKind.wrap .i64 (IntKind.wrap .i64 (x13 + (t19 : Int)) + (t22.size : Int)) + (t25 : Int))) (IntKind.wrap .i64 (x14 + 1)) w16.drew ∧ μ5 (IntKind.wrap .i64 (IntKind.wrap .i64 (IntKind.wrap .i64 (x13 + (t19 : Int)) + (t22.size : Int)) + (t25 : Int))) (IntKind.wrap .i64 (x14 + 1)) w16.drew < μ5 i6 i7 w8)) (
Q (.bool (decide (x13 > 3000))) w16)

def V5 (x1 : Option Addr) (x2 : Nat) (x3 : Nat) (w : World) (Q : Value → World → Prop) : Prop :=
bsel (decide ((x2 : Int) > 120)) (
Q (.bool true) w) (
∃ (I4 : Int → Int → World → Prop) (μ5 : Int → Int → World → Nat), I4 0 0 w ∧ ∀ (j9 : Fr) (i6 : Int) (i7 : Int) (w8 : World), I4 i6 i7 w8 →
bsel (decide (i7 < (x2 : Int))) (
V5J1 Q I4 μ5 i6 i7 w8 x1 x2 x3 i6 i7 (decide (i6 ≤ 3000)) w8) (
V5J1 Q I4 μ5 i6 i7 w8 x1 x2 x3 i6 i7 false w8))

def V5_ann : Nat → Ann := fun k => match k with | 0 => ⟨[0], [(3, .int .i64), (4, .int .i64)]⟩ | _ => ⟨[], []⟩
theorem V5_eq (x1 : Option Addr) (x2 : Nat) (x3 : Nat) (w : World) (Q : Value → World → Prop) : (match Tryz.f5.body with | some c => wpC Tryz.prog Tryz.f5.ntmps V5_ann c 0 (resQ Tryz.prog Tryz.f5.ntmps Tryz.f5.results.toList Q) (argsF [.slice x1 x2 x3]) w | none => False) = V5 x1 x2 x3 w Q := by kernel_rfl
theorem V5_sound (x1 : Option Addr) (x2 : Nat) (x3 : Nat) (w : World) (Q : Value → World → Prop) (h : V5 x1 x2 x3 w Q) : Calls Tryz.prog 5 #[.slice x1 x2 x3] w fun e w' => ∃ v, e = .returned v ∧ Q v w' :=
  sound_of Tryz.func5 V5_ann rfl ((V5_eq x1 x2 x3 w Q).mpr h)

def V6J1 (Q : Value → World → Prop) (x29 : Option Addr) (x30 : Option Addr) (x31 : Nat) (x32 : Nat) (x33 : Bool) (w34 : World) : Prop :=
bsel x33 (
Q (.bool false) w34) (
idxK x30 x31 1 1 fun a35 =>
∃ t36 : Int, w34.cell? a35 = some (.int .i64 t36) ∧
Calls Tryz.prog 14 #[.pointer x29, .int .i64 t36] w34 fun e37 w38 => ∃ t39 : Int, ∃ t40 : Int, e37 = .returned (.tuple #[.int .i64 t39, .int .i64 t40]) ∧
bsel (t40 == 0) (
bsel (t39 == 2) (
idxK x30 x31 0 1 fun a41 =>
∃ t42 : Int, w38.cell? a41 = some (.int .i64 t42) ∧
Calls Tryz.prog 16 #[.pointer x29, .int .i64 t42] w38 fun e43 w44 => ∃ t45 : ByteArray, e43 = .returned (.string t45) ∧
bsel (t45.toList == (⟨#[39, 97, 39]⟩ : ByteArray).toList) (
idxK x30 x31 1 1 fun a46 =>
∃ t47 : Int, w44.cell? a46 = some (.int .i64 t47) ∧
Calls Tryz.prog 16 #[.pointer x29, .int .i64 t47] w44 fun e48 w49 => ∃ t50 : ByteArray, e48 = .returned (.string t50) ∧
bsel (t50.toList == (⟨#[35, 49]⟩ : ByteArray).toList) (
idxK x30 x31 0 1 fun a51 =>
∃ t52 : Int, w49.cell? a51 = some (.int .i64 t52) ∧
Calls Tryz.prog 17 #[.pointer x29, .int .i64 t52] w49 fun e53 w54 => ∃ t55 : Bool, e53 = .returned (.bool t55) ∧
Q (.bool t55) w54) (
Q (.bool false) w49)) (
Q (.bool false) w44)) (
Q (.bool false) w38)) (
Q (.bool false) w38))

def V6J2 (Q : Value → World → Prop) (x16 : Option Addr) (x17 : Bool) (w18 : World) : Prop :=
bsel x17 (
Q (.bool false) w18) (
newK w18 #[.int .i64 0, .int .i64 0] 3 fun a19 w20 =>
newK w20 #[.int .i64 4, .bool false, .bool false, .slice none 0 0, .string (⟨#[97]⟩ : ByteArray), .slice none 0 0, .bool false, .bool false, .int .i64 5, .bool false, .bool false, .slice none 0 0, .string ⟨#[]⟩, .slice (some a19) 2 2, .bool false, .bool false] 42 fun a21 w22 =>
Calls Tryz.prog 9 #[.pointer x16, .slice (some a21) 2 2] w22 fun e23 w24 => ∃ t25 : Option Addr, ∃ t26 : Nat, ∃ t27 : Nat, ∃ t28 : Int, e23 = .returned (.tuple #[.slice t25 t26 t27, .int .i64 t28]) ∧
bsel (t28 != 0) (
V6J1 Q x16 t25 t26 t27 true w24) (
V6J1 Q x16 t25 t26 t27 ((t26 : Int) != 2) w24))

def V6  (w : World) (Q : Value → World → Prop) : Prop :=
Calls Tryz.prog 8 #[.int .i64 10, .int .i64 3] w fun e1 w2 => ∃ t3 : Int, ∃ t4 : Int, ∃ t5 : Int, ∃ t6 : Option Addr, ∃ t7 : Nat, ∃ t8 : Nat, ∃ t9 : Option Addr, ∃ t10 : Nat, ∃ t11 : Nat, e1 = .returned (.agg #[.int .i64 t3, .int .i64 t4, .int .i64 t5, .slice t6 t7 t8, .slice t9 t10 t11]) ∧
Calls Tryz.prog 7 #[.agg #[.int .i64 t3, .int .i64 t4, .int .i64 t5, .slice t6 t7 t8, .slice t9 t10 t11], .pointer none] w2 fun e12 w13 => ∃ t14 : Option Addr, ∃ t15 : Int, e12 = .returned (.tuple #[.pointer t14, .int .i64 t15]) ∧
bsel (t15 != 0) (
V6J2 Q t14 true w13) (
V6J2 Q t14 (Option.isNone t14) w13)

def V6_ann : Nat → Ann := fun _ => ⟨[], []⟩
theorem V6_eq  (w : World) (Q : Value → World → Prop) : (match Tryz.f6.body with | some c => wpC Tryz.prog Tryz.f6.ntmps V6_ann c 0 (resQ Tryz.prog Tryz.f6.ntmps Tryz.f6.results.toList Q) (argsF []) w | none => False) = V6  w Q := by kernel_rfl
theorem V6_sound  (w : World) (Q : Value → World → Prop) (h : V6  w Q) : Calls Tryz.prog 6 #[] w fun e w' => ∃ v, e = .returned v ∧ Q v w' :=
  sound_of Tryz.func6 V6_ann rfl ((V6_eq  w Q).mpr h)

def V7J1 (Q : Value → World → Prop) (x38 : Addr) (w39 : World) : Prop :=
newK w39 #[.iface 70 (.agg #[]), .iface 72 (.agg #[.bool false]), .iface 72 (.agg #[.bool true])] 63 fun a40 w41 =>
∃ (I42 : Int → World → Prop) (μ43 : Int → World → Nat), I42 0 w41 ∧ ∀ (j46 : Fr) (i44 : Int) (w45 : World), I42 i44 w45 →
bsel (decide (i44 < (3 : Int))) (
idxK (some a40) 3 i44 1 fun a47 =>
∃ t48 : Value, w45.cell? a47 = some (t48) ∧
∃ t49 : Option Addr, w45.cell? (x38.add 6) = some (.pointer t49) ∧
Calls Tryz.prog 22 #[.pointer t49, t48] w45 fun e50 w51 => ∃ t52 : Int, e50 = .returned (.int .i64 t52) ∧
(I42 (IntKind.wrap .i64 (i44 + 1)) w51 ∧ μ43 (IntKind.wrap .i64 (i44 + 1)) w51 < μ43 i44 w45)) (
Q (.tuple #[.pointer (some x38), .int .i64 0]) w45)

def V7J2 (Q : Value → World → Prop) (x14 : Option Addr) (x15 : Addr) (x16 : Bool) (w17 : World) : Prop :=
bsel x16 (
Q (.tuple #[.pointer none, .int .i64 1]) w17) (
∃ t18 : Int, ∃ t19 : Int, ∃ t20 : Int, ∃ t21 : Option Addr, ∃ t22 : Nat, ∃ t23 : Nat, ∃ t24 : Option Addr, ∃ t25 : Nat, ∃ t26 : Nat, CellsAt w17.drew x15 [.int .i64 t18, .int .i64 t19, .int .i64 t20, .slice t21 t22 t23, .slice t24 t25 t26] ∧
∃ t27 : Option Addr, ∃ t28 : Nat, ∃ t29 : Nat, w17.drew.cell? (x15.add 4) = some (.slice t27 t28 t29) ∧
Calls Tryz.prog 20 #[] w17.drew fun e30 w31 => ∃ t32 : Option Addr, e30 = .returned (.pointer t32) ∧
(w31.cell? (x15.add 4) = some (.slice t27 t28 t29)) ∧
(CellsAt w31 x15 [.int .i64 t18, .int .i64 t19, .int .i64 t20, .slice t21 t22 t23, .slice t24 t25 t26]) ∧
Calls Tryz.prog 21 #[.slice t27 t28 t29] w31 fun e33 w34 => ∃ t35 : Option Addr, e33 = .returned (.pointer t35) ∧
(CellsAt w34 x15 [.int .i64 t18, .int .i64 t19, .int .i64 t20, .slice t21 t22 t23, .slice t24 t25 t26]) ∧
newK w34 #[.int .i64 t18, .int .i64 t19, .int .i64 t20, .slice t21 t22 t23, .slice t24 t25 t26, .pointer x14, .pointer t32, .int .i64 0, .int .i64 0, .int .i64 0, .pointer t35, .bool false] 67 fun a36 w37 =>
V7J1 Q a36 w37)

def V7 (x1 : Int) (x2 : Int) (x3 : Int) (x4 : Option Addr) (x5 : Nat) (x6 : Nat) (x7 : Option Addr) (x8 : Nat) (x9 : Nat) (x10 : Option Addr) (w : World) (Q : Value → World → Prop) : Prop :=
newK w #[.int .i64 x1, .int .i64 x2, .int .i64 x3, .slice x4 x5 x6, .slice x7 x8 x9] 32 fun a11 w12 =>
∃ t13 : Int, w12.cell? (a11.add 0) = some (.int .i64 t13) ∧
bsel (decide (t13 < 0)) (
V7J2 Q x10 a11 true w12) (
∃ t53 : Int, w12.cell? (a11.add 0) = some (.int .i64 t53) ∧
bsel (decide (t53 > 100000)) (
V7J2 Q x10 a11 true w12) (
∃ t54 : Int, w12.cell? (a11.add 1) = some (.int .i64 t54) ∧
bsel (decide (t54 < 0)) (
V7J2 Q x10 a11 true w12) (
∃ t55 : Int, w12.cell? (a11.add 1) = some (.int .i64 t55) ∧
bsel (decide (t55 > 65536)) (
V7J2 Q x10 a11 true w12) (
∃ t56 : Int, w12.cell? (a11.add 2) = some (.int .i64 t56) ∧
bsel (decide (t56 < 0)) (
V7J2 Q x10 a11 true w12) (
∃ t57 : Int, w12.cell? (a11.add 2) = some (.int .i64 t57) ∧
V7J2 Q x10 a11 (decide (t57 > 256)) w12)))))

def V7_ann : Nat → Ann := fun k => match k with | 0 => ⟨[6, 51, 52], [(53, .int .i64)]⟩ | _ => ⟨[], []⟩
theorem V7_eq (x1 : Int) (x2 : Int) (x3 : Int) (x4 : Option Addr) (x5 : Nat) (x6 : Nat) (x7 : Option Addr) (x8 : Nat) (x9 : Nat) (x10 : Option Addr) (w : World) (Q : Value → World → Prop) : (match Tryz.f7.body with | some c => wpC Tryz.prog Tryz.f7.ntmps V7_ann c 0 (resQ Tryz.prog Tryz.f7.ntmps Tryz.f7.results.toList Q) (argsF [.agg #[.int .i64 x1, .int .i64 x2, .int .i64 x3, .slice x4 x5 x6, .slice x7 x8 x9], .pointer x10]) w | none => False) = V7 x1 x2 x3 x4 x5 x6 x7 x8 x9 x10 w Q := by kernel_rfl
theorem V7_sound (x1 : Int) (x2 : Int) (x3 : Int) (x4 : Option Addr) (x5 : Nat) (x6 : Nat) (x7 : Option Addr) (x8 : Nat) (x9 : Nat) (x10 : Option Addr) (w : World) (Q : Value → World → Prop) (h : V7 x1 x2 x3 x4 x5 x6 x7 x8 x9 x10 w Q) : Calls Tryz.prog 7 #[.agg #[.int .i64 x1, .int .i64 x2, .int .i64 x3, .slice x4 x5 x6, .slice x7 x8 x9], .pointer x10] w fun e w' => ∃ v, e = .returned v ∧ Q v w' :=
  sound_of Tryz.func7 V7_ann rfl ((V7_eq x1 x2 x3 x4 x5 x6 x7 x8 x9 x10 w Q).mpr h)

def V8 (x1 : Int) (x2 : Int) (w : World) (Q : Value → World → Prop) : Prop :=
newK w #[.int .i64 0, .int .i64 0, .int .i64 0, .slice none 0 0, .slice none 0 0] 32 fun a3 w4 =>
stK w4 (a3.add 0) (.int .i64 0) fun w5 =>
stK w5 (a3.add 1) (.int .i64 x1) fun w6 =>
stK w6 (a3.add 2) (.int .i64 x2) fun w7 =>
stK w7 (a3.add 3) (.slice none 0 0) fun w8 =>
stK w8 (a3.add 4) (.slice none 0 0) fun w9 =>
∃ t10 : Int, ∃ t11 : Int, ∃ t12 : Int, ∃ t13 : Option Addr, ∃ t14 : Nat, ∃ t15 : Nat, ∃ t16 : Option Addr, ∃ t17 : Nat, ∃ t18 : Nat, CellsAt w9 a3 [.int .i64 t10, .int .i64 t11, .int .i64 t12, .slice t13 t14 t15, .slice t16 t17 t18] ∧
Q (.agg #[.int .i64 t10, .int .i64 t11, .int .i64 t12, .slice t13 t14 t15, .slice t16 t17 t18]) w9

def V8_ann : Nat → Ann := fun _ => ⟨[], []⟩
theorem V8_eq (x1 : Int) (x2 : Int) (w : World) (Q : Value → World → Prop) : (match Tryz.f8.body with | some c => wpC Tryz.prog Tryz.f8.ntmps V8_ann c 0 (resQ Tryz.prog Tryz.f8.ntmps Tryz.f8.results.toList Q) (argsF [.int .i64 x1, .int .i64 x2]) w | none => False) = V8 x1 x2 w Q := by kernel_rfl
theorem V8_sound (x1 : Int) (x2 : Int) (w : World) (Q : Value → World → Prop) (h : V8 x1 x2 w Q) : Calls Tryz.prog 8 #[.int .i64 x1, .int .i64 x2] w fun e w' => ∃ v, e = .returned v ∧ Q v w' :=
  sound_of Tryz.func8 V8_ann rfl ((V8_eq x1 x2 w Q).mpr h)

def V9 (x1 : Option Addr) (x2 : Option Addr) (x3 : Nat) (x4 : Nat) (w : World) (Q : Value → World → Prop) : Prop :=
bsel (Option.isNone x1) (
Q (.tuple #[.slice none 0 0, .int .i64 1]) w) (
newK w #[.pointer x1, .slice x2 x3 x4, .slice none 0 0] 77 fun a5 w6 =>
∃ (I7 : Int → World → Prop) (μ8 : Int → World → Nat), I7 0 w6 ∧ ∀ (j11 : Fr) (i9 : Int) (w10 : World), I7 i9 w10 →
bsel (decide (i9 < (x3 : Int))) (
Calls Tryz.prog 23 #[.pointer (some a5), .int .i64 i9] w10 fun e12 w13 => ∃ t14 : Int, e12 = .returned (.int .i64 t14) ∧
bsel (t14 != 0) (
Q (.tuple #[.slice none 0 0, .int .i64 t14]) w13) (
(I7 (IntKind.wrap .i64 (i9 + 1)) w13 ∧ μ8 (IntKind.wrap .i64 (i9 + 1)) w13 < μ8 i9 w10))) (
∃ (I15 : Int → World → Prop) (μ16 : Int → World → Nat), I15 0 w10 ∧ ∀ (j19 : Fr) (i17 : Int) (w18 : World), I15 i17 w18 →
bsel (decide (i17 < (x3 : Int))) (
idxK x2 x3 i17 8 fun a20 =>
∃ t21 : Int, ∃ t22 : Bool, ∃ t23 : Bool, ∃ t24 : Option Addr, ∃ t25 : Nat, ∃ t26 : Nat, ∃ t27 : ByteArray, ∃ t28 : Option Addr, ∃ t29 : Nat, ∃ t30 : Nat, ∃ t31 : Bool, ∃ t32 : Bool, CellsAt w18 a20 [.int .i64 t21, .bool t22, .bool t23, .slice t24 t25 t26, .string t27, .slice t28 t29 t30, .bool t31, .bool t32] ∧
newK w18 #[.int .i64 0, .bool false, .bool false, .slice none 0 0, .string ⟨#[]⟩, .slice none 0 0, .bool false, .bool false] 42 fun a33 w34 =>
stK w34 (a33.add 0) (.int .i64 t21) fun w35 =>
stK w35 (a33.add 1) (.bool t22) fun w36 =>
stK w36 (a33.add 2) (.bool t23) fun w37 =>
stK w37 (a33.add 3) (.slice t24 t25 t26) fun w38 =>
stK w38 (a33.add 4) (.string t27) fun w39 =>
stK w39 (a33.add 5) (.slice t28 t29 t30) fun w40 =>
stK w40 (a33.add 6) (.bool t31) fun w41 =>
stK w41 (a33.add 7) (.bool t32) fun w42 =>
∃ t43 : Option Addr, ∃ t44 : Nat, ∃ t45 : Nat, w42.drew.cell? (a5.add 2) = some (.slice t43 t44 t45) ∧
∃ t46 : Int, ∃ t47 : Bool, ∃ t48 : Bool, ∃ t49 : Option Addr, ∃ t50 : Nat, ∃ t51 : Nat, ∃ t52 : ByteArray, ∃ t53 : Option Addr, ∃ t54 : Nat, ∃ t55 : Nat, ∃ t56 : Bool, ∃ t57 : Bool, CellsAt w42.drew a33 [.int .i64 t46, .bool t47, .bool t48, .slice t49 t50 t51, .string t52, .slice t53 t54 t55, .bool t56, .bool t57] ∧
Calls Tryz.prog 24 #[.pointer (some a5), .agg #[.int .i64 t46, .bool t47, .bool t48, .slice t49 t50 t51, .string t52, .slice t53 t54 t55, .bool t56, .bool t57]] w42.drew fun e58 w59 => ∃ t60 : Int, e58 = .returned (.int .i64 t60) ∧
(w59.cell? (a5.add 2) = some (.slice t43 t44 t45)) ∧
newK w59 #[.int .i64 t60] 3 fun a61 w62 =>
(w62.cell? (a5.add 2) = some (.slice t43 t44 t45)) ∧
∃ w63 : World, ∃ t64 : Option Addr, ∃ t65 : Nat, ∃ t66 : Nat, (vcEff.bltV .append #[30, 30] 30 #[.slice t43 t44 t45, .slice (some a61) 1 1]).run Tryz.prog w62 = .ok (.slice t64 t65 t66) w63 ∧
stK w63 (a5.add 2) (.slice t64 t65 t66) fun w67 =>
(I15 (IntKind.wrap .i64 (i17 + 1)) w67 ∧ μ16 (IntKind.wrap .i64 (i17 + 1)) w67 < μ16 i17 w18)) (
∃ (I79 : Int → World → Prop) (μ80 : Int → World → Nat), I79 0 w18 ∧ ∀ (j83 : Fr) (i81 : Int) (w82 : World), I79 i81 w82 →
bsel (decide (i81 < (x3 : Int))) (
idxK x2 x3 i81 8 fun a84 =>
∃ t85 : Int, ∃ t86 : Bool, ∃ t87 : Bool, ∃ t88 : Option Addr, ∃ t89 : Nat, ∃ t90 : Nat, ∃ t91 : ByteArray, ∃ t92 : Option Addr, ∃ t93 : Nat, ∃ t94 : Nat, ∃ t95 : Bool, ∃ t96 : Bool, CellsAt w82 a84 [.int .i64 t85, .bool t86, .bool t87, .slice t88 t89 t90, .string t91, .slice t92 t93 t94, .bool t95, .bool t96] ∧
newK w82 #[.int .i64 0, .bool false, .bool false, .slice none 0 0, .string ⟨#[]⟩, .slice none 0 0, .bool false, .bool false] 42 fun a97 w98 =>
stK w98 (a97.add 0) (.int .i64 t85) fun w99 =>
stK w99 (a97.add 1) (.bool t86) fun w100 =>
stK w100 (a97.add 2) (.bool t87) fun w101 =>
stK w101 (a97.add 3) (.slice t88 t89 t90) fun w102 =>
stK w102 (a97.add 4) (.string t91) fun w103 =>
stK w103 (a97.add 5) (.slice t92 t93 t94) fun w104 =>
stK w104 (a97.add 6) (.bool t95) fun w105 =>
stK w105 (a97.add 7) (.bool t96) fun w106 =>
∃ t107 : Option Addr, ∃ t108 : Nat, ∃ t109 : Nat, w106.cell? (a5.add 2) = some (.slice t107 t108 t109) ∧
idxK t107 t108 i81 1 fun a110 =>
∃ t111 : Int, w106.cell? a110 = some (.int .i64 t111) ∧
Calls Tryz.prog 25 #[.pointer x1, .int .i64 t111] w106 fun e112 w113 => ∃ t114 : Value, e112 = .returned (t114) ∧
∃ t115 : Option Addr, ∃ t116 : Bool, (∀ w : World, (Instr.typeAssert t114 63 80 true).run Tryz.prog w = .ok (.tuple #[.pointer t115, .bool t116]) w) ∧
bsel t116 (
∃ t117 : Option Addr, ∃ t118 : Nat, ∃ t119 : Nat, w113.cell? (a97.add 5) = some (.slice t117 t118 t119) ∧
∃ (I120 : Int → World → Prop) (μ121 : Int → World → Nat), I120 0 w113 ∧ ∀ (j124 : Fr) (i122 : Int) (w123 : World), I120 i122 w123 →
bsel (decide (i122 < (t118 : Int))) (
idxK t117 t118 i122 1 fun a125 =>
∃ t126 : Int, w123.cell? a125 = some (.int .i64 t126) ∧
nilK t115 fun a127 =>
∃ t128 : Option Addr, ∃ t129 : Nat, ∃ t130 : Nat, w123.drew.cell? (a127.add 1) = some (.slice t128 t129 t130) ∧
∃ t131 : Option Addr, ∃ t132 : Nat, ∃ t133 : Nat, w123.drew.cell? (a5.add 2) = some (.slice t131 t132 t133) ∧
idxK t131 t132 t126 1 fun a134 =>
∃ t135 : Int, w123.drew.cell? a134 = some (.int .i64 t135) ∧
idxK t128 t129 i122 1 fun a136 =>
stK w123.drew a136 (.int .i64 t135) fun w137 =>
(I120 (IntKind.wrap .i64 (i122 + 1)) w137 ∧ μ121 (IntKind.wrap .i64 (i122 + 1)) w137 < μ121 i122 w123)) (
(I79 (IntKind.wrap .i64 (i81 + 1)) w123 ∧ μ80 (IntKind.wrap .i64 (i81 + 1)) w123 < μ80 i81 w82))) (
(I79 (IntKind.wrap .i64 (i81 + 1)) w113 ∧ μ80 (IntKind.wrap .i64 (i81 + 1)) w113 < μ80 i81 w82))) (
∃ t146 : Option Addr, ∃ t147 : Nat, ∃ t148 : Nat, w82.drew.cell? (a5.add 2) = some (.slice t146 t147 t148) ∧
∃ t149 : Option Addr, ∃ t150 : Nat, ∃ t151 : Nat, w82.drew.cell? (a5.add 2) = some (.slice t149 t150 t151) ∧
∃ w152 : World, ∃ t153 : Option Addr, ∃ t154 : Nat, ∃ t155 : Nat, (Instr.makeSlice 30 (.int .i64 0) (.int .i64 (t147 : Int))).run Tryz.prog w82.drew = .ok (.slice t153 t154 t155) w152 ∧
(w152.cell? (a5.add 2) = some (.slice t149 t150 t151)) ∧
∃ w156 : World, ∃ t157 : Option Addr, ∃ t158 : Nat, ∃ t159 : Nat, (vcEff.bltV .append #[30, 30] 30 #[.slice t153 t154 t155, .slice t149 t150 t151]).run Tryz.prog w152 = .ok (.slice t157 t158 t159) w156 ∧
Q (.tuple #[.slice t157 t158 t159, .int .i64 0]) w156))))

def V9_ann : Nat → Ann := fun k => match k with | 0 => ⟨[0, 1, 6, 24], [(25, .int .i64)]⟩ | 1 => ⟨[0, 1, 6, 35, 36], [(37, .int .i64)]⟩ | 2 => ⟨[0, 6, 54, 55], [(56, .int .i64)]⟩ | 3 => ⟨[0, 6, 13, 54, 55, 56, 76, 77], [(78, .int .i64)]⟩ | _ => ⟨[], []⟩
theorem V9_eq (x1 : Option Addr) (x2 : Option Addr) (x3 : Nat) (x4 : Nat) (w : World) (Q : Value → World → Prop) : (match Tryz.f9.body with | some c => wpC Tryz.prog Tryz.f9.ntmps V9_ann c 0 (resQ Tryz.prog Tryz.f9.ntmps Tryz.f9.results.toList Q) (argsF [.pointer x1, .slice x2 x3 x4]) w | none => False) = V9 x1 x2 x3 x4 w Q := by kernel_rfl
theorem V9_sound (x1 : Option Addr) (x2 : Option Addr) (x3 : Nat) (x4 : Nat) (w : World) (Q : Value → World → Prop) (h : V9 x1 x2 x3 x4 w Q) : Calls Tryz.prog 9 #[.pointer x1, .slice x2 x3 x4] w fun e w' => ∃ v, e = .returned v ∧ Q v w' :=
  sound_of Tryz.func9 V9_ann rfl ((V9_eq x1 x2 x3 x4 w Q).mpr h)

def V10 (x1 : Option Addr) (w : World) (Q : Value → World → Prop) : Prop :=
bsel (Option.isNone x1) (
Q (.int .i64 0) w) (
nilK x1 fun a2 =>
∃ t3 : Int, w.cell? (a2.add 8) = some (.int .i64 t3) ∧
Q (.int .i64 t3) w)

def V10_ann : Nat → Ann := fun _ => ⟨[], []⟩
theorem V10_eq (x1 : Option Addr) (w : World) (Q : Value → World → Prop) : (match Tryz.f10.body with | some c => wpC Tryz.prog Tryz.f10.ntmps V10_ann c 0 (resQ Tryz.prog Tryz.f10.ntmps Tryz.f10.results.toList Q) (argsF [.pointer x1]) w | none => False) = V10 x1 w Q := by kernel_rfl
theorem V10_sound (x1 : Option Addr) (w : World) (Q : Value → World → Prop) (h : V10 x1 w Q) : Calls Tryz.prog 10 #[.pointer x1] w fun e w' => ∃ v, e = .returned v ∧ Q v w' :=
  sound_of Tryz.func10 V10_ann rfl ((V10_eq x1 w Q).mpr h)

def V11 (x1 : Option Addr) (x2 : Int) (w : World) (Q : Value → World → Prop) : Prop :=
Calls Tryz.prog 25 #[.pointer x1, .int .i64 x2] w fun e3 w4 => ∃ t5 : Value, e3 = .returned (t5) ∧
eqNilI t5 fun b6 =>
bsel (!b6) (
InvK Tryz.prog t5 "lexicon/store.numbered" #[] w4 fun e7 w8 => ∃ t9 : Int, e7 = .returned (.int .i64 t9) ∧
Q (.int .i64 t9) w8) (
Q (.int .i64 0) w4)

def V11_ann : Nat → Ann := fun _ => ⟨[], []⟩
theorem V11_eq (x1 : Option Addr) (x2 : Int) (w : World) (Q : Value → World → Prop) : (match Tryz.f11.body with | some c => wpC Tryz.prog Tryz.f11.ntmps V11_ann c 0 (resQ Tryz.prog Tryz.f11.ntmps Tryz.f11.results.toList Q) (argsF [.pointer x1, .int .i64 x2]) w | none => False) = V11 x1 x2 w Q := by kernel_rfl
theorem V11_sound (x1 : Option Addr) (x2 : Int) (w : World) (Q : Value → World → Prop) (h : V11 x1 x2 w Q) : Calls Tryz.prog 11 #[.pointer x1, .int .i64 x2] w fun e w' => ∃ v, e = .returned v ∧ Q v w' :=
  sound_of Tryz.func11 V11_ann rfl ((V11_eq x1 x2 w Q).mpr h)

def V12J1 (w : World) (Q : Value → World → Prop) (x40 : Option Addr) (x41 : Int) (x42 : Int) (x43 : Value) (x44 : Value) (x45 : Addr) (x46 : Addr) (x47 : Bool) (w48 : World) : Prop :=
bsel x47 (
∃ t49 : Bool, ∃ t50 : Option Addr, ∃ t51 : Nat, ∃ t52 : Nat, CellsAt w48 x45 [.bool t49, .slice t50 t51 t52] ∧
∃ t53 : Bool, ∃ t54 : Option Addr, ∃ t55 : Nat, ∃ t56 : Nat, CellsAt w48 x46 [.bool t53, .slice t54 t55 t56] ∧
Calls Tryz.prog 27 #[.agg #[.bool t49, .slice t50 t51 t52], .agg #[.bool t53, .slice t54 t55 t56]] w48 fun e57 w58 => ∃ t59 : Int, e57 = .returned (.int .i64 t59) ∧
Q (.bool (t59 == 0)) w58) (
∃ t60 : Int, ∃ t61 : ByteArray, ∃ t62 : Bool, (∀ w : World, (Instr.typeAssert x43 63 91 true).run Tryz.prog w = .ok (.tuple #[.agg #[.int .i64 t60, .string t61], .bool t62]) w) ∧
newK w48 #[.int .i64 0, .string ⟨#[]⟩] 91 fun a63 w64 =>
stK w64 (a63.add 0) (.int .i64 t60) fun w65 =>
stK w65 (a63.add 1) (.string t61) fun w66 =>
bsel t62 (
∃ t67 : Int, ∃ t68 : ByteArray, CellsAt w66 a63 [.int .i64 t67, .string t68] ∧
∃ b69 : Bool, (∀ w : World, (eqSem .eql 63 (.tmp 61) (.tmp 62) (.iface 91 (.agg #[.int .i64 t67, .string t68])) x44).run Tryz.prog w = .ok (.bool b69) w) ∧
Q (.bool b69) w66) (
Calls Tryz.prog 28 #[.pointer x40, .int .i64 x41] w66 fun e70 w71 => ∃ t72 : ByteArray, ∃ t73 : Bool, e70 = .returned (.tuple #[.string t72, .bool t73]) ∧
Calls Tryz.prog 28 #[.pointer x40, .int .i64 x42] w71 fun e74 w75 => ∃ t76 : ByteArray, ∃ t77 : Bool, e74 = .returned (.tuple #[.string t76, .bool t77]) ∧
bsel t73 (
bsel t77 (
bsel (t72.toList == t76.toList) (
Q (.bool true) w75) (
InvK Tryz.prog x43 "Kind" #[] w75 fun e80 w81 => ∃ t82 : Int, e80 = .returned (.int .i64 t82) ∧
bsel (t82 == 1) (
InvK Tryz.prog x44 "Kind" #[] w81 fun e83 w84 => ∃ t85 : Int, e83 = .returned (.int .i64 t85) ∧
Q (.bool (t85 == 1)) w84) (
Q (.bool false) w81))) (
InvK Tryz.prog x43 "Kind" #[] w75 fun e86 w87 => ∃ t88 : Int, e86 = .returned (.int .i64 t88) ∧
bsel (t88 == 1) (
InvK Tryz.prog x44 "Kind" #[] w87 fun e89 w90 => ∃ t91 : Int, e89 = .returned (.int .i64 t91) ∧
Q (.bool (t91 == 1)) w90) (
Q (.bool false) w87))) (
InvK Tryz.prog x43 "Kind" #[] w75 fun e92 w93 => ∃ t94 : Int, e92 = .returned (.int .i64 t94) ∧
bsel (t94 == 1) (
InvK Tryz.prog x44 "Kind" #[] w93 fun e95 w96 => ∃ t97 : Int, e95 = .returned (.int .i64 t97) ∧
Q (.bool (t97 == 1)) w96) (
Q (.bool false) w93))))

def V12J2 (w : World) (Q : Value → World → Prop) (x11 : Option Addr) (x12 : Int) (x13 : Int) (x14 : Value) (x15 : Value) (x16 : Bool) (w17 : World) : Prop :=
bsel x16 (
Q (.bool false) w17) (
bsel (x12 == x13) (
Q (.bool true) w17) (
Calls Tryz.prog 26 #[.pointer x11, .int .i64 x12] w17 fun e18 w19 => ∃ t20 : Bool, ∃ t21 : Option Addr, ∃ t22 : Nat, ∃ t23 : Nat, ∃ t24 : Bool, e18 = .returned (.tuple #[.agg #[.bool t20, .slice t21 t22 t23], .bool t24]) ∧
newK w19 #[.bool false, .slice none 0 0] 40 fun a25 w26 =>
stK w26 (a25.add 0) (.bool t20) fun w27 =>
stK w27 (a25.add 1) (.slice t21 t22 t23) fun w28 =>
Calls Tryz.prog 26 #[.pointer x11, .int .i64 x13] w28 fun e29 w30 => ∃ t31 : Bool, ∃ t32 : Option Addr, ∃ t33 : Nat, ∃ t34 : Nat, ∃ t35 : Bool, e29 = .returned (.tuple #[.agg #[.bool t31, .slice t32 t33 t34], .bool t35]) ∧
newK w30 #[.bool false, .slice none 0 0] 40 fun a36 w37 =>
stK w37 (a36.add 0) (.bool t31) fun w38 =>
stK w38 (a36.add 1) (.slice t32 t33 t34) fun w39 =>
bsel t24 (
V12J1 w Q x11 x12 x13 x14 x15 a25 a36 t35 w39) (
V12J1 w Q x11 x12 x13 x14 x15 a25 a36 false w39)))

def V12 (x1 : Option Addr) (x2 : Int) (x3 : Int) (w : World) (Q : Value → World → Prop) : Prop :=
Calls Tryz.prog 25 #[.pointer x1, .int .i64 x2] w fun e4 w5 => ∃ t6 : Value, e4 = .returned (t6) ∧
Calls Tryz.prog 25 #[.pointer x1, .int .i64 x3] w5 fun e7 w8 => ∃ t9 : Value, e7 = .returned (t9) ∧
eqNilI t6 fun b10 =>
bsel b10 (
V12J2 w Q x1 x2 x3 t6 t9 true w8) (
eqNilI t9 fun b98 =>
V12J2 w Q x1 x2 x3 t6 t9 b98 w8)

def V12_ann : Nat → Ann := fun _ => ⟨[], []⟩
theorem V12_eq (x1 : Option Addr) (x2 : Int) (x3 : Int) (w : World) (Q : Value → World → Prop) : (match Tryz.f12.body with | some c => wpC Tryz.prog Tryz.f12.ntmps V12_ann c 0 (resQ Tryz.prog Tryz.f12.ntmps Tryz.f12.results.toList Q) (argsF [.pointer x1, .int .i64 x2, .int .i64 x3]) w | none => False) = V12 x1 x2 x3 w Q := by kernel_rfl
theorem V12_sound (x1 : Option Addr) (x2 : Int) (x3 : Int) (w : World) (Q : Value → World → Prop) (h : V12 x1 x2 x3 w Q) : Calls Tryz.prog 12 #[.pointer x1, .int .i64 x2, .int .i64 x3] w fun e w' => ∃ v, e = .returned v ∧ Q v w' :=
  sound_of Tryz.func12 V12_ann rfl ((V12_eq x1 x2 x3 w Q).mpr h)

def V13 (x1 : Option Addr) (x2 : Int) (x3 : Int) (w : World) (Q : Value → World → Prop) : Prop :=
Calls Tryz.prog 15 #[.pointer x1, .int .i64 x2] w fun e4 w5 => ∃ t6 : Int, e4 = .returned (.int .i64 t6) ∧
Calls Tryz.prog 15 #[.pointer x1, .int .i64 x3] w5 fun e7 w8 => ∃ t9 : Int, e7 = .returned (.int .i64 t9) ∧
bsel (t6 == t9) (
Calls Tryz.prog 12 #[.pointer x1, .int .i64 x2, .int .i64 x3] w8 fun e10 w11 => ∃ t12 : Bool, e10 = .returned (.bool t12) ∧
Q (.bool t12) w11) (
Q (.bool false) w8)

def V13_ann : Nat → Ann := fun _ => ⟨[], []⟩
theorem V13_eq (x1 : Option Addr) (x2 : Int) (x3 : Int) (w : World) (Q : Value → World → Prop) : (match Tryz.f13.body with | some c => wpC Tryz.prog Tryz.f13.ntmps V13_ann c 0 (resQ Tryz.prog Tryz.f13.ntmps Tryz.f13.results.toList Q) (argsF [.pointer x1, .int .i64 x2, .int .i64 x3]) w | none => False) = V13 x1 x2 x3 w Q := by kernel_rfl
theorem V13_sound (x1 : Option Addr) (x2 : Int) (x3 : Int) (w : World) (Q : Value → World → Prop) (h : V13 x1 x2 x3 w Q) : Calls Tryz.prog 13 #[.pointer x1, .int .i64 x2, .int .i64 x3] w fun e w' => ∃ v, e = .returned v ∧ Q v w' :=
  sound_of Tryz.func13 V13_ann rfl ((V13_eq x1 x2 x3 w Q).mpr h)

def V14 (x1 : Option Addr) (x2 : Int) (w : World) (Q : Value → World → Prop) : Prop :=
Calls Tryz.prog 25 #[.pointer x1, .int .i64 x2] w fun e3 w4 => ∃ t5 : Value, e3 = .returned (t5) ∧
∃ t6 : ByteArray, ∃ t7 : Bool, (∀ w : World, (Instr.typeAssert t5 63 96 true).run Tryz.prog w = .ok (.tuple #[.agg #[.string t6], .bool t7]) w) ∧
bsel t7 (
newK w4 #[.string ⟨#[]⟩] 96 fun a8 w9 =>
stK w9 (a8.add 0) (.string t6) fun w10 =>
∃ t11 : ByteArray, w10.cell? (a8.add 0) = some (.string t11) ∧
Calls Tryz.prog 29 #[.string t11] w10 fun e12 w13 => ∃ t14 : Int, e12 = .returned (.int .i64 t14) ∧
Q (.tuple #[.int .i64 t14, .int .i64 0]) w13) (
∃ t15 : Option Addr, ∃ t16 : Bool, (∀ w : World, (Instr.typeAssert t5 63 80 true).run Tryz.prog w = .ok (.tuple #[.pointer t15, .bool t16]) w) ∧
bsel t16 (
nilK t15 fun a17 =>
∃ t18 : Option Addr, ∃ t19 : Nat, ∃ t20 : Nat, w4.cell? (a17.add 1) = some (.slice t18 t19 t20) ∧
Q (.tuple #[.int .i64 (t19 : Int), .int .i64 0]) w4) (
∃ t21 : Option Addr, ∃ t22 : Bool, (∀ w : World, (Instr.typeAssert t5 63 98 true).run Tryz.prog w = .ok (.tuple #[.pointer t21, .bool t22]) w) ∧
bsel t22 (
nilK t21 fun a23 =>
∃ t24 : Option Addr, w4.cell? (a23.add 1) = some (.pointer t24) ∧
Calls Tryz.prog 30 #[.pointer t24] w4 fun e25 w26 => ∃ t27 : Int, e25 = .returned (.int .i64 t27) ∧
Q (.tuple #[.int .i64 t27, .int .i64 0]) w26) (
∃ t28 : Option Addr, ∃ t29 : Bool, (∀ w : World, (Instr.typeAssert t5 63 102 true).run Tryz.prog w = .ok (.tuple #[.pointer t28, .bool t29]) w) ∧
bsel t29 (
nilK t28 fun a30 =>
∃ t31 : Int, w4.cell? (a30.add 1) = some (.int .i64 t31) ∧
Calls Tryz.prog 25 #[.pointer x1, .int .i64 t31] w4 fun e32 w33 => ∃ t34 : Value, e32 = .returned (t34) ∧
∃ t35 : Option Addr, ∃ t36 : Bool, (∀ w : World, (Instr.typeAssert t34 63 103 true).run Tryz.prog w = .ok (.tuple #[.pointer t35, .bool t36]) w) ∧
bsel t36 (
nilK t35 fun a37 =>
∃ t38 : Option Addr, w33.cell? (a37.add 1) = some (.pointer t38) ∧
Calls Tryz.prog 31 #[.pointer t38] w33 fun e39 w40 => ∃ t41 : Int, e39 = .returned (.int .i64 t41) ∧
Q (.tuple #[.int .i64 t41, .int .i64 0]) w40) (
nilK t28 fun a42 =>
∃ t43 : Int, w33.cell? (a42.add 1) = some (.int .i64 t43) ∧
Calls Tryz.prog 32 #[.pointer x1, .int .i64 t43] w33 fun e44 w45 => ∃ t46 : Option Addr, e44 = .returned (.pointer t46) ∧
Calls Tryz.prog 30 #[.pointer t46] w45 fun e47 w48 => ∃ t49 : Int, e47 = .returned (.int .i64 t49) ∧
Q (.tuple #[.int .i64 t49, .int .i64 0]) w48)) (
Q (.tuple #[.int .i64 0, .int .i64 12]) w4))))

def V14_ann : Nat → Ann := fun _ => ⟨[], []⟩
theorem V14_eq (x1 : Option Addr) (x2 : Int) (w : World) (Q : Value → World → Prop) : (match Tryz.f14.body with | some c => wpC Tryz.prog Tryz.f14.ntmps V14_ann c 0 (resQ Tryz.prog Tryz.f14.ntmps Tryz.f14.results.toList Q) (argsF [.pointer x1, .int .i64 x2]) w | none => False) = V14 x1 x2 w Q := by kernel_rfl
theorem V14_sound (x1 : Option Addr) (x2 : Int) (w : World) (Q : Value → World → Prop) (h : V14 x1 x2 w Q) : Calls Tryz.prog 14 #[.pointer x1, .int .i64 x2] w fun e w' => ∃ v, e = .returned v ∧ Q v w' :=
  sound_of Tryz.func14 V14_ann rfl ((V14_eq x1 x2 w Q).mpr h)

def V15 (x1 : Option Addr) (x2 : Int) (w : World) (Q : Value → World → Prop) : Prop :=
Calls Tryz.prog 25 #[.pointer x1, .int .i64 x2] w fun e3 w4 => ∃ t5 : Value, e3 = .returned (t5) ∧
eqNilI t5 fun b6 =>
bsel (!b6) (
InvK Tryz.prog t5 "Kind" #[] w4 fun e7 w8 => ∃ t9 : Int, e7 = .returned (.int .i64 t9) ∧
Q (.int .i64 t9) w8) (
Q (.int .i64 0) w4)

def V15_ann : Nat → Ann := fun _ => ⟨[], []⟩
theorem V15_eq (x1 : Option Addr) (x2 : Int) (w : World) (Q : Value → World → Prop) : (match Tryz.f15.body with | some c => wpC Tryz.prog Tryz.f15.ntmps V15_ann c 0 (resQ Tryz.prog Tryz.f15.ntmps Tryz.f15.results.toList Q) (argsF [.pointer x1, .int .i64 x2]) w | none => False) = V15 x1 x2 w Q := by kernel_rfl
theorem V15_sound (x1 : Option Addr) (x2 : Int) (w : World) (Q : Value → World → Prop) (h : V15 x1 x2 w Q) : Calls Tryz.prog 15 #[.pointer x1, .int .i64 x2] w fun e w' => ∃ v, e = .returned v ∧ Q v w' :=
  sound_of Tryz.func15 V15_ann rfl ((V15_eq x1 x2 w Q).mpr h)

def V16 (x1 : Option Addr) (x2 : Int) (w : World) (Q : Value → World → Prop) : Prop :=
Calls Tryz.prog 25 #[.pointer x1, .int .i64 x2] w fun e3 w4 => ∃ t5 : Value, e3 = .returned (t5) ∧
eqNilI t5 fun b6 =>
bsel b6 (
Q (.string (⟨#[]⟩ : ByteArray)) w4) (
∃ t7 : Bool, (∀ w : World, (Instr.typeAssert t5 63 70 true).run Tryz.prog w = .ok (.tuple #[.agg #[], .bool t7]) w) ∧
bsel t7 (
newK w4 #[] 70 fun a8 w9 =>
Q (.string (⟨#[78, 111, 110, 101]⟩ : ByteArray)) w9) (
∃ t10 : Bool, ∃ t11 : Bool, (∀ w : World, (Instr.typeAssert t5 63 72 true).run Tryz.prog w = .ok (.tuple #[.agg #[.bool t10], .bool t11]) w) ∧
bsel t11 (
newK w4 #[.bool false] 72 fun a12 w13 =>
stK w13 (a12.add 0) (.bool t10) fun w14 =>
∃ t15 : Bool, w14.cell? (a12.add 0) = some (.bool t15) ∧
bsel t15 (
Q (.string (⟨#[84, 114, 117, 101]⟩ : ByteArray)) w14) (
Q (.string (⟨#[70, 97, 108, 115, 101]⟩ : ByteArray)) w14)) (
∃ t16 : Bool, ∃ t17 : Option Addr, ∃ t18 : Nat, ∃ t19 : Nat, ∃ t20 : Bool, (∀ w : World, (Instr.typeAssert t5 63 112 true).run Tryz.prog w = .ok (.tuple #[.agg #[.bool t16, .slice t17 t18 t19], .bool t20]) w) ∧
bsel t20 (
newK w4 #[.bool false, .slice none 0 0] 112 fun a21 w22 =>
stK w22 (a21.add 0) (.bool t16) fun w23 =>
stK w23 (a21.add 1) (.slice t17 t18 t19) fun w24 =>
∃ t25 : Bool, ∃ t26 : Option Addr, ∃ t27 : Nat, ∃ t28 : Nat, CellsAt w24 (a21.add 0) [.bool t25, .slice t26 t27 t28] ∧
Calls Tryz.prog 33 #[.agg #[.bool t25, .slice t26 t27 t28]] w24 fun e29 w30 => ∃ t31 : ByteArray, e29 = .returned (.string t31) ∧
Q (.string t31) w30) (
∃ t32 : ByteArray, ∃ t33 : Bool, (∀ w : World, (Instr.typeAssert t5 63 96 true).run Tryz.prog w = .ok (.tuple #[.agg #[.string t32], .bool t33]) w) ∧
bsel t33 (
newK w4 #[.string ⟨#[]⟩] 96 fun a34 w35 =>
stK w35 (a34.add 0) (.string t32) fun w36 =>
∃ t37 : ByteArray, w36.cell? (a34.add 0) = some (.string t37) ∧
Calls Tryz.prog 34 #[.string t37] w36 fun e38 w39 => ∃ t40 : ByteArray, e38 = .returned (.string t40) ∧
Q (.string t40) w39) (
∃ t41 : Int, ∃ t42 : ByteArray, ∃ t43 : Bool, (∀ w : World, (Instr.typeAssert t5 63 91 true).run Tryz.prog w = .ok (.tuple #[.agg #[.int .i64 t41, .string t42], .bool t43]) w) ∧
bsel t43 (
newK w4 #[.int .i64 0, .string ⟨#[]⟩] 91 fun a44 w45 =>
stK w45 (a44.add 0) (.int .i64 t41) fun w46 =>
stK w46 (a44.add 1) (.string t42) fun w47 =>
∃ t48 : ByteArray, w47.cell? (a44.add 1) = some (.string t48) ∧
((((⟨#[60, 110, 97, 116, 105, 118, 101, 32]⟩ : ByteArray).size + t48.size : Nat) : Int) ≤ 9223372036854775807) ∧
(((((⟨#[60, 110, 97, 116, 105, 118, 101, 32]⟩ : ByteArray) ++ t48).size + (⟨#[62]⟩ : ByteArray).size : Nat) : Int) ≤ 9223372036854775807) ∧
Q (.string (((⟨#[60, 110, 97, 116, 105, 118, 101, 32]⟩ : ByteArray) ++ t48) ++ (⟨#[62]⟩ : ByteArray))) w47) (
InvK Tryz.prog t5 "lexicon/store.numbered" #[] w4 fun e49 w50 => ∃ t51 : Int, e49 = .returned (.int .i64 t51) ∧
Calls Tryz.prog 35 #[.int .i64 t51] w50 fun e52 w53 => ∃ t54 : ByteArray, e52 = .returned (.string t54) ∧
((((⟨#[35]⟩ : ByteArray).size + t54.size : Nat) : Int) ≤ 9223372036854775807) ∧
Q (.string ((⟨#[35]⟩ : ByteArray) ++ t54)) w53))))))

def V16_ann : Nat → Ann := fun _ => ⟨[], []⟩
theorem V16_eq (x1 : Option Addr) (x2 : Int) (w : World) (Q : Value → World → Prop) : (match Tryz.f16.body with | some c => wpC Tryz.prog Tryz.f16.ntmps V16_ann c 0 (resQ Tryz.prog Tryz.f16.ntmps Tryz.f16.results.toList Q) (argsF [.pointer x1, .int .i64 x2]) w | none => False) = V16 x1 x2 w Q := by kernel_rfl
theorem V16_sound (x1 : Option Addr) (x2 : Int) (w : World) (Q : Value → World → Prop) (h : V16 x1 x2 w Q) : Calls Tryz.prog 16 #[.pointer x1, .int .i64 x2] w fun e w' => ∃ v, e = .returned v ∧ Q v w' :=
  sound_of Tryz.func16 V16_ann rfl ((V16_eq x1 x2 w Q).mpr h)

def V17J1 (Q : Value → World → Prop) (x35 : Option Addr) (x36 : Int) (w37 : World) : Prop :=
Calls Tryz.prog 14 #[.pointer x35, .int .i64 x36] w37 fun e38 w39 => ∃ t40 : Int, ∃ t41 : Int, e38 = .returned (.tuple #[.int .i64 t40, .int .i64 t41]) ∧
bsel (t41 != 0) (
Q (.bool true) w39) (
Q (.bool (decide (t40 > 0))) w39)

def V17J2 (w : World) (Q : Value → World → Prop) (x8 : Option Addr) (x9 : Int) (x10 : Value) (x11 : Bool) (w12 : World) : Prop :=
bsel x11 (
Q (.bool false) w12) (
∃ t13 : Bool, ∃ t14 : Bool, (∀ w : World, (Instr.typeAssert x10 63 72 true).run Tryz.prog w = .ok (.tuple #[.agg #[.bool t13], .bool t14]) w) ∧
bsel t14 (
newK w12 #[.bool false] 72 fun a15 w16 =>
stK w16 (a15.add 0) (.bool t13) fun w17 =>
∃ t18 : Bool, w17.cell? (a15.add 0) = some (.bool t18) ∧
Q (.bool t18) w17) (
∃ t19 : Bool, ∃ t20 : Option Addr, ∃ t21 : Nat, ∃ t22 : Nat, ∃ t23 : Bool, (∀ w : World, (Instr.typeAssert x10 63 112 true).run Tryz.prog w = .ok (.tuple #[.agg #[.bool t19, .slice t20 t21 t22], .bool t23]) w) ∧
bsel t23 (
newK w12 #[.bool false, .slice none 0 0] 112 fun a24 w25 =>
stK w25 (a24.add 0) (.bool t19) fun w26 =>
stK w26 (a24.add 1) (.slice t20 t21 t22) fun w27 =>
∃ t28 : Option Addr, ∃ t29 : Nat, ∃ t30 : Nat, w27.cell? ((a24.add 0).add 1) = some (.slice t28 t29 t30) ∧
Q (.bool (decide ((t29 : Int) > 0))) w27) (
∃ t31 : Option Addr, ∃ t32 : Bool, (∀ w : World, (Instr.typeAssert x10 63 102 true).run Tryz.prog w = .ok (.tuple #[.pointer t31, .bool t32]) w) ∧
bsel t32 (
nilK t31 fun a33 =>
∃ t34 : Int, w12.cell? (a33.add 2) = some (.int .i64 t34) ∧
bsel (t34 == 18) (
V17J1 Q x8 x9 w12) (
V17J1 Q x8 x9 w12)) (
V17J1 Q x8 x9 w12))))

def V17 (x1 : Option Addr) (x2 : Int) (w : World) (Q : Value → World → Prop) : Prop :=
Calls Tryz.prog 25 #[.pointer x1, .int .i64 x2] w fun e3 w4 => ∃ t5 : Value, e3 = .returned (t5) ∧
eqNilI t5 fun b6 =>
∃ t7 : Bool, (∀ w : World, (Instr.typeAssert t5 63 70 true).run Tryz.prog w = .ok (.tuple #[.agg #[], .bool t7]) w) ∧
bsel b6 (
V17J2 w Q x1 x2 t5 true w4) (
V17J2 w Q x1 x2 t5 t7 w4)

def V17_ann : Nat → Ann := fun _ => ⟨[], []⟩
theorem V17_eq (x1 : Option Addr) (x2 : Int) (w : World) (Q : Value → World → Prop) : (match Tryz.f17.body with | some c => wpC Tryz.prog Tryz.f17.ntmps V17_ann c 0 (resQ Tryz.prog Tryz.f17.ntmps Tryz.f17.results.toList Q) (argsF [.pointer x1, .int .i64 x2]) w | none => False) = V17 x1 x2 w Q := by kernel_rfl
theorem V17_sound (x1 : Option Addr) (x2 : Int) (w : World) (Q : Value → World → Prop) (h : V17 x1 x2 w Q) : Calls Tryz.prog 17 #[.pointer x1, .int .i64 x2] w fun e w' => ∃ v, e = .returned v ∧ Q v w' :=
  sound_of Tryz.func17 V17_ann rfl ((V17_eq x1 x2 w Q).mpr h)

def V18 (x1 : Option Addr) (x2 : Int) (w : World) (Q : Value → World → Prop) : Prop :=
Calls Tryz.prog 25 #[.pointer x1, .int .i64 x2] w fun e3 w4 => ∃ t5 : Value, e3 = .returned (t5) ∧
∃ t6 : Option Addr, ∃ t7 : Bool, (∀ w : World, (Instr.typeAssert t5 63 80 true).run Tryz.prog w = .ok (.tuple #[.pointer t6, .bool t7]) w) ∧
bsel t7 (
nilK t6 fun a8 =>
∃ t9 : Option Addr, ∃ t10 : Nat, ∃ t11 : Nat, w4.cell? (a8.add 1) = some (.slice t9 t10 t11) ∧
Calls Tryz.prog 36 #[.slice t9 t10 t11] w4 fun e12 w13 => ∃ t14 : Option Addr, ∃ t15 : Nat, ∃ t16 : Nat, e12 = .returned (.slice t14 t15 t16) ∧
Q (.slice t14 t15 t16) w13) (
∃ t17 : Option Addr, ∃ t18 : Bool, (∀ w : World, (Instr.typeAssert t5 63 98 true).run Tryz.prog w = .ok (.tuple #[.pointer t17, .bool t18]) w) ∧
bsel t18 (
Calls Tryz.prog 37 #[.pointer t17] w4 fun e19 w20 => ∃ t21 : Option Addr, ∃ t22 : Nat, ∃ t23 : Nat, e19 = .returned (.slice t21 t22 t23) ∧
Q (.slice t21 t22 t23) w20) (
∃ t24 : Option Addr, ∃ t25 : Bool, (∀ w : World, (Instr.typeAssert t5 63 117 true).run Tryz.prog w = .ok (.tuple #[.pointer t24, .bool t25]) w) ∧
bsel t25 (
nilK t24 fun a26 =>
∃ t27 : Option Addr, w4.cell? (a26.add 1) = some (.pointer t27) ∧
Calls Tryz.prog 38 #[.pointer t27, .bool true] w4 fun e28 w29 => ∃ t30 : Option Addr, ∃ t31 : Nat, ∃ t32 : Nat, e28 = .returned (.slice t30 t31 t32) ∧
Q (.slice t30 t31 t32) w29) (
∃ t33 : Option Addr, ∃ t34 : Bool, (∀ w : World, (Instr.typeAssert t5 63 103 true).run Tryz.prog w = .ok (.tuple #[.pointer t33, .bool t34]) w) ∧
bsel t34 (
Calls Tryz.prog 39 #[.pointer t33] w4 fun e35 w36 => ∃ t37 : Option Addr, ∃ t38 : Nat, ∃ t39 : Nat, e35 = .returned (.slice t37 t38 t39) ∧
Q (.slice t37 t38 t39) w36) (
∃ t40 : Option Addr, ∃ t41 : Bool, (∀ w : World, (Instr.typeAssert t5 63 102 true).run Tryz.prog w = .ok (.tuple #[.pointer t40, .bool t41]) w) ∧
bsel t41 (
Calls Tryz.prog 40 #[.pointer t40] w4 fun e42 w43 => ∃ t44 : Option Addr, ∃ t45 : Nat, ∃ t46 : Nat, e42 = .returned (.slice t44 t45 t46) ∧
Q (.slice t44 t45 t46) w43) (
Q (.slice none 0 0) w4)))))

def V18_ann : Nat → Ann := fun _ => ⟨[], []⟩
theorem V18_eq (x1 : Option Addr) (x2 : Int) (w : World) (Q : Value → World → Prop) : (match Tryz.f18.body with | some c => wpC Tryz.prog Tryz.f18.ntmps V18_ann c 0 (resQ Tryz.prog Tryz.f18.ntmps Tryz.f18.results.toList Q) (argsF [.pointer x1, .int .i64 x2]) w | none => False) = V18 x1 x2 w Q := by kernel_rfl
theorem V18_sound (x1 : Option Addr) (x2 : Int) (w : World) (Q : Value → World → Prop) (h : V18 x1 x2 w Q) : Calls Tryz.prog 18 #[.pointer x1, .int .i64 x2] w fun e w' => ∃ v, e = .returned v ∧ Q v w' :=
  sound_of Tryz.func18 V18_ann rfl ((V18_eq x1 x2 w Q).mpr h)

def V19 (x1 : Option Addr) (x2 : Option Addr) (x3 : Nat) (x4 : Nat) (w : World) (Q : Value → World → Prop) : Prop :=
bsel (Option.isNone x1) (
Q (.int .i64 0) w) (
∃ w5 : World, ∃ t6 : Option Nat, (Instr.makeMap 122 none).run Tryz.prog w = .ok (.map t6) w5 ∧
newK w5 #[.map none] 122 fun a7 w8 =>
stK w8 a7 (.map t6) fun w9 =>
nilK x1 fun a10 =>
∃ t11 : Option Addr, w9.cell? (a10.add 6) = some (.pointer t11) ∧
Calls Tryz.prog 41 #[.pointer t11] w9 fun e12 w13 => ∃ t14 : Value, e12 = .returned (t14) ∧
False)

def V19_ann : Nat → Ann := fun _ => ⟨[], []⟩
theorem V19_eq (x1 : Option Addr) (x2 : Option Addr) (x3 : Nat) (x4 : Nat) (w : World) (Q : Value → World → Prop) : (match Tryz.f19.body with | some c => wpC Tryz.prog Tryz.f19.ntmps V19_ann c 0 (resQ Tryz.prog Tryz.f19.ntmps Tryz.f19.results.toList Q) (argsF [.pointer x1, .slice x2 x3 x4]) w | none => False) = V19 x1 x2 x3 x4 w Q := by kernel_rfl
theorem V19_sound (x1 : Option Addr) (x2 : Option Addr) (x3 : Nat) (x4 : Nat) (w : World) (Q : Value → World → Prop) (h : V19 x1 x2 x3 x4 w Q) : Calls Tryz.prog 19 #[.pointer x1, .slice x2 x3 x4] w fun e w' => ∃ v, e = .returned v ∧ Q v w' :=
  sound_of Tryz.func19 V19_ann rfl ((V19_eq x1 x2 x3 x4 w Q).mpr h)

def V20  (w : World) (Q : Value → World → Prop) : Prop :=
newK w #[.slice none 0 0, .slice none 0 0, .slice none 0 0] 131 fun a1 w2 =>
Q (.pointer (some a1)) w2

def V20_ann : Nat → Ann := fun _ => ⟨[], []⟩
theorem V20_eq  (w : World) (Q : Value → World → Prop) : (match Tryz.f20.body with | some c => wpC Tryz.prog Tryz.f20.ntmps V20_ann c 0 (resQ Tryz.prog Tryz.f20.ntmps Tryz.f20.results.toList Q) (argsF []) w | none => False) = V20  w Q := by kernel_rfl
theorem V20_sound  (w : World) (Q : Value → World → Prop) (h : V20  w Q) : Calls Tryz.prog 20 #[] w fun e w' => ∃ v, e = .returned v ∧ Q v w' :=
  sound_of Tryz.func20 V20_ann rfl ((V20_eq  w Q).mpr h)

def V21 (x1 : Option Addr) (x2 : Nat) (x3 : Nat) (w : World) (Q : Value → World → Prop) : Prop :=
∃ w4 : World, ∃ t5 : Option Nat, (Instr.makeMap 122 none).run Tryz.prog w = .ok (.map t5) w4 ∧
newK w4 #[.map t5, .int .i64 0] 133 fun a6 w7 =>
∃ (I8 : Int → World → Prop) (μ9 : Int → World → Nat), I8 0 w7 ∧ ∀ (j12 : Fr) (i10 : Int) (w11 : World), I8 i10 w11 →
bsel (decide (i10 < (x2 : Int))) (
idxK x1 x2 i10 1 fun a13 =>
∃ t14 : Int, w11.cell? a13 = some (.int .i64 t14) ∧
∃ t15 : Option Nat, w11.cell? (a6.add 0) = some (.map t15) ∧
∃ w16 : World, ∃ t17 : Int, (Instr.lookup 122 (.map t15) (.int .i64 t14) false).run Tryz.prog w11 = .ok (.int .i64 t17) w16 ∧
∃ w18 : World, (Instr.mapUpdate 122 (.map t15) (.int .i64 t14) (.int .i64 (IntKind.wrap .i64 (t17 + 1)))).run Tryz.prog w16 = .ok () w18 ∧
(I8 (IntKind.wrap .i64 (i10 + 1)) w18 ∧ μ9 (IntKind.wrap .i64 (i10 + 1)) w18 < μ9 i10 w11)) (
Q (.pointer (some a6)) w11)

def V21_ann : Nat → Ann := fun k => match k with | 0 => ⟨[3, 9, 10], [(11, .int .i64)]⟩ | _ => ⟨[], []⟩
theorem V21_eq (x1 : Option Addr) (x2 : Nat) (x3 : Nat) (w : World) (Q : Value → World → Prop) : (match Tryz.f21.body with | some c => wpC Tryz.prog Tryz.f21.ntmps V21_ann c 0 (resQ Tryz.prog Tryz.f21.ntmps Tryz.f21.results.toList Q) (argsF [.slice x1 x2 x3]) w | none => False) = V21 x1 x2 x3 w Q := by kernel_rfl
theorem V21_sound (x1 : Option Addr) (x2 : Nat) (x3 : Nat) (w : World) (Q : Value → World → Prop) (h : V21 x1 x2 x3 w Q) : Calls Tryz.prog 21 #[.slice x1 x2 x3] w fun e w' => ∃ v, e = .returned v ∧ Q v w' :=
  sound_of Tryz.func21 V21_ann rfl ((V21_eq x1 x2 x3 w Q).mpr h)

def V22J1 (Q : Value → World → Prop) (x31 : Option Addr) (w32 : World) : Prop :=
nilK x31 fun a33 =>
∃ t34 : Option Addr, ∃ t35 : Nat, ∃ t36 : Nat, w32.cell? (a33.add 0) = some (.slice t34 t35 t36) ∧
Q (.int .i64 (IntKind.wrap .i64 ((t35 : Int) - 1))) w32

def V22 (x1 : Option Addr) (x2 : Value) (w : World) (Q : Value → World → Prop) : Prop :=
bsel (Option.isNone x1) (
Q (.int .i64 (-1)) w) (
nilK x1 fun a3 =>
∃ t4 : Option Addr, ∃ t5 : Nat, ∃ t6 : Nat, w.cell? (a3.add 2) = some (.slice t4 t5 t6) ∧
bsel ((t5 : Int) == 0) (
nilK x1 fun a7 =>
∃ t8 : Option Addr, ∃ t9 : Nat, ∃ t10 : Nat, w.drew.cell? (a7.add 0) = some (.slice t8 t9 t10) ∧
nilK x1 fun a11 =>
∃ t12 : Option Addr, ∃ t13 : Nat, ∃ t14 : Nat, w.drew.cell? (a11.add 1) = some (.slice t12 t13 t14) ∧
(plK x2 (
newK w.drew #[x2] 63 fun a15 w16 =>
(w16.cell? (a11.add 1) = some (.slice t12 t13 t14)) ∧
(w16.cell? (a7.add 0) = some (.slice t8 t9 t10)) ∧
(∃ w17 : World, ∃ t18 : Option Addr, ∃ t19 : Nat, ∃ t20 : Nat, (vcEff.bltV .append #[73, 73] 73 #[.slice t8 t9 t10, .slice (some a15) 1 1]).run Tryz.prog w16 = .ok (.slice t18 t19 t20) w17 ∧
(w17.cell? (a11.add 1) = some (.slice t12 t13 t14)) ∧
newK w17 #[.bool true] 4 fun a21 w22 =>
(w22.cell? (a11.add 1) = some (.slice t12 t13 t14)) ∧
∃ w23 : World, ∃ t24 : Option Addr, ∃ t25 : Nat, ∃ t26 : Nat, (vcEff.bltV .append #[128, 128] 128 #[.slice t12 t13 t14, .slice (some a21) 1 1]).run Tryz.prog w22 = .ok (.slice t24 t25 t26) w23 ∧
nilK x1 fun a27 =>
stK w23 (a27.add 0) (.slice t18 t19 t20) fun w28 =>
nilK x1 fun a29 =>
stK w28 (a29.add 1) (.slice t24 t25 t26) fun w30 =>
V22J1 Q x1 w30) ∧
(newK w16 #[.bool true] 4 fun a37 w38 =>
(w38.cell? (a11.add 1) = some (.slice t12 t13 t14)) ∧
(w38.cell? (a7.add 0) = some (.slice t8 t9 t10)) ∧
∃ w39 : World, ∃ t40 : Option Addr, ∃ t41 : Nat, ∃ t42 : Nat, (vcEff.bltV .append #[73, 73] 73 #[.slice t8 t9 t10, .slice (some a15) 1 1]).run Tryz.prog w38 = .ok (.slice t40 t41 t42) w39 ∧
(w39.cell? (a11.add 1) = some (.slice t12 t13 t14)) ∧
∃ w43 : World, ∃ t44 : Option Addr, ∃ t45 : Nat, ∃ t46 : Nat, (vcEff.bltV .append #[128, 128] 128 #[.slice t12 t13 t14, .slice (some a37) 1 1]).run Tryz.prog w39 = .ok (.slice t44 t45 t46) w43 ∧
nilK x1 fun a47 =>
stK w43 (a47.add 0) (.slice t40 t41 t42) fun w48 =>
nilK x1 fun a49 =>
stK w48 (a49.add 1) (.slice t44 t45 t46) fun w50 =>
V22J1 Q x1 w50))) ∧
(newK w.drew #[.bool true] 4 fun a51 w52 =>
(w52.cell? (a11.add 1) = some (.slice t12 t13 t14)) ∧
(w52.cell? (a7.add 0) = some (.slice t8 t9 t10)) ∧
plK x2 (
newK w52 #[x2] 63 fun a53 w54 =>
(w54.cell? (a11.add 1) = some (.slice t12 t13 t14)) ∧
(w54.cell? (a7.add 0) = some (.slice t8 t9 t10)) ∧
∃ w55 : World, ∃ t56 : Option Addr, ∃ t57 : Nat, ∃ t58 : Nat, (vcEff.bltV .append #[73, 73] 73 #[.slice t8 t9 t10, .slice (some a53) 1 1]).run Tryz.prog w54 = .ok (.slice t56 t57 t58) w55 ∧
(w55.cell? (a11.add 1) = some (.slice t12 t13 t14)) ∧
∃ w59 : World, ∃ t60 : Option Addr, ∃ t61 : Nat, ∃ t62 : Nat, (vcEff.bltV .append #[128, 128] 128 #[.slice t12 t13 t14, .slice (some a51) 1 1]).run Tryz.prog w55 = .ok (.slice t60 t61 t62) w59 ∧
nilK x1 fun a63 =>
stK w59 (a63.add 0) (.slice t56 t57 t58) fun w64 =>
nilK x1 fun a65 =>
stK w64 (a65.add 1) (.slice t60 t61 t62) fun w66 =>
V22J1 Q x1 w66))) (
nilK x1 fun a67 =>
∃ t68 : Option Addr, ∃ t69 : Nat, ∃ t70 : Nat, w.cell? (a67.add 2) = some (.slice t68 t69 t70) ∧
idxK t68 t69 0 1 fun a71 =>
∃ t72 : Int, w.cell? a71 = some (.int .i64 t72) ∧
nilK x1 fun a73 =>
Calls Tryz.prog 43 #[.iface 135 (.pointer (some (a73.add 2)))] w fun e74 w75 => ∃ t76 : Value, e74 = .returned (t76) ∧
nilK x1 fun a77 =>
∃ t78 : Option Addr, ∃ t79 : Nat, ∃ t80 : Nat, w75.drew.cell? (a77.add 0) = some (.slice t78 t79 t80) ∧
nilK x1 fun a81 =>
∃ t82 : Option Addr, ∃ t83 : Nat, ∃ t84 : Nat, w75.drew.cell? (a81.add 1) = some (.slice t82 t83 t84) ∧
idxK t78 t79 t72 1 fun a85 =>
plK x2 (
stK w75.drew a85 (x2) fun w86 =>
idxK t82 t83 t72 1 fun a87 =>
stK w86 a87 (.bool true) fun w88 =>
Q (.int .i64 t72) w88)))

def V22_ann : Nat → Ann := fun _ => ⟨[], []⟩
theorem V22_eq (x1 : Option Addr) (x2 : Value) (w : World) (Q : Value → World → Prop) : (match Tryz.f22.body with | some c => wpC Tryz.prog Tryz.f22.ntmps V22_ann c 0 (resQ Tryz.prog Tryz.f22.ntmps Tryz.f22.results.toList Q) (argsF [.pointer x1, x2]) w | none => False) = V22 x1 x2 w Q := by kernel_rfl
theorem V22_sound (x1 : Option Addr) (x2 : Value) (w : World) (Q : Value → World → Prop) (h : V22 x1 x2 w Q) : Calls Tryz.prog 22 #[.pointer x1, x2] w fun e w' => ∃ v, e = .returned v ∧ Q v w' :=
  sound_of Tryz.func22 V22_ann rfl ((V22_eq x1 x2 w Q).mpr h)

def V23J1 (Q : Value → World → Prop) (x37 : Option Addr) (x38 : Int) (x39 : Bool) (w40 : World) : Prop :=
bsel x39 (
Q (.int .i64 1) w40) (
Calls Tryz.prog 47 #[.pointer x37, .int .i64 x38] w40 fun e41 w42 => ∃ t43 : Bool, e41 = .returned (.bool t43) ∧
bsel t43 (
Q (.int .i64 3) w42) (
Q (.int .i64 0) w42))

def V23 (x1 : Option Addr) (x2 : Int) (w : World) (Q : Value → World → Prop) : Prop :=
nilK x1 fun a3 =>
∃ t4 : Option Addr, ∃ t5 : Nat, ∃ t6 : Nat, w.cell? (a3.add 1) = some (.slice t4 t5 t6) ∧
idxK t4 t5 x2 8 fun a7 =>
∃ t8 : Int, ∃ t9 : Bool, ∃ t10 : Bool, ∃ t11 : Option Addr, ∃ t12 : Nat, ∃ t13 : Nat, ∃ t14 : ByteArray, ∃ t15 : Option Addr, ∃ t16 : Nat, ∃ t17 : Nat, ∃ t18 : Bool, ∃ t19 : Bool, CellsAt w a7 [.int .i64 t8, .bool t9, .bool t10, .slice t11 t12 t13, .string t14, .slice t15 t16 t17, .bool t18, .bool t19] ∧
newK w #[.int .i64 0, .bool false, .bool false, .slice none 0 0, .string ⟨#[]⟩, .slice none 0 0, .bool false, .bool false] 42 fun a20 w21 =>
stK w21 (a20.add 0) (.int .i64 t8) fun w22 =>
stK w22 (a20.add 1) (.bool t9) fun w23 =>
stK w23 (a20.add 2) (.bool t10) fun w24 =>
stK w24 (a20.add 3) (.slice t11 t12 t13) fun w25 =>
stK w25 (a20.add 4) (.string t14) fun w26 =>
stK w26 (a20.add 5) (.slice t15 t16 t17) fun w27 =>
stK w27 (a20.add 6) (.bool t18) fun w28 =>
stK w28 (a20.add 7) (.bool t19) fun w29 =>
∃ t30 : Int, w29.cell? (a20.add 0) = some (.int .i64 t30) ∧
Calls Tryz.prog 44 #[.int .i64 t30] w29 fun e31 w32 => ∃ t33 : Bool, e31 = .returned (.bool t33) ∧
bsel (!t33) (
Q (.int .i64 12) w32) (
Calls Tryz.prog 45 #[.pointer x1, .int .i64 x2] w32 fun e34 w35 => ∃ t36 : Bool, e34 = .returned (.bool t36) ∧
bsel t36 (
V23J1 Q x1 x2 true w35) (
∃ t44 : Int, w35.cell? (a20.add 0) = some (.int .i64 t44) ∧
bsel (t44 == 4) (
∃ t45 : ByteArray, w35.cell? (a20.add 4) = some (.string t45) ∧
Calls Tryz.prog 46 #[.string t45] w35 fun e46 w47 => ∃ t48 : Bool, e46 = .returned (.bool t48) ∧
V23J1 Q x1 x2 (!t48) w47) (
V23J1 Q x1 x2 false w35)))

def V23_ann : Nat → Ann := fun _ => ⟨[], []⟩
theorem V23_eq (x1 : Option Addr) (x2 : Int) (w : World) (Q : Value → World → Prop) : (match Tryz.f23.body with | some c => wpC Tryz.prog Tryz.f23.ntmps V23_ann c 0 (resQ Tryz.prog Tryz.f23.ntmps Tryz.f23.results.toList Q) (argsF [.pointer x1, .int .i64 x2]) w | none => False) = V23 x1 x2 w Q := by kernel_rfl
theorem V23_sound (x1 : Option Addr) (x2 : Int) (w : World) (Q : Value → World → Prop) (h : V23 x1 x2 w Q) : Calls Tryz.prog 23 #[.pointer x1, .int .i64 x2] w fun e w' => ∃ v, e = .returned v ∧ Q v w' :=
  sound_of Tryz.func23 V23_ann rfl ((V23_eq x1 x2 w Q).mpr h)

def V24J1 (Q : Value → World → Prop) (x105 : Option Addr) (x106 : Int) (w107 : World) : Prop :=
nilK x105 fun a108 =>
∃ t109 : Option Addr, w107.cell? (a108.add 0) = some (.pointer t109) ∧
Calls Tryz.prog 55 #[.pointer t109, .int .i64 x106] w107 fun e110 w111 => ∃ t112 : Int, e110 = .returned (.int .i64 t112) ∧
Q (.int .i64 t112) w111

def V24J2 (Q : Value → World → Prop) (x102 : Option Addr) (x103 : Int) (w104 : World) : Prop :=
V24J1 Q x102 x103 w104

def V24J3 (w : World) (Q : Value → World → Prop) (x64 : Option Addr) (x65 : Addr) (x66 : Int) (x67 : Bool) (w68 : World) : Prop :=
bsel x67 (
∃ t69 : Int, ∃ t70 : Bool, ∃ t71 : Bool, ∃ t72 : Option Addr, ∃ t73 : Nat, ∃ t74 : Nat, ∃ t75 : ByteArray, ∃ t76 : Option Addr, ∃ t77 : Nat, ∃ t78 : Nat, ∃ t79 : Bool, ∃ t80 : Bool, CellsAt w68 x65 [.int .i64 t69, .bool t70, .bool t71, .slice t72 t73 t74, .string t75, .slice t76 t77 t78, .bool t79, .bool t80] ∧
Calls Tryz.prog 53 #[.pointer x64, .agg #[.int .i64 t69, .bool t70, .bool t71, .slice t72 t73 t74, .string t75, .slice t76 t77 t78, .bool t79, .bool t80]] w68 fun e81 w82 => ∃ t83 : Int, e81 = .returned (.int .i64 t83) ∧
Q (.int .i64 t83) w82) (
bsel (x66 == 14) (
nilK x64 fun a84 =>
∃ t85 : Option Addr, w68.cell? (a84.add 0) = some (.pointer t85) ∧
Calls Tryz.prog 54 #[.pointer t85, .string (⟨#[67]⟩ : ByteArray), .int .i64 (-1)] w68 fun e86 w87 => ∃ t88 : Int, e86 = .returned (.int .i64 t88) ∧
nilK x64 fun a89 =>
∃ t90 : Option Addr, w87.cell? (a89.add 0) = some (.pointer t90) ∧
Calls Tryz.prog 25 #[.pointer t90, .int .i64 t88] w87 fun e91 w92 => ∃ t93 : Value, e91 = .returned (t93) ∧
∃ t94 : Option Addr, ∃ t95 : Bool, (∀ w : World, (Instr.typeAssert t93 63 117 true).run Tryz.prog w = .ok (.tuple #[.pointer t94, .bool t95]) w) ∧
bsel t95 (
∃ t96 : Bool, w92.drew.cell? (x65.add 6) = some (.bool t96) ∧
∃ t97 : Bool, w92.drew.cell? (x65.add 7) = some (.bool t97) ∧
nilK t94 fun a98 =>
stK w92.drew (a98.add 5) (.bool t96) fun w99 =>
(w99.cell? (x65.add 7) = some (.bool t97)) ∧
nilK t94 fun a100 =>
stK w99 (a100.add 6) (.bool t97) fun w101 =>
V24J2 Q x64 t88 w101) (
V24J1 Q x64 t88 w92)) (
nilK x64 fun a113 =>
∃ t114 : Option Addr, w68.drew.cell? (a113.add 0) = some (.pointer t114) ∧
∃ t115 : Int, w68.drew.cell? (x65.add 0) = some (.int .i64 t115) ∧
nilK x64 fun a116 =>
∃ t117 : Option Addr, ∃ t118 : Nat, ∃ t119 : Nat, w68.drew.cell? (a116.add 2) = some (.slice t117 t118 t119) ∧
∃ t120 : Option Addr, ∃ t121 : Nat, ∃ t122 : Nat, w68.drew.cell? (x65.add 5) = some (.slice t120 t121 t122) ∧
idxK t120 t121 0 1 fun a123 =>
∃ t124 : Int, w68.drew.cell? a123 = some (.int .i64 t124) ∧
idxK t117 t118 t124 1 fun a125 =>
∃ t126 : Int, w68.drew.cell? a125 = some (.int .i64 t126) ∧
Calls Tryz.prog 56 #[.pointer t114, .int .i64 t115, .int .i64 t126] w68.drew fun e127 w128 => ∃ t129 : Int, e127 = .returned (.int .i64 t129) ∧
Q (.int .i64 t129) w128))

def V24J4 (w : World) (Q : Value → World → Prop) (x44 : Option Addr) (x45 : Addr) (x46 : Int) (x47 : Bool) (w48 : World) : Prop :=
bsel x47 (
nilK x44 fun a49 =>
∃ t50 : Option Addr, w48.drew.cell? (a49.add 0) = some (.pointer t50) ∧
∃ t51 : Int, w48.drew.cell? (x45.add 0) = some (.int .i64 t51) ∧
∃ t52 : Option Addr, ∃ t53 : Nat, ∃ t54 : Nat, w48.drew.cell? (x45.add 5) = some (.slice t52 t53 t54) ∧
∃ w55 : World, ∃ t56 : Option Addr, ∃ t57 : Nat, ∃ t58 : Nat, (Instr.makeSlice 30 (.int .i64 (t53 : Int)) (.int .i64 (t53 : Int))).run Tryz.prog w48.drew = .ok (.slice t56 t57 t58) w55 ∧
(w55.cell? (x45.add 0) = some (.int .i64 t51)) ∧
(w55.cell? (a49.add 0) = some (.pointer t50)) ∧
Calls Tryz.prog 52 #[.pointer t50, .int .i64 t51, .slice t56 t57 t58] w55 fun e59 w60 => ∃ t61 : Int, e59 = .returned (.int .i64 t61) ∧
Q (.int .i64 t61) w60) (
bsel (x46 == 7) (
V24J3 w Q x44 x45 x46 true w48) (
bsel (x46 == 8) (
V24J3 w Q x44 x45 x46 true w48) (
V24J3 w Q x44 x45 x46 (x46 == 9) w48)))

def V24 (x1 : Option Addr) (x2 : Int) (x3 : Bool) (x4 : Bool) (x5 : Option Addr) (x6 : Nat) (x7 : Nat) (x8 : ByteArray) (x9 : Option Addr) (x10 : Nat) (x11 : Nat) (x12 : Bool) (x13 : Bool) (w : World) (Q : Value → World → Prop) : Prop :=
newK w #[.int .i64 x2, .bool x3, .bool x4, .slice x5 x6 x7, .string x8, .slice x9 x10 x11, .bool x12, .bool x13] 42 fun a14 w15 =>
∃ t16 : Int, w15.cell? (a14.add 0) = some (.int .i64 t16) ∧
bsel (t16 == 1) (
Q (.int .i64 0) w15) (
bsel (t16 == 2) (
∃ t17 : Bool, w15.cell? (a14.add 1) = some (.bool t17) ∧
Calls Tryz.prog 48 #[.bool t17] w15 fun e18 w19 => ∃ t20 : Int, e18 = .returned (.int .i64 t20) ∧
Q (.int .i64 t20) w19) (
bsel (t16 == 3) (
nilK x1 fun a21 =>
∃ t22 : Option Addr, w15.drew.cell? (a21.add 0) = some (.pointer t22) ∧
∃ t23 : Bool, ∃ t24 : Option Addr, ∃ t25 : Nat, ∃ t26 : Nat, CellsAt w15.drew (a14.add 2) [.bool t23, .slice t24 t25 t26] ∧
Calls Tryz.prog 50 #[.agg #[.bool t23, .slice t24 t25 t26]] w15.drew fun e27 w28 => ∃ t29 : Bool, ∃ t30 : Option Addr, ∃ t31 : Nat, ∃ t32 : Nat, e27 = .returned (.agg #[.bool t29, .slice t30 t31 t32]) ∧
(w28.cell? (a21.add 0) = some (.pointer t22)) ∧
Calls Tryz.prog 49 #[.pointer t22, .agg #[.bool t29, .slice t30 t31 t32]] w28 fun e33 w34 => ∃ t35 : Int, e33 = .returned (.int .i64 t35) ∧
Q (.int .i64 t35) w34) (
bsel (t16 == 4) (
nilK x1 fun a38 =>
∃ t39 : Option Addr, w15.drew.cell? (a38.add 0) = some (.pointer t39) ∧
∃ t40 : ByteArray, w15.drew.cell? (a14.add 4) = some (.string t40) ∧
Calls Tryz.prog 51 #[.pointer t39, .string t40] w15.drew fun e41 w42 => ∃ t43 : Int, e41 = .returned (.int .i64 t43) ∧
Q (.int .i64 t43) w42) (
bsel (t16 == 5) (
V24J4 w Q x1 a14 t16 true w15) (
V24J4 w Q x1 a14 t16 (t16 == 6) w15)))))

def V24_ann : Nat → Ann := fun _ => ⟨[], []⟩
theorem V24_eq (x1 : Option Addr) (x2 : Int) (x3 : Bool) (x4 : Bool) (x5 : Option Addr) (x6 : Nat) (x7 : Nat) (x8 : ByteArray) (x9 : Option Addr) (x10 : Nat) (x11 : Nat) (x12 : Bool) (x13 : Bool) (w : World) (Q : Value → World → Prop) : (match Tryz.f24.body with | some c => wpC Tryz.prog Tryz.f24.ntmps V24_ann c 0 (resQ Tryz.prog Tryz.f24.ntmps Tryz.f24.results.toList Q) (argsF [.pointer x1, .agg #[.int .i64 x2, .bool x3, .bool x4, .slice x5 x6 x7, .string x8, .slice x9 x10 x11, .bool x12, .bool x13]]) w | none => False) = V24 x1 x2 x3 x4 x5 x6 x7 x8 x9 x10 x11 x12 x13 w Q := by kernel_rfl
theorem V24_sound (x1 : Option Addr) (x2 : Int) (x3 : Bool) (x4 : Bool) (x5 : Option Addr) (x6 : Nat) (x7 : Nat) (x8 : ByteArray) (x9 : Option Addr) (x10 : Nat) (x11 : Nat) (x12 : Bool) (x13 : Bool) (w : World) (Q : Value → World → Prop) (h : V24 x1 x2 x3 x4 x5 x6 x7 x8 x9 x10 x11 x12 x13 w Q) : Calls Tryz.prog 24 #[.pointer x1, .agg #[.int .i64 x2, .bool x3, .bool x4, .slice x5 x6 x7, .string x8, .slice x9 x10 x11, .bool x12, .bool x13]] w fun e w' => ∃ v, e = .returned v ∧ Q v w' :=
  sound_of Tryz.func24 V24_ann rfl ((V24_eq x1 x2 x3 x4 x5 x6 x7 x8 x9 x10 x11 x12 x13 w Q).mpr h)

def V25 (x1 : Option Addr) (x2 : Int) (w : World) (Q : Value → World → Prop) : Prop :=
bsel (Option.isNone x1) (
Q .nilIface w) (
nilK x1 fun a3 =>
∃ t4 : Option Addr, w.cell? (a3.add 6) = some (.pointer t4) ∧
Calls Tryz.prog 57 #[.pointer t4, .int .i64 x2] w fun e5 w6 => ∃ t7 : Value, ∃ t8 : Bool, e5 = .returned (.tuple #[t7, .bool t8]) ∧
Q t7 w6)

def V25_ann : Nat → Ann := fun _ => ⟨[], []⟩
theorem V25_eq (x1 : Option Addr) (x2 : Int) (w : World) (Q : Value → World → Prop) : (match Tryz.f25.body with | some c => wpC Tryz.prog Tryz.f25.ntmps V25_ann c 0 (resQ Tryz.prog Tryz.f25.ntmps Tryz.f25.results.toList Q) (argsF [.pointer x1, .int .i64 x2]) w | none => False) = V25 x1 x2 w Q := by kernel_rfl
theorem V25_sound (x1 : Option Addr) (x2 : Int) (w : World) (Q : Value → World → Prop) (h : V25 x1 x2 w Q) : Calls Tryz.prog 25 #[.pointer x1, .int .i64 x2] w fun e w' => ∃ v, e = .returned v ∧ Q v w' :=
  sound_of Tryz.func25 V25_ann rfl ((V25_eq x1 x2 w Q).mpr h)

def V29 (x1 : ByteArray) (w : World) (Q : Value → World → Prop) : Prop :=
∃ w2 : World, ∃ t3 : Option Addr, (Instr.range 9 (.string x1)).run Tryz.prog w = .ok (.pointer t3) w2 ∧
∃ (I4 : Int → World → Prop) (μ5 : Int → World → Nat), I4 0 w2 ∧ ∀ (j8 : Fr) (i6 : Int) (w7 : World), I4 i6 w7 →
nextSK (.pointer t3) w7 (fun w9 => (
Q (.int .i64 i6) w9)) fun t10 t11 w12 =>
(I4 (IntKind.wrap .i64 (i6 + 1)) w12 ∧ μ5 (IntKind.wrap .i64 (i6 + 1)) w12 < μ5 i6 w7)

def V29_ann : Nat → Ann := fun k => match k with | 0 => ⟨[5], [(3, .int .i64)]⟩ | _ => ⟨[], []⟩
theorem V29_eq (x1 : ByteArray) (w : World) (Q : Value → World → Prop) : (match Tryz.f29.body with | some c => wpC Tryz.prog Tryz.f29.ntmps V29_ann c 0 (resQ Tryz.prog Tryz.f29.ntmps Tryz.f29.results.toList Q) (argsF [.string x1]) w | none => False) = V29 x1 w Q := by kernel_rfl
theorem V29_sound (x1 : ByteArray) (w : World) (Q : Value → World → Prop) (h : V29 x1 w Q) : Calls Tryz.prog 29 #[.string x1] w fun e w' => ∃ v, e = .returned v ∧ Q v w' :=
  sound_of Tryz.func29 V29_ann rfl ((V29_eq x1 w Q).mpr h)

def V34 (x1 : ByteArray) (w : World) (Q : Value → World → Prop) : Prop :=
newK w #[.pointer none, .slice none 0 0] 164 fun a2 w3 =>
Calls Tryz.prog 71 #[.pointer (some a2), .int .u8 39] w3 fun e4 w5 => ∃ t6 : Value, e4 = .returned (t6) ∧
∃ w7 : World, ∃ t8 : Option Addr, (Instr.range 9 (.string x1)).run Tryz.prog w5 = .ok (.pointer t8) w7 ∧
∃ (I9 : World → Prop) (μ10 : World → Nat), I9  w7 ∧ ∀ (j12 : Fr)  (w11 : World), I9  w11 →
nextSK (.pointer t8) w11 (fun w13 => (
Calls Tryz.prog 71 #[.pointer (some a2), .int .u8 39] w13 fun e17 w18 => ∃ t19 : Value, e17 = .returned (t19) ∧
Calls Tryz.prog 70 #[.pointer (some a2)] w18 fun e20 w21 => ∃ t22 : ByteArray, e20 = .returned (.string t22) ∧
Q (.string t22) w21)) fun t14 t15 w16 =>
Calls Tryz.prog 73 #[.int .i32 t15] w16 fun e23 w24 => ∃ t25 : ByteArray, e23 = .returned (.string t25) ∧
Calls Tryz.prog 72 #[.pointer (some a2), .string t25] w24 fun e26 w27 => ∃ t28 : Int, ∃ t29 : Value, e26 = .returned (.tuple #[.int .i64 t28, t29]) ∧
(I9  w27 ∧ μ10  w27 < μ10  w11)

def V34_ann : Nat → Ann := fun k => match k with | 0 => ⟨[3, 8], []⟩ | _ => ⟨[], []⟩
theorem V34_eq (x1 : ByteArray) (w : World) (Q : Value → World → Prop) : (match Tryz.f34.body with | some c => wpC Tryz.prog Tryz.f34.ntmps V34_ann c 0 (resQ Tryz.prog Tryz.f34.ntmps Tryz.f34.results.toList Q) (argsF [.string x1]) w | none => False) = V34 x1 w Q := by kernel_rfl
theorem V34_sound (x1 : ByteArray) (w : World) (Q : Value → World → Prop) (h : V34 x1 w Q) : Calls Tryz.prog 34 #[.string x1] w fun e w' => ∃ v, e = .returned v ∧ Q v w' :=
  sound_of Tryz.func34 V34_ann rfl ((V34_eq x1 w Q).mpr h)

def V35 (x1 : Int) (w : World) (Q : Value → World → Prop) : Prop :=
Calls Tryz.prog 74 #[.int .i64 x1] w fun e2 w3 => ∃ t4 : ByteArray, e2 = .returned (.string t4) ∧
Q (.string t4) w3

def V35_ann : Nat → Ann := fun _ => ⟨[], []⟩
theorem V35_eq (x1 : Int) (w : World) (Q : Value → World → Prop) : (match Tryz.f35.body with | some c => wpC Tryz.prog Tryz.f35.ntmps V35_ann c 0 (resQ Tryz.prog Tryz.f35.ntmps Tryz.f35.results.toList Q) (argsF [.int .i64 x1]) w | none => False) = V35 x1 w Q := by kernel_rfl
theorem V35_sound (x1 : Int) (w : World) (Q : Value → World → Prop) (h : V35 x1 w Q) : Calls Tryz.prog 35 #[.int .i64 x1] w fun e w' => ∃ v, e = .returned v ∧ Q v w' :=
  sound_of Tryz.func35 V35_ann rfl ((V35_eq x1 w Q).mpr h)

def V44 (x1 : Int) (w : World) (Q : Value → World → Prop) : Prop :=
bsel (decide (x1 ≥ 1)) (
bsel (decide (x1 ≤ 9)) (
Q (.bool true) w) (
bsel (x1 == 14) (
Q (.bool true) w) (
bsel (decide (x1 ≥ 15)) (
Q (.bool (decide (x1 ≤ 17))) w) (
Q (.bool false) w)))) (
bsel (x1 == 14) (
Q (.bool true) w) (
bsel (decide (x1 ≥ 15)) (
Q (.bool (decide (x1 ≤ 17))) w) (
Q (.bool false) w)))

def V44_ann : Nat → Ann := fun _ => ⟨[], []⟩
theorem V44_eq (x1 : Int) (w : World) (Q : Value → World → Prop) : (match Tryz.f44.body with | some c => wpC Tryz.prog Tryz.f44.ntmps V44_ann c 0 (resQ Tryz.prog Tryz.f44.ntmps Tryz.f44.results.toList Q) (argsF [.int .i64 x1]) w | none => False) = V44 x1 w Q := by kernel_rfl
theorem V44_sound (x1 : Int) (w : World) (Q : Value → World → Prop) (h : V44 x1 w Q) : Calls Tryz.prog 44 #[.int .i64 x1] w fun e w' => ∃ v, e = .returned v ∧ Q v w' :=
  sound_of Tryz.func44 V44_ann rfl ((V44_eq x1 w Q).mpr h)

def V45J1 (Q : Value → World → Prop) (x112 : Option Addr) (x113 : Addr) (x114 : Bool) (w115 : World) : Prop :=
bsel x114 (
∃ t116 : Option Addr, ∃ t117 : Nat, ∃ t118 : Nat, w115.drew.cell? (x113.add 5) = some (.slice t116 t117 t118) ∧
bsel ((t117 : Int) != 1) (
Q (.bool true) w115.drew) (
nilK x112 fun a121 =>
∃ t122 : Option Addr, ∃ t123 : Nat, ∃ t124 : Nat, w115.drew.cell? (a121.add 1) = some (.slice t122 t123 t124) ∧
∃ t125 : Option Addr, ∃ t126 : Nat, ∃ t127 : Nat, w115.drew.cell? (x113.add 5) = some (.slice t125 t126 t127) ∧
idxK t125 t126 0 1 fun a128 =>
∃ t129 : Int, w115.drew.cell? a128 = some (.int .i64 t129) ∧
idxK t122 t123 t129 8 fun a130 =>
∃ t131 : Int, w115.drew.cell? (a130.add 0) = some (.int .i64 t131) ∧
Q (.bool (t131 != 7)) w115.drew)) (
∃ t132 : Option Addr, ∃ t133 : Nat, ∃ t134 : Nat, w115.cell? (x113.add 5) = some (.slice t132 t133 t134) ∧
Q (.bool (decide ((t133 : Int) > 0))) w115)

def V45J2 (Q : Value → World → Prop) (x104 : Option Addr) (x105 : Addr) (x106 : Int) (x107 : Bool) (w108 : World) : Prop :=
bsel x107 (
Q (.bool false) w108) (
bsel (x106 == 7) (
∃ t109 : Option Addr, ∃ t110 : Nat, ∃ t111 : Nat, w108.cell? (x105.add 5) = some (.slice t109 t110 t111) ∧
((2 : Int) ≠ 0) ∧
Q (.bool (Int.tmod (t110 : Int) 2 == 1)) w108) (
bsel (x106 == 15) (
V45J1 Q x104 x105 true w108) (
bsel (x106 == 16) (
V45J1 Q x104 x105 true w108) (
V45J1 Q x104 x105 (x106 == 17) w108))))

def V45J3 (Q : Value → World → Prop) (x35 : Option Addr) (x36 : Addr) (x37 : Int) (w38 : World) : Prop :=
∃ t39 : Option Addr, ∃ t40 : Nat, ∃ t41 : Nat, w38.cell? (x36.add 5) = some (.slice t39 t40 t41) ∧
∃ (I42 : Int → World → Prop) (μ43 : Int → World → Nat), I42 0 w38 ∧ ∀ (j46 : Fr) (i44 : Int) (w45 : World), I42 i44 w45 →
bsel (decide (i44 < (t40 : Int))) (
idxK t39 t40 i44 1 fun a47 =>
∃ t48 : Int, w45.cell? a47 = some (.int .i64 t48) ∧
bsel (decide (t48 < 0)) (
Q (.bool true) w45) (
bsel (decide (t48 ≥ x37)) (
Q (.bool true) w45) (
(I42 (IntKind.wrap .i64 (i44 + 1)) w45 ∧ μ43 (IntKind.wrap .i64 (i44 + 1)) w45 < μ43 i44 w45)))) (
∃ t59 : Int, ∃ t60 : Bool, ∃ t61 : Bool, ∃ t62 : Option Addr, ∃ t63 : Nat, ∃ t64 : Nat, ∃ t65 : ByteArray, ∃ t66 : Option Addr, ∃ t67 : Nat, ∃ t68 : Nat, ∃ t69 : Bool, ∃ t70 : Bool, CellsAt w45 x36 [.int .i64 t59, .bool t60, .bool t61, .slice t62 t63 t64, .string t65, .slice t66 t67 t68, .bool t69, .bool t70] ∧
Calls Tryz.prog 82 #[.agg #[.int .i64 t59, .bool t60, .bool t61, .slice t62 t63 t64, .string t65, .slice t66 t67 t68, .bool t69, .bool t70]] w45 fun e71 w72 => ∃ t73 : Option Addr, ∃ t74 : Nat, ∃ t75 : Nat, e71 = .returned (.slice t73 t74 t75) ∧
∃ (I76 : Int → World → Prop) (μ77 : Int → World → Nat), I76 0 w72 ∧ ∀ (j80 : Fr) (i78 : Int) (w79 : World), I76 i78 w79 →
bsel (decide (i78 < (t74 : Int))) (
idxK t73 t74 i78 1 fun a81 =>
∃ t82 : Int, w79.cell? a81 = some (.int .i64 t82) ∧
nilK x35 fun a83 =>
∃ t84 : Option Addr, ∃ t85 : Nat, ∃ t86 : Nat, w79.cell? (a83.add 1) = some (.slice t84 t85 t86) ∧
idxK t84 t85 t82 8 fun a87 =>
∃ t88 : Int, ∃ t89 : Bool, ∃ t90 : Bool, ∃ t91 : Option Addr, ∃ t92 : Nat, ∃ t93 : Nat, ∃ t94 : ByteArray, ∃ t95 : Option Addr, ∃ t96 : Nat, ∃ t97 : Nat, ∃ t98 : Bool, ∃ t99 : Bool, CellsAt w79 a87 [.int .i64 t88, .bool t89, .bool t90, .slice t91 t92 t93, .string t94, .slice t95 t96 t97, .bool t98, .bool t99] ∧
Calls Tryz.prog 83 #[.agg #[.int .i64 t88, .bool t89, .bool t90, .slice t91 t92 t93, .string t94, .slice t95 t96 t97, .bool t98, .bool t99]] w79 fun e100 w101 => ∃ t102 : Bool, e100 = .returned (.bool t102) ∧
bsel (!t102) (
Q (.bool true) w101) (
(I76 (IntKind.wrap .i64 (i78 + 1)) w101 ∧ μ77 (IntKind.wrap .i64 (i78 + 1)) w101 < μ77 i78 w79))) (
∃ t103 : Int, w79.cell? (x36.add 0) = some (.int .i64 t103) ∧
bsel (t103 == 5) (
V45J2 Q x35 x36 t103 true w79) (
bsel (t103 == 6) (
V45J2 Q x35 x36 t103 true w79) (
bsel (t103 == 8) (
V45J2 Q x35 x36 t103 true w79) (
V45J2 Q x35 x36 t103 (t103 == 9) w79)))))

def V45 (x1 : Option Addr) (x2 : Int) (w : World) (Q : Value → World → Prop) : Prop :=
nilK x1 fun a3 =>
∃ t4 : Option Addr, ∃ t5 : Nat, ∃ t6 : Nat, w.cell? (a3.add 1) = some (.slice t4 t5 t6) ∧
idxK t4 t5 x2 8 fun a7 =>
∃ t8 : Int, ∃ t9 : Bool, ∃ t10 : Bool, ∃ t11 : Option Addr, ∃ t12 : Nat, ∃ t13 : Nat, ∃ t14 : ByteArray, ∃ t15 : Option Addr, ∃ t16 : Nat, ∃ t17 : Nat, ∃ t18 : Bool, ∃ t19 : Bool, CellsAt w a7 [.int .i64 t8, .bool t9, .bool t10, .slice t11 t12 t13, .string t14, .slice t15 t16 t17, .bool t18, .bool t19] ∧
newK w #[.int .i64 0, .bool false, .bool false, .slice none 0 0, .string ⟨#[]⟩, .slice none 0 0, .bool false, .bool false] 42 fun a20 w21 =>
stK w21 (a20.add 0) (.int .i64 t8) fun w22 =>
stK w22 (a20.add 1) (.bool t9) fun w23 =>
stK w23 (a20.add 2) (.bool t10) fun w24 =>
stK w24 (a20.add 3) (.slice t11 t12 t13) fun w25 =>
stK w25 (a20.add 4) (.string t14) fun w26 =>
stK w26 (a20.add 5) (.slice t15 t16 t17) fun w27 =>
stK w27 (a20.add 6) (.bool t18) fun w28 =>
stK w28 (a20.add 7) (.bool t19) fun w29 =>
∃ t30 : Int, w29.cell? (a20.add 0) = some (.int .i64 t30) ∧
bsel (t30 == 6) (
nilK x1 fun a31 =>
∃ t32 : Option Addr, ∃ t33 : Nat, ∃ t34 : Nat, w29.cell? (a31.add 1) = some (.slice t32 t33 t34) ∧
V45J3 Q x1 a20 (t33 : Int) w29) (
V45J3 Q x1 a20 x2 w29)

def V45_ann : Nat → Ann := fun k => match k with | 0 => ⟨[0, 5, 6, 28, 29], [(30, .int .i64)]⟩ | 1 => ⟨[0, 5, 43, 44], [(45, .int .i64)]⟩ | _ => ⟨[], []⟩
theorem V45_eq (x1 : Option Addr) (x2 : Int) (w : World) (Q : Value → World → Prop) : (match Tryz.f45.body with | some c => wpC Tryz.prog Tryz.f45.ntmps V45_ann c 0 (resQ Tryz.prog Tryz.f45.ntmps Tryz.f45.results.toList Q) (argsF [.pointer x1, .int .i64 x2]) w | none => False) = V45 x1 x2 w Q := by kernel_rfl
theorem V45_sound (x1 : Option Addr) (x2 : Int) (w : World) (Q : Value → World → Prop) (h : V45 x1 x2 w Q) : Calls Tryz.prog 45 #[.pointer x1, .int .i64 x2] w fun e w' => ∃ v, e = .returned v ∧ Q v w' :=
  sound_of Tryz.func45 V45_ann rfl ((V45_eq x1 x2 w Q).mpr h)

def V46 (x1 : ByteArray) (w : World) (Q : Value → World → Prop) : Prop :=
Calls Tryz.prog 84 #[.string x1] w fun e2 w3 => ∃ t4 : Bool, e2 = .returned (.bool t4) ∧
Q (.bool t4) w3

def V46_ann : Nat → Ann := fun _ => ⟨[], []⟩
theorem V46_eq (x1 : ByteArray) (w : World) (Q : Value → World → Prop) : (match Tryz.f46.body with | some c => wpC Tryz.prog Tryz.f46.ntmps V46_ann c 0 (resQ Tryz.prog Tryz.f46.ntmps Tryz.f46.results.toList Q) (argsF [.string x1]) w | none => False) = V46 x1 w Q := by kernel_rfl
theorem V46_sound (x1 : ByteArray) (w : World) (Q : Value → World → Prop) (h : V46 x1 w Q) : Calls Tryz.prog 46 #[.string x1] w fun e w' => ∃ v, e = .returned v ∧ Q v w' :=
  sound_of Tryz.func46 V46_ann rfl ((V46_eq x1 w Q).mpr h)

def V47J1 (Q : Value → World → Prop) (x45 : Option Addr) (x46 : Addr) (x47 : Bool) (w48 : World) : Prop :=
bsel x47 (
∃ t49 : Option Addr, ∃ t50 : Nat, ∃ t51 : Nat, w48.cell? (x46.add 5) = some (.slice t49 t50 t51) ∧
Q (.bool (decide ((t50 : Int) > 65536))) w48) (
∃ w52 : World, ∃ t53 : Option Nat, (Instr.makeMap 198 none).run Tryz.prog w48 = .ok (.map t53) w52 ∧
∃ t54 : Int, ∃ t55 : Bool, ∃ t56 : Bool, ∃ t57 : Option Addr, ∃ t58 : Nat, ∃ t59 : Nat, ∃ t60 : ByteArray, ∃ t61 : Option Addr, ∃ t62 : Nat, ∃ t63 : Nat, ∃ t64 : Bool, ∃ t65 : Bool, CellsAt w52 x46 [.int .i64 t54, .bool t55, .bool t56, .slice t57 t58 t59, .string t60, .slice t61 t62 t63, .bool t64, .bool t65] ∧
Calls Tryz.prog 82 #[.agg #[.int .i64 t54, .bool t55, .bool t56, .slice t57 t58 t59, .string t60, .slice t61 t62 t63, .bool t64, .bool t65]] w52 fun e66 w67 => ∃ t68 : Option Addr, ∃ t69 : Nat, ∃ t70 : Nat, e66 = .returned (.slice t68 t69 t70) ∧
∃ (I71 : Int → World → Prop) (μ72 : Int → World → Nat), I71 0 w67 ∧ ∀ (j75 : Fr) (i73 : Int) (w74 : World), I71 i73 w74 →
bsel (decide (i73 < (t69 : Int))) (
idxK t68 t69 i73 1 fun a76 =>
∃ t77 : Int, w74.cell? a76 = some (.int .i64 t77) ∧
Calls Tryz.prog 85 #[.pointer x45, .int .i64 t77] w74 fun e78 w79 => ∃ t80 : ByteArray, e78 = .returned (.string t80) ∧
∃ w81 : World, ∃ t82 : Int, (Instr.lookup 198 (.map t53) (.string t80) false).run Tryz.prog w79 = .ok (.int .i64 t82) w81 ∧
∃ w83 : World, (Instr.mapUpdate 198 (.map t53) (.string t80) (.int .i64 (IntKind.wrap .i64 (t82 + 1)))).run Tryz.prog w81 = .ok () w83 ∧
(I71 (IntKind.wrap .i64 (i73 + 1)) w83 ∧ μ72 (IntKind.wrap .i64 (i73 + 1)) w83 < μ72 i73 w74)) (
nilK x45 fun a84 =>
∃ t85 : Option Addr, w74.drew.cell? (a84.add 0) = some (.pointer t85) ∧
nilK t85 fun a86 =>
∃ t87 : Int, w74.drew.cell? ((a86.add 0).add 1) = some (.int .i64 t87) ∧
∃ w88 : World, ∃ t89 : Int, (vcEff.bltV .len #[198] 3 #[.map t53]).run Tryz.prog w74.drew = .ok (.int .i64 t89) w88 ∧
(w88.cell? ((a86.add 0).add 1) = some (.int .i64 t87)) ∧
(w88.cell? (a84.add 0) = some (.pointer t85)) ∧
Q (.bool (decide (t89 > t87))) w88))

def V47 (x1 : Option Addr) (x2 : Int) (w : World) (Q : Value → World → Prop) : Prop :=
nilK x1 fun a3 =>
∃ t4 : Option Addr, ∃ t5 : Nat, ∃ t6 : Nat, w.cell? (a3.add 1) = some (.slice t4 t5 t6) ∧
idxK t4 t5 x2 8 fun a7 =>
∃ t8 : Int, ∃ t9 : Bool, ∃ t10 : Bool, ∃ t11 : Option Addr, ∃ t12 : Nat, ∃ t13 : Nat, ∃ t14 : ByteArray, ∃ t15 : Option Addr, ∃ t16 : Nat, ∃ t17 : Nat, ∃ t18 : Bool, ∃ t19 : Bool, CellsAt w a7 [.int .i64 t8, .bool t9, .bool t10, .slice t11 t12 t13, .string t14, .slice t15 t16 t17, .bool t18, .bool t19] ∧
newK w #[.int .i64 0, .bool false, .bool false, .slice none 0 0, .string ⟨#[]⟩, .slice none 0 0, .bool false, .bool false] 42 fun a20 w21 =>
stK w21 (a20.add 0) (.int .i64 t8) fun w22 =>
stK w22 (a20.add 1) (.bool t9) fun w23 =>
stK w23 (a20.add 2) (.bool t10) fun w24 =>
stK w24 (a20.add 3) (.slice t11 t12 t13) fun w25 =>
stK w25 (a20.add 4) (.string t14) fun w26 =>
stK w26 (a20.add 5) (.slice t15 t16 t17) fun w27 =>
stK w27 (a20.add 6) (.bool t18) fun w28 =>
stK w28 (a20.add 7) (.bool t19) fun w29 =>
∃ t30 : Int, w29.cell? (a20.add 0) = some (.int .i64 t30) ∧
bsel (t30 == 4) (
∃ t31 : ByteArray, w29.cell? (a20.add 4) = some (.string t31) ∧
Calls Tryz.prog 29 #[.string t31] w29 fun e32 w33 => ∃ t34 : Int, e32 = .returned (.int .i64 t34) ∧
Q (.bool (decide (t34 > 65536))) w33) (
bsel (t30 == 3) (
∃ t35 : Bool, ∃ t36 : Option Addr, ∃ t37 : Nat, ∃ t38 : Nat, CellsAt w29 (a20.add 2) [.bool t35, .slice t36 t37 t38] ∧
Calls Tryz.prog 50 #[.agg #[.bool t35, .slice t36 t37 t38]] w29 fun e39 w40 => ∃ t41 : Bool, ∃ t42 : Option Addr, ∃ t43 : Nat, ∃ t44 : Nat, e39 = .returned (.agg #[.bool t41, .slice t42 t43 t44]) ∧
Q (.bool (decide ((t43 : Int) > 256))) w40) (
bsel (t30 == 5) (
V47J1 Q x1 a20 true w29) (
V47J1 Q x1 a20 (t30 == 6) w29)))

def V47_ann : Nat → Ann := fun k => match k with | 0 => ⟨[0, 6, 41, 42], [(43, .int .i64)]⟩ | _ => ⟨[], []⟩
theorem V47_eq (x1 : Option Addr) (x2 : Int) (w : World) (Q : Value → World → Prop) : (match Tryz.f47.body with | some c => wpC Tryz.prog Tryz.f47.ntmps V47_ann c 0 (resQ Tryz.prog Tryz.f47.ntmps Tryz.f47.results.toList Q) (argsF [.pointer x1, .int .i64 x2]) w | none => False) = V47 x1 x2 w Q := by kernel_rfl
theorem V47_sound (x1 : Option Addr) (x2 : Int) (w : World) (Q : Value → World → Prop) (h : V47 x1 x2 w Q) : Calls Tryz.prog 47 #[.pointer x1, .int .i64 x2] w fun e w' => ∃ v, e = .returned v ∧ Q v w' :=
  sound_of Tryz.func47 V47_ann rfl ((V47_eq x1 x2 w Q).mpr h)

def V48 (x1 : Bool) (w : World) (Q : Value → World → Prop) : Prop :=
bsel x1 (
Q (.int .i64 2) w) (
Q (.int .i64 1) w)

def V48_ann : Nat → Ann := fun _ => ⟨[], []⟩
theorem V48_eq (x1 : Bool) (w : World) (Q : Value → World → Prop) : (match Tryz.f48.body with | some c => wpC Tryz.prog Tryz.f48.ntmps V48_ann c 0 (resQ Tryz.prog Tryz.f48.ntmps Tryz.f48.results.toList Q) (argsF [.bool x1]) w | none => False) = V48 x1 w Q := by kernel_rfl
theorem V48_sound (x1 : Bool) (w : World) (Q : Value → World → Prop) (h : V48 x1 w Q) : Calls Tryz.prog 48 #[.bool x1] w fun e w' => ∃ v, e = .returned v ∧ Q v w' :=
  sound_of Tryz.func48 V48_ann rfl ((V48_eq x1 w Q).mpr h)

def V51 (x1 : Option Addr) (x2 : ByteArray) (w : World) (Q : Value → World → Prop) : Prop :=
Calls Tryz.prog 86 #[.pointer x1] w fun e3 w4 => ∃ t5 : Value, e3 = .returned (t5) ∧
nilK x1 fun a6 =>
∃ t7 : Option Addr, w4.cell? (a6.add 6) = some (.pointer t7) ∧
Calls Tryz.prog 22 #[.pointer t7, .iface 96 (.agg #[.string x2])] w4 fun e8 w9 => ∃ t10 : Int, e8 = .returned (.int .i64 t10) ∧
Q (.int .i64 t10) w9

def V51_ann : Nat → Ann := fun _ => ⟨[], []⟩
theorem V51_eq (x1 : Option Addr) (x2 : ByteArray) (w : World) (Q : Value → World → Prop) : (match Tryz.f51.body with | some c => wpC Tryz.prog Tryz.f51.ntmps V51_ann c 0 (resQ Tryz.prog Tryz.f51.ntmps Tryz.f51.results.toList Q) (argsF [.pointer x1, .string x2]) w | none => False) = V51 x1 x2 w Q := by kernel_rfl
theorem V51_sound (x1 : Option Addr) (x2 : ByteArray) (w : World) (Q : Value → World → Prop) (h : V51 x1 x2 w Q) : Calls Tryz.prog 51 #[.pointer x1, .string x2] w fun e w' => ∃ v, e = .returned v ∧ Q v w' :=
  sound_of Tryz.func51 V51_ann rfl ((V51_eq x1 x2 w Q).mpr h)

def V52 (x1 : Option Addr) (x2 : Int) (x3 : Option Addr) (x4 : Nat) (x5 : Nat) (w : World) (Q : Value → World → Prop) : Prop :=
nilK x1 fun a6 =>
∃ t7 : Option Addr, w.drew.cell? (a6.add 6) = some (.pointer t7) ∧
Calls Tryz.prog 88 #[.pointer x1] w.drew fun e8 w9 => ∃ t10 : Int, e8 = .returned (.agg #[.int .i64 t10]) ∧
(w9.cell? (a6.add 6) = some (.pointer t7)) ∧
newK w9 #[.int .i64 t10, .slice x3 x4 x5, .int .i64 x2] 86 fun a11 w12 =>
(w12.cell? (a6.add 6) = some (.pointer t7)) ∧
Calls Tryz.prog 22 #[.pointer t7, .iface 80 (.pointer (some a11))] w12 fun e13 w14 => ∃ t15 : Int, e13 = .returned (.int .i64 t15) ∧
Q (.int .i64 t15) w14

def V52_ann : Nat → Ann := fun _ => ⟨[], []⟩
theorem V52_eq (x1 : Option Addr) (x2 : Int) (x3 : Option Addr) (x4 : Nat) (x5 : Nat) (w : World) (Q : Value → World → Prop) : (match Tryz.f52.body with | some c => wpC Tryz.prog Tryz.f52.ntmps V52_ann c 0 (resQ Tryz.prog Tryz.f52.ntmps Tryz.f52.results.toList Q) (argsF [.pointer x1, .int .i64 x2, .slice x3 x4 x5]) w | none => False) = V52 x1 x2 x3 x4 x5 w Q := by kernel_rfl
theorem V52_sound (x1 : Option Addr) (x2 : Int) (x3 : Option Addr) (x4 : Nat) (x5 : Nat) (w : World) (Q : Value → World → Prop) (h : V52 x1 x2 x3 x4 x5 w Q) : Calls Tryz.prog 52 #[.pointer x1, .int .i64 x2, .slice x3 x4 x5] w fun e w' => ∃ v, e = .returned v ∧ Q v w' :=
  sound_of Tryz.func52 V52_ann rfl ((V52_eq x1 x2 x3 x4 x5 w Q).mpr h)

def V57 (x1 : Option Addr) (x2 : Int) (w : World) (Q : Value → World → Prop) : Prop :=
Calls Tryz.prog 94 #[.pointer x1, .int .i64 x2] w fun e3 w4 => ∃ t5 : Bool, e3 = .returned (.bool t5) ∧
bsel (!t5) (
newK w4 #[.nilIface] 63 fun a6 w7 =>
∃ t8 : Value, w7.cell? a6 = some (t8) ∧
Q (.tuple #[t8, .bool false]) w7) (
nilK x1 fun a9 =>
∃ t10 : Option Addr, ∃ t11 : Nat, ∃ t12 : Nat, w4.cell? (a9.add 0) = some (.slice t10 t11 t12) ∧
idxK t10 t11 x2 1 fun a13 =>
∃ t14 : Value, w4.cell? a13 = some (t14) ∧
Q (.tuple #[t14, .bool true]) w4)

def V57_ann : Nat → Ann := fun _ => ⟨[], []⟩
theorem V57_eq (x1 : Option Addr) (x2 : Int) (w : World) (Q : Value → World → Prop) : (match Tryz.f57.body with | some c => wpC Tryz.prog Tryz.f57.ntmps V57_ann c 0 (resQ Tryz.prog Tryz.f57.ntmps Tryz.f57.results.toList Q) (argsF [.pointer x1, .int .i64 x2]) w | none => False) = V57 x1 x2 w Q := by kernel_rfl
theorem V57_sound (x1 : Option Addr) (x2 : Int) (w : World) (Q : Value → World → Prop) (h : V57 x1 x2 w Q) : Calls Tryz.prog 57 #[.pointer x1, .int .i64 x2] w fun e w' => ∃ v, e = .returned v ∧ Q v w' :=
  sound_of Tryz.func57 V57_ann rfl ((V57_eq x1 x2 w Q).mpr h)

def V73J1 (Q : Value → World → Prop) (x13 : Int) (x14 : Bool) (w15 : World) : Prop :=
bsel x14 (
Calls Tryz.prog 102 #[.int .i32 x13, .int .i64 4] w15 fun e16 w17 => ∃ t18 : ByteArray, e16 = .returned (.string t18) ∧
((((⟨#[92, 117]⟩ : ByteArray).size + t18.size : Nat) : Int) ≤ 9223372036854775807) ∧
Q (.string ((⟨#[92, 117]⟩ : ByteArray) ++ t18)) w17) (
∃ w19 : World, ∃ t20 : ByteArray, (Go.convert 21 9 (.int .i32 x13)).run Tryz.prog w15 = .ok (.string t20) w19 ∧
Q (.string t20) w19)

def V73J2 (Q : Value → World → Prop) (x7 : Int) (x8 : Bool) (w9 : World) : Prop :=
bsel x8 (
Calls Tryz.prog 102 #[.int .i32 x7, .int .i64 2] w9 fun e10 w11 => ∃ t12 : ByteArray, e10 = .returned (.string t12) ∧
((((⟨#[92, 120]⟩ : ByteArray).size + t12.size : Nat) : Int) ≤ 9223372036854775807) ∧
Q (.string ((⟨#[92, 120]⟩ : ByteArray) ++ t12)) w11) (
bsel (decide (x7 ≥ 128)) (
bsel (decide (x7 ≤ 159)) (
V73J1 Q x7 true w9) (
bsel (x7 == 8232) (
V73J1 Q x7 true w9) (
bsel (x7 == 8233) (
V73J1 Q x7 true w9) (
V73J1 Q x7 (x7 == 65279) w9)))) (
bsel (x7 == 8232) (
V73J1 Q x7 true w9) (
bsel (x7 == 8233) (
V73J1 Q x7 true w9) (
V73J1 Q x7 (x7 == 65279) w9))))

def V73J3 (Q : Value → World → Prop) (x2 : Int) (x3 : Bool) (w4 : World) : Prop :=
bsel x3 (
∃ w5 : World, ∃ t6 : ByteArray, (Go.convert 21 9 (.int .i32 x2)).run Tryz.prog w4 = .ok (.string t6) w5 ∧
((((⟨#[92]⟩ : ByteArray).size + t6.size : Nat) : Int) ≤ 9223372036854775807) ∧
Q (.string ((⟨#[92]⟩ : ByteArray) ++ t6)) w5) (
bsel (x2 == 10) (
Q (.string (⟨#[92, 110]⟩ : ByteArray)) w4) (
bsel (x2 == 9) (
Q (.string (⟨#[92, 116]⟩ : ByteArray)) w4) (
bsel (decide (x2 < 32)) (
V73J2 Q x2 true w4) (
V73J2 Q x2 (x2 == 127) w4))))

def V73 (x1 : Int) (w : World) (Q : Value → World → Prop) : Prop :=
bsel (x1 == 39) (
V73J3 Q x1 true w) (
V73J3 Q x1 (x1 == 92) w)

def V73_ann : Nat → Ann := fun _ => ⟨[], []⟩
theorem V73_eq (x1 : Int) (w : World) (Q : Value → World → Prop) : (match Tryz.f73.body with | some c => wpC Tryz.prog Tryz.f73.ntmps V73_ann c 0 (resQ Tryz.prog Tryz.f73.ntmps Tryz.f73.results.toList Q) (argsF [.int .i32 x1]) w | none => False) = V73 x1 w Q := by kernel_rfl
theorem V73_sound (x1 : Int) (w : World) (Q : Value → World → Prop) (h : V73 x1 w Q) : Calls Tryz.prog 73 #[.int .i32 x1] w fun e w' => ∃ v, e = .returned v ∧ Q v w' :=
  sound_of Tryz.func73 V73_ann rfl ((V73_eq x1 w Q).mpr h)

def V82J1 (Q : Value → World → Prop) (x16 : Addr) (x17 : Int) (x18 : Bool) (w19 : World) : Prop :=
bsel x18 (
∃ t20 : Option Addr, ∃ t21 : Nat, ∃ t22 : Nat, w19.cell? (x16.add 5) = some (.slice t20 t21 t22) ∧
Q (.slice t20 t21 t22) w19) (
bsel (x17 == 7) (
∃ (I23 : Option Addr → Nat → Nat → Int → World → Prop) (μ24 : Option Addr → Nat → Nat → Int → World → Nat), I23 none 0 0 0 w19 ∧ ∀ (j30 : Fr) (i25 : Option Addr) (i26 : Nat) (i27 : Nat) (i28 : Int) (w29 : World), I23 i25 i26 i27 i28 w29 →
∃ t31 : Option Addr, ∃ t32 : Nat, ∃ t33 : Nat, w29.cell? (x16.add 5) = some (.slice t31 t32 t33) ∧
bsel (decide (i28 < (t32 : Int))) (
∃ t34 : Option Addr, ∃ t35 : Nat, ∃ t36 : Nat, w29.cell? (x16.add 5) = some (.slice t34 t35 t36) ∧
idxK t34 t35 i28 1 fun a37 =>
∃ t38 : Int, w29.cell? a37 = some (.int .i64 t38) ∧
newK w29 #[.int .i64 t38] 3 fun a39 w40 =>
∃ w41 : World, ∃ t42 : Option Addr, ∃ t43 : Nat, ∃ t44 : Nat, (vcEff.bltV .append #[30, 30] 30 #[.slice i25 i26 i27, .slice (some a39) 1 1]).run Tryz.prog w40 = .ok (.slice t42 t43 t44) w41 ∧
(I23 t42 t43 t44 (IntKind.wrap .i64 (i28 + 2)) w41 ∧ μ24 t42 t43 t44 (IntKind.wrap .i64 (i28 + 2)) w41 < μ24 i25 i26 i27 i28 w29)) (
Q (.slice i25 i26 i27) w29)) (
Q (.slice none 0 0) w19))

def V82 (x1 : Int) (x2 : Bool) (x3 : Bool) (x4 : Option Addr) (x5 : Nat) (x6 : Nat) (x7 : ByteArray) (x8 : Option Addr) (x9 : Nat) (x10 : Nat) (x11 : Bool) (x12 : Bool) (w : World) (Q : Value → World → Prop) : Prop :=
newK w #[.int .i64 x1, .bool x2, .bool x3, .slice x4 x5 x6, .string x7, .slice x8 x9 x10, .bool x11, .bool x12] 42 fun a13 w14 =>
∃ t15 : Int, w14.cell? (a13.add 0) = some (.int .i64 t15) ∧
bsel (t15 == 8) (
V82J1 Q a13 t15 true w14) (
V82J1 Q a13 t15 (t15 == 9) w14)

def V82_ann : Nat → Ann := fun k => match k with | 0 => ⟨[1], [(3, .slice), (4, .int .i64)]⟩ | _ => ⟨[], []⟩
theorem V82_eq (x1 : Int) (x2 : Bool) (x3 : Bool) (x4 : Option Addr) (x5 : Nat) (x6 : Nat) (x7 : ByteArray) (x8 : Option Addr) (x9 : Nat) (x10 : Nat) (x11 : Bool) (x12 : Bool) (w : World) (Q : Value → World → Prop) : (match Tryz.f82.body with | some c => wpC Tryz.prog Tryz.f82.ntmps V82_ann c 0 (resQ Tryz.prog Tryz.f82.ntmps Tryz.f82.results.toList Q) (argsF [.agg #[.int .i64 x1, .bool x2, .bool x3, .slice x4 x5 x6, .string x7, .slice x8 x9 x10, .bool x11, .bool x12]]) w | none => False) = V82 x1 x2 x3 x4 x5 x6 x7 x8 x9 x10 x11 x12 w Q := by kernel_rfl
theorem V82_sound (x1 : Int) (x2 : Bool) (x3 : Bool) (x4 : Option Addr) (x5 : Nat) (x6 : Nat) (x7 : ByteArray) (x8 : Option Addr) (x9 : Nat) (x10 : Nat) (x11 : Bool) (x12 : Bool) (w : World) (Q : Value → World → Prop) (h : V82 x1 x2 x3 x4 x5 x6 x7 x8 x9 x10 x11 x12 w Q) : Calls Tryz.prog 82 #[.agg #[.int .i64 x1, .bool x2, .bool x3, .slice x4 x5 x6, .string x7, .slice x8 x9 x10, .bool x11, .bool x12]] w fun e w' => ∃ v, e = .returned v ∧ Q v w' :=
  sound_of Tryz.func82 V82_ann rfl ((V82_eq x1 x2 x3 x4 x5 x6 x7 x8 x9 x10 x11 x12 w Q).mpr h)

def V83 (x1 : Int) (x2 : Bool) (x3 : Bool) (x4 : Option Addr) (x5 : Nat) (x6 : Nat) (x7 : ByteArray) (x8 : Option Addr) (x9 : Nat) (x10 : Nat) (x11 : Bool) (x12 : Bool) (w : World) (Q : Value → World → Prop) : Prop :=
newK w #[.int .i64 x1, .bool x2, .bool x3, .slice x4 x5 x6, .string x7, .slice x8 x9 x10, .bool x11, .bool x12] 42 fun a13 w14 =>
∃ t15 : Int, w14.cell? (a13.add 0) = some (.int .i64 t15) ∧
bsel (decide (t15 ≥ 1)) (
∃ t16 : Int, w14.cell? (a13.add 0) = some (.int .i64 t16) ∧
bsel (decide (t16 ≤ 4)) (
Q (.bool true) w14) (
∃ t19 : Int, w14.cell? (a13.add 0) = some (.int .i64 t19) ∧
bsel (t19 == 14) (
∃ t20 : Bool, w14.cell? (a13.add 6) = some (.bool t20) ∧
bsel t20 (
Q (.bool true) w14) (
∃ t21 : Bool, w14.cell? (a13.add 7) = some (.bool t21) ∧
Q (.bool (!t21)) w14)) (
Q (.bool false) w14))) (
∃ t22 : Int, w14.cell? (a13.add 0) = some (.int .i64 t22) ∧
bsel (t22 == 14) (
∃ t23 : Bool, w14.cell? (a13.add 6) = some (.bool t23) ∧
bsel t23 (
Q (.bool true) w14) (
∃ t24 : Bool, w14.cell? (a13.add 7) = some (.bool t24) ∧
Q (.bool (!t24)) w14)) (
Q (.bool false) w14))

def V83_ann : Nat → Ann := fun _ => ⟨[], []⟩
theorem V83_eq (x1 : Int) (x2 : Bool) (x3 : Bool) (x4 : Option Addr) (x5 : Nat) (x6 : Nat) (x7 : ByteArray) (x8 : Option Addr) (x9 : Nat) (x10 : Nat) (x11 : Bool) (x12 : Bool) (w : World) (Q : Value → World → Prop) : (match Tryz.f83.body with | some c => wpC Tryz.prog Tryz.f83.ntmps V83_ann c 0 (resQ Tryz.prog Tryz.f83.ntmps Tryz.f83.results.toList Q) (argsF [.agg #[.int .i64 x1, .bool x2, .bool x3, .slice x4 x5 x6, .string x7, .slice x8 x9 x10, .bool x11, .bool x12]]) w | none => False) = V83 x1 x2 x3 x4 x5 x6 x7 x8 x9 x10 x11 x12 w Q := by kernel_rfl
theorem V83_sound (x1 : Int) (x2 : Bool) (x3 : Bool) (x4 : Option Addr) (x5 : Nat) (x6 : Nat) (x7 : ByteArray) (x8 : Option Addr) (x9 : Nat) (x10 : Nat) (x11 : Bool) (x12 : Bool) (w : World) (Q : Value → World → Prop) (h : V83 x1 x2 x3 x4 x5 x6 x7 x8 x9 x10 x11 x12 w Q) : Calls Tryz.prog 83 #[.agg #[.int .i64 x1, .bool x2, .bool x3, .slice x4 x5 x6, .string x7, .slice x8 x9 x10, .bool x11, .bool x12]] w fun e w' => ∃ v, e = .returned v ∧ Q v w' :=
  sound_of Tryz.func83 V83_ann rfl ((V83_eq x1 x2 x3 x4 x5 x6 x7 x8 x9 x10 x11 x12 w Q).mpr h)

def V84J1 (I2 : ByteArray → World → Prop) (μ3 : ByteArray → World → Nat) (i4 : ByteArray) (w5 : World) (x23 : ByteArray) (x24 : Bool) (w25 : World) : Prop :=
bsel x24 (
sslK x23 16 x23.size fun s26 =>
∃ (I27 : ByteArray → World → Prop) (μ28 : ByteArray → World → Nat), I27 s26 w25 ∧ ∀ (j31 : Fr) (i29 : ByteArray) (w30 : World), I27 i29 w30 →
bsel (decide ((i29.size : Int) > 32)) (
sslK i29 8 i29.size fun s32 =>
sslK i29 16 i29.size fun s33 =>
sslK i29 24 i29.size fun s34 =>
Calls Tryz.prog 109 #[.string i29] w30.drew fun e35 w36 => ∃ t37 : Int, e35 = .returned (.int .u64 t37) ∧
Calls Tryz.prog 109 #[.string s32] w36 fun e38 w39 => ∃ t40 : Int, e38 = .returned (.int .u64 t40) ∧
Calls Tryz.prog 109 #[.string s33] w39 fun e41 w42 => ∃ t43 : Int, e41 = .returned (.int .u64 t43) ∧
Calls Tryz.prog 109 #[.string s34] w42 fun e44 w45 => ∃ t46 : Int, e44 = .returned (.int .u64 t46) ∧
bsel (bAnd .u64 (bOr .u64 (bOr .u64 t37 t40) (bOr .u64 t43 t46)) 9259542123273814144 == 0) (
sslK i29 32 i29.size fun s57 =>
(I27 s57 w45 ∧ μ28 s57 w45 < μ28 i29 w30)) (
(I2 i29 w45 ∧ μ3 i29 w45 < μ3 i4 w5))) (
(I2 i29 w30.drew ∧ μ3 i29 w30.drew < μ3 i4 w5))) (
(I2 x23 w25 ∧ μ3 x23 w25 < μ3 i4 w5))

def V84J2 (I2 : ByteArray → World → Prop) (μ3 : ByteArray → World → Nat) (i4 : ByteArray) (w5 : World) (x12 : ByteArray) (x13 : Bool) (w14 : World) : Prop :=
bsel x13 (
sslK x12 8 x12.size fun s15 =>
bsel (decide ((s15.size : Int) > 16)) (
sslK s15 8 s15.size fun s16 =>
Calls Tryz.prog 109 #[.string s15] w14.drew fun e17 w18 => ∃ t19 : Int, e17 = .returned (.int .u64 t19) ∧
Calls Tryz.prog 109 #[.string s16] w18 fun e20 w21 => ∃ t22 : Int, e20 = .returned (.int .u64 t22) ∧
V84J1 I2 μ3 i4 w5 s15 (bAnd .u64 (bOr .u64 t19 t22) 9259542123273814144 == 0) w21) (
V84J1 I2 μ3 i4 w5 s15 false w14.drew)) (
(I2 x12 w14 ∧ μ3 x12 w14 < μ3 i4 w5))

def V84 (x1 : ByteArray) (w : World) (Q : Value → World → Prop) : Prop :=
∃ (I2 : ByteArray → World → Prop) (μ3 : ByteArray → World → Nat), I2 x1 w ∧ ∀ (j6 : Fr) (i4 : ByteArray) (w5 : World), I2 i4 w5 →
bsel (decide ((i4.size : Int) > 0)) (
sidxK i4 0 fun c7 =>
bsel (decide (c7 < 128)) (
sslK i4 1 i4.size fun s8 =>
bsel (decide ((s8.size : Int) > 8)) (
Calls Tryz.prog 109 #[.string s8] w5 fun e9 w10 => ∃ t11 : Int, e9 = .returned (.int .u64 t11) ∧
V84J2 I2 μ3 i4 w5 s8 (bAnd .u64 t11 9259542123273814144 == 0) w10) (
V84J2 I2 μ3 i4 w5 s8 false w5)) (
aidxK ⟨1, 0, none⟩ 256 c7 1 fun a58 =>
∃ t59 : Int, w5.cell? a58 = some (.int .u8 t59) ∧
((0 : Int) ≤ 4) ∧
aidxK ⟨2, 0, none⟩ 16 (shr .u8 t59 4) 2 fun a60 =>
∃ t61 : Int, ∃ t62 : Int, CellsAt w5 a60 [.int .u8 t61, .int .u8 t62] ∧
newK w5 #[.int .u8 0, .int .u8 0] 236 fun a63 w64 =>
stK w64 (a63.add 0) (.int .u8 t61) fun w65 =>
stK w65 (a63.add 1) (.int .u8 t62) fun w66 =>
bsel (IntKind.wrap .i64 (bAnd .u8 t59 7) == 2) (
bsel (decide ((i4.size : Int) < 2)) (
Q (.bool false) w66.drew) (
sidxK i4 1 fun c73 =>
∃ t74 : Int, w66.drew.cell? (a63.add 0) = some (.int .u8 t74) ∧
bsel (decide (c73 < t74)) (
Q (.bool false) w66.drew) (
∃ t75 : Int, w66.drew.cell? (a63.add 1) = some (.int .u8 t75) ∧
sidxK i4 1 fun c76 =>
bsel (decide (t75 < c76)) (
Q (.bool false) w66.drew) (
sslK i4 2 i4.size fun s77 =>
(I2 s77 w66.drew ∧ μ3 s77 w66.drew < μ3 i4 w5))))) (
bsel (IntKind.wrap .i64 (bAnd .u8 t59 7) == 3) (
bsel (decide ((i4.size : Int) < 3)) (
Q (.bool false) w66.drew) (
sidxK i4 1 fun c84 =>
∃ t85 : Int, w66.drew.cell? (a63.add 0) = some (.int .u8 t85) ∧
bsel (decide (c84 < t85)) (
Q (.bool false) w66.drew) (
∃ t86 : Int, w66.drew.cell? (a63.add 1) = some (.int .u8 t86) ∧
sidxK i4 1 fun c87 =>
bsel (decide (t86 < c87)) (
Q (.bool false) w66.drew) (
sidxK i4 2 fun c88 =>
bsel (decide (c88 < 128)) (
Q (.bool false) w66.drew) (
sidxK i4 2 fun c89 =>
bsel (decide ((191 : Int) < c89)) (
Q (.bool false) w66.drew) (
sslK i4 3 i4.size fun s90 =>
(I2 s90 w66.drew ∧ μ3 s90 w66.drew < μ3 i4 w5))))))) (
bsel (IntKind.wrap .i64 (bAnd .u8 t59 7) == 4) (
bsel (decide ((i4.size : Int) < 4)) (
Q (.bool false) w66.drew) (
sidxK i4 1 fun c95 =>
∃ t96 : Int, w66.drew.cell? (a63.add 0) = some (.int .u8 t96) ∧
bsel (decide (c95 < t96)) (
Q (.bool false) w66.drew) (
∃ t97 : Int, w66.drew.cell? (a63.add 1) = some (.int .u8 t97) ∧
sidxK i4 1 fun c98 =>
bsel (decide (t97 < c98)) (
Q (.bool false) w66.drew) (
sidxK i4 2 fun c99 =>
bsel (decide (c99 < 128)) (
Q (.bool false) w66.drew) (
sidxK i4 2 fun c100 =>
bsel (decide ((191 : Int) < c100)) (
Q (.bool false) w66.drew) (
sidxK i4 3 fun c101 =>
bsel (decide (c101 < 128)) (
Q (.bool false) w66.drew) (
sidxK i4 3 fun c102 =>
bsel (decide ((191 : Int) < c102)) (
Q (.bool false) w66.drew) (
sslK i4 4 i4.size fun s103 =>
(I2 s103 w66.drew ∧ μ3 s103 w66.drew < μ3 i4 w5))))))))) (
Q (.bool false) w66))))) (
Q (.bool true) w5)

def V84_ann : Nat → Ann := fun k => match k with | 0 => ⟨[], [(0, .str)]⟩ | 1 => ⟨[], [(0, .str)]⟩ | _ => ⟨[], []⟩
theorem V84_eq (x1 : ByteArray) (w : World) (Q : Value → World → Prop) : (match Tryz.f84.body with | some c => wpC Tryz.prog Tryz.f84.ntmps V84_ann c 0 (resQ Tryz.prog Tryz.f84.ntmps Tryz.f84.results.toList Q) (argsF [.string x1]) w | none => False) = V84 x1 w Q := by kernel_rfl
theorem V84_sound (x1 : ByteArray) (w : World) (Q : Value → World → Prop) (h : V84 x1 w Q) : Calls Tryz.prog 84 #[.string x1] w fun e w' => ∃ v, e = .returned v ∧ Q v w' :=
  sound_of Tryz.func84 V84_ann rfl ((V84_eq x1 w Q).mpr h)

def V85 (x1 : Option Addr) (x2 : Int) (w : World) (Q : Value → World → Prop) : Prop :=
nilK x1 fun a3 =>
∃ t4 : Option Addr, ∃ t5 : Nat, ∃ t6 : Nat, w.cell? (a3.add 1) = some (.slice t4 t5 t6) ∧
idxK t4 t5 x2 8 fun a7 =>
∃ t8 : Int, ∃ t9 : Bool, ∃ t10 : Bool, ∃ t11 : Option Addr, ∃ t12 : Nat, ∃ t13 : Nat, ∃ t14 : ByteArray, ∃ t15 : Option Addr, ∃ t16 : Nat, ∃ t17 : Nat, ∃ t18 : Bool, ∃ t19 : Bool, CellsAt w a7 [.int .i64 t8, .bool t9, .bool t10, .slice t11 t12 t13, .string t14, .slice t15 t16 t17, .bool t18, .bool t19] ∧
newK w #[.int .i64 0, .bool false, .bool false, .slice none 0 0, .string ⟨#[]⟩, .slice none 0 0, .bool false, .bool false] 42 fun a20 w21 =>
stK w21 (a20.add 0) (.int .i64 t8) fun w22 =>
stK w22 (a20.add 1) (.bool t9) fun w23 =>
stK w23 (a20.add 2) (.bool t10) fun w24 =>
stK w24 (a20.add 3) (.slice t11 t12 t13) fun w25 =>
stK w25 (a20.add 4) (.string t14) fun w26 =>
stK w26 (a20.add 5) (.slice t15 t16 t17) fun w27 =>
stK w27 (a20.add 6) (.bool t18) fun w28 =>
stK w28 (a20.add 7) (.bool t19) fun w29 =>
∃ t30 : Int, w29.cell? (a20.add 0) = some (.int .i64 t30) ∧
bsel (t30 == 1) (
Q (.string (⟨#[110, 111, 110, 101]⟩ : ByteArray)) w29) (
bsel (t30 == 2) (
∃ t31 : Bool, w29.cell? (a20.add 1) = some (.bool t31) ∧
bsel t31 (
Q (.string (⟨#[105, 49]⟩ : ByteArray)) w29) (
Q (.string (⟨#[105, 48]⟩ : ByteArray)) w29)) (
bsel (t30 == 3) (
∃ t32 : Bool, ∃ t33 : Option Addr, ∃ t34 : Nat, ∃ t35 : Nat, CellsAt w29 (a20.add 2) [.bool t32, .slice t33 t34 t35] ∧
Calls Tryz.prog 33 #[.agg #[.bool t32, .slice t33 t34 t35]] w29 fun e36 w37 => ∃ t38 : ByteArray, e36 = .returned (.string t38) ∧
((((⟨#[105]⟩ : ByteArray).size + t38.size : Nat) : Int) ≤ 9223372036854775807) ∧
Q (.string ((⟨#[105]⟩ : ByteArray) ++ t38)) w37) (
bsel (t30 == 4) (
∃ t39 : ByteArray, w29.cell? (a20.add 4) = some (.string t39) ∧
((((⟨#[115]⟩ : ByteArray).size + t39.size : Nat) : Int) ≤ 9223372036854775807) ∧
Q (.string ((⟨#[115]⟩ : ByteArray) ++ t39)) w29) (
Calls Tryz.prog 35 #[.int .i64 x2] w29 fun e40 w41 => ∃ t42 : ByteArray, e40 = .returned (.string t42) ∧
((((⟨#[111]⟩ : ByteArray).size + t42.size : Nat) : Int) ≤ 9223372036854775807) ∧
Q (.string ((⟨#[111]⟩ : ByteArray) ++ t42)) w41))))

def V85_ann : Nat → Ann := fun _ => ⟨[], []⟩
theorem V85_eq (x1 : Option Addr) (x2 : Int) (w : World) (Q : Value → World → Prop) : (match Tryz.f85.body with | some c => wpC Tryz.prog Tryz.f85.ntmps V85_ann c 0 (resQ Tryz.prog Tryz.f85.ntmps Tryz.f85.results.toList Q) (argsF [.pointer x1, .int .i64 x2]) w | none => False) = V85 x1 x2 w Q := by kernel_rfl
theorem V85_sound (x1 : Option Addr) (x2 : Int) (w : World) (Q : Value → World → Prop) (h : V85 x1 x2 w Q) : Calls Tryz.prog 85 #[.pointer x1, .int .i64 x2] w fun e w' => ∃ v, e = .returned v ∧ Q v w' :=
  sound_of Tryz.func85 V85_ann rfl ((V85_eq x1 x2 w Q).mpr h)

def V86 (x1 : Option Addr) (w : World) (Q : Value → World → Prop) : Prop :=
nilK x1 fun a2 =>
∃ t3 : Option Addr, w.cell? (a2.add 10) = some (.pointer t3) ∧
Calls Tryz.prog 110 #[.pointer t3] w fun e4 w5 => ∃ t6 : Bool, e4 = .returned (.bool t6) ∧
bsel t6 (
nilK x1 fun a7 =>
stK w5 (a7.add 11) (.bool true) fun w8 =>
Q (.tuple #[]) w8) (
Q (.tuple #[]) w5)

def V86_ann : Nat → Ann := fun _ => ⟨[], []⟩
theorem V86_eq (x1 : Option Addr) (w : World) (Q : Value → World → Prop) : (match Tryz.f86.body with | some c => wpC Tryz.prog Tryz.f86.ntmps V86_ann c 0 (resQ Tryz.prog Tryz.f86.ntmps Tryz.f86.results.toList Q) (argsF [.pointer x1]) w | none => False) = V86 x1 w Q := by kernel_rfl
theorem V86_sound (x1 : Option Addr) (w : World) (Q : Value → World → Prop) (h : V86 x1 w Q) : Calls Tryz.prog 86 #[.pointer x1] w fun e w' => ∃ v, e = .returned v ∧ Q v w' :=
  sound_of Tryz.func86 V86_ann rfl ((V86_eq x1 w Q).mpr h)

def V88 (x1 : Option Addr) (w : World) (Q : Value → World → Prop) : Prop :=
newK w #[.int .i64 0] 84 fun a2 w3 =>
Calls Tryz.prog 86 #[.pointer x1] w3 fun e4 w5 => ∃ t6 : Value, e4 = .returned (t6) ∧
nilK x1 fun a7 =>
∃ t8 : Int, w5.cell? (a7.add 7) = some (.int .i64 t8) ∧
nilK x1 fun a9 =>
stK w5 (a9.add 7) (.int .i64 (IntKind.wrap .i64 (t8 + 1))) fun w10 =>
nilK x1 fun a11 =>
∃ t12 : Int, w10.cell? (a11.add 8) = some (.int .i64 t12) ∧
nilK x1 fun a13 =>
stK w10 (a13.add 8) (.int .i64 (IntKind.wrap .i64 (t12 + 1))) fun w14 =>
nilK x1 fun a15 =>
∃ t16 : Int, w14.cell? (a15.add 7) = some (.int .i64 t16) ∧
stK w14 (a2.add 0) (.int .i64 t16) fun w17 =>
∃ t18 : Int, CellsAt w17 a2 [.int .i64 t18] ∧
Q (.agg #[.int .i64 t18]) w17

def V88_ann : Nat → Ann := fun _ => ⟨[], []⟩
theorem V88_eq (x1 : Option Addr) (w : World) (Q : Value → World → Prop) : (match Tryz.f88.body with | some c => wpC Tryz.prog Tryz.f88.ntmps V88_ann c 0 (resQ Tryz.prog Tryz.f88.ntmps Tryz.f88.results.toList Q) (argsF [.pointer x1]) w | none => False) = V88 x1 w Q := by kernel_rfl
theorem V88_sound (x1 : Option Addr) (w : World) (Q : Value → World → Prop) (h : V88 x1 w Q) : Calls Tryz.prog 88 #[.pointer x1] w fun e w' => ∃ v, e = .returned v ∧ Q v w' :=
  sound_of Tryz.func88 V88_ann rfl ((V88_eq x1 w Q).mpr h)

def V94 (x1 : Option Addr) (x2 : Int) (w : World) (Q : Value → World → Prop) : Prop :=
bsel (!(Option.isNone x1)) (
bsel (decide (x2 ≥ 0)) (
nilK x1 fun a3 =>
∃ t4 : Option Addr, ∃ t5 : Nat, ∃ t6 : Nat, w.cell? (a3.add 0) = some (.slice t4 t5 t6) ∧
bsel (decide (x2 < (t5 : Int))) (
nilK x1 fun a7 =>
∃ t8 : Option Addr, ∃ t9 : Nat, ∃ t10 : Nat, w.cell? (a7.add 1) = some (.slice t8 t9 t10) ∧
idxK t8 t9 x2 1 fun a11 =>
∃ t12 : Bool, w.cell? a11 = some (.bool t12) ∧
Q (.bool t12) w) (
Q (.bool false) w)) (
Q (.bool false) w)) (
Q (.bool false) w)

def V94_ann : Nat → Ann := fun _ => ⟨[], []⟩
theorem V94_eq (x1 : Option Addr) (x2 : Int) (w : World) (Q : Value → World → Prop) : (match Tryz.f94.body with | some c => wpC Tryz.prog Tryz.f94.ntmps V94_ann c 0 (resQ Tryz.prog Tryz.f94.ntmps Tryz.f94.results.toList Q) (argsF [.pointer x1, .int .i64 x2]) w | none => False) = V94 x1 x2 w Q := by kernel_rfl
theorem V94_sound (x1 : Option Addr) (x2 : Int) (w : World) (Q : Value → World → Prop) (h : V94 x1 x2 w Q) : Calls Tryz.prog 94 #[.pointer x1, .int .i64 x2] w fun e w' => ∃ v, e = .returned v ∧ Q v w' :=
  sound_of Tryz.func94 V94_ann rfl ((V94_eq x1 x2 w Q).mpr h)

def V110 (x1 : Option Addr) (w : World) (Q : Value → World → Prop) : Prop :=
bsel (Option.isNone x1) (
Q (.bool false) w) (
nilK x1 fun a2 =>
∃ t3 : Int, w.cell? (a2.add 1) = some (.int .i64 t3) ∧
nilK x1 fun a4 =>
stK w (a4.add 1) (.int .i64 (IntKind.wrap .i64 (t3 + 1))) fun w5 =>
nilK x1 fun a6 =>
∃ t7 : Option Nat, w5.drew.cell? (a6.add 0) = some (.map t7) ∧
nilK x1 fun a8 =>
∃ t9 : Int, w5.drew.cell? (a8.add 1) = some (.int .i64 t9) ∧
∃ w10 : World, ∃ t11 : Int, (Instr.lookup 122 (.map t7) (.int .i64 t9) false).run Tryz.prog w5.drew = .ok (.int .i64 t11) w10 ∧
Q (.bool (decide (t11 > 0))) w10)

def V110_ann : Nat → Ann := fun _ => ⟨[], []⟩
theorem V110_eq (x1 : Option Addr) (w : World) (Q : Value → World → Prop) : (match Tryz.f110.body with | some c => wpC Tryz.prog Tryz.f110.ntmps V110_ann c 0 (resQ Tryz.prog Tryz.f110.ntmps Tryz.f110.results.toList Q) (argsF [.pointer x1]) w | none => False) = V110 x1 w Q := by kernel_rfl
theorem V110_sound (x1 : Option Addr) (w : World) (Q : Value → World → Prop) (h : V110 x1 w Q) : Calls Tryz.prog 110 #[.pointer x1] w fun e w' => ∃ v, e = .returned v ∧ Q v w' :=
  sound_of Tryz.func110 V110_ann rfl ((V110_eq x1 w Q).mpr h)

end Go.Fw
