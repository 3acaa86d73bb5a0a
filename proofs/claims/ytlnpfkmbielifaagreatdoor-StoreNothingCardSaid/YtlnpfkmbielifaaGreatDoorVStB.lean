/- Part of a proof over the given program: a text of lemmas (conditions: none beyond each lemma as stated). -/
import Derived.Test.YtlnpfkmbielifaaGreatDoorFwP
set_option linter.unnecessarySimpa false
set_option linter.unusedSimpArgs false
set_option autoImplicit false
set_option linter.unusedVariables false
set_option maxRecDepth 100000
namespace Go.Fw
open Go.Proofs

def V70 (x1 : Option Addr) (w : World) (Q : Value → World → Prop) : Prop :=
nilK x1 fun a2 =>
∃ t3 : Option Addr, ∃ t4 : Nat, ∃ t5 : Nat, w.drew.cell? (a2.add 1) = some (.slice t3 t4 t5) ∧
nilK x1 fun a6 =>
∃ t7 : Option Addr, ∃ t8 : Nat, ∃ t9 : Nat, w.drew.cell? (a6.add 1) = some (.slice t7 t8 t9) ∧
∃ w10 : World, ∃ t11 : Option Addr, (vcEff.bltV .unsafeSliceData #[162] 221 #[.slice t3 t4 t5]).run Tryz.prog w.drew = .ok (.pointer t11) w10 ∧
(w10.cell? (a6.add 1) = some (.slice t7 t8 t9)) ∧
∃ w12 : World, ∃ t13 : ByteArray, (vcEff.bltV .unsafeString #[221, 3] 9 #[.pointer t11, .int .i64 (t8 : Int)]).run Tryz.prog w10 = .ok (.string t13) w12 ∧
Q (.string t13) w12

def V70_ann : Nat → Ann := fun _ => ⟨[], []⟩
theorem V70_eq (x1 : Option Addr) (w : World) (Q : Value → World → Prop) : (match Tryz.f70.body with | some c => wpC Tryz.prog Tryz.f70.ntmps V70_ann c 0 (resQ Tryz.prog Tryz.f70.ntmps Tryz.f70.results.toList Q) (argsF [.pointer x1]) w | none => False) = V70 x1 w Q := by kernel_rfl
theorem V70_sound (x1 : Option Addr) (w : World) (Q : Value → World → Prop) (h : V70 x1 w Q) : Calls Tryz.prog 70 #[.pointer x1] w fun e w' => ∃ v, e = .returned v ∧ Q v w' :=
  sound_of Tryz.func70 V70_ann rfl ((V70_eq x1 w Q).mpr h)

def V71 (x1 : Option Addr) (x2 : Int) (w : World) (Q : Value → World → Prop) : Prop :=
Calls Tryz.prog 97 #[.pointer x1] w fun e3 w4 => ∃ t5 : Value, e3 = .returned (t5) ∧
nilK x1 fun a6 =>
∃ t7 : Option Addr, ∃ t8 : Nat, ∃ t9 : Nat, w4.cell? (a6.add 1) = some (.slice t7 t8 t9) ∧
newK w4 #[.int .u8 x2] 5 fun a10 w11 =>
∃ w12 : World, ∃ t13 : Option Addr, ∃ t14 : Nat, ∃ t15 : Nat, (vcEff.bltV .append #[162, 162] 162 #[.slice t7 t8 t9, .slice (some a10) 1 1]).run Tryz.prog w11 = .ok (.slice t13 t14 t15) w12 ∧
nilK x1 fun a16 =>
stK w12 (a16.add 1) (.slice t13 t14 t15) fun w17 =>
Q .nilIface w17

def V71_ann : Nat → Ann := fun _ => ⟨[], []⟩
theorem V71_eq (x1 : Option Addr) (x2 : Int) (w : World) (Q : Value → World → Prop) : (match Tryz.f71.body with | some c => wpC Tryz.prog Tryz.f71.ntmps V71_ann c 0 (resQ Tryz.prog Tryz.f71.ntmps Tryz.f71.results.toList Q) (argsF [.pointer x1, .int .u8 x2]) w | none => False) = V71 x1 x2 w Q := by kernel_rfl
theorem V71_sound (x1 : Option Addr) (x2 : Int) (w : World) (Q : Value → World → Prop) (h : V71 x1 x2 w Q) : Calls Tryz.prog 71 #[.pointer x1, .int .u8 x2] w fun e w' => ∃ v, e = .returned v ∧ Q v w' :=
  sound_of Tryz.func71 V71_ann rfl ((V71_eq x1 x2 w Q).mpr h)

def V72 (x1 : Option Addr) (x2 : ByteArray) (w : World) (Q : Value → World → Prop) : Prop :=
Calls Tryz.prog 97 #[.pointer x1] w fun e3 w4 => ∃ t5 : Value, e3 = .returned (t5) ∧
nilK x1 fun a6 =>
∃ t7 : Option Addr, ∃ t8 : Nat, ∃ t9 : Nat, w4.cell? (a6.add 1) = some (.slice t7 t8 t9) ∧
∃ w10 : World, ∃ t11 : Option Addr, ∃ t12 : Nat, ∃ t13 : Nat, (vcEff.bltV .append #[162, 9] 162 #[.slice t7 t8 t9, .string x2]).run Tryz.prog w4 = .ok (.slice t11 t12 t13) w10 ∧
nilK x1 fun a14 =>
stK w10 (a14.add 1) (.slice t11 t12 t13) fun w15 =>
Q (.tuple #[.int .i64 (x2.size : Int), .nilIface]) w15

def V72_ann : Nat → Ann := fun _ => ⟨[], []⟩
theorem V72_eq (x1 : Option Addr) (x2 : ByteArray) (w : World) (Q : Value → World → Prop) : (match Tryz.f72.body with | some c => wpC Tryz.prog Tryz.f72.ntmps V72_ann c 0 (resQ Tryz.prog Tryz.f72.ntmps Tryz.f72.results.toList Q) (argsF [.pointer x1, .string x2]) w | none => False) = V72 x1 x2 w Q := by kernel_rfl
theorem V72_sound (x1 : Option Addr) (x2 : ByteArray) (w : World) (Q : Value → World → Prop) (h : V72 x1 x2 w Q) : Calls Tryz.prog 72 #[.pointer x1, .string x2] w fun e w' => ∃ v, e = .returned v ∧ Q v w' :=
  sound_of Tryz.func72 V72_ann rfl ((V72_eq x1 x2 w Q).mpr h)

end Go.Fw
