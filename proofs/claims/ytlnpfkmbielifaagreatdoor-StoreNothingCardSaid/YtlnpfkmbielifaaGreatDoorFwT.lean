/- Part of a proof over the given program: a text of lemmas (conditions: none beyond each lemma as stated). -/
import Derived.Test.YtlnpfkmbielifaaGreatDoorFwK
set_option linter.unnecessarySimpa false
set_option linter.unusedVariables false
set_option linter.unusedSimpArgs false
set_option autoImplicit false
namespace Go.Fw
open Go.Proofs

/-! Typed asserts of the store's values: the type asserted is no interface. -/
def notIface (d : TypeDesc) : Bool := match d with | .interface _ => false | _ => true
theorem ta_yes {P : Program} {A : TypeId} {d : TypeDesc} (hu : P.underlying A = some d) (hd : notIface d = true) (x : TypeId) (v : Value) :
    ∀ w : World, (Instr.typeAssert (.iface A v) x A true).run P w = .ok (.tuple #[v, .bool true]) w := by
  intro w
  cases d <;> simp_all [Instr.typeAssert, run_underlying hu, notIface]
theorem ta_no {P : Program} {A u : TypeId} {d : TypeDesc} {z : Value} (hu : P.underlying A = some d) (hd : notIface d = true) (hz : ∀ w, (zeroValue A).run P w = .ok z w) (h : u ≠ A) (x : TypeId) (v : Value) :
    ∀ w : World, (Instr.typeAssert (.iface u v) x A true).run P w = .ok (.tuple #[z, .bool false]) w := by
  intro w
  cases d <;> simp_all [Instr.typeAssert, run_underlying hu, notIface]
theorem ta_nil {P : Program} {A : TypeId} {d : TypeDesc} {z : Value} (hu : P.underlying A = some d) (hd : notIface d = true) (hz : ∀ w, (zeroValue A).run P w = .ok z w) (x : TypeId) :
    ∀ w : World, (Instr.typeAssert .nilIface x A true).run P w = .ok (.tuple #[z, .bool false]) w := by
  intro w
  cases d <;> simp_all [Instr.typeAssert, run_underlying hu, notIface]
theorem yes70 (x : TypeId) (v : Value) : ∀ w : World, (Instr.typeAssert (.iface 70 v) x 70 true).run Tryz.prog w = .ok (.tuple #[v, .bool true]) w := ta_yes Tryz.underlying70 rfl x v
theorem no70 {u : TypeId} (h : u ≠ 70) (x : TypeId) (v : Value) : ∀ w : World, (Instr.typeAssert (.iface u v) x 70 true).run Tryz.prog w = .ok (.tuple #[.agg #[], .bool false]) w := ta_no Tryz.underlying70 rfl Tryz.zeroValue70 h x v
theorem nil70 (x : TypeId) : ∀ w : World, (Instr.typeAssert .nilIface x 70 true).run Tryz.prog w = .ok (.tuple #[.agg #[], .bool false]) w := ta_nil Tryz.underlying70 rfl Tryz.zeroValue70 x
theorem yes72 (x : TypeId) (v : Value) : ∀ w : World, (Instr.typeAssert (.iface 72 v) x 72 true).run Tryz.prog w = .ok (.tuple #[v, .bool true]) w := ta_yes Tryz.underlying72 rfl x v
theorem no72 {u : TypeId} (h : u ≠ 72) (x : TypeId) (v : Value) : ∀ w : World, (Instr.typeAssert (.iface u v) x 72 true).run Tryz.prog w = .ok (.tuple #[.agg #[.bool false], .bool false]) w := ta_no Tryz.underlying72 rfl Tryz.zeroValue72 h x v
theorem nil72 (x : TypeId) : ∀ w : World, (Instr.typeAssert .nilIface x 72 true).run Tryz.prog w = .ok (.tuple #[.agg #[.bool false], .bool false]) w := ta_nil Tryz.underlying72 rfl Tryz.zeroValue72 x
theorem yes80 (x : TypeId) (v : Value) : ∀ w : World, (Instr.typeAssert (.iface 80 v) x 80 true).run Tryz.prog w = .ok (.tuple #[v, .bool true]) w := ta_yes Tryz.underlying80 rfl x v
theorem no80 {u : TypeId} (h : u ≠ 80) (x : TypeId) (v : Value) : ∀ w : World, (Instr.typeAssert (.iface u v) x 80 true).run Tryz.prog w = .ok (.tuple #[.pointer none, .bool false]) w := ta_no Tryz.underlying80 rfl Tryz.zeroValue80 h x v
theorem nil80 (x : TypeId) : ∀ w : World, (Instr.typeAssert .nilIface x 80 true).run Tryz.prog w = .ok (.tuple #[.pointer none, .bool false]) w := ta_nil Tryz.underlying80 rfl Tryz.zeroValue80 x
theorem yes91 (x : TypeId) (v : Value) : ∀ w : World, (Instr.typeAssert (.iface 91 v) x 91 true).run Tryz.prog w = .ok (.tuple #[v, .bool true]) w := ta_yes Tryz.underlying91 rfl x v
theorem no91 {u : TypeId} (h : u ≠ 91) (x : TypeId) (v : Value) : ∀ w : World, (Instr.typeAssert (.iface u v) x 91 true).run Tryz.prog w = .ok (.tuple #[.agg #[.int .i64 0, .string ⟨#[]⟩], .bool false]) w := ta_no Tryz.underlying91 rfl Tryz.zeroValue91 h x v
theorem nil91 (x : TypeId) : ∀ w : World, (Instr.typeAssert .nilIface x 91 true).run Tryz.prog w = .ok (.tuple #[.agg #[.int .i64 0, .string ⟨#[]⟩], .bool false]) w := ta_nil Tryz.underlying91 rfl Tryz.zeroValue91 x
theorem yes96 (x : TypeId) (v : Value) : ∀ w : World, (Instr.typeAssert (.iface 96 v) x 96 true).run Tryz.prog w = .ok (.tuple #[v, .bool true]) w := ta_yes Tryz.underlying96 rfl x v
theorem no96 {u : TypeId} (h : u ≠ 96) (x : TypeId) (v : Value) : ∀ w : World, (Instr.typeAssert (.iface u v) x 96 true).run Tryz.prog w = .ok (.tuple #[.agg #[.string ⟨#[]⟩], .bool false]) w := ta_no Tryz.underlying96 rfl Tryz.zeroValue96 h x v
theorem nil96 (x : TypeId) : ∀ w : World, (Instr.typeAssert .nilIface x 96 true).run Tryz.prog w = .ok (.tuple #[.agg #[.string ⟨#[]⟩], .bool false]) w := ta_nil Tryz.underlying96 rfl Tryz.zeroValue96 x
theorem yes98 (x : TypeId) (v : Value) : ∀ w : World, (Instr.typeAssert (.iface 98 v) x 98 true).run Tryz.prog w = .ok (.tuple #[v, .bool true]) w := ta_yes Tryz.underlying98 rfl x v
theorem no98 {u : TypeId} (h : u ≠ 98) (x : TypeId) (v : Value) : ∀ w : World, (Instr.typeAssert (.iface u v) x 98 true).run Tryz.prog w = .ok (.tuple #[.pointer none, .bool false]) w := ta_no Tryz.underlying98 rfl Tryz.zeroValue98 h x v
theorem nil98 (x : TypeId) : ∀ w : World, (Instr.typeAssert .nilIface x 98 true).run Tryz.prog w = .ok (.tuple #[.pointer none, .bool false]) w := ta_nil Tryz.underlying98 rfl Tryz.zeroValue98 x
theorem yes102 (x : TypeId) (v : Value) : ∀ w : World, (Instr.typeAssert (.iface 102 v) x 102 true).run Tryz.prog w = .ok (.tuple #[v, .bool true]) w := ta_yes Tryz.underlying102 rfl x v
theorem no102 {u : TypeId} (h : u ≠ 102) (x : TypeId) (v : Value) : ∀ w : World, (Instr.typeAssert (.iface u v) x 102 true).run Tryz.prog w = .ok (.tuple #[.pointer none, .bool false]) w := ta_no Tryz.underlying102 rfl Tryz.zeroValue102 h x v
theorem nil102 (x : TypeId) : ∀ w : World, (Instr.typeAssert .nilIface x 102 true).run Tryz.prog w = .ok (.tuple #[.pointer none, .bool false]) w := ta_nil Tryz.underlying102 rfl Tryz.zeroValue102 x
theorem yes103 (x : TypeId) (v : Value) : ∀ w : World, (Instr.typeAssert (.iface 103 v) x 103 true).run Tryz.prog w = .ok (.tuple #[v, .bool true]) w := ta_yes Tryz.underlying103 rfl x v
theorem no103 {u : TypeId} (h : u ≠ 103) (x : TypeId) (v : Value) : ∀ w : World, (Instr.typeAssert (.iface u v) x 103 true).run Tryz.prog w = .ok (.tuple #[.pointer none, .bool false]) w := ta_no Tryz.underlying103 rfl Tryz.zeroValue103 h x v
theorem nil103 (x : TypeId) : ∀ w : World, (Instr.typeAssert .nilIface x 103 true).run Tryz.prog w = .ok (.tuple #[.pointer none, .bool false]) w := ta_nil Tryz.underlying103 rfl Tryz.zeroValue103 x
theorem yes112 (x : TypeId) (v : Value) : ∀ w : World, (Instr.typeAssert (.iface 112 v) x 112 true).run Tryz.prog w = .ok (.tuple #[v, .bool true]) w := ta_yes Tryz.underlying112 rfl x v
theorem no112 {u : TypeId} (h : u ≠ 112) (x : TypeId) (v : Value) : ∀ w : World, (Instr.typeAssert (.iface u v) x 112 true).run Tryz.prog w = .ok (.tuple #[.agg #[.bool false, .slice none 0 0], .bool false]) w := ta_no Tryz.underlying112 rfl Tryz.zeroValue112 h x v
theorem nil112 (x : TypeId) : ∀ w : World, (Instr.typeAssert .nilIface x 112 true).run Tryz.prog w = .ok (.tuple #[.agg #[.bool false, .slice none 0 0], .bool false]) w := ta_nil Tryz.underlying112 rfl Tryz.zeroValue112 x
theorem yes117 (x : TypeId) (v : Value) : ∀ w : World, (Instr.typeAssert (.iface 117 v) x 117 true).run Tryz.prog w = .ok (.tuple #[v, .bool true]) w := ta_yes Tryz.underlying117 rfl x v
theorem no117 {u : TypeId} (h : u ≠ 117) (x : TypeId) (v : Value) : ∀ w : World, (Instr.typeAssert (.iface u v) x 117 true).run Tryz.prog w = .ok (.tuple #[.pointer none, .bool false]) w := ta_no Tryz.underlying117 rfl Tryz.zeroValue117 h x v
theorem nil117 (x : TypeId) : ∀ w : World, (Instr.typeAssert .nilIface x 117 true).run Tryz.prog w = .ok (.tuple #[.pointer none, .bool false]) w := ta_nil Tryz.underlying117 rfl Tryz.zeroValue117 x
end Go.Fw
