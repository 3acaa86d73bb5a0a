/- Part of a proof over the given program: texts of lemmas (conditions: none beyond each lemma as stated). -/
import Derived.Test.YtdmoefbfepeeaaaGreatDoorP3
import Derived.Below
import Derived.Deep.AppendLies
import Derived.Laws.RangeString
set_option linter.unnecessarySimpa false
set_option linter.unusedVariables false
set_option linter.unusedSimpArgs false

set_option autoImplicit false
namespace Go.Fw
open Go.RowKit

/-! Memory, a block a fact. -/
@[simp] theorem add_mk (b o n : Nat) : (⟨b, o, none⟩ : Addr).add n = ⟨b, o + n, none⟩ := by
  unfold Addr.add
  split
  · subst_vars; rfl
  · rfl

def Blk (w : World) (b : Nat) (e : TypeId) (cs : List Value) : Prop := w.heap[b]? = some (.cells cs.toArray e (0, 0))

/-- The element type of a block of cells. -/
def etype (w : World) (k : Nat) : Option TypeId := match w.heap[k]? with | some (.cells _ e _) => some e | _ => none

theorem heap_alloc (w : World) (x : Obj) (k : Nat) : (w.alloc x).heap[k]? = if k = w.heap.size then some x else w.heap[k]? := by
  show (w.heap.push x)[k]? = _
  rw [Array.getElem?_push]
theorem heap_set (w : World) (a : Addr) (v : Value) (k : Nat) (h : a.block ≠ k) : (w.setCell a v).heap[k]? = w.heap[k]? := by
  simp only [World.setCell, Array.getElem?_modify]
  rw [if_neg h]

section
variable {w : World} {b o : Nat} {e : TypeId} {cs : List Value} {v : Value}

theorem Blk.lt (h : Blk w b e cs) : b < w.heap.size := (Array.getElem?_eq_some_iff.1 h).1
theorem Blk.etype (h : Blk w b e cs) : etype w b = some e := by
  unfold Blk at h
  simp [Fw.etype, h]
theorem Blk.cell (h : Blk w b e cs) (hv : cs[o]? = some v) : w.cell? ⟨b, o, none⟩ = some v := by
  unfold Blk at h
  simp [World.cell?, h, hv]
theorem Blk.add (h : Blk w b e cs) (n : Nat) (hv : cs[n]? = some v) : w.cell? ((⟨b, 0, none⟩ : Addr).add n) = some v := by
  rw [add_mk]; exact h.cell (by simpa using hv)
theorem Blk.add2 (h : Blk w b e cs) (n m : Nat) (hv : cs[n + m]? = some v) : w.cell? (((⟨b, 0, none⟩ : Addr).add n).add m) = some v := by
  rw [add_mk, add_mk]; exact h.cell (by simpa using hv)
theorem Blk.frozen (h : Blk w b e cs) : w.frozen? ⟨b, o, none⟩ = false := by
  unfold Blk at h
  simp [World.frozen?, h]
theorem Blk.set (h : Blk w b e cs) : Blk (w.setCell ⟨b, o, none⟩ v) b e (cs.set o v) := by
  unfold Blk at h ⊢
  simp [World.setCell, Array.getElem?_modify, h]
theorem Blk.other {a : Addr} (h : Blk w b e cs) (hne : a.block ≠ b) : Blk (w.setCell a v) b e cs := by
  unfold Blk at h ⊢
  rw [heap_set _ _ _ _ hne, h]
theorem Blk.old {x : Obj} (h : Blk w b e cs) : Blk (w.alloc x) b e cs := by
  have hl := h.lt
  unfold Blk at h ⊢
  rw [heap_alloc, if_neg (by omega), h]
theorem Blk.new (w : World) (cs : Array Value) (e : TypeId) : Blk (w.alloc (.cells cs e)) w.heap.size e cs.toList := by
  unfold Blk
  rw [heap_alloc, if_pos rfl]
theorem Blk.drew (h : Blk w b e cs) : Blk w.drew b e cs := h
theorem Blk.uniq {e' : TypeId} {cs' : List Value} (h : Blk w b e cs) (h' : Blk w b e' cs') : e = e' ∧ cs = cs' := by
  unfold Blk at h h'
  rw [h] at h'
  simp at h'
  exact ⟨h'.2, h'.1⟩
theorem Blk.ne {b' : Nat} {e' : TypeId} {cs' : List Value} (h : Blk w b e cs) (h' : Blk w b' e' cs') (he : e ≠ e') : b ≠ b' := by
  rintro rfl
  exact he (h.uniq h').1
end

theorem ne_of_etype {w : World} {a b : Nat} {x y : Option TypeId} (hx : etype w a = x) (hy : etype w b = y) (h : x ≠ y) : a ≠ b := by
  rintro rfl
  exact h (hx.symm.trans hy)

/-- Cells of a block, in a row. -/
theorem Blk.cellsFrom {w : World} {b : Nat} {e : TypeId} {cs : List Value} (h : Blk w b e cs) : ∀ (vs : List Value) (o i : Nat), (∀ j v, vs[j]? = some v → cs[o + i + j]? = some v) → Fw.cellsFrom w ⟨b, o, none⟩ vs i
  | [], _, _, _ => trivial
  | v :: vs, o, i, hv => by
    refine cellsFrom_cons.2 ⟨?_, h.cellsFrom vs o (i + 1) fun j u hj => ?_⟩
    · rw [add_mk]; exact h.cell (hv 0 v rfl)
    · have := hv (j + 1) u (by simpa using hj)
      rw [← this]; congr 1; omega
theorem getElem?_of_drop {cs vs : List Value} {o : Nat} (h : vs = (cs.drop o).take vs.length) : ∀ j v, vs[j]? = some v → cs[o + j]? = some v := by
  intro j v hj
  rw [h] at hj
  rw [List.getElem?_take] at hj
  split at hj
  · rw [List.getElem?_drop] at hj; exact hj
  · cases hj
theorem Blk.cellsAt {w : World} {b : Nat} {e : TypeId} {cs vs : List Value} (h : Blk w b e cs) (o : Nat) (hv : vs = (cs.drop o).take vs.length) : CellsAt w ⟨b, o, none⟩ vs :=
  h.cellsFrom vs o 0 (by simpa using getElem?_of_drop hv)
theorem Blk.cells0 {w : World} {b : Nat} {e : TypeId} {cs : List Value} (h : Blk w b e cs) : CellsAt w ⟨b, 0, none⟩ cs :=
  h.cellsAt 0 (by simp)
theorem Blk.cellsAdd {w : World} {b : Nat} {e : TypeId} {cs vs : List Value} (h : Blk w b e cs) (o : Nat) (hv : vs = (cs.drop o).take vs.length) : CellsAt w ((⟨b, 0, none⟩ : Addr).add o) vs := by
  rw [add_mk]; simpa using h.cellsAt o hv

/-- What has not turned: every block outside fp that was there; the outside world; the type of every block. -/
structure Keep (fp : Nat → Prop) (w w' : World) : Prop where
  os : w'.os = w.os
  tape : w'.tape = w.tape
  output : w'.output = w.output
  size : w.heap.size ≤ w'.heap.size
  block : ∀ k, k < w.heap.size → ¬ fp k → w'.heap[k]? = w.heap[k]?

abbrev No : Nat → Prop := fun _ => False
/-- The blocks from B on whose type is among ts. -/
def Ty (B : Nat) (ts : List TypeId) (w : World) : Nat → Prop := fun k => B ≤ k ∧ ∃ e, etype w k = some e ∧ e ∈ ts

section
variable {fp fp' : Nat → Prop} {w w' w'' : World}
theorem Keep.refl (fp : Nat → Prop) (w : World) : Keep fp w w := ⟨rfl, rfl, rfl, Nat.le_refl _, fun _ _ _ => rfl⟩
theorem Keep.trans (h : Keep fp w w') (h' : Keep fp' w' w'') (hs : ∀ k, k < w.heap.size → fp' k → fp k) : Keep fp w w'' :=
  ⟨h'.os.trans h.os, h'.tape.trans h.tape, h'.output.trans h.output, Nat.le_trans h.size h'.size, fun k hk hn =>
    (h'.block k (Nat.lt_of_lt_of_le hk h.size) fun hf => hn (hs k hk hf)).trans (h.block k hk hn)⟩
theorem Keep.mono (h : Keep fp w w') (hs : ∀ k, k < w.heap.size → fp k → fp' k) : Keep fp' w w' :=
  ⟨h.os, h.tape, h.output, h.size, fun k hk hn => h.block k hk fun hf => hn (hs k hk hf)⟩
/-- Then: more that turns nothing old. -/
theorem Keep.no (h : Keep fp w w') (h' : Keep No w' w'') : Keep fp w w'' := h.trans h' fun _ _ => False.elim
/-- Then: what turns only what is new. -/
theorem Keep.news (h : Keep fp w w') (h' : Keep fp' w' w'') (hs : ∀ k, fp' k → w.heap.size ≤ k) : Keep fp w w'' := h.trans h' fun k hk hf => absurd (hs k hf) (by omega)
theorem Keep.of_no (h : Keep No w w') : Keep fp w w' := h.mono fun _ _ => False.elim
theorem Keep.ty {B : Nat} {ts : List TypeId} (h : Keep (Ty B ts w) w w') (h' : Keep (Ty B ts w') w' w'') : Keep (Ty B ts w) w w'' :=
  h.trans h' fun k hk ⟨hB, e, he, ht⟩ => by
    by_cases hf : Ty B ts w k
    · exact hf
    · refine ⟨hB, e, ?_, ht⟩
      rw [← he]
      unfold etype
      rw [h.block k hk hf]
theorem Keep.ty_mono {B B' : Nat} {ts ts' : List TypeId} (h : Keep (Ty B ts w) w w') (hB : B' ≤ B) (ht : ∀ e ∈ ts, e ∈ ts') : Keep (Ty B' ts' w) w w' :=
  h.mono fun _ _ ⟨h1, e, h2, h3⟩ => ⟨by omega, e, h2, ht e h3⟩
theorem etype_set (w : World) (a : Addr) (v : Value) (k : Nat) : etype (w.setCell a v) k = etype w k := by
  by_cases hk : a.block = k
  · subst hk
    simp only [etype, World.setCell, Array.getElem?_modify, if_true]
    cases h : w.heap[a.block]? with
    | none => rfl
    | some x => cases x <;> rfl
  · simp only [etype]; rw [heap_set w a v k hk]
theorem Keep.one (w : World) (a : Addr) (v : Value) : Keep (fun k => k = a.block) w (w.setCell a v) :=
  ⟨rfl, rfl, rfl, by simp [World.setCell], fun k _ hn => heap_set w a v k fun e => hn e.symm⟩
theorem Keep.set (h : Keep fp w w') {a : Addr} {v : Value} (ha : a.block < w.heap.size → fp a.block) : Keep fp w (w'.setCell a v) :=
  h.trans (Keep.one w' a v) fun k hk hf => by cases hf; exact ha hk
theorem Keep.fresh (w : World) (x : Obj) : Keep No w (w.alloc x) :=
  ⟨rfl, rfl, rfl, by show w.heap.size ≤ (w.heap.push x).size; simp, fun k hk _ => by rw [heap_alloc, if_neg (by omega)]⟩
theorem Keep.alloc (h : Keep fp w w') (x : Obj) : Keep fp w (w'.alloc x) := h.no (Keep.fresh w' x)
theorem Keep.drawn (w : World) : Keep No w w.drew := ⟨rfl, rfl, rfl, Nat.le_refl _, fun _ _ _ => rfl⟩
theorem Keep.drew (h : Keep fp w w') : Keep fp w w'.drew := h.no (Keep.drawn w')
theorem Keep.blk (h : Keep fp w w') {b : Nat} {e : TypeId} {cs : List Value} (hb : Blk w b e cs) (hn : ¬ fp b) : Blk w' b e cs := (h.block b hb.lt hn).trans hb
theorem Keep.nblk (h : Keep No w w') {b : Nat} {e : TypeId} {cs : List Value} (hb : Blk w b e cs) : Blk w' b e cs := h.blk hb id
theorem Keep.tblk {B : Nat} {ts : List TypeId} (h : Keep (Ty B ts w) w w') {b : Nat} {e : TypeId} {cs : List Value} (hb : Blk w b e cs) (hn : e ∉ ts) : Blk w' b e cs :=
  h.blk hb fun ⟨_, e', he, ht⟩ => by
    rw [hb.etype] at he
    cases he
    exact hn ht
theorem Keep.cell (h : Keep fp w w') {a : Addr} {v : Value} (hc : w.cell? a = some v) (hn : ¬ fp a.block) : w'.cell? a = some v :=
  (World.cell?_of_block (h.block a.block (World.block_lt_of_cell? w a hc) hn)).trans hc
theorem Keep.below {B : Nat} (h : Keep fp w w') (hf : ∀ k, fp k → B ≤ k) (hB : B ≤ w.heap.size) : Below B w w' :=
  ⟨h.os, h.tape, h.output, h.size, fun k hk => h.block k (by omega) fun hn => by have := hf k hn; omega⟩
theorem Keep.of_grown {row : Option Nat} (h : w.grownBy w' row) : Keep (fun k => row = some k) w w' :=
  ⟨h.os, h.tape, h.output, h.size, fun k hk hn => h.block k hk fun e => hn e.symm⟩
end

@[simp] theorem size_set (w : World) (a : Addr) (v : Value) : (w.setCell a v).heap.size = w.heap.size := by simp [World.setCell]
@[simp] theorem size_new (w : World) (x : Obj) : (w.alloc x).heap.size = w.heap.size + 1 := by show (w.heap.push x).size = _; rw [Array.size_push]
@[simp] theorem size_drew (w : World) : w.drew.heap.size = w.heap.size := rfl

/-! The words of a VC, by such facts. -/
theorem newK_of {w : World} {cs : Array Value} {e : TypeId} {K : Addr → World → Prop} (h : ∀ b w', b = w.heap.size → Blk w' b e cs.toList → Keep No w w' → K ⟨b, 0, none⟩ w') : newK w cs e K :=
  h _ _ rfl (Blk.new w cs e) (Keep.fresh w _)
theorem stK_of {w : World} {b o : Nat} {e : TypeId} {cs : List Value} {v : Value} {K : World → Prop} (hb : Blk w b e cs) (ho : o < cs.length)
    (h : ∀ w', Blk w' b e (cs.set o v) → Keep (fun k => k = b) w w' → K w') : stK w ⟨b, o, none⟩ v K := by
  refine ⟨⟨?_, hb.frozen⟩, h _ hb.set (Keep.one w ⟨b, o, none⟩ v)⟩
  rw [hb.cell (List.getElem?_eq_getElem ho)]
  rfl
theorem stK_add {w : World} {b n : Nat} {e : TypeId} {cs : List Value} {v : Value} {K : World → Prop} (hb : Blk w b e cs) (ho : n < cs.length)
    (h : ∀ w', Blk w' b e (cs.set n v) → Keep (fun k => k = b) w w' → K w') : stK w ((⟨b, 0, none⟩ : Addr).add n) v K := by
  rw [add_mk, Nat.zero_add]
  exact stK_of hb ho h

theorem bsel_pos {b : Bool} {X Y : Prop} (h : b = true) (hx : X) : bsel b X Y := by subst h; exact hx
theorem bsel_neg {b : Bool} {X Y : Prop} (h : b = false) (hy : Y) : bsel b X Y := by subst h; exact hy
theorem bsel_split {b : Bool} {X Y : Prop} (hx : b = true → X) (hy : b = false → Y) : bsel b X Y := by cases b; exact hy rfl; exact hx rfl

theorem idxK_of {a : Addr} {len i : Nat} {size : Nat} {K : Addr → Prop} (hi : i < len) (h : K (a.add (i * size))) : idxK (some a) len (i : Int) size K :=
  ⟨a, rfl, ⟨by omega, by omega⟩, by simpa using h⟩

theorem wrap_i64 {n : Int} (h : -9223372036854775808 ≤ n ∧ n < 9223372036854775808) : IntKind.wrap .i64 n = n := by
  have h1 : IntKind.bits .i64 = 64 := rfl
  unfold IntKind.wrap
  simp only [h1]
  have : (IntKind.signed .i64) = true := rfl
  simp only [this, Bool.true_and, decide_eq_true_eq]
  split <;> omega

/-- Calls, and no more than is asked. -/
theorem ret_mono {P : Program} {f : FuncId} {args : Array Value} {w : World} {R : Ending → World → Prop} {Q : Value → World → Prop} (h : Calls P f args w fun e w' => ∃ v, e = .returned v ∧ Q v w') (hQ : ∀ v w', Q v w' → R (.returned v) w') : Calls P f args w R :=
  h.mono fun _ _ ⟨_, he, hv⟩ => he ▸ hQ _ _ hv

end Go.Fw

set_option autoImplicit false
namespace Go.Fw
open Go.Proofs

/-! Typed asserts of the store's values: the type asserted is no interface. -/
def notIface (d : TypeDesc) : Bool := match d with | .interface _ => false | _ => true
theorem ta_yes {P : Program} {A : TypeId} {d : TypeDesc} (hu : P.underlying A = some d) (hd : notIface d = true) (x : TypeId) (v : Value) :
    ∀ w : World, (Instr.typeAssert (.iface A v) x A true).run P w = .ok (.tuple #[v, .bool true]) w := by
  intro w
  cases d <;> simp_all [Instr.typeAssert, run_underlying hu, notIface]
theorem ta_no {P : Program} {A u : TypeId} {d : TypeDesc} {z : Value} (hu : P.underlying A = some d) (hd : notIface d = true) (hz : ∀ w, (zeroValue A).run P w = .ok z w) (h : u ≠ A) (x : TypeId) (v : Value) :
    ∀ w : World, (Instr.typeAssert (.iface u v) x A true).run P w = .ok (.tuple #[z, .bool false]) w := by
  intro w
  cases d <;> simp_all [Instr.typeAssert, run_underlying hu, notIface]
theorem ta_nil {P : Program} {A : TypeId} {d : TypeDesc} {z : Value} (hu : P.underlying A = some d) (hd : notIface d = true) (hz : ∀ w, (zeroValue A).run P w = .ok z w) (x : TypeId) :
    ∀ w : World, (Instr.typeAssert .nilIface x A true).run P w = .ok (.tuple #[z, .bool false]) w := by
  intro w
  cases d <;> simp_all [Instr.typeAssert, run_underlying hu, notIface]
theorem yes70 (x : TypeId) (v : Value) : ∀ w : World, (Instr.typeAssert (.iface 85 v) x 85 true).run Tryz.prog w = .ok (.tuple #[v, .bool true]) w := ta_yes Tryz.underlying85 rfl x v
theorem no70 {u : TypeId} (h : u ≠ 85) (x : TypeId) (v : Value) : ∀ w : World, (Instr.typeAssert (.iface u v) x 85 true).run Tryz.prog w = .ok (.tuple #[.agg #[], .bool false]) w := ta_no Tryz.underlying85 rfl Tryz.zeroValue85 h x v
theorem nil70 (x : TypeId) : ∀ w : World, (Instr.typeAssert .nilIface x 85 true).run Tryz.prog w = .ok (.tuple #[.agg #[], .bool false]) w := ta_nil Tryz.underlying85 rfl Tryz.zeroValue85 x
theorem yes72 (x : TypeId) (v : Value) : ∀ w : World, (Instr.typeAssert (.iface 87 v) x 87 true).run Tryz.prog w = .ok (.tuple #[v, .bool true]) w := ta_yes Tryz.underlying87 rfl x v
theorem no72 {u : TypeId} (h : u ≠ 87) (x : TypeId) (v : Value) : ∀ w : World, (Instr.typeAssert (.iface u v) x 87 true).run Tryz.prog w = .ok (.tuple #[.agg #[.bool false], .bool false]) w := ta_no Tryz.underlying87 rfl Tryz.zeroValue87 h x v
theorem nil72 (x : TypeId) : ∀ w : World, (Instr.typeAssert .nilIface x 87 true).run Tryz.prog w = .ok (.tuple #[.agg #[.bool false], .bool false]) w := ta_nil Tryz.underlying87 rfl Tryz.zeroValue87 x
theorem yes80 (x : TypeId) (v : Value) : ∀ w : World, (Instr.typeAssert (.iface 94 v) x 94 true).run Tryz.prog w = .ok (.tuple #[v, .bool true]) w := ta_yes Tryz.underlying94 rfl x v
theorem no80 {u : TypeId} (h : u ≠ 94) (x : TypeId) (v : Value) : ∀ w : World, (Instr.typeAssert (.iface u v) x 94 true).run Tryz.prog w = .ok (.tuple #[.pointer none, .bool false]) w := ta_no Tryz.underlying94 rfl Tryz.zeroValue94 h x v
theorem nil80 (x : TypeId) : ∀ w : World, (Instr.typeAssert .nilIface x 94 true).run Tryz.prog w = .ok (.tuple #[.pointer none, .bool false]) w := ta_nil Tryz.underlying94 rfl Tryz.zeroValue94 x
theorem yes91 (x : TypeId) (v : Value) : ∀ w : World, (Instr.typeAssert (.iface 105 v) x 105 true).run Tryz.prog w = .ok (.tuple #[v, .bool true]) w := ta_yes Tryz.underlying105 rfl x v
theorem no91 {u : TypeId} (h : u ≠ 105) (x : TypeId) (v : Value) : ∀ w : World, (Instr.typeAssert (.iface u v) x 105 true).run Tryz.prog w = .ok (.tuple #[.agg #[.int .i64 0, .string ⟨#[]⟩], .bool false]) w := ta_no Tryz.underlying105 rfl Tryz.zeroValue105 h x v
theorem nil91 (x : TypeId) : ∀ w : World, (Instr.typeAssert .nilIface x 105 true).run Tryz.prog w = .ok (.tuple #[.agg #[.int .i64 0, .string ⟨#[]⟩], .bool false]) w := ta_nil Tryz.underlying105 rfl Tryz.zeroValue105 x
theorem yes96 (x : TypeId) (v : Value) : ∀ w : World, (Instr.typeAssert (.iface 160 v) x 160 true).run Tryz.prog w = .ok (.tuple #[v, .bool true]) w := ta_yes Tryz.underlying160 rfl x v
theorem no96 {u : TypeId} (h : u ≠ 160) (x : TypeId) (v : Value) : ∀ w : World, (Instr.typeAssert (.iface u v) x 160 true).run Tryz.prog w = .ok (.tuple #[.agg #[.string ⟨#[]⟩], .bool false]) w := ta_no Tryz.underlying160 rfl Tryz.zeroValue160 h x v
theorem nil96 (x : TypeId) : ∀ w : World, (Instr.typeAssert .nilIface x 160 true).run Tryz.prog w = .ok (.tuple #[.agg #[.string ⟨#[]⟩], .bool false]) w := ta_nil Tryz.underlying160 rfl Tryz.zeroValue160 x
theorem yes98 (x : TypeId) (v : Value) : ∀ w : World, (Instr.typeAssert (.iface 111 v) x 111 true).run Tryz.prog w = .ok (.tuple #[v, .bool true]) w := ta_yes Tryz.underlying111 rfl x v
theorem no98 {u : TypeId} (h : u ≠ 111) (x : TypeId) (v : Value) : ∀ w : World, (Instr.typeAssert (.iface u v) x 111 true).run Tryz.prog w = .ok (.tuple #[.pointer none, .bool false]) w := ta_no Tryz.underlying111 rfl Tryz.zeroValue111 h x v
theorem nil98 (x : TypeId) : ∀ w : World, (Instr.typeAssert .nilIface x 111 true).run Tryz.prog w = .ok (.tuple #[.pointer none, .bool false]) w := ta_nil Tryz.underlying111 rfl Tryz.zeroValue111 x
theorem yes102 (x : TypeId) (v : Value) : ∀ w : World, (Instr.typeAssert (.iface 162 v) x 162 true).run Tryz.prog w = .ok (.tuple #[v, .bool true]) w := ta_yes Tryz.underlying162 rfl x v
theorem no102 {u : TypeId} (h : u ≠ 162) (x : TypeId) (v : Value) : ∀ w : World, (Instr.typeAssert (.iface u v) x 162 true).run Tryz.prog w = .ok (.tuple #[.pointer none, .bool false]) w := ta_no Tryz.underlying162 rfl Tryz.zeroValue162 h x v
theorem nil102 (x : TypeId) : ∀ w : World, (Instr.typeAssert .nilIface x 162 true).run Tryz.prog w = .ok (.tuple #[.pointer none, .bool false]) w := ta_nil Tryz.underlying162 rfl Tryz.zeroValue162 x
theorem yes103 (x : TypeId) (v : Value) : ∀ w : World, (Instr.typeAssert (.iface 163 v) x 163 true).run Tryz.prog w = .ok (.tuple #[v, .bool true]) w := ta_yes Tryz.underlying163 rfl x v
theorem no103 {u : TypeId} (h : u ≠ 163) (x : TypeId) (v : Value) : ∀ w : World, (Instr.typeAssert (.iface u v) x 163 true).run Tryz.prog w = .ok (.tuple #[.pointer none, .bool false]) w := ta_no Tryz.underlying163 rfl Tryz.zeroValue163 h x v
theorem nil103 (x : TypeId) : ∀ w : World, (Instr.typeAssert .nilIface x 163 true).run Tryz.prog w = .ok (.tuple #[.pointer none, .bool false]) w := ta_nil Tryz.underlying163 rfl Tryz.zeroValue163 x
theorem yes112 (x : TypeId) (v : Value) : ∀ w : World, (Instr.typeAssert (.iface 172 v) x 172 true).run Tryz.prog w = .ok (.tuple #[v, .bool true]) w := ta_yes Tryz.underlying172 rfl x v
theorem no112 {u : TypeId} (h : u ≠ 172) (x : TypeId) (v : Value) : ∀ w : World, (Instr.typeAssert (.iface u v) x 172 true).run Tryz.prog w = .ok (.tuple #[.agg #[.bool false, .slice none 0 0], .bool false]) w := ta_no Tryz.underlying172 rfl Tryz.zeroValue172 h x v
theorem nil112 (x : TypeId) : ∀ w : World, (Instr.typeAssert .nilIface x 172 true).run Tryz.prog w = .ok (.tuple #[.agg #[.bool false, .slice none 0 0], .bool false]) w := ta_nil Tryz.underlying172 rfl Tryz.zeroValue172 x
theorem yes117 (x : TypeId) (v : Value) : ∀ w : World, (Instr.typeAssert (.iface 190 v) x 190 true).run Tryz.prog w = .ok (.tuple #[v, .bool true]) w := ta_yes Tryz.underlying190 rfl x v
theorem no117 {u : TypeId} (h : u ≠ 190) (x : TypeId) (v : Value) : ∀ w : World, (Instr.typeAssert (.iface u v) x 190 true).run Tryz.prog w = .ok (.tuple #[.pointer none, .bool false]) w := ta_no Tryz.underlying190 rfl Tryz.zeroValue190 h x v
theorem nil117 (x : TypeId) : ∀ w : World, (Instr.typeAssert .nilIface x 190 true).run Tryz.prog w = .ok (.tuple #[.pointer none, .bool false]) w := ta_nil Tryz.underlying190 rfl Tryz.zeroValue190 x
end Go.Fw
