/- Part of a proof over the given program: texts of lemmas (conditions: none beyond each lemma as stated). -/
import Derived.Test.YtdmoefbfepeeaaaGreatDoorQ1
import Derived.RangeFuncIn
import Derived.RangeFuncLeaves
import Derived.RangeFuncCalls
import Derived.OrdersIn
import Derived.WalkKit
set_option linter.unnecessarySimpa false
set_option linter.unusedVariables false
set_option linter.unusedSimpArgs false

set_option autoImplicit false
namespace Go.Fw
abbrev Fr := Nat → Value
def upd (ρ : Fr) (d : Nat) (v : Value) : Fr := fun t => match Nat.beq t d with | true => v | false => ρ t
def updO (ρ : Fr) (d : Option Nat) (v : Value) : Fr := match d with | some d => upd ρ d v | none => ρ
def ev (n : Nat) (ρ : Fr) (x : Operand) : Value := match x with
  | .tmp t => match Nat.blt t n with | true => ρ t | false => undef
  | .const v => v
  | .global g => .pointer (some ⟨g, 0, none⟩)
  | .func f => .func (.func f) #[] #[]
structure Rep (n : Nat) (a : Act) (ρ : Fr) : Prop where
  size : a.tmps.size = n
  get : ∀ t, t < n → a.tmps[t]? = some (ρ t)
theorem Rep.eval {n : Nat} {a : Act} {ρ : Fr} (h : Rep n a ρ) (x : Operand) : a.eval x = ev n ρ x := by
  cases x with
  | tmp t =>
    simp only [Act.eval, ev]
    cases hb : Nat.blt t n with
    | true =>
      have := h.get t (by simpa [Nat.blt_eq] using hb)
      simp [this]
    | false =>
      have hge : n ≤ t := by
        rcases Nat.lt_or_ge t n with h' | h'
        · rw [show Nat.blt t n = true from by simpa [Nat.blt_eq] using h'] at hb; cases hb
        · exact h'
      have : a.tmps[t]? = none := by simp [h.size, hge]
      simp [this]
  | const v => rfl
  | global g => rfl
  | func f => rfl
theorem Rep.evalF {n : Nat} {a : Act} {ρ : Fr} (h : Rep n a ρ) : a.eval = ev n ρ := funext h.eval
theorem upd_same (ρ : Fr) (d : Nat) (v : Value) : upd ρ d v d = v := by
  simp [upd]
theorem upd_ne (ρ : Fr) {d t : Nat} (v : Value) (h : t ≠ d) : upd ρ d v t = ρ t := by
  unfold upd
  cases hb : Nat.beq t d with
  | true => exact absurd (Nat.eq_of_beq_eq_true hb) h
  | false => rfl
theorem Rep.put {n : Nat} {a : Act} {ρ : Fr} (h : Rep n a ρ) (d : Option Nat) (v : Value) : Rep n (a.put d v) (updO ρ d v) := by
  cases d with
  | none => exact h
  | some d =>
    refine ⟨by simp [Act.put, h.size], fun t ht => ?_⟩
    simp only [Act.put, updO]
    by_cases hd : t = d
    · subst hd
      rw [upd_same, Array.getElem?_setIfInBounds]
      simp [h.size, ht]
    · rw [upd_ne _ _ hd, Array.getElem?_setIfInBounds_ne (Ne.symm hd)]
      exact h.get t ht
theorem Rep.set {n : Nat} {a : Act} {ρ : Fr} (h : Rep n a ρ) (d : Nat) (v : Value) (hv : ρ d = v) : Rep n a (upd ρ d v) :=
  ⟨h.size, fun t ht => by
    by_cases hd : t = d
    · subst hd; rw [upd_same, ← hv]; exact h.get t ht
    · rw [upd_ne _ _ hd]; exact h.get t ht⟩
inductive Tag where
  | int (k : IntKind) | bool | str | ptr | slice | map | raw
def exTag (t : Tag) (K : Value → Prop) : Prop := match t with
  | .int k => ∃ n : Int, K (.int k n)
  | .bool => ∃ b : Bool, K (.bool b)
  | .str => ∃ s : ByteArray, K (.string s)
  | .ptr => ∃ p : Option Addr, K (.pointer p)
  | .slice => ∃ (a : Option Addr) (l c : Nat), K (.slice a l c)
  | .map => ∃ r : Option Nat, K (.map r)
  | .raw => ∃ v : Value, K v
theorem exTag_ex {t : Tag} {K : Value → Prop} (h : exTag t K) : ∃ v, K v := by
  cases t <;> simp only [exTag] at h
  all_goals first
    | (obtain ⟨x, h⟩ := h; exact ⟨_, h⟩)
    | (obtain ⟨x, y, z, h⟩ := h; exact ⟨_, h⟩)
def exTags (ts : List Tag) (K : List Value → Prop) : Prop :=
  List.rec (motive := fun _ => (List Value → Prop) → Prop) (fun K => K []) (fun t _ ih K => exTag t fun v => ih fun vs => K (v :: vs)) ts K
theorem exTags_ex : ∀ {ts : List Tag} {K : List Value → Prop}, exTags ts K → ∃ vs, vs.length = ts.length ∧ K vs
  | [], _, h => ⟨[], rfl, h⟩
  | t :: ts, K, h => by
    obtain ⟨v, hv⟩ := exTag_ex (t := t) (K := fun v => exTags ts fun vs => K (v :: vs)) h
    obtain ⟨vs, hl, hvs⟩ := exTags_ex hv
    exact ⟨v :: vs, by simp [hl], hvs⟩
inductive Shape where
  | one (t : Tag) | agg (ts : List Tag)
inductive RShape where
  | single (s : Shape) | tup (ss : List Shape)
def exShape (s : Shape) (K : Value → Prop) : Prop := match s with
  | .one t => exTag t K
  | .agg ts => exTags ts fun vs => K (.agg vs.toArray)
theorem exShape_ex {s : Shape} {K : Value → Prop} (h : exShape s K) : ∃ v, K v := by
  cases s with
  | one t => exact exTag_ex h
  | agg ts => obtain ⟨vs, _, h⟩ := exTags_ex h; exact ⟨_, h⟩
def exShapes (ss : List Shape) (K : List Value → Prop) : Prop :=
  List.rec (motive := fun _ => (List Value → Prop) → Prop) (fun K => K []) (fun s _ ih K => exShape s fun v => ih fun vs => K (v :: vs)) ss K
theorem exShapes_ex : ∀ {ss : List Shape} {K : List Value → Prop}, exShapes ss K → ∃ vs, K vs
  | [], _, h => ⟨[], h⟩
  | s :: ss, K, h => by
    obtain ⟨v, hv⟩ := exShape_ex (s := s) (K := fun v => exShapes ss fun vs => K (v :: vs)) h
    obtain ⟨vs, hvs⟩ := exShapes_ex hv
    exact ⟨v :: vs, hvs⟩
def exR (r : RShape) (K : Value → Prop) : Prop := match r with
  | .single s => exShape s K
  | .tup ss => exShapes ss fun vs => K (.tuple vs.toArray)
theorem exR_ex {r : RShape} {K : Value → Prop} (h : exR r K) : ∃ v, K v := by
  cases r with
  | single s => exact exShape_ex h
  | tup ss => obtain ⟨vs, h⟩ := exShapes_ex h; exact ⟨_, h⟩
def tagOf (d : TypeDesc) : Tag := match d with
  | .bool => .bool
  | .int k => .int k
  | .string => .str
  | .pointer _ => .ptr
  | .slice _ => .slice
  | .map _ _ => .map
  | _ => .raw
def flat (P : Program) : Nat → TypeId → List Tag
  | 0, _ => [.raw]
  | f + 1, t => match P.underlying t with
    | some (.struct fs) => fs.toList.flatMap fun x => flat P f x.type
    | some (.array n e) => (List.replicate n (flat P f e)).flatten
    | some d => [tagOf d]
    | none => [.raw]
def shapeOf (P : Program) (t : TypeId) : Shape := match P.underlying t with
  | some (.struct _) | some (.array _ _) => .agg (flat P 8 t)
  | some d => .one (tagOf d)
  | none => .one .raw
def bAnd (k : IntKind) (x y : Int) : Int := k.wrap (BitVec.ofInt k.bits x &&& BitVec.ofInt k.bits y).toNat
def bOr (k : IntKind) (x y : Int) : Int := k.wrap (BitVec.ofInt k.bits x ||| BitVec.ofInt k.bits y).toNat
def bXor (k : IntKind) (x y : Int) : Int := k.wrap (BitVec.ofInt k.bits x ^^^ BitVec.ofInt k.bits y).toNat
def shl (k : IntKind) (x y : Int) : Int := k.wrap (x * 2 ^ min y.toNat k.bits)
def shr (k : IntKind) (x y : Int) : Int := x.fdiv (2 ^ min y.toNat k.bits)
def bsel (b : Bool) (X Y : Prop) : Prop := match b with | true => X | false => Y
@[simp] theorem bsel_true (X Y : Prop) : bsel true X Y = X := rfl
@[simp] theorem bsel_false (X Y : Prop) : bsel false X Y = Y := rfl
theorem bsel_iff (b : Bool) (X Y : Prop) : bsel b X Y ↔ if b = true then X else Y := by cases b <;> simp
def cellsFrom (w : World) (a : Addr) (vs : List Value) : Nat → Prop :=
  List.rec (motive := fun _ => Nat → Prop) (fun _ => True) (fun v vs ih i => match vs with | [] => w.cell? (a.add i) = some v | _ => w.cell? (a.add i) = some v ∧ ih (i + 1)) vs
def CellsAt (w : World) (a : Addr) (vs : List Value) : Prop := cellsFrom w a vs 0
theorem cellsFrom_cons {w : World} {a : Addr} {v : Value} {vs : List Value} {i : Nat} : cellsFrom w a (v :: vs) i ↔ w.cell? (a.add i) = some v ∧ cellsFrom w a vs (i + 1) := by
  cases vs with
  | nil => simp [cellsFrom]
  | cons u us => exact Iff.rfl
def szK (P : Program) (t : TypeId) (K : Nat → Prop) : Prop := match P.info? t with | some i => K i.size | none => False
def ldS (P : Program) (t : TypeId) (w : World) (a : Addr) (K : Value → Prop) : Prop := match shapeOf P t with
  | .one (.int k) => ∃ n : Int, w.cell? a = some (.int k n) ∧ K (.int k n)
  | .one .bool => ∃ b : Bool, w.cell? a = some (.bool b) ∧ K (.bool b)
  | .one .str => ∃ s : ByteArray, w.cell? a = some (.string s) ∧ K (.string s)
  | .one .ptr => ∃ p : Option Addr, w.cell? a = some (.pointer p) ∧ K (.pointer p)
  | .one .slice => ∃ (s : Option Addr) (l c : Nat), w.cell? a = some (.slice s l c) ∧ K (.slice s l c)
  | .one .map => ∃ r : Option Nat, w.cell? a = some (.map r) ∧ K (.map r)
  | .one .raw => ∃ v : Value, w.cell? a = some v ∧ K v
  | .agg ts => szK P t fun sz => match Nat.beq ts.length sz with
    | true => exTags ts fun vs => CellsAt w a vs ∧ K (.agg vs.toArray)
    | false => False
def ldK (P : Program) (t : TypeId) (w : World) (a : Addr) (K : Value → Prop) : Prop := match P.underlying t with | some _ => ldS P t w a K | none => False
def plainV (v : Value) : Bool := match v with | .agg _ => false | .tuple _ => false | _ => true
def plK (v : Value) (K : Prop) : Prop := match v with | .agg _ => False | .tuple _ => False | _ => K
theorem plK_iff {v : Value} {K : Prop} (h : plK v K) : K ∧ plainV v = true := by cases v <;> simp_all [plK, plainV]
def stK (w : World) (a : Addr) (v : Value) (K : World → Prop) : Prop :=
  ((w.cell? a).isSome = true ∧ w.frozen? a = false) ∧ K (w.setCell a v)
def stsFrom (a : Addr) (vs : List Value) (K : World → Prop) : Nat → World → Prop :=
  List.rec (motive := fun _ => Nat → World → Prop) (fun _ w => K w) (fun v _ ih i w => plK v (stK w (a.add i) v fun w' => ih (i + 1) w')) vs
def stsK (w : World) (a : Addr) (vs : List Value) (K : World → Prop) : Prop := stsFrom a vs K 0 w
def nilK (p : Option Addr) (K : Addr → Prop) : Prop := match p with | some a => K a | none => False
theorem nilK_of {p : Option Addr} {K : Addr → Prop} (h : nilK p K) : ∃ a, p = some a ∧ K a := by cases p <;> first | exact h.elim | exact ⟨_, rfl, h⟩
@[simp] theorem nilK_some (a : Addr) (K : Addr → Prop) : nilK (some a) K = K a := rfl
@[simp] theorem nilK_none (K : Addr → Prop) : nilK none K = False := rfl
def idxK (base : Option Addr) (len : Nat) (i : Int) (size : Nat) (K : Addr → Prop) : Prop :=
  ∃ a, base = some a ∧ (0 ≤ i ∧ i < len) ∧ K (a.add (i.toNat * size))
def aidxK (a : Addr) (len : Nat) (i : Int) (size : Nat) (K : Addr → Prop) : Prop := (0 ≤ i ∧ i < len) ∧ K (a.add (i.toNat * size))
def sidxK (s : ByteArray) (i : Int) (K : Int → Prop) : Prop := ∃ b : UInt8, (0 ≤ i ∧ s[i.toNat]? = some b) ∧ K b.toNat
def slcK (a : Option Addr) (cap : Nat) (lo hi : Int) (size : Nat) (K : Option Addr → Nat → Nat → Prop) : Prop :=
  (0 ≤ lo ∧ lo ≤ hi ∧ hi ≤ cap) ∧ K (if (cap : Int) = lo then a else a.map (·.add (lo.toNat * size))) (hi.toNat - lo.toNat) (cap - lo.toNat)
def sslK (s : ByteArray) (lo hi : Int) (K : ByteArray → Prop) : Prop :=
  (0 ≤ lo ∧ lo ≤ hi ∧ hi ≤ s.size) ∧ K (s.extract lo.toNat hi.toNat)
def newK (w : World) (cells : Array Value) (elem : TypeId) (K : Addr → World → Prop) : Prop :=
  K ⟨w.heap.size, 0, none⟩ (w.alloc (.cells cells elem))
def runS (P : Program) (r : RShape) (s : Sem Value) (w : World) (K : Value → World → Prop) : Prop :=
  ∃ w', exR r fun v => s.run P w = .ok v w' ∧ K v w'
def runU (P : Program) (s : Sem Unit) (w : World) (K : World → Prop) : Prop := ∃ w', s.run P w = .ok () w' ∧ K w'
def RetK (r : RShape) (K : Value → World → Prop) : Ending → World → Prop := fun e w => exR r fun v => e = .returned v ∧ K v w
theorem RetK_ret {r : RShape} {K : Value → World → Prop} {e : Ending} {w : World} (h : RetK r K e w) : ∃ v, e = .returned v ∧ K v w := exR_ex h
def CallS (P : Program) (f : FuncId) (args : Array Value) (r : RShape) (w : World) (K : Value → World → Prop) : Prop :=
  Calls P f args w (RetK r K)
def RoundK (P : Program) (l : Nat) (args : Array Value) (w : World) (K : Bool → World → Prop) : Prop :=
  ∃ f tmps assign body w', (Instr.yield l args).run P w = .ok (.round l f tmps assign body) w' ∧
    RoundIn Fence.wide 0 P l f tmps assign body w' fun e w'' => ∃ b, e = .returned (.bool b) ∧ K b w''
def CallV (P : Program) (fv : Value) (args : Array Value) (w : World) (R : Ending → World → Prop) : Prop := match fv with
  | .func (.func f) first cap => (callFunc f (first ++ args ++ cap)).run P w = .ok (.enter f (first ++ args ++ cap)) w ∧ Calls P f (first ++ args ++ cap) w R
  | .func (.yield l) first _ => RoundK P l (first ++ args) w fun b w => R (.returned (.bool b)) w
  | _ => False
def InvK (P : Program) (rv : Value) (name : String) (args : Array Value) (w : World) (R : Ending → World → Prop) : Prop :=
  ∃ f x, (callMethod rv name args).run P w = .ok (.enter f (#[x] ++ args)) w ∧ Calls P f (#[x] ++ args) w R
end Go.Fw


set_option autoImplicit false
namespace Go.Fw
noncomputable def pv (P : Program) {α : Type} (s : Sem α) : Option α :=
  Sem.rec (motive := fun _ => Option α) (fun a => some a) (fun _ _ _ _ => none) (fun _ _ _ _ _ => none) (fun _ _ _ => none) (fun _ _ _ => none)
    (fun _ _ _ _ => none) (fun _ _ _ => none) (fun _ _ _ => none) (fun _ _ _ _ => none) (fun _ _ _ => none) (fun _ _ _ => none)
    (fun _ ih => ih P) (fun _ _ ih => ih) (fun _ => none) s
theorem pv_run {P : Program} {α : Type} {s : Sem α} {a : α} (h : pv P s = some a) (w : World) : s.run P w = .ok a w := by
  induction s with
  | pure x => simp only [pv] at h; cases h; rfl
  | program k ih => exact ih P h
  | mark m k ih => exact ih h
  | load | store | new | shape | freeze | frozen | getObj | setObj | choose | sys | halt => simp [pv] at h
noncomputable def pvK (P : Program) (s : Sem Next) (K : Value → Prop) : Prop := match pv P s with
  | some (.value v) => K v
  | _ => False
noncomputable def pvV (P : Program) (s : Sem Value) (K : Value → Prop) : Prop := match pv P s with
  | some v => K v
  | none => False
def opP (P : Program) (r : RShape) (s : Sem Value) (K : Value → Prop) : Prop := exR r fun v => (∀ w, s.run P w = .ok v w) ∧ K v
def nilV (v : Value) (Kp : Addr → Prop) (Kv : Prop) : Prop := match v with
  | .pointer p => nilK p Kp
  | .iface _ _ => Kv
  | .func (.func _) _ _ => Kv
  | _ => False
def eqNilI (v : Value) (K : Bool → Prop) : Prop := match v with | .nilIface => K true | .iface _ _ => K false | _ => False
def eqNilF (v : Value) (K : Bool → Prop) : Prop := match v with | .nilFunc => K true | .func _ _ _ => K false | _ => False
def eqSem (op : BinOp) (t : TypeId) (xo yo : Operand) (vx vy : Value) : Sem Value := do eqGuard op t xo yo vx vy; binOp op t vx vy
def sgn (op : BinOp) (b : Bool) : Bool := match op with | .neq => !b | _ => b
noncomputable def eqK (P : Program) (op : BinOp) (t : TypeId) (xo yo : Operand) (vx vy : Value) (K : Value → Prop) : Prop :=
  match P.underlying t with
  | some (.interface _) => match yo with
    | .const .nilIface => eqNilI vx fun b => K (.bool (sgn op b))
    | _ => opP P (.single (.one .bool)) (eqSem op t xo yo vx vy) K
  | some (.func _ _ _) => match yo with
    | .const .nilFunc => eqNilF vx fun b => K (.bool (sgn op b))
    | _ => False
  | some (.pointer _) => match vx with
    | .pointer p => match yo with
      | .const (.pointer none) => K (.bool (sgn op p.isNone))
      | _ => False
    | _ => False
  | some (.slice _) => match vx with
    | .slice a _ _ => match yo with
      | .const (.slice none _ _) => K (.bool (sgn op a.isNone))
      | _ => False
    | _ => False
  | some (.map _ _) => match vx with
    | .map r => match yo with
      | .const (.map none) => K (.bool (sgn op r.isNone))
      | _ => False
    | _ => False
  | some (.struct _) | some (.array _ _) => opP P (.single (.one .bool)) (eqSem op t xo yo vx vy) K
  | _ => pvV P (eqSem op t xo yo vx vy) K
theorem plain_cells {v : Value} (h : plainV v = true) : v.cells = #[v] := by cases v <;> simp_all [Value.cells, plainV]
def fillS (P : Program) (place : Nat → Option (Nat × Nat × Shape)) (cells : List Value) : List (Nat × Value) → (List Value → Prop) → Prop
  | [], K => K cells
  | (i, v) :: rest, K => match place i with
    | none => False
    | some (off, size, .one _) => match Nat.beq size 1 with
      | true => match Nat.ble (off + 1) cells.length with
        | true => plK v (fillS P place (cells.set off v) rest K)
        | false => False
      | false => False
    | some (off, size, .agg _) => match v with
      | .agg cs => match Nat.beq cs.toList.length size with
        | true => match Nat.ble (off + size) cells.length with
          | true => fillS P place (cells.take off ++ cs.toList ++ cells.drop (off + size)) rest K
          | false => False
        | false => False
      | _ => False
def buildK (P : Program) (t : TypeId) (parts : List (Nat × Value)) (K : Value → Prop) : Prop :=
  match P.info? t with
  | some i => match i.zero with
    | some z => match P.underlying t with
      | some (.struct fs) => match fs.toList.all (fun f => (P.info? f.type).isSome) with
        | false => False
        | true => fillS P (fun j => match fs[j]? with | some f => some (f.offset, P.cellsOf f.type, shapeOf P f.type) | none => none) z.cells.toList parts fun cs => K (.agg cs.toArray)
      | some (.array _ e) => szK P e fun sz => fillS P (fun j => some (j * sz, sz, shapeOf P e)) z.cells.toList parts fun cs => K (.agg cs.toArray)
      | _ => False
    | none => False
  | none => False
theorem foldl_set (off : Nat) : ∀ (l : List Value) (k : Nat) (c : List Value), off + k + l.length ≤ c.length →
    (l.zipIdx k).foldl (fun cs (p : Value × Nat) => cs.setIfInBounds (off + p.2) p.1) c.toArray = (c.take (off + k) ++ l ++ c.drop (off + k + l.length)).toArray
  | [], k, c, _ => by simp
  | v :: l, k, c, h => by
    simp only [List.zipIdx_cons, List.foldl_cons, List.setIfInBounds_toArray]
    rw [foldl_set off l (k + 1) (c.set (off + k) v) (by simp at h ⊢; omega)]
    simp only [List.length_cons] at h ⊢
    have e1 : off + (k + 1) = off + k + 1 := by omega
    have hlt : off + k < c.length := by omega
    have e2 : (c.set (off + k) v).take (off + k + 1) = c.take (off + k) ++ [v] := by
      rw [List.take_succ_eq_append_getElem (by simpa using hlt), List.take_set_of_le (Nat.le_refl _)]
      simp
    have e3 : (c.set (off + k) v).drop (off + k + 1 + l.length) = c.drop (off + k + (l.length + 1)) := by
      rw [List.drop_set_of_lt (by omega)]
      congr 1; omega
    rw [e1, e2, e3]
    simp
theorem fill_of (P : Program) (pl : Nat → Option (Nat × Nat)) (place : Nat → Option (Nat × Nat × Shape)) (hpl : ∀ j, pl j = (place j).map fun x => (x.1, x.2.1)) :
    ∀ (parts : List (Nat × Value)) (cells : List Value) (K : List Value → Prop), fillS P place cells parts K → ∃ cs, Instr.fill pl cells.toArray parts = some cs.toArray ∧ K cs
  | [], cells, K, h => ⟨cells, rfl, h⟩
  | (i, v) :: rest, cells, K, h => by
    unfold fillS at h
    unfold Instr.fill
    rw [hpl i]
    split at h
    · exact h.elim
    · rename_i off size t hp
      simp only [hp, Option.map_some]
      split at h
      · rename_i hs
        have hs := Nat.eq_of_beq_eq_true hs
        subst hs
        split at h
        · rename_i hl
          have hl := Nat.le_of_ble_eq_true hl
          obtain ⟨h, hv⟩ := plK_iff h
          obtain ⟨cs, hf, hK⟩ := fill_of P pl place hpl rest _ K h
          refine ⟨cs, ?_, hK⟩
          rw [plain_cells hv]
          have : ¬ (cells.length < off + 1) := by omega
          simp [this]
          simpa using hf
        · exact h.elim
      · exact h.elim
    · rename_i off size ts hp
      simp only [hp, Option.map_some]
      split at h
      · rename_i cs0
        split at h
        · rename_i hs
          have hs := Nat.eq_of_beq_eq_true hs
          split at h
          · rename_i hl
            have hl := Nat.le_of_ble_eq_true hl
            obtain ⟨cs, hf, hK⟩ := fill_of P pl place hpl rest _ K h
            refine ⟨cs, ?_, hK⟩
            have hsz : cs0.size = size := by simpa using hs
            simp only [Value.cells, hsz, List.size_toArray]
            have hn : ¬ (cells.length < off + size) := by omega
            simp only [ne_eq, not_true_eq_false, decide_false, Bool.false_or, gt_iff_lt, hn]
            rw [← hf]
            congr 1
            have := foldl_set off cs0.toList 0 cells (by simp [hsz]; omega)
            simp only [Nat.add_zero] at this
            rw [← Array.foldl_toList, Array.toList_zipIdx]
            rw [this]
            simp [hsz]
          · exact h.elim
        · exact h.elim
      · exact h.elim
def lenK (P : Program) (t : TypeId) (v : Value) (K : Int → Prop) : Prop := match P.underlying t with
  | some .string => match v with | .string s => K s.size | _ => False
  | some (.slice _) => match v with | .slice _ l _ => K l | _ => False
  | _ => False
def capK (P : Program) (t : TypeId) (v : Value) (K : Int → Prop) : Prop := match P.underlying t with
  | some (.slice _) => match v with | .slice _ _ c => K c | _ => False
  | _ => False
def optEv (n : Nat) (ρ : Fr) (x : Option Operand) (d : Int) (K : Int → Prop) : Prop := match x with
  | none => K d
  | some o => match ev n ρ o with | .int _ i => K i | _ => False
def divK (vx vy : Value) (K : IntKind → Int → Int → Prop) : Prop := match vx with
  | .int k a => match vy with
    | .int k' b => match decide (k = k') with
      | true => b ≠ 0 ∧ K k a b
      | false => False
    | _ => False
  | _ => False
def shK (vx vy : Value) (K : IntKind → Int → Int → Prop) : Prop := match vx with
  | .int k a => match vy with
    | .int _ b => 0 ≤ b ∧ K k a b
    | _ => False
  | _ => False
def catK (vx vy : Value) (K : ByteArray → Prop) : Prop := match vx with
  | .string a => match vy with
    | .string b => ((a.size + b.size : Nat) : Int) ≤ 9223372036854775807 ∧ K (a ++ b)
    | _ => False
  | _ => False
def okShape (s : Shape) (ok : Bool) : RShape := match ok with | true => .tup [s, .one .bool] | false => .single s
def isPure (P : Program) (o : Op) : Bool := match o with
  | .move _ | .assign _ | .pick _ _ _ | .nilCheck _ | .binOp _ _ _ _ _ | .unOp _ _ _ | .makeInterface _ _ | .makeFunc _ _ _ | .fieldAddr _ _ _ | .field _ _ _
  | .indexAddr _ _ _ | .index _ _ _ | .slice _ _ _ _ _ | .typeAssert _ _ _ _ | .extract _ _ | .build _ _ => true
  | .convert _ dst _ => match P.underlying dst with | some (.int _) => true | _ => false
  | .call c => match c.callee with
    | .builtin .len | .builtin .cap => match c.argTypes[0]? with
      | some t => match P.underlying t with | some (.map _ _) => false | _ => true
      | none => false
    | _ => false
  | _ => false
noncomputable def vcPure (P : Program) (n : Nat) (ρ : Fr) (o : Oper) (K : Value → Prop) : Prop := match o.op with
  | .move x => K (ev n ρ x)
  | .assign x => K (ev n ρ x)
  | .pick c a b => match ev n ρ c with | .bool x => bsel x (K (ev n ρ a)) (K (ev n ρ b)) | _ => False
  | .nilCheck x => nilV (ev n ρ x) (fun a => K (.pointer (some a))) (K (ev n ρ x))
  | .binOp op t x y _ => match op with
    | .eql => eqK P .eql t x y (ev n ρ x) (ev n ρ y) K
    | .neq => eqK P .neq t x y (ev n ρ x) (ev n ρ y) K
    | .quo => divK (ev n ρ x) (ev n ρ y) fun k a b => K (.int k (k.wrap (a.tdiv b)))
    | .rem => divK (ev n ρ x) (ev n ρ y) fun k a b => K (.int k (a.tmod b))
    | .shl => shK (ev n ρ x) (ev n ρ y) fun k a b => K (.int k (k.wrap (a * 2 ^ min b.toNat k.bits)))
    | .shr => shK (ev n ρ x) (ev n ρ y) fun k a b => K (.int k (a.fdiv (2 ^ min b.toNat k.bits)))
    | .add => match P.underlying t with
      | some .string => catK (ev n ρ x) (ev n ρ y) fun s => K (.string s)
      | _ => pvK P (execOp (ev n ρ) o) K
    | _ => pvK P (execOp (ev n ρ) o) K
  | .indexAddr t x i => match P.underlying t with
    | some (.slice e) => match ev n ρ x with
      | .slice base len _ => match ev n ρ i with | .int _ i => szK P e fun sz => idxK base len i sz fun a => K (.pointer (some a)) | _ => False
      | _ => False
    | some (.array len e) => match ev n ρ x with
      | .pointer (some a) => match ev n ρ i with | .int _ i => szK P e fun sz => aidxK a len i sz fun a => K (.pointer (some a)) | _ => False
      | _ => False
    | _ => False
  | .index t x i => match P.underlying t with
    | some .string => match ev n ρ x with
      | .string s => match ev n ρ i with | .int _ i => sidxK s i fun b => K (.int .u8 b) | _ => False
      | _ => False
    | _ => pvK P (execOp (ev n ρ) o) K
  | .slice t x lo hi mx => match P.underlying t with
    | some (.slice e) => match ev n ρ x with
      | .slice a len cap => match mx with
        | none => optEv n ρ lo 0 fun lo => optEv n ρ hi len fun hi => szK P e fun sz => slcK a cap lo hi sz fun p l c => K (.slice p l c)
        | some _ => opP P (.single (.one .slice)) (Instr.sliceAt t (ev n ρ x) (lo.map (ev n ρ)) (hi.map (ev n ρ)) (mx.map (ev n ρ))) K
      | _ => False
    | some .string => match ev n ρ x with
      | .string s => match mx with
        | none => optEv n ρ lo 0 fun lo => optEv n ρ hi s.size fun hi => sslK s lo hi fun s => K (.string s)
        | some _ => False
      | _ => False
    | _ => opP P (.single (.one .slice)) (Instr.sliceAt t (ev n ρ x) (lo.map (ev n ρ)) (hi.map (ev n ρ)) (mx.map (ev n ρ))) K
  | .typeAssert x xT asx ok => opP P (okShape (shapeOf P asx) ok) (Instr.typeAssert (ev n ρ x) xT asx ok) K
  | .build t parts => buildK P t (parts.toList.map fun p => (p.1, ev n ρ p.2)) K
  | .call c => match c.callee with
    | .builtin .len => match c.argTypes.toList with
      | t :: _ => match c.args.toList with | x :: _ => lenK P t (ev n ρ x) fun l => K (.int .i64 l) | _ => False
      | _ => False
    | .builtin .cap => match c.argTypes.toList with
      | t :: _ => match c.args.toList with | x :: _ => capK P t (ev n ρ x) fun l => K (.int .i64 l) | _ => False
      | _ => False
    | _ => False
  | _ => pvK P (execOp (ev n ρ) o) K
def Gives (P : Program) (n : Nat) (ρ : Fr) (o : Oper) (v : Value) : Prop := ∀ w, (execOp (ev n ρ) o).run P w = .ok (.value v) w
theorem pvK_gives {P : Program} {n : Nat} {ρ : Fr} {o : Oper} {K : Value → Prop} (h : pvK P (execOp (ev n ρ) o) K) : ∃ v, Gives P n ρ o v ∧ K v := by
  unfold pvK at h
  split at h
  · rename_i v hv; exact ⟨v, pv_run hv, h⟩
  · exact h.elim
theorem opP_gives {P : Program} {r : RShape} {s : Sem Value} {K : Value → Prop} (h : opP P r s K) : ∃ v, (∀ w, s.run P w = .ok v w) ∧ K v := exR_ex h
theorem run_v {P : Program} {s : Sem Value} {v : Value} {w w' : World} (h : s.run P w = .ok v w') :
    (do pure (Next.value (← s)) : Sem Next).run P w = .ok (.value v) w' := by
  simp [h, Result.andThen]
theorem pvV_gives {P : Program} {s : Sem Value} {K : Value → Prop} (h : pvV P s K) : ∃ v, (∀ w, s.run P w = .ok v w) ∧ K v := by
  unfold pvV at h
  split at h
  · rename_i v hv; exact ⟨v, pv_run hv, h⟩
  · exact h.elim
theorem eqSem_const {P : Program} {op : BinOp} (hop : op = .eql ∨ op = .neq) {t : TypeId} {xo : Operand} {c : Value} {vx : Value} {w : World} {b : Bool}
    (hx : ∀ cs, vx ≠ .agg cs) (hb : (Op.equal t vx c).run P w = .ok b w) (hc : c = .nilIface ∨ c = .nilFunc ∨ c = .pointer none ∨ (∃ l k, c = .slice none l k) ∨ c = .map none) :
    (eqSem op t xo (.const c) vx c).run P w = .ok (.bool (sgn op b)) w := by
  have hg : (eqGuard op t xo (.const c) vx c).run P w = .ok () w := by
    unfold eqGuard
    rcases hop with rfl | rfl <;> rcases hc with rfl | rfl | rfl | ⟨l, k, rfl⟩ | rfl <;> cases vx <;> simp_all
  have he : (binOp op t vx c).run P w = .ok (.bool (sgn op b)) w := by
    rcases hop with rfl | rfl <;> rcases hc with rfl | rfl | rfl | ⟨l, k, rfl⟩ | rfl <;> cases vx <;> simp_all [binOp, Result.andThen, sgn]
  simp [eqSem, hg, he, Result.andThen]
section
variable {P : Program} {t : TypeId} (w : World) (d : Nat)
theorem eqIn_iface {ms : Array (String × TypeId)} (hu : P.underlying t = some (.interface ms)) (u : TypeId) (x : Value) :
    (Op.equalIn (d + 1) t (.iface u x) .nilIface).run P w = .ok false w := by simp [Op.equalIn, run_underlying hu]
theorem eqIn_nilIface {ms : Array (String × TypeId)} (hu : P.underlying t = some (.interface ms)) :
    (Op.equalIn (d + 1) t .nilIface .nilIface).run P w = .ok true w := by simp [Op.equalIn, run_underlying hu]
theorem eqIn_func {a b : Array TypeId} {v : Bool} (hu : P.underlying t = some (.func a b v)) (f : Fn) (x y : Array Value) :
    (Op.equalIn (d + 1) t (.func f x y) .nilFunc).run P w = .ok false w := by simp [Op.equalIn, run_underlying hu]
theorem eqIn_nilFunc {a b : Array TypeId} {v : Bool} (hu : P.underlying t = some (.func a b v)) :
    (Op.equalIn (d + 1) t .nilFunc .nilFunc).run P w = .ok true w := by simp [Op.equalIn, run_underlying hu]
theorem eqIn_ptr {e : TypeId} (hu : P.underlying t = some (.pointer e)) (p : Option Addr) :
    (Op.equalIn (d + 1) t (.pointer p) (.pointer none)).run P w = .ok p.isNone w := by cases p <;> simp [Op.equalIn, run_underlying hu]
theorem eqIn_slice {e : TypeId} (hu : P.underlying t = some (.slice e)) (p : Option Addr) (l c l' c' : Nat) :
    (Op.equalIn (d + 1) t (.slice p l c) (.slice none l' c')).run P w = .ok p.isNone w := by cases p <;> simp [Op.equalIn, run_underlying hu]
theorem eqIn_map {k e : TypeId} (hu : P.underlying t = some (.map k e)) (p : Option Nat) :
    (Op.equalIn (d + 1) t (.map p) (.map none)).run P w = .ok p.isNone w := by cases p <;> simp [Op.equalIn, run_underlying hu]
end
theorem eqK_gives {P : Program} {op : BinOp} (hop : op = .eql ∨ op = .neq) {t : TypeId} {xo yo : Operand} {n : Nat} {ρ : Fr} {K : Value → Prop}
    (h : eqK P op t xo yo (ev n ρ xo) (ev n ρ yo) K) : ∃ v, (∀ w, (eqSem op t xo yo (ev n ρ xo) (ev n ρ yo)).run P w = .ok v w) ∧ K v := by
  unfold eqK at h
  generalize hvx : ev n ρ xo = vx at *
  split at h
  · rename_i ms hu
    split at h
    · cases vx <;> simp only [eqNilI] at h
      · exact ⟨_, fun w => eqSem_const hop (by simp) (eqIn_iface w 9999 hu _ _) (.inl rfl), h⟩
      · exact ⟨_, fun w => eqSem_const hop (by simp) (eqIn_nilIface w 9999 hu) (.inl rfl), h⟩
    · exact opP_gives h
  · rename_i hu
    split at h
    · cases vx <;> simp only [eqNilF] at h
      · exact ⟨_, fun w => eqSem_const hop (by simp) (eqIn_func w 9999 hu _ _ _) (.inr (.inl rfl)), h⟩
      · exact ⟨_, fun w => eqSem_const hop (by simp) (eqIn_nilFunc w 9999 hu) (.inr (.inl rfl)), h⟩
    · exact h.elim
  · rename_i hu
    split at h
    · split at h
      · exact ⟨_, fun w => eqSem_const hop (by simp) (eqIn_ptr w 9999 hu _) (.inr (.inr (.inl rfl))), h⟩
      · exact h.elim
    · exact h.elim
  · rename_i hu
    split at h
    · split at h
      · exact ⟨_, fun w => eqSem_const hop (by simp) (eqIn_slice w 9999 hu _ _ _ _ _) (.inr (.inr (.inr (.inl ⟨_, _, rfl⟩)))), h⟩
      · exact h.elim
    · exact h.elim
  · rename_i hu
    split at h
    · split at h
      · exact ⟨_, fun w => eqSem_const hop (by simp) (eqIn_map w 9999 hu _) (.inr (.inr (.inr (.inr rfl)))), h⟩
      · exact h.elim
    · exact h.elim
  · exact opP_gives h
  · exact opP_gives h
  · exact pvV_gives h
end Go.Fw


set_option autoImplicit false
namespace Go.Fw
section
variable {P : Program} {n : Nat} {ρ : Fr} {o : Oper} {K : Value → Prop}
theorem gives_of {s : Sem Value} {v : Value} (he : execOp (ev n ρ) o = (do pure (Next.value (← s)))) (h : ∀ w, s.run P w = .ok v w) : Gives P n ρ o v :=
  fun w => by rw [he]; exact run_v (h w)
theorem sliceBounds_run {isS : Bool} {len cap : Nat} {lo hi : Option Value} {l h : Int} {w : World}
    (hlo : (lo = none ∧ l = 0) ∨ ∃ k, lo = some (.int k l)) (hhi : (hi = none ∧ h = len) ∨ ∃ k, hi = some (.int k h)) (hb : 0 ≤ l ∧ l ≤ h ∧ h ≤ cap) :
    (Instr.sliceBounds isS len cap lo hi none).run P w = .ok (l.toNat, h.toNat, cap) w := by
  obtain ⟨h0, h1, h2⟩ := hb
  rcases hlo with ⟨rfl, rfl⟩ | ⟨k, rfl⟩ <;> rcases hhi with ⟨rfl, rfl⟩ | ⟨k', rfl⟩
  · simp [Instr.sliceBounds]
  · simp [Instr.sliceBounds, Instr.sliceBound, asIntOf, h1, h2, Result.andThen]
  · simp [Instr.sliceBounds, Instr.sliceBound, asIntOf, h0, h1, Result.andThen]
  · simp [Instr.sliceBounds, Instr.sliceBound, asIntOf, h0, h1, h2, Result.andThen, show (0:Int) ≤ h by omega, show l ≤ max h 0 by omega]
theorem optEv_of {x : Option Operand} {d : Int} {K : Int → Prop} (h : optEv n ρ x d K) : ∃ i, ((x.map (ev n ρ) = none ∧ i = d) ∨ ∃ k, x.map (ev n ρ) = some (.int k i)) ∧ K i := by
  cases x with
  | none => exact ⟨d, .inl ⟨rfl, rfl⟩, h⟩
  | some o =>
    simp only [optEv] at h
    split at h
    · rename_i k i hi; exact ⟨i, .inr ⟨k, by simp [hi]⟩, h⟩
    · exact h.elim
theorem szK_of {t : TypeId} {K : Nat → Prop} (h : szK P t K) : ∃ i, P.info? t = some i ∧ K i.size := by
  unfold szK at h
  split at h
  · exact ⟨_, by assumption, h⟩
  · exact h.elim
theorem mapM_run {w : World} : ∀ (l : List Field), l.all (fun f => (P.info? f.type).isSome) = true →
    (l.mapM (fun f => do pure (f.offset, ← sizeOf f.type) : Field → Sem (Nat × Nat))).run P w = .ok (l.map fun f => (f.offset, P.cellsOf f.type)) w
  | [], _ => rfl
  | f :: l, h => by
    simp only [List.all_cons, Bool.and_eq_true] at h
    obtain ⟨i, hi⟩ := Option.isSome_iff_exists.1 h.1
    rw [List.mapM_cons, Sem.run_bind, Sem.run_bind, run_sizeOf w hi]
    simp only [Result.andThen, Sem.run_pure]
    rw [Sem.run_bind, mapM_run l h.2]
    simp
theorem mapMA_run {w : World} (fs : Array Field) (h : fs.toList.all (fun f => (P.info? f.type).isSome) = true) :
    (fs.mapM (fun f => do pure (f.offset, ← sizeOf f.type) : Field → Sem (Nat × Nat))).run P w = .ok (fs.map fun f => (f.offset, P.cellsOf f.type)) w := by
  rw [Array.mapM_eq_mapM_toList]
  simp only [map_eq_pure_bind, Sem.run_bind]
  rw [mapM_run fs.toList h]
  simp only [Result.andThen, Sem.run_pure]
  congr 1
  apply Array.ext'
  simp
theorem divK_of {vx vy : Value} {K : IntKind → Int → Int → Prop} (h : divK vx vy K) : ∃ k a b, vx = .int k a ∧ vy = .int k b ∧ b ≠ 0 ∧ K k a b := by
  unfold divK at h
  split at h
  · split at h
    · split at h
      · rename_i hk
        have hk := of_decide_eq_true hk
        subst hk
        exact ⟨_, _, _, rfl, rfl, h⟩
      · exact h.elim
    · exact h.elim
  · exact h.elim
theorem shK_of {vx vy : Value} {K : IntKind → Int → Int → Prop} (h : shK vx vy K) : ∃ k a k' b, vx = .int k a ∧ vy = .int k' b ∧ 0 ≤ b ∧ K k a b := by
  unfold shK at h
  split at h
  · split at h
    · exact ⟨_, _, _, _, rfl, rfl, h⟩
    · exact h.elim
  · exact h.elim
theorem catK_of {vx vy : Value} {K : ByteArray → Prop} (h : catK vx vy K) : ∃ a b, vx = .string a ∧ vy = .string b ∧ ((a.size + b.size : Nat) : Int) ≤ 9223372036854775807 ∧ K (a ++ b) := by
  unfold catK at h
  split at h
  · split at h
    · exact ⟨_, _, rfl, rfl, h⟩
    · exact h.elim
  · exact h.elim
theorem vcPure_gives (hp : isPure P o.op = true) (h : vcPure P n ρ o K) : ∃ v, Gives P n ρ o v ∧ K v := by
  cases ho : o.op <;> simp only [ho, isPure, Bool.false_eq_true] at hp <;> simp only [vcPure, ho] at h
  case move x => exact ⟨_, fun w => by simp [execOp, ho], h⟩
  case assign x => exact ⟨_, fun w => by simp [execOp, ho], h⟩
  case pick c a b =>
    split at h
    · rename_i x hx
      cases x
      · exact ⟨_, gives_of (s := pure (ev n ρ b)) (by simp [execOp, ho, hx, asBool]) (fun w => rfl), h⟩
      · exact ⟨_, gives_of (s := pure (ev n ρ a)) (by simp [execOp, ho, hx, asBool]) (fun w => rfl), h⟩
    · exact h.elim
  case nilCheck x =>
    unfold nilV at h
    split at h
    · rename_i p hx
      obtain ⟨a, rfl, h⟩ := nilK_of h
      exact ⟨_, fun w => by simp [execOp, ho, hx], h⟩
    · rename_i hx; exact ⟨_, fun w => by simp [execOp, ho, hx], h⟩
    · rename_i hx; exact ⟨_, fun w => by simp [execOp, ho, hx], h⟩
    · exact h.elim
  case binOp op t x y yt =>
    split at h
    · obtain ⟨v, hv, hK⟩ := eqK_gives (.inl rfl) h
      exact ⟨v, gives_of (by simp only [execOp, ho]; rfl) hv, hK⟩
    · obtain ⟨v, hv, hK⟩ := eqK_gives (.inr rfl) h
      exact ⟨v, gives_of (by simp only [execOp, ho]; rfl) hv, hK⟩
    · obtain ⟨k, a, b, hx, hy, hb, hK⟩ := divK_of h
      exact ⟨_, gives_of (by simp only [execOp, ho]; rfl) (fun w => by simp [eqGuard, hx, hy, binOp, Op.intDiv, hb]), hK⟩
    · obtain ⟨k, a, b, hx, hy, hb, hK⟩ := divK_of h
      exact ⟨_, gives_of (by simp only [execOp, ho]; rfl) (fun w => by simp [eqGuard, hx, hy, binOp, Op.intDiv, hb]), hK⟩
    · obtain ⟨k, a, k', b, hx, hy, hb, hK⟩ := shK_of h
      exact ⟨_, gives_of (by simp only [execOp, ho]; rfl) (fun w => by simp [eqGuard, hx, hy, binOp, Op.shift, show ¬ b < 0 by omega]), hK⟩
    · obtain ⟨k, a, k', b, hx, hy, hb, hK⟩ := shK_of h
      exact ⟨_, gives_of (by simp only [execOp, ho]; rfl) (fun w => by simp [eqGuard, hx, hy, binOp, Op.shift, show ¬ b < 0 by omega]), hK⟩
    · split at h
      · obtain ⟨a, b, hx, hy, hb, hK⟩ := catK_of h
        have hb' : ¬ ((a.size + b.size : Nat) : Int) > IntKind.i64.max := by
          have : IntKind.i64.max = 9223372036854775807 := by decide
          omega
        exact ⟨_, gives_of (by simp only [execOp, ho]; rfl) (fun w => by simp only [eqGuard, hx, hy, binOp, Op.stringOp, if_neg hb']; simp), hK⟩
      · exact pvK_gives h
    · exact pvK_gives h
  case unOp => exact pvK_gives h
  case convert => exact pvK_gives h
  case makeInterface => exact pvK_gives h
  case makeFunc => exact pvK_gives h
  case fieldAddr => exact pvK_gives h
  case field => exact pvK_gives h
  case extract => exact pvK_gives h
  case typeAssert =>
    obtain ⟨v, hv, hK⟩ := opP_gives h
    exact ⟨v, gives_of (by simp only [execOp, ho]) hv, hK⟩
  case indexAddr t x i =>
    split at h
    · rename_i e hu
      split at h
      · rename_i base len cap hx
        split at h
        · rename_i k i' hi
          obtain ⟨ie, hie, a, rfl, hb, hK⟩ := szK_of h
          refine ⟨_, gives_of (by simp only [execOp, ho]; rfl) (fun w => ?_), hK⟩
          simp [Instr.indexAt, hx, hi, asIntOf, run_underlying hu, hb, sizeOf, run_typeInfo w hie]
        · exact h.elim
      · exact h.elim
    · rename_i len e hu
      split at h
      · rename_i a hx
        split at h
        · rename_i k i' hi
          obtain ⟨ie, hie, hb, hK⟩ := szK_of h
          refine ⟨_, gives_of (by simp only [execOp, ho]; rfl) (fun w => ?_), hK⟩
          simp [Instr.indexAt, hx, hi, asIntOf, run_underlying hu, hb, sizeOf, run_typeInfo w hie, Instr.sureAddr]
        · exact h.elim
      · exact h.elim
    · exact h.elim
  case index t x i =>
    split at h
    · rename_i hu
      split at h
      · rename_i s hx
        split at h
        · rename_i k i' hi
          obtain ⟨b, ⟨h0, hb⟩, hK⟩ := h
          refine ⟨_, gives_of (by simp only [execOp, ho]; rfl) (fun w => ?_), hK⟩
          simp [Instr.index, hx, hi, asIntOf, run_underlying hu, h0, hb]
        · exact h.elim
      · exact h.elim
    · exact pvK_gives h
  case slice t x lo hi mx =>
    split at h
    · rename_i e hu
      split at h
      · rename_i a len cap hx
        split at h
        · obtain ⟨l, hl, h⟩ := optEv_of h
          obtain ⟨r, hr, h⟩ := optEv_of h
          obtain ⟨ie, hie, hb, hK⟩ := szK_of h
          refine ⟨_, gives_of (by simp only [execOp, ho]; rfl) (fun w => ?_), hK⟩
          have hsb := sliceBounds_run (P := P) (isS := true) (len := len) (cap := cap) (w := w) hl hr hb
          obtain ⟨h0, h1, h2⟩ := hb
          have e1 : (cap = l.toNat) = ((cap : Int) = l) := propext ⟨fun h => by omega, fun h => by omega⟩
          simp [Instr.sliceAt, Instr.slice, hx, run_underlying hu, hsb, sizeOf, run_typeInfo w hie, e1]
        · obtain ⟨v, hv, hK⟩ := opP_gives h
          exact ⟨v, gives_of (by simp only [execOp, ho]) hv, hK⟩
      · exact h.elim
    · rename_i hu
      split at h
      · rename_i s hx
        split at h
        · obtain ⟨l, hl, h⟩ := optEv_of h
          obtain ⟨r, hr, h⟩ := optEv_of h
          obtain ⟨hb, hK⟩ := h
          refine ⟨_, gives_of (by simp only [execOp, ho]; rfl) (fun w => ?_), hK⟩
          have hsb := sliceBounds_run (P := P) (isS := false) (len := s.size) (cap := s.size) (w := w) hl hr hb
          simp [Instr.sliceAt, Instr.slice, hx, run_underlying hu, hsb]
        · exact h.elim
      · exact h.elim
    · obtain ⟨v, hv, hK⟩ := opP_gives h
      exact ⟨v, gives_of (by simp only [execOp, ho]) hv, hK⟩
  case build t parts =>
    unfold buildK at h
    split at h
    · rename_i i hi
      split at h
      · rename_i z hz
        split at h
        · rename_i fs hu
          split at h
          · exact h.elim
          · rename_i hall
            obtain ⟨cs, hf, hK⟩ := fill_of P (fun j => (fs.map fun f => (f.offset, P.cellsOf f.type))[j]?) _ (fun j => by
              rw [Array.getElem?_map]
              cases fs[j]? <;> rfl) _ _ _ h
            refine ⟨_, gives_of (by simp only [execOp, ho]; rfl) (fun w => ?_), hK⟩
            have hp : (parts.map fun p => (p.1, ev n ρ p.2)).toList = parts.toList.map fun p => (p.1, ev n ρ p.2) := by simp
            simp only [Instr.build, zeroValue, Sem.run_bind, run_typeInfo w hi, Result.andThen, hz, Sem.run_pure, run_underlying hu, mapMA_run fs hall, hp]
            simp only [Array.toArray_toList] at hf
            rw [hf]
            rfl
        · rename_i len e hu
          obtain ⟨ie, hie, h⟩ := szK_of h
          obtain ⟨cs, hf, hK⟩ := fill_of P (fun j => some (j * ie.size, ie.size)) _ (fun j => rfl) _ _ _ h
          refine ⟨_, gives_of (by simp only [execOp, ho]; rfl) (fun w => ?_), hK⟩
          have hp : (parts.map fun p => (p.1, ev n ρ p.2)).toList = parts.toList.map fun p => (p.1, ev n ρ p.2) := by simp
          simp only [Instr.build, zeroValue, Sem.run_bind, run_typeInfo w hi, Result.andThen, hz, Sem.run_pure, run_underlying hu, sizeOf, run_typeInfo w hie, hp]
          simp only [Array.toArray_toList] at hf
          rw [hf]
          rfl
        · exact h.elim
      · exact h.elim
    · exact h.elim
  case call c =>
    split at h
    · rename_i hc
      split at h
      · rename_i t ts hat
        split at h
        · rename_i x xs hxs
          have hat' : c.argTypes[0]? = some t := by rw [← Array.getElem?_toList, hat]; rfl
          have hx' : (c.args.map (ev n ρ))[0]? = some (ev n ρ x) := by rw [Array.getElem?_map, ← Array.getElem?_toList, hxs]; rfl
          unfold lenK at h
          split at h
          · rename_i hu
            split at h
            · rename_i s hs
              exact ⟨_, fun w => by simp [execOp, ho, resolve, hc, invoke, builtin, Builtin.len_, hat', hx', hs, run_underlying hu, goInt], h⟩
            · exact h.elim
          · rename_i e hu
            split at h
            · rename_i s hs
              exact ⟨_, fun w => by simp [execOp, ho, resolve, hc, invoke, builtin, Builtin.len_, hat', hx', hs, run_underlying hu, goInt], h⟩
            · exact h.elim
          · exact h.elim
        · exact h.elim
      · exact h.elim
    · rename_i hc
      split at h
      · rename_i t ts hat
        split at h
        · rename_i x xs hxs
          have hat' : c.argTypes[0]? = some t := by rw [← Array.getElem?_toList, hat]; rfl
          have hx' : (c.args.map (ev n ρ))[0]? = some (ev n ρ x) := by rw [Array.getElem?_map, ← Array.getElem?_toList, hxs]; rfl
          unfold capK at h
          split at h
          · rename_i e hu
            split at h
            · rename_i s hs
              exact ⟨_, fun w => by simp [execOp, ho, resolve, hc, invoke, builtin, Builtin.cap_, hat', hx', hs, run_underlying hu, goInt], h⟩
            · exact h.elim
          · exact h.elim
        · exact h.elim
      · exact h.elim
    · exact h.elim
end
end Go.Fw


set_option autoImplicit false
namespace Go.Fw
def bodied (P : Program) (f : FuncId) : Bool := match P.funcs[f]? with
  | some fn => match fn.body with | some _ => true | none => false
  | none => false
def Plain (P : Program) : Prop := ∀ (f : FuncId) (fn : Func), P.funcs[f]? = some fn → (fn.name == "runtime.NumGoroutine") = false
def boxK (P : Program) (t : TypeId) (v : Value) (w : World) (K : Addr → World → Prop) : Prop := match shapeOf P t with
  | .one _ => plK v (newK w #[v] t K)
  | .agg _ => match v with | .agg cs => newK w cs t K | _ => False
def storK (P : Program) (t : TypeId) (a : Addr) (v : Value) (w : World) (K : World → Prop) : Prop := szK P t fun sz => match shapeOf P t with
  | .one _ => match Nat.beq sz 1 with | true => plK v (stK w a v K) | false => False
  | .agg _ => match v with
    | .agg cs => match Nat.beq cs.toList.length sz with | true => stsK w a cs.toList K | false => False
    | _ => False
def bsK (P : Program) (t : TypeId) (len : Nat) (parts : List (Nat × Value)) (w : World) (K : Value → World → Prop) : Prop := match P.underlying t with
  | some (.slice e) => match P.info? e with
    | some i => match i.zero with
      | some z => match Nat.ble (len * i.size) 1000 with
        | true => match Nat.beq (len * i.size) 0 with
          | true => fillS P (fun j => some (j * i.size, i.size, shapeOf P e)) [] parts fun cs => newK w cs.toArray e fun a w' => K (.slice (some a) len len) w'
          | false => match Nat.beq z.cells.toList.length i.size with
            | true => fillS P (fun j => some (j * i.size, i.size, shapeOf P e)) ((List.replicate len z.cells.toList).flatten) parts fun cs => newK w cs.toArray e fun a w' => K (.slice (some a) len len) w'
            | false => False
        | false => False
      | none => False
    | none => False
  | _ => False
def rsh (P : Program) (t : TypeId) : RShape := match P.underlying t with
  | some (.tuple ts) => match ts.toList with
    | [] => .single (.one .raw)
    | l => .tup (l.map (shapeOf P))
  | _ => .single (shapeOf P t)
def elSh (P : Program) (t : TypeId) : Shape := match P.underlying t with | some (.map _ e) => shapeOf P e | _ => .one .raw
def nextSK (it : Value) (w : World) (Kd : World → Prop) (K : Int → Int → World → Prop) : Prop :=
  ∃ (r : Nat) (s : ByteArray) (pos : Nat), (it = .pointer (some ⟨r, 0, none⟩) ∧ w.heap[r]? = some (.stringIter s pos)) ∧
    (pos < s.size → K pos (Utf8.decode s pos).1 { w with heap := w.heap.setIfInBounds r (.stringIter s (pos + (Utf8.decode s pos).2)) }) ∧ (¬ pos < s.size → Kd w)
noncomputable def vcEff (P : Program) (n : Nat) (ρ : Fr) (o : Oper) (w : World) (K : Value → World → Prop) : Prop := match o.op with
  | .load t x => match ev n ρ x with | .pointer (some a) => ldK P t w a fun v => K v w | _ => False
  | .store t x y => match ev n ρ x with | .pointer (some a) => storK P t a (ev n ρ y) w fun w' => K undef w' | _ => False
  | .alloc t => match P.info? t with
    | some i => match i.zero with | some z => newK w z.cells t fun a w' => K (.pointer (some a)) w' | none => False
    | none => False
  | .box t x => boxK P t (ev n ρ x) w fun a w' => K (.pointer (some a)) w'
  | .buildSlice t len parts => bsK P t len (parts.toList.map fun p => (p.1, ev n ρ p.2)) w K
  | .convert s d x => runS P (rsh P o.type) (convert s d (ev n ρ x)) w K
  | .makeMap t r => runS P (rsh P t) (Instr.makeMap t (r.map (ev n ρ))) w K
  | .makeSlice t l c => runS P (rsh P t) (Instr.makeSlice t (ev n ρ l) (ev n ρ c)) w K
  | .lookup t x i ok => runS P (okShape (elSh P t) ok) (Instr.lookup t (ev n ρ x) (ev n ρ i) ok) w K
  | .mapUpdate t m k x => runU P (Instr.mapUpdate t (ev n ρ m) (ev n ρ k) (ev n ρ x)) w fun w' => K undef w'
  | .insert t m k x => runU P (Instr.mapUpdate t (ev n ρ m) (ev n ρ k) (ev n ρ x)) w fun w' => K undef w'
  | .mapEntry t m k => runS P (.single (.one .raw)) (Instr.mapEntry t (ev n ρ m) (ev n ρ k)) w K
  | .entryStore t m k x => runU P (Instr.entryStore t (ev n ρ m) (ev n ρ k) (ev n ρ x)) w fun w' => K undef w'
  | .range t x => runS P (.single (.one .ptr)) (Instr.range t (ev n ρ x)) w K
  | .next it s => match s with
    | true => nextSK (ev n ρ it) w (fun w' => K (.tuple #[.bool false]) w') (fun p c w' => K (.tuple #[.bool true, .int .i64 p, .int .i32 c]) w')
    | false => runS P (.single (.one .raw)) (Instr.next (ev n ρ it) false o.type) w K
  | .call c => match c.callee with
    | .value x => match x with
      | .func f => match bodied P f with
        | true => CallS P f (c.args.toList.map (ev n ρ)).toArray (rsh P o.type) w K
        | false => runS P (rsh P o.type) (extV P f (c.args.toList.map (ev n ρ)).toArray) w K
      | _ => CallV P (ev n ρ x) (c.args.toList.map (ev n ρ)).toArray w (RetK (rsh P o.type) K)
    | .invoke r name => InvK P (ev n ρ r) name (c.args.toList.map (ev n ρ)).toArray w (RetK (rsh P o.type) K)
    | .builtin b => runS P (rsh P o.type) (bltV b c.argTypes o.type (c.args.toList.map (ev n ρ)).toArray) w K
  | _ => False
where
  extV (P : Program) (f : FuncId) (args : Array Value) : Sem Value := do
    match ← callFunc f args with
    | .value v => pure v
    | _ => stuck ""
  bltV (b : Builtin) (tys : Array TypeId) (t : TypeId) (args : Array Value) : Sem Value := match b with
    | .append => Builtin.append_ tys t args
    | .clear => Builtin.clear_ tys t args
    | .copy => Builtin.copy_ tys t args
    | .delete => Builtin.delete_ tys t args
    | .len => Builtin.len_ tys t args
    | .max => Builtin.max_ tys t args
    | .min => Builtin.min_ tys t args
    | _ => stuck ""
def fence (rd : Option Nat) : Fence := { Fence.wide with round := rd }
section
variable {P : Program} {n : Nat} {ρ : Fr} {o : Oper}
def Upon (P : Program) (o : Oper) (ρe : Operand → Value) (w : World) (K : Value → World → Prop) : Prop :=
  (∃ v w', (execOp ρe o).run P w = .ok (.value v) w' ∧ K v w') ∨
  (∃ w', (execOp ρe o).run P w = .ok .skip w' ∧ K undef w') ∨
  (∃ f args w', (execOp ρe o).run P w = .ok (.enter f args) w' ∧ Calls P f args w' (fun e w'' => ∃ v, e = .returned v ∧ K v w'')) ∨
  (∃ l f tmps assign body w', (execOp ρe o).run P w = .ok (.round l f tmps assign body) w' ∧ RoundIn Fence.wide 0 P l f tmps assign body w' fun e w'' => ∃ b, e = .returned (.bool b) ∧ K (.bool b) w'')
theorem Upon.mono {ρe : Operand → Value} {w : World} {K K' : Value → World → Prop} (h : Upon P o ρe w K) (hK : ∀ v w, K v w → K' v w) : Upon P o ρe w K' := by
  rcases h with ⟨v, w', he, h⟩ | ⟨w', he, h⟩ | ⟨f, args, w', he, h⟩ | ⟨l, f, tmps, asx, body, w', he, h⟩
  · exact .inl ⟨v, w', he, hK _ _ h⟩
  · exact .inr (.inl ⟨w', he, hK _ _ h⟩)
  · exact .inr (.inr (.inl ⟨f, args, w', he, h.mono fun e w'' ⟨v, hv, hk⟩ => ⟨v, hv, hK _ _ hk⟩⟩))
  · exact .inr (.inr (.inr ⟨l, f, tmps, asx, body, w', he, h.mono fun e w'' ⟨b, hb, hk⟩ => ⟨b, hb, hK _ _ hk⟩⟩))
theorem Upon.wpIn {rd : Option Nat} {m : Nat} {a : Act} {w : World} {next : Act → World → Prop} {Q : Exit → Act → World → Prop} (hnd : ∀ c, o.op ≠ .defer c)
    (h : Upon P o a.eval w fun v w' => next (a.put o.dst v) w') : o.wpIn (fence rd) m P a w next Q := by
  refine ⟨fun _ _ => trivial, ?_⟩
  have hF : (fence rd).round = rd := rfl
  rw [hF, Oper.semAt_eq rd a.eval o hnd]
  rcases h with ⟨v, w', he, hK⟩ | ⟨w', he, hK⟩ | ⟨f, args, w', he, hc⟩ | ⟨l, f, tmps, asx, body, w', he, hc⟩
  · rw [he]; exact hK
  · rw [he]; exact hK
  · rw [he]
    refine ⟨fun h => (by simp [fence, Fence.wide] at h), ?_⟩
    have h1 : CallsIn Fence.wide (m - 1) P f args w' (fun e w'' => ∃ v, e = .returned v ∧ next (a.put o.dst v) w'') := callsIn_wide.2 hc
    have h2 : CallsIn (fence rd) (m - 1) P f args w' (fun e w'' => ∃ v, e = .returned v ∧ next (a.put o.dst v) w'') := h1
    refine h2.mono fun e w'' he => ?_
    obtain ⟨v, rfl, hK⟩ := he
    exact hK
  · rw [he]
    refine ⟨fun h => (by simp [fence, Fence.wide] at h), ?_⟩
    have h2 : RoundIn (fence rd) (m - 1) P l f tmps asx body w' fun e w'' => ∃ b, e = .returned (.bool b) ∧ next (a.put o.dst (.bool b)) w'' :=
      ⟨trivial, fun c cs _ => hc.2 c cs (room_wide _)⟩
    refine h2.mono fun e w'' he => ?_
    obtain ⟨b, rfl, hK⟩ := he
    exact hK
theorem shape_one {t : TypeId} {d : TypeDesc} {g : Tag} (hu : P.underlying t = some d) (hs : shapeOf P t = .one g) (w : World) : (isAgg t).run P w = .ok false w := by
  unfold shapeOf at hs
  simp only [hu] at hs
  cases d <;> simp_all [isAgg, run_underlying hu]
theorem shape_agg {t : TypeId} {ts : List Tag} (hs : shapeOf P t = .agg ts) (w : World) : (isAgg t).run P w = .ok true w := by
  unfold shapeOf at hs
  cases hu : P.underlying t with
  | none => simp [hu] at hs
  | some d =>
    simp only [hu] at hs
    cases d <;> simp_all [isAgg, run_underlying hu]
theorem loadCells_run {w : World} {a : Addr} : ∀ (vs : List Value) (i : Nat) (acc : Array Value), cellsFrom w a vs i →
    (loadCellsFrom a i vs.length acc).run P w = .ok (acc ++ vs.toArray) w
  | [], i, acc, _ => by simp [loadCellsFrom]
  | v :: vs, i, acc, h => by
    obtain ⟨hv, h⟩ := cellsFrom_cons.1 h
    have hl : (load (a.add i)).run P w = .ok v w := by simp [load, Sem.run, hv]
    simp only [List.length_cons, loadCellsFrom, Sem.run_bind, hl, Result.andThen]
    rw [loadCells_run vs (i + 1) (acc.push v) h]
    simp
theorem ldK_run {t : TypeId} {w : World} {a : Addr} {K : Value → Prop} (h : ldK P t w a K) : ∃ v, (loadVar t a).run P w = .ok v w ∧ K v := by
  unfold ldK at h
  split at h
  · rename_i d hu
    unfold ldS at h
    have one : ∀ {v : Value} {g : Tag}, shapeOf P t = .one g → w.cell? a = some v → (loadVar t a).run P w = .ok v w := by
      intro v g hs hc
      simp [loadVar, shape_one hu hs, load, Sem.run, hc]
    split at h
    · obtain ⟨x, hc, h⟩ := h; exact ⟨_, one (by assumption) hc, h⟩
    · obtain ⟨x, hc, h⟩ := h; exact ⟨_, one (by assumption) hc, h⟩
    · obtain ⟨x, hc, h⟩ := h; exact ⟨_, one (by assumption) hc, h⟩
    · obtain ⟨x, hc, h⟩ := h; exact ⟨_, one (by assumption) hc, h⟩
    · obtain ⟨x, y, z, hc, h⟩ := h; exact ⟨_, one (by assumption) hc, h⟩
    · obtain ⟨x, hc, h⟩ := h; exact ⟨_, one (by assumption) hc, h⟩
    · obtain ⟨x, hc, h⟩ := h; exact ⟨_, one (by assumption) hc, h⟩
    · rename_i ts hs
      obtain ⟨i, hi, h⟩ := szK_of h
      split at h
      · rename_i hl
        have hl := Nat.eq_of_beq_eq_true hl
        obtain ⟨vs, hvl, hc, hK⟩ := exTags_ex h
        refine ⟨_, ?_, hK⟩
        have := loadCells_run (P := P) vs 0 #[] hc
        simp only [loadVar, Sem.run_bind, shape_agg hs, Result.andThen, if_true, sizeOf, run_typeInfo w hi, Sem.run_pure, loadCells]
        rw [← hl, ← hvl, this]
        simp
      · exact h.elim
  · exact h.elim
theorem store_run {w : World} {a : Addr} {v : Value} (hp : plainV v = true) (hc : (w.cell? a).isSome = true) (hf : w.frozen? a = false) :
    (store a v).run P w = .ok () (w.setCell a v) := by
  obtain ⟨u, hu⟩ := Option.isSome_iff_exists.1 hc
  cases v <;> simp_all [store, Sem.run, plainV]
theorem storeCells_run {a : Addr} {K : World → Prop} : ∀ (vs : List Value) (i : Nat) (w : World), stsFrom a vs K i w → ∃ w', (storeCells a vs i).run P w = .ok () w' ∧ K w'
  | [], i, w, h => ⟨w, by simp [storeCells], h⟩
  | v :: vs, i, w, h => by
    obtain ⟨⟨⟨hc, hf⟩, h⟩, hp⟩ := plK_iff h
    obtain ⟨w', hr, hK⟩ := storeCells_run vs (i + 1) _ h
    exact ⟨w', by simp [storeCells, store_run hp hc hf, hr], hK⟩
theorem storK_run {t : TypeId} {w : World} {a : Addr} {v : Value} {K : World → Prop} (h : storK P t a v w K) : ∃ w', (storeVar t a v).run P w = .ok () w' ∧ K w' := by
  unfold storK at h
  obtain ⟨i, hi, h⟩ := szK_of h
  split at h
  · split at h
    · rename_i hs
      have hs := Nat.eq_of_beq_eq_true hs
      obtain ⟨⟨⟨hc, hf⟩, h⟩, hp⟩ := plK_iff h
      refine ⟨_, ?_, h⟩
      have hadd : a.add 0 = a := by simp [Addr.add]
      simp [storeVar, plain_cells hp, sizeOf, run_typeInfo w hi, hs, storeCells, hadd, store_run hp hc hf]
    · exact h.elim
  · rcases v with _ | _ | _ | _ | _ | _ | _ | _ | _ | _ | _ | _ | _ | cs | _ <;> first | exact h.elim | skip
    simp only at h
    split at h
    · rename_i hs
      have hs := Nat.eq_of_beq_eq_true hs
      obtain ⟨w', hr, hK⟩ := storeCells_run (P := P) cs.toList 0 w h
      refine ⟨w', ?_, hK⟩
      have hsz : cs.size = i.size := by simpa using hs
      simp [storeVar, Value.cells, sizeOf, run_typeInfo w hi, hsz, hr]
    · exact h.elim
theorem runS_run {r : RShape} {s : Sem Value} {w : World} {K : Value → World → Prop} (h : runS P r s w K) : ∃ v w', s.run P w = .ok v w' ∧ K v w' := by
  obtain ⟨w', h⟩ := h
  obtain ⟨v, hr, hK⟩ := exR_ex h
  exact ⟨v, w', hr, hK⟩
theorem newRow_run (e : TypeId) (cs : Array Value) (w : World) : (newRow e cs).run P w = .ok ⟨w.heap.size, 0, none⟩ (w.alloc (.cells cs e)) := by
  rfl
theorem upon_v {s : Sem Value} {w w' : World} {v : Value} {K : Value → World → Prop} (he : execOp (ev n ρ) o = (do pure (Next.value (← s)))) (hr : s.run P w = .ok v w') (hK : K v w') :
    Upon P o (ev n ρ) w K := .inl ⟨v, w', by rw [he]; exact run_v hr, hK⟩
theorem upon_u {s : Sem Unit} {w w' : World} {K : Value → World → Prop} (he : execOp (ev n ρ) o = (do s; pure Next.skip)) (hr : s.run P w = .ok () w') (hK : K undef w') :
    Upon P o (ev n ρ) w K := .inr (.inl ⟨w', by rw [he]; simp [hr, Result.andThen], hK⟩)
theorem zeroRow (len sz : Nat) (z : List Value) (hz : z.length = sz) (hpos : len * sz ≠ 0) :
    ((Array.range (len * sz)).map fun i => z.toArray[i % sz]!).toList = (List.replicate len z).flatten := by
  subst hz
  have hp : 0 < z.length := by
    rcases Nat.eq_zero_or_pos z.length with h | h
    · rw [h] at hpos; simp at hpos
    · exact h
  apply List.ext_getElem
  · simp [Nat.mul_comm]
  · intro i h1 h2
    simp at h1
    have hm : i % z.length < z.length := Nat.mod_lt _ hp
    have : ∀ (len : Nat) (i : Nat) (h : i < (List.replicate len z).flatten.length), (List.replicate len z).flatten[i] = z[i % z.length]'(Nat.mod_lt _ hp) := by
      intro len
      induction len with
      | zero => intro i h; simp at h
      | succ k ih =>
        intro i h
        simp only [List.replicate_succ, List.flatten_cons]
        by_cases hi : i < z.length
        · rw [List.getElem_append_left hi]
          congr 1; exact (Nat.mod_eq_of_lt hi).symm
        · rw [List.getElem_append_right (by omega)]
          rw [ih]
          congr 1
          conv => rhs; rw [Nat.mod_eq_sub_mod (by omega)]
    rw [this]
    simp [hm]
theorem vcEff_upon (hP : Plain P) {w : World} {K : Value → World → Prop} (h : vcEff P n ρ o w K) : Upon P o (ev n ρ) w K := by
  cases ho : o.op <;> simp only [vcEff, ho] at h
  case load t x =>
    split at h
    · rename_i a hx
      obtain ⟨v, hr, hK⟩ := ldK_run h
      exact upon_v (s := Instr.loadAt t (ev n ρ x)) (by simp only [execOp, ho]) (by simp [Instr.loadAt, hx, Instr.sureAddr, hr]) hK
    · exact h.elim
  case store t x y =>
    split at h
    · rename_i a hx
      obtain ⟨w', hr, hK⟩ := storK_run h
      exact upon_u (s := Instr.storeAt t (ev n ρ x) (ev n ρ y)) (by simp only [execOp, ho]) (by simp [Instr.storeAt, hx, Instr.sureAddr, hr]) hK
    · exact h.elim
  case alloc t =>
    split at h
    · rename_i i hi
      split at h
      · rename_i z hz
        exact upon_v (s := Instr.alloc t true (.tuple #[])) (by simp only [execOp, ho]) (by simp [Instr.alloc, zeroValue, run_typeInfo w hi, hz, newVar, newRow_run]) h
      · exact h.elim
    · exact h.elim
  case box t x =>
    unfold boxK at h
    split at h
    · obtain ⟨h, hp⟩ := plK_iff h
      exact upon_v (s := Instr.box t (ev n ρ x)) (by simp only [execOp, ho]) (by simp [Instr.box, newVar, newRow_run, plain_cells hp]) h
    · split at h
      · rename_i cs hx
        exact upon_v (s := Instr.box t (ev n ρ x)) (by simp only [execOp, ho]) (by simp [Instr.box, newVar, newRow_run, hx, Value.cells]) h
      · exact h.elim
  case buildSlice t len parts =>
    unfold bsK at h
    split at h
    · rename_i e hu
      split at h
      · rename_i i hi
        split at h
        · rename_i z hz
          split at h
          · rename_i hle
            have hle := Nat.le_of_ble_eq_true hle
            have hlim : ¬ (len * i.size > 2 ^ 24) := by omega
            have hp : (parts.map fun p => (p.1, ev n ρ p.2)).toList = parts.toList.map fun p => (p.1, ev n ρ p.2) := by simp
            split at h
            · rename_i h0
              have h0 := Nat.eq_of_beq_eq_true h0
              obtain ⟨cs, hf, hK⟩ := fill_of P (fun j => some (j * i.size, i.size)) _ (fun j => rfl) _ _ _ h
              refine upon_v (s := Instr.buildSlice t len (parts.map fun p => (p.1, ev n ρ p.2))) (by simp only [execOp, ho]) ?_ hK
              have hz0 : ((Array.range (len * i.size)).map fun j => (#[] : Array Value)[j % (#[] : Array Value).size]!) = #[] := by rw [h0]; simp
              simp only [Instr.buildSlice, Sem.run_bind, run_underlying hu, Result.andThen, sizeOf, run_typeInfo w hi, Sem.run_pure, hp, if_neg hlim, if_pos h0, hz0]
              rw [hf]
              simp only [Sem.run_bind, newRow_run, Result.andThen, Sem.run_pure]
            · rename_i h0
              have h0 : len * i.size ≠ 0 := by
                intro hc
                rw [hc] at h0
                exact absurd h0 (by decide)
              split at h
              · rename_i hzs
                have hzs := Nat.eq_of_beq_eq_true hzs
                obtain ⟨cs, hf, hK⟩ := fill_of P (fun j => some (j * i.size, i.size)) _ (fun j => rfl) _ _ _ h
                refine upon_v (s := Instr.buildSlice t len (parts.map fun p => (p.1, ev n ρ p.2))) (by simp only [execOp, ho]) ?_ hK
                have hz1 : ((Array.range (len * i.size)).map fun j => z.cells[j % z.cells.size]!) = ((List.replicate len z.cells.toList).flatten).toArray := by
                  apply Array.ext'
                  have := zeroRow len i.size z.cells.toList hzs h0
                  simp only [Array.toArray_toList] at this
                  have hsz : z.cells.size = i.size := by simpa using hzs
                  rw [hsz]
                  simpa using this
                simp only [Instr.buildSlice, Sem.run_bind, run_underlying hu, Result.andThen, sizeOf, run_typeInfo w hi, Sem.run_pure, hp, if_neg hlim, if_neg h0, zeroValue, hz, hz1]
                rw [hf]
                simp only [Sem.run_bind, newRow_run, Result.andThen, Sem.run_pure]
              · exact h.elim
          · exact h.elim
        · exact h.elim
      · exact h.elim
    · exact h.elim
  case convert s d x =>
    obtain ⟨v, w', hr, hK⟩ := runS_run h
    exact upon_v (by simp only [execOp, ho]) hr hK
  case makeMap t r =>
    obtain ⟨v, w', hr, hK⟩ := runS_run h
    exact upon_v (by simp only [execOp, ho]) hr hK
  case makeSlice t l c =>
    obtain ⟨v, w', hr, hK⟩ := runS_run h
    exact upon_v (by simp only [execOp, ho]) hr hK
  case lookup t x i ok =>
    obtain ⟨v, w', hr, hK⟩ := runS_run h
    exact upon_v (by simp only [execOp, ho]) hr hK
  case mapUpdate t m k x =>
    obtain ⟨w', hr, hK⟩ := h
    exact upon_u (by simp only [execOp, ho]) hr hK
  case insert t m k x =>
    obtain ⟨w', hr, hK⟩ := h
    exact upon_u (by simp only [execOp, ho]) hr hK
  case mapEntry t m k =>
    obtain ⟨v, w', hr, hK⟩ := runS_run h
    exact upon_v (by simp only [execOp, ho]) hr hK
  case entryStore t m k x =>
    obtain ⟨w', hr, hK⟩ := h
    exact upon_u (by simp only [execOp, ho]) hr hK
  case range t x =>
    obtain ⟨v, w', hr, hK⟩ := runS_run h
    exact upon_v (by simp only [execOp, ho]) hr hK
  case next it s =>
    split at h
    · obtain ⟨r, s, pos, ⟨hi, hh⟩, hlt, hge⟩ := h
      by_cases hp : pos < s.size
      · refine upon_v (s := Instr.next (ev n ρ it) true o.type) (by simp only [execOp, ho]) ?_ (hlt hp)
        simp [Instr.next, hi, getObj, setObj, Sem.run, hh, hp, Result.andThen, goInt]
      · refine upon_v (s := Instr.next (ev n ρ it) true o.type) (by simp only [execOp, ho]) ?_ (hge hp)
        simp [Instr.next, hi, getObj, Sem.run, hh, hp, Result.andThen]
    · obtain ⟨v, w', hr, hK⟩ := runS_run h
      exact upon_v (by simp only [execOp, ho]) hr hK
  case call c =>
    have hargs : (c.args.toList.map (ev n ρ)).toArray = c.args.map (ev n ρ) := by apply Array.ext'; simp
    simp only [hargs] at h
    split at h
    · rename_i x hc
      split at h
      · rename_i f
        split at h
        · rename_i hb
          refine .inr (.inr (.inl ⟨f, c.args.map (ev n ρ), w, ?_, h.mono fun _ _ => RetK_ret⟩))
          unfold bodied at hb
          split at hb
          · rename_i fn hf
            split at hb
            · rename_i b hbd
              have hne : ¬ fn.name = "runtime.NumGoroutine" := by simpa using hP f fn hf
              simp [execOp, ho, resolve, hc, ev, Deferred.ofValue, invoke, callFunc, hf, hne, hbd]
            · cases hb
          · cases hb
        · obtain ⟨v, w', hr, hK⟩ := runS_run h
          refine .inl ⟨v, w', ?_, hK⟩
          unfold vcEff.extV at hr
          have he : (execOp (ev n ρ) o).run P w = (callFunc f (c.args.map (ev n ρ))).run P w := by
            simp [execOp, ho, resolve, hc, ev, Deferred.ofValue, invoke]
          rw [he]
          rw [Sem.run_bind] at hr
          cases hcf : (callFunc f (c.args.map (ev n ρ))).run P w with
          | halt x w₁ => rw [hcf] at hr; simp [Result.andThen] at hr
          | ok nx w₁ =>
            rw [hcf] at hr
            simp only [Result.andThen] at hr
            split at hr
            · simp at hr; obtain ⟨rfl, rfl⟩ := hr; rfl
            · simp [stuck, Sem.run] at hr
      · rename_i hnf
        generalize hfv : ev n ρ x = fv at h
        unfold CallV at h
        split at h
        · rename_i f first cap
          obtain ⟨hr, hcall⟩ := h
          refine .inr (.inr (.inl ⟨f, _, w, ?_, hcall.mono fun _ _ => RetK_ret⟩))
          rw [← hr]
          simp [execOp, ho, resolve, hc, hfv, Deferred.ofValue, invoke]
        · rename_i l first cap
          obtain ⟨f, tmps, asx, body, w', hr, hround⟩ := h
          refine .inr (.inr (.inr ⟨l, f, tmps, asx, body, w', ?_, hround.mono fun e w'' ⟨b, hb, hk⟩ => ⟨b, hb, by obtain ⟨v, hv, hK⟩ := RetK_ret hk; cases hv; exact hK⟩⟩))
          rw [← hr]
          simp [execOp, ho, resolve, hc, hfv, Deferred.ofValue, invoke]
        · exact h.elim
    · rename_i r name hc
      obtain ⟨f, x, hr, hcall⟩ := h
      refine .inr (.inr (.inl ⟨f, _, w, ?_, hcall.mono fun _ _ => RetK_ret⟩))
      rw [← hr]
      have hx : (#[ev n ρ r] ++ c.args.map (ev n ρ))[0]? = some (ev n ρ r) := by rw [Array.getElem?_append_left (by simp)]; rfl
      have hex : (#[ev n ρ r] ++ c.args.map (ev n ρ)).extract 1 (#[ev n ρ r] ++ c.args.map (ev n ρ)).size = c.args.map (ev n ρ) := by
        apply Array.ext'; simp [List.take_of_length_le]
      simp only [execOp, ho, resolve, hc, invoke, pure_bind, hx, hex]
    · rename_i b hc
      obtain ⟨v, w', hr, hK⟩ := runS_run h
      refine .inl ⟨v, w', ?_, hK⟩
      simp only [execOp, ho, resolve, hc, invoke, pure_bind]
      cases b <;> first | exact run_v hr | (simp [vcEff.bltV, stuck] at hr)
end
end Go.Fw


set_option autoImplicit false
namespace Go.Fw
noncomputable def vcOp (P : Program) (n : Nat) (ρ : Fr) (o : Oper) (w : World) (K : Value → World → Prop) : Prop := match isPure P o.op with
  | true => vcPure P n ρ o fun v => K v w
  | false => vcEff P n ρ o w K
def guardV (n : Nat) (ops : Array Oper) (o : Oper) (ρ : Fr) (yes no : Fr → Prop) : Prop := match o.guard with
  | none => yes ρ
  | some (j, want) => match ops[j]? with
    | none => no ρ
    | some oj => match oj.dst with
      | none => no ρ
      | some d => match Nat.blt d n with
        | false => no ρ
        | true => match ρ d with
          | .bool b => match want with
            | true => bsel b (yes (upd ρ d (.bool true))) (no (upd ρ d (.bool false)))
            | false => bsel b (no (upd ρ d (.bool true))) (yes (upd ρ d (.bool false)))
          | _ => no ρ
section
variable {P : Program} {n : Nat} {ρ : Fr} {o : Oper}
theorem isPure_noDefer {x : Op} (h : isPure P x = true) (c : Call) : x ≠ .defer c := by rintro rfl; simp [isPure] at h
theorem vcEff_noDefer {w : World} {K : Value → World → Prop} (h : vcEff P n ρ o w K) (c : Call) : o.op ≠ .defer c := by
  intro hc; simp only [vcEff, hc] at h
theorem vcOp_upon (hP : Plain P) {w : World} {K : Value → World → Prop} (h : vcOp P n ρ o w K) : Upon P o (ev n ρ) w K ∧ ∀ c, o.op ≠ .defer c := by
  unfold vcOp at h
  split at h
  · rename_i hp
    obtain ⟨v, hg, hK⟩ := vcPure_gives hp h
    exact ⟨.inl ⟨v, w, hg w, hK⟩, isPure_noDefer hp⟩
  · exact ⟨vcEff_upon hP h, vcEff_noDefer h⟩
theorem yielded_bool {ops : Array Oper} {a : Act} {j : Nat} {oj : Oper} {d : Nat} {v : Value} (hj : ops[j]? = some oj) (hd : oj.dst = some d) (hv : a.tmps[d]? = some v) :
    yielded ops a.tmps j = match v with | .bool b => some b | _ => none := by
  unfold yielded
  simp only [hj, Option.bind_some, hd, hv]
  cases v <;> rfl
theorem guardV_of {ops : Array Oper} {a : Act} {yes no : Fr → Prop} (hr : Rep n a ρ) (h : guardV n ops o ρ yes no) :
    (Region.wanted o (yielded ops a.tmps) = true ∧ ∃ ρ', Rep n a ρ' ∧ yes ρ') ∨ (Region.wanted o (yielded ops a.tmps) = false ∧ ∃ ρ', Rep n a ρ' ∧ no ρ') := by
  unfold guardV at h
  unfold Region.wanted
  split at h
  · rename_i hg; exact .inl ⟨by simp [hg], ρ, hr, h⟩
  · rename_i j want hg
    simp only [hg]
    split at h
    · rename_i hj
      exact .inr ⟨by simp [yielded, hj], ρ, hr, h⟩
    · rename_i oj hj
      split at h
      · rename_i hd
        exact .inr ⟨by simp [yielded, hj, hd], ρ, hr, h⟩
      · rename_i d hd
        split at h
        · rename_i hlt
          have hge : n ≤ d := by
            rcases Nat.lt_or_ge d n with h' | h'
            · rw [show Nat.blt d n = true from by simpa [Nat.blt_eq] using h'] at hlt; cases hlt
            · exact h'
          have hno : a.tmps[d]? = none := by simp [hr.size, hge]
          exact .inr ⟨by simp [yielded, hj, hd, hno], ρ, hr, h⟩
        · rename_i hlt
          have hlt : d < n := by simpa [Nat.blt_eq] using hlt
          have hget := hr.get d hlt
          split at h
          · rename_i b hb
            rw [hb] at hget
            rw [yielded_bool hj hd hget]
            split at h <;> cases b
            · exact .inr ⟨rfl, _, hr.set d _ hb, h⟩
            · exact .inl ⟨rfl, _, hr.set d _ hb, h⟩
            · exact .inl ⟨rfl, _, hr.set d _ hb, h⟩
            · exact .inr ⟨rfl, _, hr.set d _ hb, h⟩
          · rename_i hnb
            rw [yielded_bool hj hd hget]
            refine .inr ⟨?_, ρ, hr, h⟩
            generalize ρ d = v at *
            cases v <;> first | rfl | exact absurd rfl (hnb _)
end
noncomputable def vcList (P : Program) (n : Nat) (ops : Array Oper) (l : List Oper) (K : Fr → World → Prop) : Fr → World → Prop :=
  List.rec (motive := fun _ => Fr → World → Prop) K
    (fun o _ ih ρ w => guardV n ops o ρ (fun ρ => vcOp P n ρ o w fun v w' => ih (updO ρ o.dst v) w') (fun ρ => ih (updO ρ o.dst undef) w)) l
def Real (n : Nat) (D : List Deferred) (Fx : Nat → Option Value) (K : Fr → World → Prop) (a : Act) (w : World) : Prop :=
  ∃ ρ, Rep n a ρ ∧ a.defers = D ∧ (∀ t v, Fx t = some v → a.tmps[t]? = some v) ∧ K ρ w
theorem fx_put {Fx : Nat → Option Value} {a : Act} (h : ∀ t v, Fx t = some v → a.tmps[t]? = some v) {d : Option Tmp} (hd : ∀ t, d = some t → Fx t = none) (u : Value) :
    ∀ t v, Fx t = some v → (a.put d u).tmps[t]? = some v := by
  intro t v hv
  cases d with
  | none => exact h t v hv
  | some d =>
    have hne : d ≠ t := fun hc => by
      have := hd d rfl
      rw [hc, hv] at this; cases this
    simp only [Act.put]
    rw [Array.getElem?_setIfInBounds_ne hne]
    exact h t v hv
theorem put_defers' (a : Act) (d : Option Tmp) (v : Value) : (a.put d v).defers = a.defers := by cases d <;> rfl
section
variable {P : Program} {n : Nat} {ops : Array Oper} {rd : Option Nat} {m : Nat} {Q : Exit → Act → World → Prop} {K : Fr → World → Prop} {D : List Deferred} {Fx : Nat → Option Value}
theorem vcList_sound (hP : Plain P) (hQ : ∀ a w, Real n D Fx K a w → Q .normal a w) : ∀ (l : List Oper) (k : Nat), (∀ j, l[j]? = ops[k + j]?) → (∀ o ∈ l, ∀ t, o.dst = some t → Fx t = none) → ∀ (a : Act) (w : World),
    Real n D Fx (vcList P n ops l K) a w → wpOpsIn (fence rd) m P ops Q (List.range' k l.length) a w
  | [], k, _, _, a, w, h => by
    obtain ⟨ρ, hr, hd, hF, h⟩ := h
    exact hQ a w ⟨ρ, hr, hd, hF, h⟩
  | o :: l, k, hl, hx, a, w, h => by
    obtain ⟨ρ, hr, hd, hF, h⟩ := h
    have hxo := hx o List.mem_cons_self
    change guardV n ops o ρ (fun ρ => vcOp P n ρ o w fun v w' => vcList P n ops l K (updO ρ o.dst v) w') (fun ρ => vcList P n ops l K (updO ρ o.dst undef) w) at h
    have h0 : ops[k]? = some o := by simpa using (hl 0).symm
    have hl' : ∀ j, l[j]? = ops[k + 1 + j]? := fun j => by have := hl (j + 1); simpa [Nat.add_assoc, Nat.add_comm 1 j] using this
    have ih := vcList_sound hP hQ l (k + 1) hl' (fun o ho => hx o (List.mem_cons_of_mem _ ho))
    simp only [List.length_cons, List.range'_succ, wpOpsIn, h0]
    rcases guardV_of hr h with ⟨hw, ρ', hr', h⟩ | ⟨hw, ρ', hr', h⟩
    · rw [if_pos hw]
      obtain ⟨hu, hnd⟩ := vcOp_upon hP h
      rw [← hr'.evalF] at hu
      exact Upon.wpIn hnd (hu.mono fun v w' hK => ih _ _ ⟨_, hr'.put _ _, by rw [put_defers']; exact hd, fx_put hF hxo _, hK⟩)
    · rw [if_neg (by simp [hw])]
      exact ⟨fun _ _ => trivial, ih _ _ ⟨_, hr'.put _ _, by rw [put_defers']; exact hd, fx_put hF hxo _, h⟩⟩
end
end Go.Fw


set_option autoImplicit false
namespace Go.Fw
def bfMask (o : Oper) (acc : List Nat) : Nat := o.after.toList.foldl (fun s e => match Region.binds .any e with | true => s ||| 2 ^ e.on ||| acc.getD e.on 0 | false => s) 0
noncomputable def bfs (l : List Oper) : List Nat → List Nat :=
  List.rec (motive := fun _ => List Nat → List Nat) (fun acc => acc) (fun o _ ih acc => ih (acc ++ [bfMask o acc])) l
noncomputable def bfOf (ops : Array Oper) : List Nat := bfs ops.toList []
def Yields1 (P : Program) (ops : Array Oper) (φ : World → Prop) (o : Oper) (v : Value) (a : Act) : Prop :=
  (Region.wanted o (yielded ops a.tmps) = true ∧ (∀ c, o.op ≠ .defer c) ∧ ∀ w, φ w → (execOp a.eval o).run P w = .ok (.value v) w) ∨
  (Region.wanted o (yielded ops a.tmps) = false ∧ v = undef)
abbrev Checks := List (Nat × (World → Prop))
section
variable (P : Program) (rd : Option Nat) (m : Nat) (ops : Array Oper) (bf : Nat → Nat) (Q : Exit → Act → World → Prop)
def wpAnyR : Nat → Checks → Array Bool → Act → World → Prop
  | 0, _, listed, a, w => Region.ready .any ops listed = [] ∧ Q .normal a w
  | fuel + 1, R, listed, a, w =>
    (Region.ready .any ops listed = [] → Q .normal a w) ∧
    ∀ i ∈ Region.ready .any ops listed, wpOpIn (fence rd) m P ops Q i (fun a' w' =>
      (∀ r ∈ R, (bf i).testBit r.1 = false → r.2 w') ∧ wpAnyR fuel (R.filter fun r => !(bf i).testBit r.1) (listed.setIfInBounds i true) a' w') a w
end
section
variable {P : Program} {rd : Option Nat} {m : Nat} {ops : Array Oper} {bf : Nat → Nat} {Q : Exit → Act → World → Prop}
theorem wpAnyR_any : ∀ (fuel : Nat) (R : Checks) (listed : Array Bool) (a : Act) (w : World), wpAnyR P rd m ops bf Q fuel R listed a w → wpAnyIn (fence rd) m P .any ops Q fuel listed a w
  | 0, _, _, _, _, h => h
  | fuel + 1, _, _, _, _, h => ⟨h.1, fun i hi => wpOpIn_mono (fun a' w' h' => wpAnyR_any fuel _ _ a' w' h'.2) (h.2 i hi)⟩
theorem wpAnyR_sub : ∀ (fuel : Nat) (R R' : Checks) (listed : Array Bool) (a : Act) (w : World), (∀ r ∈ R', (∀ w, r.2 w) ∨ r ∈ R) → wpAnyR P rd m ops bf Q fuel R listed a w → wpAnyR P rd m ops bf Q fuel R' listed a w
  | 0, _, _, _, _, _, _, h => h
  | fuel + 1, R, R', listed, a, w, hs, h => ⟨h.1, fun i hi => wpOpIn_mono (fun a' w' h' => ⟨fun r hr hb => (hs r hr).elim (fun ht => ht w') fun hm => h'.1 r hm hb,
      wpAnyR_sub fuel _ _ _ _ _ (fun r hr => by
        rw [List.mem_filter] at hr
        exact (hs r hr.1).imp id fun hm => List.mem_filter.2 ⟨hm, hr.2⟩) h'.2⟩) (h.2 i hi)⟩
theorem Yields1.of_same {φ : World → Prop} {o : Oper} {v : Value} {a a' : Act} (hy : Yields1 P ops φ o v a) (he : execOp a'.eval o = execOp a.eval o)
    (hw : Region.wanted o (yielded ops a'.tmps) = Region.wanted o (yielded ops a.tmps)) : Yields1 P ops φ o v a' := by
  unfold Yields1 at *
  rw [he, hw]
  exact hy
theorem Yields1.wpOp {φ : World → Prop} {i : Nat} {o : Oper} {v : Value} {a : Act} (hi : ops[i]? = some o) (hy : Yields1 P ops φ o v a)
    {K : Act → World → Prop} {w : World} (hφ : φ w) (h : K (a.put o.dst v) w) : wpOpIn (fence rd) m P ops Q i K a w := by
  unfold Go.wpOpIn
  simp only [hi]
  rcases hy with ⟨hw, hnd, hv⟩ | ⟨hw, rfl⟩
  · rw [if_pos hw]
    refine ⟨fun _ _ => trivial, ?_⟩
    have hF : (fence rd).round = rd := rfl
    rw [hF, Oper.semAt_eq rd a.eval o hnd, hv w hφ]
    exact h
  · rw [if_neg (by simp [hw])]
    exact ⟨fun _ _ => trivial, h⟩
theorem wpOp_putR {φ : World → Prop} {j : Nat} {oi oj : Oper} {v : Value} (hj : ops[j]? = some oj) (hap : oi.apart ops oj = true)
    (hsi : ∀ cs b, oi.op ≠ .select cs b) (hsj : ∀ cs b, oj.op ≠ .select cs b) (hdj : ∀ c, oj.op ≠ .defer c)
    (hQ : ∀ c a w, Q (.panic c) (a.put oi.dst v) w → Q (.panic c) a w) {K : Act → World → Prop} {a : Act} {w : World}
    (hy : Yields1 P ops φ oi v a) (h : wpOpIn (fence rd) m P ops Q j K (a.put oi.dst v) w) :
    wpOpIn (fence rd) m P ops Q j (fun a' w' => Yields1 P ops φ oi v a' ∧ K (a'.put oi.dst v) w') a w := by
  obtain ⟨h1, h2, h3⟩ := Oper.apart_spec hap
  have keep : ∀ (a : Act), Yields1 P ops φ oi v a → ∀ u, Yields1 P ops φ oi v (a.put oj.dst u) := fun a hy u =>
    hy.of_same (execOp_put oi hsi a oj.dst u h3) (wanted_put oi a oj.dst u h3)
  have keepD : ∀ d, Yields1 P ops φ oi v { a with defers := d :: a.defers } := fun d => hy.of_same rfl rfl
  unfold wpOpIn at *
  simp only [hj] at *
  rw [wanted_put oj a oi.dst v h1] at h
  split
  · rename_i hw
    rw [if_pos hw] at h
    refine ⟨fun _ _ => trivial, ?_⟩
    have h := h.2
    have hF : (fence rd).round = rd := rfl
    rw [hF, Oper.semAt_eq rd _ oj hdj] at h ⊢
    rw [execOp_put oj hsj a oi.dst v h1] at h
    generalize (execOp a.eval oj).run P w = r at *
    cases r with
    | ok x w' =>
      cases x <;> simp only [Oper.uponIn] at h ⊢
      case value u => exact ⟨keep a hy u, by rw [← Act.put_comm a v u h2]; exact h⟩
      case skip => exact ⟨keep a hy _, by rw [← Act.put_comm a v undef h2]; exact h⟩
      case defer d =>
        refine ⟨keep _ (keepD d) _, ?_⟩
        rw [← Act.put_comm _ v undef h2, ← Act.put_defers]
        exact h
      case enter f args =>
        refine ⟨h.1, CallsIn.mono h.2 fun e w'' he => ?_⟩
        cases e with
        | returned u => exact ⟨keep a hy u, by rw [← Act.put_comm a v u h2]; exact he⟩
        | panicked c => exact hQ _ _ _ he
        | outgrown => exact he
      case row row args => exact ⟨h.1, RowsIn.mono h.2 fun u w'' he => ⟨keep a hy u, by rw [← Act.put_comm a v u h2]; exact he⟩⟩
      case round l f tmps asx body =>
        refine ⟨h.1, RoundIn.mono h.2 fun e w'' he => ?_⟩
        cases e with
        | returned u => exact ⟨keep a hy u, by rw [← Act.put_comm a v u h2]; exact he⟩
        | panicked c => exact hQ _ _ _ he
        | outgrown => exact he
    | halt x w' =>
      cases x <;> simp only [Oper.uponIn] at h ⊢
      case panic u => exact hQ _ _ _ h
  · rename_i hw
    rw [if_neg hw] at h
    exact ⟨fun _ _ => trivial, keep a hy _, by rw [← Act.put_comm a v undef h2]; exact h.2⟩
def Closed (bf : Nat → Nat) (listed : Array Bool) : Prop := ∀ j, listed.getD j false = true → ∀ k, (bf j).testBit k = true → listed.getD k false = true
def Before (ops : Array Oper) (bf : Nat → Nat) : Prop := ∀ j o, ops[j]? = some o → ∀ k, (bf j).testBit k = true → ∃ e ∈ o.after, Region.binds .any e = true ∧ (e.on = k ∨ (bf e.on).testBit k = true)
theorem ready_before {listed : Array Bool} (hB : Before ops bf) (hC : Closed bf listed) {j : Nat} (hj : j ∈ Region.ready .any ops listed) (k : Nat) (hk : (bf j).testBit k = true) :
    listed.getD k false = true := by
  obtain ⟨_, o, ho, hall⟩ := mem_ready.1 hj
  obtain ⟨e, he, hb, hor⟩ := hB j o ho k hk
  have h1 := hall e he hb
  rcases hor with rfl | h2
  · exact h1
  · exact hC _ h1 _ h2
theorem Closed.set {listed : Array Bool} (hB : Before ops bf) (hC : Closed bf listed) {i : Nat} (hi : i ∈ Region.ready .any ops listed) : Closed bf (listed.setIfInBounds i true) := by
  intro j hj k hk
  by_cases hji : j = i
  · subst hji
    exact getD_set_true (ready_before hB hC hi k hk)
  · rw [getD_set_ne false (Ne.symm hji)] at hj
    exact getD_set_true (hC j hj k hk)
theorem listed_false {listed : Array Bool} {i : Nat} (h : listed.getD i true = false) : listed.getD i false = false := by
  rcases Nat.lt_or_ge i listed.size with h' | h'
  · simp [h'] at h ⊢; exact h
  · simp [Array.getElem?_eq_none h'] at h
theorem wpAnyR_take {i : Nat} {oi : Oper} {v : Value} {φ : World → Prop} (hi : ops[i]? = some oi) (hB : Before ops bf)
    (hsel : ∀ (j : Nat) (o : Oper), ops[j]? = some o → (∀ cs b, o.op ≠ .select cs b) ∧ ∀ c, o.op ≠ .defer c)
    (hQ : ∀ c a w, Q (.panic c) (a.put oi.dst v) w → Q (.panic c) a w) :
    ∀ (fuel : Nat) (listed : Array Bool) (R : Checks) (a : Act) (w : World), Closed bf listed →
      (∀ j oj, ops[j]? = some oj → j ≠ i → listed.getD j true = false → (bf j).testBit i = true ∨ oi.apart ops oj = true) →
      i ∈ Region.ready .any ops listed → Yields1 P ops φ oi v a → φ w → (∀ r ∈ R, r.2 w) →
      wpAnyR P rd m ops bf Q fuel ((i, φ) :: R) (listed.setIfInBounds i true) (a.put oi.dst v) w → wpAnyR P rd m ops bf Q (fuel + 1) R listed a w := by
  intro fuel
  induction fuel with
  | zero =>
    intro listed R a w hC _ hr hy hφ hR H
    refine ⟨fun h => (by rw [h] at hr; cases hr), fun j hj => ?_⟩
    by_cases hji : j = i
    · subst hji; exact hy.wpOp hi hφ ⟨fun r hr _ => hR r hr, H⟩
    · have := ready_mono hj hji
      rw [H.1] at this
      cases this
  | succ fuel ih =>
    intro listed R a w hC hfree hr hy hφ hR H
    refine ⟨fun h => (by rw [h] at hr; cases hr), fun j hj => ?_⟩
    by_cases hji : j = i
    · subst hji
      refine hy.wpOp hi hφ ⟨fun r hr _ => hR r hr, wpAnyR_sub _ _ _ _ _ _ (fun r hr => .inr ?_) H⟩
      exact List.mem_cons_of_mem _ (List.mem_filter.1 hr).1
    · have h1 := H.2 j (ready_mono hj hji)
      obtain ⟨hjun, oj, hoj, hall⟩ := mem_ready.1 hj
      have hnot : (bf j).testBit i = false := by
        cases hb : (bf j).testBit i with
        | false => rfl
        | true =>
          have h2 := ready_before hB hC hj i hb
          rw [listed_false (mem_ready.1 hr).1] at h2
          cases h2
      have hap := (hfree j oj hoj hji hjun).resolve_left (by simp [hnot])
      have h2 := wpOp_putR hoj hap (hsel i oi hi).1 (hsel j oj hoj).1 (hsel j oj hoj).2 hQ hy h1
      have hfree' : ∀ k ok, ops[k]? = some ok → k ≠ i → (listed.setIfInBounds j true).getD k true = false → (bf k).testBit i = true ∨ oi.apart ops ok = true := fun k ok hk hki hun => by
        refine hfree k ok hk hki ?_
        by_cases hjk : j = k
        · subst hjk; exact hjun
        · rw [getD_set_ne true hjk] at hun; exact hun
      refine wpOpIn_mono (fun a' w' h3 => ?_) h2
      obtain ⟨hy', hck, hrest⟩ := h3
      have hφ' : φ w' := hck (i, φ) List.mem_cons_self hnot
      have hR' : ∀ r ∈ R, (bf j).testBit r.1 = false → r.2 w' := fun r hr hb => hck r (List.mem_cons_of_mem _ hr) hb
      refine ⟨hR', ih (listed.setIfInBounds j true) _ a' w' (hC.set hB hj) hfree' (ready_mono hr (Ne.symm hji)) hy' hφ' (fun r hr => ?_) ?_⟩
      · rw [List.mem_filter] at hr
        exact hR' r hr.1 (by simpa using hr.2)
      · rw [Array.setIfInBounds_comm _ _ hji]
        rw [List.filter_cons_of_pos (by simp [hnot])] at hrest
        exact hrest
end
end Go.Fw


set_option autoImplicit false
namespace Go.Fw
def ldAgain (P : Program) (t : TypeId) (w : World) (a : Addr) (v : Value) : Prop := match shapeOf P t with
  | .one _ => w.cell? a = some v
  | .agg _ => match v with | .agg cs => CellsAt w a cs.toList | _ => False
noncomputable def vcQuiet (P : Program) (n : Nat) (ρ : Fr) (o : Oper) (w : World) (K : Value → Option (World → Prop) → Prop) : Prop := match o.op with
  | .load t x => match ev n ρ x with | .pointer (some a) => ldK P t w a fun v => K v (some fun w' => ldAgain P t w' a v) | _ => False
  | _ => match isPure P o.op with | true => vcPure P n ρ o fun v => K v none | false => False
def isQuiet (P : Program) (o : Op) : Bool := match o with | .load _ _ => true | _ => isPure P o
def readyM (ops : Array Oper) (mask : Nat) (i : Nat) : Bool := match ops[i]? with
  | some o => !mask.testBit i && o.after.toList.all fun e => !Region.binds .any e || mask.testBit e.on
  | none => false
def readyL (ops : Array Oper) (mask : Nat) : List Nat := (List.range ops.size).filter (readyM ops mask)
def findQ (P : Program) (ops : Array Oper) (mask : Nat) : Option Nat := (readyL ops mask).find? fun i => match ops[i]? with | some o => isQuiet P o.op | none => false
def pairOK (ops : Array Oper) (bf : List Nat) : Bool := (List.range ops.size).all fun i => match ops[i]? with
  | none => true
  | some oi => (List.range ops.size).all fun j => Nat.beq j i || (bf.getD j 0).testBit i || (bf.getD i 0).testBit j || (match ops[j]? with | some oj => oi.apart ops oj | none => true)
def noSD (ops : Array Oper) : Bool := ops.toList.all fun o => match o.op with | .select _ _ => false | .defer _ => false | _ => true
def addC (i : Nat) (φ : Option (World → Prop)) (R : Checks) : Checks := match φ with | some φ => (i, φ) :: R | none => R
def dropC (bm : Nat) (R : Checks) : Checks := R.filter fun r => !bm.testBit r.1
def recK (bm : Nat) (R : Checks) (w : World) (X : Prop) : Prop := match R with
  | [] => X
  | r :: R => match bm.testBit r.1 with
    | true => recK bm R w X
    | false => r.2 w ∧ recK bm R w X
def allK (f : Nat → Prop) : List Nat → Prop
  | [] => True
  | [x] => f x
  | x :: y :: l => f x ∧ allK f (y :: l)
noncomputable def vcD (P : Program) (n : Nat) (ops : Array Oper) (bf : List Nat) (fuel : Nat) : Nat → Checks → (Fr → World → Prop) → Fr → World → Prop :=
  Nat.rec (motive := fun _ => Nat → Checks → (Fr → World → Prop) → Fr → World → Prop)
    (fun mask _ K ρ w => match readyL ops mask with | [] => K ρ w | _ => False)
    (fun _ ih mask R K ρ w => match findQ P ops mask with
      | some i => match ops[i]? with
        | none => False
        | some o => guardV n ops o ρ (fun ρ => vcQuiet P n ρ o w fun v φ => ih (mask ||| 2 ^ i) (addC i φ R) K (updO ρ o.dst v) w) (fun ρ => ih (mask ||| 2 ^ i) R K (updO ρ o.dst undef) w)
      | none => match readyL ops mask with
        | [] => K ρ w
        | i :: l => allK (fun i => match ops[i]? with
          | none => False
          | some o => guardV n ops o ρ (fun ρ => vcOp P n ρ o w fun v w' => recK (bf.getD i 0) R w' (ih (mask ||| 2 ^ i) (dropC (bf.getD i 0) R) K (updO ρ o.dst v) w'))
              (fun ρ => ih (mask ||| 2 ^ i) (dropC (bf.getD i 0) R) K (updO ρ o.dst undef) w)) (i :: l)) fuel
def strict {α : Sort _} (n : Nat) (f : Nat → α) : α := Nat.casesOn (motive := fun _ => α) n (f 0) fun k => f (k + 1)
theorem strict_eq {α : Sort _} (n : Nat) (f : Nat → α) : strict n f = f n := by cases n <;> rfl
def strictB {α : Sort _} (b : Bool) (f : Bool → α) : α := Bool.casesOn (motive := fun _ => α) b (f false) (f true)
theorem strictB_eq {α : Sort _} (b : Bool) (f : Bool → α) : strictB b f = f b := by cases b <;> rfl
def tb (m i : Nat) : Bool := Nat.beq (Nat.land (Nat.shiftRight m i) 1) 1
theorem tb_eq (m i : Nat) : tb m i = m.testBit i := by
  unfold tb Nat.testBit
  have h : Nat.land (Nat.shiftRight m i) 1 = (m >>> i) % 2 := Nat.and_one_is_mod _
  have h2 : 1 &&& (m >>> i) = (m >>> i) % 2 := by rw [Nat.and_comm]; exact Nat.and_one_is_mod _
  rw [h, h2]
  rcases Nat.mod_two_eq_zero_or_one (m >>> i) with h | h <;> rw [h] <;> rfl
structure Row where
  i : Nat
  d : Nat
  b : Nat
  q : Bool
  o : Oper
def dmOf (o : Oper) : Nat := o.after.toList.foldl (fun s e => match Region.binds .any e with | true => s ||| 2 ^ e.on | false => s) 0
def accAt (len : Nat) (acc : List Nat) (j : Nat) : Nat := match Nat.blt j len with | true => acc.getD (len - 1 - j) 0 | false => 0
def bfMaskR (o : Oper) (len : Nat) (acc : List Nat) : Nat := o.after.toList.foldl (fun s e => match Region.binds .any e with | true => s ||| 2 ^ e.on ||| accAt len acc e.on | false => s) 0
def rowsOf (P : Program) : List Oper → Nat → List Nat → List Row
  | [], _, _ => []
  | o :: l, i, acc => ⟨i, dmOf o, bfMaskR o i acc, isQuiet P o.op, o⟩ :: rowsOf P l (i + 1) (bfMaskR o i acc :: acc)
noncomputable def rowsK (P : Program) (l : List Oper) : Nat → List Nat → (List Row → Prop) → Prop :=
  List.rec (motive := fun _ => Nat → List Nat → (List Row → Prop) → Prop) (fun _ _ f => f [])
    (fun o _ ih i acc f => strict (dmOf o) fun d => strict (bfMaskR o i acc) fun b => strictB (isQuiet P o.op) fun q => strict (i + 1) fun i' => ih i' (b :: acc) fun L => f (⟨i, d, b, q, o⟩ :: L)) l
theorem rowsK_eq (P : Program) : ∀ (l : List Oper) (i : Nat) (acc : List Nat) (f : List Row → Prop), rowsK P l i acc f = f (rowsOf P l i acc)
  | [], _, _, _ => rfl
  | o :: l, i, acc, f => by
    change strict (dmOf o) (fun d => strict (bfMaskR o i acc) fun b => strictB (isQuiet P o.op) fun q => strict (i + 1) fun i' => rowsK P l i' (b :: acc) fun L => f (⟨i, d, b, q, o⟩ :: L)) = _
    rw [strict_eq, strict_eq, strictB_eq, strict_eq, rowsK_eq P l]
    rfl
def rdy (mask : Nat) (r : Row) : Bool := match tb mask r.i with | true => false | false => Nat.beq (Nat.land r.d mask) r.d
def rdyQ (mask : Nat) (r : Row) : Bool := match r.q with | true => rdy mask r | false => false
def pairR (ops : Array Oper) (L : List Row) : Bool := L.all fun x => L.all fun y => Nat.beq y.i x.i || tb y.b x.i || tb x.b y.i || x.o.apart ops y.o
def allR (f : Row → Prop) : List Row → Prop
  | [] => True
  | [x] => f x
  | x :: y :: l => f x ∧ allR f (y :: l)
noncomputable def vcR (P : Program) (n : Nat) (ops : Array Oper) (L : List Row) (fuel : Nat) : Nat → Checks → (Fr → World → Prop) → Fr → World → Prop :=
  Nat.rec (motive := fun _ => Nat → Checks → (Fr → World → Prop) → Fr → World → Prop)
    (fun mask _ K ρ w => match L.filter (rdy mask) with | [] => K ρ w | _ => False)
    (fun _ ih mask R K ρ w => match L.find? (rdyQ mask) with
      | some r => guardV n ops r.o ρ (fun ρ => vcQuiet P n ρ r.o w fun v φ => strict (mask ||| 2 ^ r.i) fun m => ih m (addC r.i φ R) K (updO ρ r.o.dst v) w) (fun ρ => strict (mask ||| 2 ^ r.i) fun m => ih m R K (updO ρ r.o.dst undef) w)
      | none => match L.filter (rdy mask) with
        | [] => K ρ w
        | r :: l => allR (fun r => guardV n ops r.o ρ (fun ρ => vcOp P n ρ r.o w fun v w' => recK r.b R w' (strict (mask ||| 2 ^ r.i) fun m => ih m (dropC r.b R) K (updO ρ r.o.dst v) w'))
              (fun ρ => strict (mask ||| 2 ^ r.i) fun m => ih m (dropC r.b R) K (updO ρ r.o.dst undef) w)) (r :: l)) fuel
noncomputable def vcRegion (P : Program) (n : Nat) (ops : Array Oper) (draw : Bool) (K : Fr → World → Prop) (ρ : Fr) (w : World) : Prop := match draw with
  | false => vcList P n ops ops.toList K ρ w
  | true => rowsK P ops.toList 0 [] fun L => match noSD ops && pairR ops L with
    | true => vcR P n ops L ops.size 0 [] K ρ w.drew
    | false => False
section
variable {P : Program} {n : Nat} {ρ : Fr} {o : Oper} {ops : Array Oper}
theorem ldK_again {t : TypeId} {w : World} {a : Addr} {K : Value → Prop} (h : ldK P t w a K) :
    ∃ v, (∀ w', ldAgain P t w' a v → (loadVar t a).run P w' = .ok v w') ∧ ldAgain P t w a v ∧ K v := by
  unfold ldK at h
  split at h
  · rename_i d hu
    unfold ldS at h
    have one : ∀ {v : Value} {g : Tag}, shapeOf P t = .one g → w.cell? a = some v → (∀ w', ldAgain P t w' a v → (loadVar t a).run P w' = .ok v w') ∧ ldAgain P t w a v := by
      intro v g hs hc
      refine ⟨fun w' h => ?_, by unfold ldAgain; rw [hs]; exact hc⟩
      unfold ldAgain at h
      rw [hs] at h
      simp only at h
      simp [loadVar, shape_one hu hs, load, Sem.run, h]
    split at h
    · obtain ⟨x, hc, h⟩ := h; exact ⟨_, (one (by assumption) hc).1, (one (by assumption) hc).2, h⟩
    · obtain ⟨x, hc, h⟩ := h; exact ⟨_, (one (by assumption) hc).1, (one (by assumption) hc).2, h⟩
    · obtain ⟨x, hc, h⟩ := h; exact ⟨_, (one (by assumption) hc).1, (one (by assumption) hc).2, h⟩
    · obtain ⟨x, hc, h⟩ := h; exact ⟨_, (one (by assumption) hc).1, (one (by assumption) hc).2, h⟩
    · obtain ⟨x, y, z, hc, h⟩ := h; exact ⟨_, (one (by assumption) hc).1, (one (by assumption) hc).2, h⟩
    · obtain ⟨x, hc, h⟩ := h; exact ⟨_, (one (by assumption) hc).1, (one (by assumption) hc).2, h⟩
    · obtain ⟨x, hc, h⟩ := h; exact ⟨_, (one (by assumption) hc).1, (one (by assumption) hc).2, h⟩
    · rename_i ts hs
      obtain ⟨i, hi, h⟩ := szK_of h
      split at h
      · rename_i hl
        have hl := Nat.eq_of_beq_eq_true hl
        obtain ⟨vs, hvl, hc, hK⟩ := exTags_ex h
        refine ⟨_, fun w' hw' => ?_, by unfold ldAgain; rw [hs]; exact hc, hK⟩
        unfold ldAgain at hw'
        rw [hs] at hw'
        have := loadCells_run (P := P) vs 0 #[] hw'
        simp only [loadVar, Sem.run_bind, shape_agg hs, Result.andThen, if_true, sizeOf, run_typeInfo w' hi, Sem.run_pure, loadCells]
        rw [← hl, ← hvl, this]
        simp
      · exact h.elim
  · exact h.elim
theorem vcQuiet_of {w : World} {K : Value → Option (World → Prop) → Prop} (h : vcQuiet P n ρ o w K) :
    (∀ c, o.op ≠ .defer c) ∧ ∃ v φ, (∀ w', (∀ f, φ = some f → f w') → (execOp (ev n ρ) o).run P w' = .ok (.value v) w') ∧ (∀ f, φ = some f → f w) ∧ K v φ := by
  unfold vcQuiet at h
  split at h
  · rename_i t x ho
    refine ⟨(fun c hc => by rw [ho] at hc; cases hc), ?_⟩
    split at h
    · rename_i a hx
      obtain ⟨v, hr, hφ, hK⟩ := ldK_again h
      refine ⟨v, _, fun w' hw' => ?_, (fun f hf => by cases hf; exact hφ), hK⟩
      have := hr w' (hw' _ rfl)
      have he : execOp (ev n ρ) o = (do pure (Next.value (← Instr.loadAt t (ev n ρ x)))) := by simp only [execOp, ho]
      rw [he]
      exact run_v (by simp [Instr.loadAt, hx, Instr.sureAddr, this])
    · exact h.elim
  · split at h
    · rename_i hp
      obtain ⟨v, hg, hK⟩ := vcPure_gives hp h
      exact ⟨isPure_noDefer hp, v, none, fun w' _ => hg w', (fun f hf => by cases hf), hK⟩
    · exact h.elim
theorem bfs_spec (ops : Array Oper) : ∀ (l : List Oper) (acc : List Nat), (∀ j, l[j]? = ops[acc.length + j]?) →
    (∀ j, j < acc.length → ∃ o, ops[j]? = some o ∧ ∀ k, (acc.getD j 0).testBit k = true → ∃ e ∈ o.after, Region.binds .any e = true ∧ (e.on = k ∨ (e.on < acc.length ∧ (acc.getD e.on 0).testBit k = true))) →
    let r := bfs l acc
    (∀ j, j < r.length → ∃ o, ops[j]? = some o ∧ ∀ k, (r.getD j 0).testBit k = true → ∃ e ∈ o.after, Region.binds .any e = true ∧ (e.on = k ∨ (e.on < r.length ∧ (r.getD e.on 0).testBit k = true)))
  | [], acc, _, h => h
  | o :: l, acc, hl, h => by
    have h0 : ops[acc.length]? = some o := by simpa using (hl 0).symm
    refine bfs_spec ops l (acc ++ [bfMask o acc]) (fun j => ?_) (fun j hj => ?_)
    · have := hl (j + 1)
      simp only [List.length_append, List.length_cons, List.length_nil]
      rw [show acc.length + (0 + 1) + j = acc.length + (j + 1) by omega, ← this]
      simp
    · simp only [List.length_append, List.length_cons, List.length_nil] at hj
      by_cases hlt : j < acc.length
      · obtain ⟨oj, hoj, hk⟩ := h j hlt
        refine ⟨oj, hoj, fun k hb => ?_⟩
        rw [show (acc ++ [bfMask o acc]).getD j 0 = acc.getD j 0 by simp [List.getD, List.getElem?_append_left hlt]] at hb
        obtain ⟨e, he, hbd, hor⟩ := hk k hb
        refine ⟨e, he, hbd, hor.imp id fun ⟨h1, h2⟩ => ⟨by simp; omega, ?_⟩⟩
        rw [show (acc ++ [bfMask o acc]).getD e.on 0 = acc.getD e.on 0 by simp [List.getD, List.getElem?_append_left h1]]
        exact h2
      · have hj' : j = acc.length := by omega
        subst hj'
        refine ⟨o, h0, fun k hb => ?_⟩
        rw [show (acc ++ [bfMask o acc]).getD acc.length 0 = bfMask o acc by simp [List.getD]] at hb
        have key : ∀ (es : List Edge) (s : Nat), (es.foldl (fun s e => match Region.binds .any e with | true => s ||| 2 ^ e.on ||| acc.getD e.on 0 | false => s) s).testBit k = true →
            s.testBit k = true ∨ ∃ e ∈ es, Region.binds .any e = true ∧ (e.on = k ∨ (acc.getD e.on 0).testBit k = true) := by
          intro es
          induction es with
          | nil => intro s hs; exact .inl hs
          | cons e es ih =>
            intro s hs
            simp only [List.foldl_cons] at hs
            rcases ih _ hs with h1 | ⟨e', he', hh⟩
            · split at h1
              · rename_i hbd
                rw [Nat.testBit_or, Nat.testBit_or, Bool.or_eq_true, Bool.or_eq_true] at h1
                rcases h1 with (h1 | h1) | h1
                · exact .inl h1
                · refine .inr ⟨e, List.mem_cons_self, hbd, .inl ?_⟩
                  rw [Nat.testBit_two_pow] at h1
                  exact of_decide_eq_true h1
                · exact .inr ⟨e, List.mem_cons_self, hbd, .inr h1⟩
              · exact .inl h1
            · exact .inr ⟨e', List.mem_cons_of_mem _ he', hh⟩
        rcases key o.after.toList 0 hb with h1 | ⟨e, he, hbd, hor⟩
        · simp at h1
        · refine ⟨e, Array.mem_toList_iff.1 he, hbd, hor.imp id fun h2 => ?_⟩
          have h1 : e.on < acc.length := by
            rcases Nat.lt_or_ge e.on acc.length with h' | h'
            · exact h'
            · simp [List.getD, List.getElem?_eq_none h'] at h2
          refine ⟨by simp; omega, ?_⟩
          rw [show (acc ++ [bfMask o acc]).getD e.on 0 = acc.getD e.on 0 by simp [List.getD, List.getElem?_append_left h1]]
          exact h2
theorem bfs_length : ∀ (l : List Oper) (acc : List Nat), (bfs l acc).length = acc.length + l.length
  | [], acc => rfl
  | o :: l, acc => by
    change (bfs l (acc ++ [bfMask o acc])).length = _
    rw [bfs_length l]
    simp; omega
theorem bfOf_before (ops : Array Oper) : Before ops fun j => (bfOf ops).getD j 0 := by
  intro j o ho k hk
  have hj : j < (bfOf ops).length := by
    rw [bfOf, bfs_length]
    simpa using (Array.getElem?_eq_some_iff.1 ho).1
  obtain ⟨o', ho', h⟩ := bfs_spec ops ops.toList [] (fun j => by simp) (fun j hj => absurd hj (Nat.not_lt_zero _)) j hj
  rw [ho] at ho'
  cases ho'
  obtain ⟨e, he, hb, hor⟩ := h k hk
  exact ⟨e, he, hb, hor.imp id fun h => h.2⟩
def LM (listed : Array Bool) (mask size : Nat) : Prop := listed.size = size ∧ ∀ i, listed.getD i false = mask.testBit i
theorem LM.ready {listed : Array Bool} {mask : Nat} (h : LM listed mask ops.size) : Region.ready .any ops listed = readyL ops mask := by
  unfold Region.ready readyL
  apply List.filter_congr
  intro i hi
  have hi : i < ops.size := by simpa using hi
  have ht : listed.getD i true = mask.testBit i := by
    rw [← h.2 i]
    simp [h.1, hi]
  unfold readyM
  cases ho : ops[i]? with
  | none => simp
  | some o =>
    simp only [Option.map_some, Option.getD_some, ht]
    rw [← Array.all_toList]
    have hf : (fun e : Edge => !Region.binds .any e || listed.getD e.on false) = fun e => !Region.binds .any e || mask.testBit e.on := by
      funext e; rw [h.2]
    rw [hf]
theorem LM.set {listed : Array Bool} {mask : Nat} (h : LM listed mask ops.size) {i : Nat} (hi : i < ops.size) : LM (listed.setIfInBounds i true) (mask ||| 2 ^ i) ops.size := by
  refine ⟨by simp [h.1], fun j => ?_⟩
  rw [Nat.testBit_or, Nat.testBit_two_pow, ← h.2 j]
  by_cases hij : i = j
  · subst hij
    simp [h.1, hi]
  · rw [getD_set_ne false hij]; simp [hij]
theorem LM.zero : LM (Array.replicate ops.size false) 0 ops.size := by
  refine ⟨by simp, fun i => ?_⟩
  simp only [Nat.zero_testBit, Array.getD_eq_getD_getElem?, Array.getElem?_replicate]
  split <;> rfl
theorem readyL_lt {mask i : Nat} (h : i ∈ readyL ops mask) : i < ops.size := by
  unfold readyL at h
  simpa using (List.mem_filter.1 h).1
theorem noSD_spec (h : noSD ops = true) : ∀ (j : Nat) (o : Oper), ops[j]? = some o → (∀ cs b, o.op ≠ .select cs b) ∧ ∀ c, o.op ≠ .defer c := by
  intro j o ho
  have hm : o ∈ ops.toList := by
    rw [Array.mem_toList_iff]; exact Array.mem_of_getElem? ho
  have := List.all_eq_true.1 h o hm
  constructor
  · intro cs b hc; simp [hc] at this
  · intro c hc; simp [hc] at this
theorem pair_spec {i : Nat} {oi : Oper} {listed : Array Bool} (hB : Before ops fun j => (bfOf ops).getD j 0) (hC : Closed (fun j => (bfOf ops).getD j 0) listed) (h : pairOK ops (bfOf ops) = true)
    (hoi : ops[i]? = some oi) (hr : i ∈ Region.ready .any ops listed) :
    ∀ j oj, ops[j]? = some oj → j ≠ i → listed.getD j true = false → ((bfOf ops).getD j 0).testBit i = true ∨ oi.apart ops oj = true := by
  intro j oj hoj hne hun
  have hj : j < ops.size := (Array.getElem?_eq_some_iff.1 hoj).1
  have hi : i < ops.size := (Array.getElem?_eq_some_iff.1 hoi).1
  have h1 := List.all_eq_true.1 h i (by simpa using hi)
  simp only [hoi] at h1
  have h2 := List.all_eq_true.1 h1 j (by simpa using hj)
  have hb : Nat.beq j i = false := by
    cases hb : Nat.beq j i with
    | false => rfl
    | true => exact absurd (Nat.eq_of_beq_eq_true hb) hne
  have hnb : ((bfOf ops).getD i 0).testBit j = false := by
    cases hc : ((bfOf ops).getD i 0).testBit j with
    | false => rfl
    | true =>
      have := ready_before hB hC hr j hc
      rw [listed_false hun] at this
      cases this
  rw [hoj, hb, hnb] at h2
  simpa using h2
theorem allK_mem {f : Nat → Prop} : ∀ {l : List Nat}, allK f l → ∀ i ∈ l, f i
  | [], _, i, hi => by cases hi
  | [x], h, i, hi => by
    simp only [List.mem_singleton] at hi
    subst hi; exact h
  | x :: y :: l, h, i, hi => by
    rcases List.mem_cons.1 hi with rfl | hi
    · exact h.1
    · exact allK_mem h.2 i hi
theorem recK_of {bm : Nat} {w : World} {X : Prop} : ∀ {R : Checks}, recK bm R w X → (∀ r ∈ R, bm.testBit r.1 = false → r.2 w) ∧ X
  | [], h => ⟨(fun r hr => by cases hr), h⟩
  | r :: R, h => by
    unfold recK at h
    split at h
    · rename_i hb
      obtain ⟨h1, h2⟩ := recK_of h
      refine ⟨fun r' hr' hf => ?_, h2⟩
      rcases List.mem_cons.1 hr' with rfl | hr'
      · rw [hb] at hf; cases hf
      · exact h1 r' hr' hf
    · obtain ⟨h1, h2⟩ := recK_of h.2
      refine ⟨fun r' hr' hf => ?_, h2⟩
      rcases List.mem_cons.1 hr' with rfl | hr'
      · exact h.1
      · exact h1 r' hr' hf
variable {rd : Option Nat} {m : Nat} {Q : Exit → Act → World → Prop} {K : Fr → World → Prop} {D : List Deferred} {Fx : Nat → Option Value}
theorem vcD_sound (hP : Plain P) (hsd : noSD ops = true) (hpair : pairOK ops (bfOf ops) = true) (hQp : ∀ c a w, ¬ Q (.panic c) a w) (hQ : ∀ a w, Real n D Fx K a w → Q .normal a w) (hx : ∀ (j : Nat) (o : Oper), ops[j]? = some o → ∀ t, o.dst = some t → Fx t = none) :
    ∀ (fuel mask : Nat) (R : Checks) (listed : Array Bool) (a : Act) (w : World), LM listed mask ops.size → Closed (fun j => (bfOf ops).getD j 0) listed → (∀ r ∈ R, r.2 w) →
      Real n D Fx (vcD P n ops (bfOf ops) fuel mask R K) a w → wpAnyR P rd m ops (fun j => (bfOf ops).getD j 0) Q fuel R listed a w
  | 0, mask, R, listed, a, w, hL, hC, hR, h => by
    obtain ⟨ρ, hr, hd, hF, h⟩ := h
    change (match readyL ops mask with | [] => K ρ w | _ => False) at h
    unfold wpAnyR
    rw [hL.ready]
    split at h
    · rename_i he
      exact ⟨he, hQ a w ⟨ρ, hr, hd, hF, h⟩⟩
    · exact h.elim
  | fuel + 1, mask, R, listed, a, w, hL, hC, hR, h => by
    obtain ⟨ρ, hr, hd, hF, h⟩ := h
    have ih := vcD_sound hP hsd hpair hQp hQ hx fuel
    change (match findQ P ops mask with
      | some i => match ops[i]? with
        | none => False
        | some o => guardV n ops o ρ (fun ρ => vcQuiet P n ρ o w fun v φ => vcD P n ops (bfOf ops) fuel (mask ||| 2 ^ i) (addC i φ R) K (updO ρ o.dst v) w) (fun ρ => vcD P n ops (bfOf ops) fuel (mask ||| 2 ^ i) R K (updO ρ o.dst undef) w)
      | none => match readyL ops mask with
        | [] => K ρ w
        | i :: l => allK (fun i => match ops[i]? with
          | none => False
          | some o => guardV n ops o ρ (fun ρ => vcOp P n ρ o w fun v w' => recK ((bfOf ops).getD i 0) R w' (vcD P n ops (bfOf ops) fuel (mask ||| 2 ^ i) (dropC ((bfOf ops).getD i 0) R) K (updO ρ o.dst v) w'))
              (fun ρ => vcD P n ops (bfOf ops) fuel (mask ||| 2 ^ i) (dropC ((bfOf ops).getD i 0) R) K (updO ρ o.dst undef) w)) (i :: l)) at h
    split at h
    · rename_i i hfind
      have hir : i ∈ readyL ops mask := List.mem_of_find?_eq_some hfind
      have hlt := readyL_lt hir
      split at h
      · exact h.elim
      · rename_i o ho
        have hready : i ∈ Region.ready .any ops listed := by rw [hL.ready]; exact hir
        have hB := bfOf_before ops
        have hC' := hC.set hB hready
        rcases guardV_of hr h with ⟨hw, ρ', hr', h⟩ | ⟨hw, ρ', hr', h⟩
        · obtain ⟨hnd, v, φ, hrun, hφ, h⟩ := vcQuiet_of h
          refine wpAnyR_take (φ := fun w' => ∀ f, φ = some f → f w') ho hB (noSD_spec hsd) (fun c a w hq => absurd hq (hQp _ _ _)) fuel listed R a w hC (pair_spec (bfOf_before ops) hC hpair ho hready) hready
            (.inl ⟨hw, hnd, fun w' hw' => by rw [hr'.evalF]; exact hrun w' hw'⟩) hφ hR ?_
          refine wpAnyR_sub fuel (addC i φ R) _ _ _ _ (fun r hr => ?_) (ih _ _ _ _ _ (hL.set hlt) hC' (fun r hr => ?_) ⟨_, hr'.put _ _, by rw [put_defers']; exact hd, fx_put hF (hx _ _ ho) _, h⟩)
          · rcases List.mem_cons.1 hr with rfl | hr2
            · cases φ with
              | none => exact .inl fun w f hf => by cases hf
              | some f =>
                refine .inr ?_
                have : (i, fun w' : World => ∀ g : World → Prop, some f = some g → g w') = (i, f) := by
                  congr 1; funext w'; apply propext
                  exact ⟨fun h => h f rfl, fun h g hg => by cases hg; exact h⟩
                rw [this]
                exact List.mem_cons_self
            · right
              cases φ with
              | none => exact hr2
              | some f => exact List.mem_cons_of_mem _ hr2
          · cases φ with
            | none => exact hR r hr
            | some f =>
              rcases List.mem_cons.1 hr with rfl | hr
              · exact hφ f rfl
              · exact hR r hr
        · refine wpAnyR_take (φ := fun _ => True) (v := undef) ho hB (noSD_spec hsd) (fun c a w hq => absurd hq (hQp _ _ _)) fuel listed R a w hC (pair_spec (bfOf_before ops) hC hpair ho hready) hready
            (.inr ⟨hw, rfl⟩) trivial hR ?_
          refine wpAnyR_sub fuel R _ _ _ _ (fun r hr => ?_) (ih _ _ _ _ _ (hL.set hlt) hC' hR ⟨_, hr'.put _ _, by rw [put_defers']; exact hd, fx_put hF (hx _ _ ho) _, h⟩)
          rcases List.mem_cons.1 hr with rfl | hr
          · exact .inl fun w => trivial
          · exact .inr hr
    · unfold wpAnyR
      rw [hL.ready]
      split at h
      · rename_i he
        rw [he]
        exact ⟨fun _ => hQ a w ⟨ρ, hr, hd, hF, h⟩, (fun i hi => by cases hi)⟩
      · rename_i i0 l he
        rw [he]
        refine ⟨(fun h => by cases h), fun i hi => ?_⟩
        have hir : i ∈ readyL ops mask := by rw [he]; exact hi
        have hlt := readyL_lt hir
        have hready : i ∈ Region.ready .any ops listed := by rw [hL.ready]; exact hir
        have hC' := hC.set (bfOf_before ops) hready
        have h := allK_mem h i hi
        unfold wpOpIn
        split at h
        · exact h.elim
        · rename_i o ho
          simp only [ho]
          rcases guardV_of hr h with ⟨hw, ρ', hr', h⟩ | ⟨hw, ρ', hr', h⟩
          · rw [if_pos hw]
            obtain ⟨hu, hnd⟩ := vcOp_upon hP h
            rw [← hr'.evalF] at hu
            refine Upon.wpIn hnd (hu.mono fun v w' hK => ?_)
            obtain ⟨hck, hK⟩ := recK_of hK
            exact ⟨hck, ih _ _ _ _ _ (hL.set hlt) hC' (fun r hr => by
              have := List.mem_filter.1 hr
              exact hck r this.1 (by simpa using this.2)) ⟨_, hr'.put _ _, by rw [put_defers']; exact hd, fx_put hF (hx _ _ ho) _, hK⟩⟩
          · rw [if_neg (by simp [hw])]
            exact ⟨fun _ _ => trivial, (fun r hr _ => hR r hr), ih _ _ _ _ _ (hL.set hlt) hC' (fun r hr => hR r (List.mem_filter.1 hr).1) ⟨_, hr'.put _ _, by rw [put_defers']; exact hd, fx_put hF (hx _ _ ho) _, h⟩⟩
theorem accAt_eq (acc : List Nat) (j : Nat) : accAt acc.length acc j = acc.reverse.getD j 0 := by
  unfold accAt
  split
  · rename_i h
    have h : j < acc.length := by simpa [Nat.blt_eq] using h
    simp only [List.getD_eq_getElem?_getD]
    rw [List.getElem?_reverse h]
  · rename_i h
    have h : ¬ j < acc.length := by
      intro hc
      have : Nat.blt j acc.length = true := by simpa [Nat.blt_eq] using hc
      rw [this] at h; cases h
    simp only [List.getD_eq_getElem?_getD]
    rw [List.getElem?_eq_none (by simpa using Nat.le_of_not_lt h)]
    rfl
theorem bfMaskR_eq (o : Oper) (acc : List Nat) : bfMaskR o acc.length acc = bfMask o acc.reverse := by
  unfold bfMaskR bfMask
  congr 1
  funext s e
  rw [accAt_eq]
  all_goals (cases Region.binds .any e <;> rfl)
theorem bfs_prefix : ∀ (l : List Oper) (acc : List Nat), ∃ t, bfs l acc = acc ++ t
  | [], acc => ⟨[], by simp [bfs]⟩
  | o :: l, acc => by
    obtain ⟨t, h⟩ := bfs_prefix l (acc ++ [bfMask o acc])
    refine ⟨bfMask o acc :: t, ?_⟩
    change bfs l (acc ++ [bfMask o acc]) = _
    rw [h]; simp
theorem rowsOf_spec (P : Program) : ∀ (l : List Oper) (acc : List Nat) (k : Nat) (o : Oper), l[k]? = some o →
    ∃ r, (rowsOf P l acc.length acc)[k]? = some r ∧ r.i = acc.length + k ∧ r.d = dmOf o ∧ r.b = (bfs l acc.reverse).getD (acc.length + k) 0 ∧ r.q = isQuiet P o.op ∧ r.o = o
  | [], _, _, _, h => by simp at h
  | o' :: l, acc, 0, o, h => by
    simp only [List.getElem?_cons_zero, Option.some.injEq] at h
    subst h
    refine ⟨_, rfl, rfl, rfl, ?_, rfl, rfl⟩
    change bfMaskR o' acc.length acc = (bfs l (acc.reverse ++ [bfMask o' acc.reverse])).getD (acc.length + 0) 0
    obtain ⟨t, ht⟩ := bfs_prefix l (acc.reverse ++ [bfMask o' acc.reverse])
    rw [ht, bfMaskR_eq]
    simp only [List.getD_eq_getElem?_getD, Nat.add_zero, List.append_assoc]
    rw [List.getElem?_append_right (by simp)]
    simp
  | o' :: l, acc, k + 1, o, h => by
    simp only [List.getElem?_cons_succ] at h
    obtain ⟨r, hr, hi, hd, hb, hq, ho⟩ := rowsOf_spec P l (bfMaskR o' acc.length acc :: acc) k o h
    refine ⟨r, ?_, ?_, hd, ?_, hq, ho⟩
    · simpa [rowsOf] using hr
    · rw [hi]; simp; omega
    · rw [hb]
      rw [List.reverse_cons, bfMaskR_eq]
      change _ = (bfs l (acc.reverse ++ [bfMask o' acc.reverse])).getD _ 0
      congr 1
      simp; omega
theorem rowsOf_length (P : Program) : ∀ (l : List Oper) (i : Nat) (acc : List Nat), (rowsOf P l i acc).length = l.length
  | [], _, _ => rfl
  | o :: l, i, acc => by simp [rowsOf, rowsOf_length P l]
theorem dmOf_spec (o : Oper) (mask : Nat) : Nat.beq (Nat.land (dmOf o) mask) (dmOf o) = o.after.toList.all fun e => !Region.binds .any e || mask.testBit e.on := by
  have key : ∀ (es : List Edge) (s k : Nat), (es.foldl (fun s e => match Region.binds .any e with | true => s ||| 2 ^ e.on | false => s) s).testBit k = (s.testBit k || es.any fun e => Region.binds .any e && decide (e.on = k)) := by
    intro es
    induction es with
    | nil => intro s k; simp
    | cons e es ih =>
      intro s k
      rw [List.foldl_cons, ih, List.any_cons]
      cases Region.binds .any e with
      | true => simp [Nat.testBit_or, Nat.testBit_two_pow, Bool.or_assoc]
      | false => simp
  have hd : ∀ k, (dmOf o).testBit k = o.after.toList.any fun e => Region.binds .any e && decide (e.on = k) := by
    intro k
    unfold dmOf
    rw [key]
    simp
  rw [Bool.eq_iff_iff]
  have hsub : Nat.beq (Nat.land (dmOf o) mask) (dmOf o) = true ↔ ∀ k, (dmOf o).testBit k = true → mask.testBit k = true := by
    constructor
    · intro h k hk
      have h : dmOf o &&& mask = dmOf o := Nat.eq_of_beq_eq_true h
      rw [← h, Nat.testBit_and] at hk
      simp at hk
      exact hk.2
    · intro h
      have : dmOf o &&& mask = dmOf o := Nat.eq_of_testBit_eq fun k => by
        rw [Nat.testBit_and]
        cases hk : (dmOf o).testBit k with
        | false => rfl
        | true => rw [h k hk]; rfl
      change Nat.beq (dmOf o &&& mask) (dmOf o) = true
      rw [this]
      exact Nat.beq_refl _
  rw [hsub, List.all_eq_true]
  constructor
  · intro h e he
    cases hb : Region.binds .any e with
    | false => rfl
    | true =>
      refine h e.on ?_
      rw [hd, List.any_eq_true]
      exact ⟨e, he, by simp [hb]⟩
  · intro h k hk
    rw [hd, List.any_eq_true] at hk
    obtain ⟨e, he, hk⟩ := hk
    simp only [Bool.and_eq_true, decide_eq_true_eq] at hk
    have := h e he
    rw [hk.1] at this
    rw [← hk.2]
    simpa using this
structure RowsOK (P : Program) (ops : Array Oper) (L : List Row) : Prop where
  idx : L.map (·.i) = List.range ops.size
  at' : ∀ r ∈ L, ops[r.i]? = some r.o ∧ r.d = dmOf r.o ∧ r.b = (bfOf ops).getD r.i 0 ∧ r.q = isQuiet P r.o.op
theorem rows_ok : RowsOK P ops (rowsOf P ops.toList 0 []) := by
  have hlen : (rowsOf P ops.toList 0 []).length = ops.size := by rw [rowsOf_length]; simp
  have hk : ∀ k (h : k < ops.size), ∃ r, (rowsOf P ops.toList 0 [])[k]? = some r ∧ r.i = k ∧ r.d = dmOf ops[k] ∧ r.b = (bfOf ops).getD k 0 ∧ r.q = isQuiet P ops[k].op ∧ r.o = ops[k] := by
    intro k h
    obtain ⟨r, h1, h2, h3, h4, h5, h6⟩ := rowsOf_spec P ops.toList [] k ops[k] (by simp [h])
    exact ⟨r, h1, by simpa using h2, h3, by simpa [bfOf] using h4, h5, h6⟩
  refine ⟨List.ext_getElem? fun k => ?_, fun r hr => ?_⟩
  · by_cases h : k < ops.size
    · obtain ⟨r, h1, h2, _⟩ := hk k h
      rw [List.getElem?_map, h1, List.getElem?_range h]
      simp [h2]
    · rw [List.getElem?_eq_none (by simp; omega), List.getElem?_eq_none (by simp; omega)]
  · obtain ⟨k, hk'⟩ := List.mem_iff_getElem?.1 hr
    have hlt : k < ops.size := by
      have := (List.getElem?_eq_some_iff.1 hk').1
      omega
    obtain ⟨r', h1, h2, h3, h4, h5, h6⟩ := hk k hlt
    rw [h1] at hk'
    cases hk'
    rw [h2, h6]
    exact ⟨by simp [hlt], h3, h4, h5⟩
theorem RowsOK.rdy {L : List Row} (h : RowsOK P ops L) {mask : Nat} {r : Row} (hr : r ∈ L) : Go.Fw.rdy mask r = readyM ops mask r.i := by
  obtain ⟨ho, hd, hb, hq⟩ := h.at' r hr
  unfold Go.Fw.rdy readyM
  rw [ho, hd, tb_eq, dmOf_spec]
  cases mask.testBit r.i <;> rfl
theorem RowsOK.filter {L : List Row} (h : RowsOK P ops L) (mask : Nat) : (L.filter (Go.Fw.rdy mask)).map (·.i) = readyL ops mask := by
  unfold readyL
  rw [← h.idx, List.filter_map]
  congr 1
  apply List.filter_congr
  intro r hr
  exact h.rdy hr
theorem RowsOK.find {L : List Row} (h : RowsOK P ops L) (mask : Nat) : (L.find? (rdyQ mask)).map (·.i) = findQ P ops mask := by
  unfold findQ
  rw [← h.filter, List.find?_map, List.find?_filter]
  congr 1
  have : ∀ (L' : List Row), (∀ r ∈ L', r ∈ L) → List.find? (rdyQ mask) L' = L'.find? (fun a => decide (Go.Fw.rdy mask a = true ∧ ((fun i => match ops[i]? with | some o => isQuiet P o.op | none => false) ∘ fun x : Row => x.i) a = true)) := by
    intro L'
    induction L' with
    | nil => intro _; rfl
    | cons r l ih =>
      intro hm
      have hr := h.at' r (hm r List.mem_cons_self)
      rw [List.find?_cons, List.find?_cons, ih fun x hx => hm x (List.mem_cons_of_mem _ hx)]
      have : rdyQ mask r = decide (Go.Fw.rdy mask r = true ∧ ((fun i => match ops[i]? with | some o => isQuiet P o.op | none => false) ∘ fun x : Row => x.i) r = true) := by
        unfold rdyQ
        simp only [Function.comp, hr.1, hr.2.2.2]
        cases isQuiet P r.o.op <;> cases Go.Fw.rdy mask r <;> rfl
      rw [this]
  exact this L fun _ h => h
theorem allR_eq (f : Row → Prop) (g : Nat → Prop) : ∀ (l : List Row), (∀ r ∈ l, f r = g r.i) → allR f l = allK g (l.map (·.i))
  | [], _ => rfl
  | [x], h => h x (by simp)
  | x :: y :: l, h => by
    change (f x ∧ allR f (y :: l)) = (g x.i ∧ allK g ((y :: l).map (·.i)))
    rw [h x (by simp), allR_eq f g (y :: l) fun r hr => h r (List.mem_cons_of_mem _ hr)]
theorem vcR_eq {L : List Row} (h : RowsOK P ops L) : ∀ (fuel mask : Nat) (R : Checks) (K : Fr → World → Prop) (ρ : Fr) (w : World), vcR P n ops L fuel mask R K ρ w = vcD P n ops (bfOf ops) fuel mask R K ρ w
  | 0, mask, R, K, ρ, w => by
    change (match L.filter (rdy mask) with | [] => K ρ w | _ => False) = (match readyL ops mask with | [] => K ρ w | _ => False)
    rw [← h.filter]
    cases L.filter (rdy mask) <;> rfl
  | fuel + 1, mask, R, K, ρ, w => by
    have ih := vcR_eq h fuel
    change (match L.find? (rdyQ mask) with
      | some r => guardV n ops r.o ρ (fun ρ => vcQuiet P n ρ r.o w fun v φ => strict (mask ||| 2 ^ r.i) fun m => vcR P n ops L fuel m (addC r.i φ R) K (updO ρ r.o.dst v) w) (fun ρ => strict (mask ||| 2 ^ r.i) fun m => vcR P n ops L fuel m R K (updO ρ r.o.dst undef) w)
      | none => match L.filter (rdy mask) with
        | [] => K ρ w
        | r :: l => allR (fun r => guardV n ops r.o ρ (fun ρ => vcOp P n ρ r.o w fun v w' => recK r.b R w' (strict (mask ||| 2 ^ r.i) fun m => vcR P n ops L fuel m (dropC r.b R) K (updO ρ r.o.dst v) w'))
              (fun ρ => strict (mask ||| 2 ^ r.i) fun m => vcR P n ops L fuel m (dropC r.b R) K (updO ρ r.o.dst undef) w)) (r :: l)) = (match findQ P ops mask with
      | some i => match ops[i]? with
        | none => False
        | some o => guardV n ops o ρ (fun ρ => vcQuiet P n ρ o w fun v φ => vcD P n ops (bfOf ops) fuel (mask ||| 2 ^ i) (addC i φ R) K (updO ρ o.dst v) w) (fun ρ => vcD P n ops (bfOf ops) fuel (mask ||| 2 ^ i) R K (updO ρ o.dst undef) w)
      | none => match readyL ops mask with
        | [] => K ρ w
        | i :: l => allK (fun i => match ops[i]? with
          | none => False
          | some o => guardV n ops o ρ (fun ρ => vcOp P n ρ o w fun v w' => recK ((bfOf ops).getD i 0) R w' (vcD P n ops (bfOf ops) fuel (mask ||| 2 ^ i) (dropC ((bfOf ops).getD i 0) R) K (updO ρ o.dst v) w'))
              (fun ρ => vcD P n ops (bfOf ops) fuel (mask ||| 2 ^ i) (dropC ((bfOf ops).getD i 0) R) K (updO ρ o.dst undef) w)) (i :: l))
    rw [← h.find, ← h.filter]
    cases hf : L.find? (rdyQ mask) with
    | some r =>
      have hr := h.at' r (List.mem_of_find?_eq_some hf)
      simp only [Option.map_some, hr.1, strict_eq, ih]
    | none =>
      simp only [Option.map_none]
      cases hl : L.filter (rdy mask) with
      | nil => rfl
      | cons r l =>
        simp only [List.map_cons]
        rw [← List.map_cons (f := fun r : Row => r.i)]
        refine allR_eq _ _ (r :: l) fun r' hr' => ?_
        have hm : r' ∈ L := (List.mem_filter.1 (by rw [hl]; exact hr')).1
        have hr := h.at' r' hm
        simp only [hr.1, hr.2.2.1, strict_eq, ih]
theorem pairR_ok {L : List Row} (h : RowsOK P ops L) (hp : pairR ops L = true) : pairOK ops (bfOf ops) = true := by
  have row : ∀ i, i < ops.size → ∃ r ∈ L, r.i = i := by
    intro i hi
    have : i ∈ L.map (·.i) := by rw [h.idx]; simpa using hi
    obtain ⟨r, hr, he⟩ := List.mem_map.1 this
    exact ⟨r, hr, he⟩
  unfold pairOK
  refine List.all_eq_true.2 fun i hi => ?_
  obtain ⟨x, hx, rfl⟩ := row i (by simpa using hi)
  have hxo := h.at' x hx
  rw [hxo.1]
  refine List.all_eq_true.2 fun j hj => ?_
  obtain ⟨y, hy, rfl⟩ := row j (by simpa using hj)
  have hyo := h.at' y hy
  rw [hyo.1, ← hxo.2.2.1, ← hyo.2.2.1]
  have := List.all_eq_true.1 (List.all_eq_true.1 hp x hx) y hy
  simpa only [tb_eq] using this
theorem vcRegion_sound (hP : Plain P) (hM : P.follows .mixedOrders = true) {id : Nat} {draw : Bool} (hQp : ∀ c a w, ¬ Q (.panic c) a w) (hQ : ∀ a w, Real n D Fx K a w → Q .normal a w) (hx : ∀ (j : Nat) (o : Oper), ops[j]? = some o → ∀ t, o.dst = some t → Fx t = none)
    {a : Act} {w : World} (h : Real n D Fx (vcRegion P n ops draw K) a w) : (Code.region id ops draw).wpIn (fence rd) m P Q a w := by
  obtain ⟨ρ, hr, hd, hF, h⟩ := h
  unfold vcRegion at h
  split at h
  · refine wpIn_region ?_
    have := vcList_sound (rd := rd) (m := m) hP hQ ops.toList 0 (fun j => by simp) (fun o ho => by
      obtain ⟨j, hj⟩ := List.mem_iff_getElem?.1 ho
      exact hx j o (by simpa using hj)) a w ⟨ρ, hr, hd, hF, h⟩
    rw [List.range_eq_range', ← Array.length_toList]
    exact this
  · rw [rowsK_eq] at h
    split at h
    · rename_i hsd
      obtain ⟨hsd, hpair⟩ := (Bool.and_eq_true _ _).mp hsd
      have hpair := pairR_ok rows_ok hpair
      rw [vcR_eq rows_ok] at h
      refine wpIn_region_any hM (wpAnyR_any _ [] _ _ _ (vcD_sound hP hsd hpair hQp hQ hx ops.size 0 [] _ a _ LM.zero (fun j hj => ?_) (fun r hr => by cases hr) ⟨ρ, hr, hd, hF, h⟩))
      exfalso
      simp only [Array.getD_eq_getD_getElem?, Array.getElem?_replicate] at hj
      split at hj <;> simp at hj
    · exact h.elim
end
end Go.Fw


set_option autoImplicit false
namespace Go.Fw
def CurT (X : Type) : List (Nat × Tag) → Type
  | [] => X
  | (_, .int _) :: l => Int → CurT X l
  | (_, .bool) :: l => Bool → CurT X l
  | (_, .str) :: l => ByteArray → CurT X l
  | (_, .ptr) :: l => Option Addr → CurT X l
  | (_, .slice) :: l => Option Addr → Nat → Nat → CurT X l
  | (_, .map) :: l => Option Nat → CurT X l
  | (_, .raw) :: l => Value → CurT X l
def unT {X Y : Type} (ρ : Fr) : (l : List (Nat × Tag)) → CurT X l → CurT Y l → (X → Y → Prop) → Prop
  | [], f, g, K => K f g
  | (t, .int k) :: l, f, g, K => match ρ t with | .int k' n => (match decide (k' = k) with | true => unT ρ l (f n) (g n) K | false => False) | _ => False
  | (t, .bool) :: l, f, g, K => match ρ t with | .bool b => unT ρ l (f b) (g b) K | _ => False
  | (t, .str) :: l, f, g, K => match ρ t with | .string b => unT ρ l (f b) (g b) K | _ => False
  | (t, .ptr) :: l, f, g, K => match ρ t with | .pointer b => unT ρ l (f b) (g b) K | _ => False
  | (t, .slice) :: l, f, g, K => match ρ t with | .slice a n c => unT ρ l (f a n c) (g a n c) K | _ => False
  | (t, .map) :: l, f, g, K => match ρ t with | .map b => unT ρ l (f b) (g b) K | _ => False
  | (t, .raw) :: l, f, g, K => unT ρ l (f (ρ t)) (g (ρ t)) K
def allT {X Y : Type} : (l : List (Nat × Tag)) → Fr → CurT X l → CurT Y l → (Fr → X → Y → Prop) → Prop
  | [], ρ, f, g, K => K ρ f g
  | (t, .int k) :: l, ρ, f, g, K => ∀ n : Int, allT l (upd ρ t (.int k n)) (f n) (g n) K
  | (t, .bool) :: l, ρ, f, g, K => ∀ b : Bool, allT l (upd ρ t (.bool b)) (f b) (g b) K
  | (t, .str) :: l, ρ, f, g, K => ∀ b : ByteArray, allT l (upd ρ t (.string b)) (f b) (g b) K
  | (t, .ptr) :: l, ρ, f, g, K => ∀ b : Option Addr, allT l (upd ρ t (.pointer b)) (f b) (g b) K
  | (t, .slice) :: l, ρ, f, g, K => ∀ (a : Option Addr) (n c : Nat), allT l (upd ρ t (.slice a n c)) (f a n c) (g a n c) K
  | (t, .map) :: l, ρ, f, g, K => ∀ b : Option Nat, allT l (upd ρ t (.map b)) (f b) (g b) K
  | (t, .raw) :: l, ρ, f, g, K => ∀ b : Value, allT l (upd ρ t b) (f b) (g b) K
noncomputable def fixF (fx : List Nat) (ρ j : Fr) : Fr := List.rec (motive := fun _ => Fr) j (fun t _ ih => upd ih t (ρ t)) fx
def asg (c : Code) : List Nat := match c with
  | .region _ ops _ => ops.toList.filterMap (·.dst)
  | .seq a b => asg a ++ asg b
  | .cond _ a b => asg a ++ asg b
  | .block _ a => asg a
  | .loop a => asg a
  | .scope a => asg a
  | .rangeFunc _ ps a b => ps.toList ++ asg a ++ asg b
  | _ => []
def dis (fx : List Nat) (asx : List Nat) : Bool := fx.all fun t => asx.all fun u => !Nat.beq t u
structure Ann where
  fx : List Nat
  st : List (Nat × Tag)
noncomputable def loopV (an : Ann) (asx : List Nat) (B : (Exit → Fr → World → Prop) → Fr → World → Prop) (Q : Exit → Fr → World → Prop) (ρ : Fr) (w : World) : Prop :=
  match dis an.fx asx with
  | false => False
  | true => ∃ (I : CurT (World → Prop) an.st) (μ : CurT (World → Nat) an.st), unT ρ an.st I μ (fun i _ => i w) ∧
      ∀ j : Fr, allT an.st (fixF an.fx ρ j) I μ fun ρ1 i m => ∀ w, i w → B (fun e ρ' w' => match e with
        | .normal => unT ρ' an.st I μ fun i' m' => i' w' ∧ m' w' < m w
        | e => Q e ρ' w') ρ1 w
noncomputable def wpC (P : Program) (n : Nat) (ann : Nat → Ann) (c : Code) : Nat → (Exit → Fr → World → Prop) → Fr → World → Prop :=
  Code.rec (motive := fun _ => Nat → (Exit → Fr → World → Prop) → Fr → World → Prop)
    (fun _ Q ρ w => Q .normal ρ w)
    (fun _ ops draw _ Q ρ w => vcRegion P n ops draw (Q .normal) ρ w)
    (fun a _ iha ihb k Q ρ w => iha k (fun e ρ w => match e with | .normal => ihb (k + (nl a)) Q ρ w | e => Q e ρ w) ρ w)
    (fun c a _ iha ihb k Q ρ w => match ev n ρ c with
      | .bool b => match c with
        | .tmp t => bsel b (iha k Q (upd ρ t (.bool true)) w) (ihb (k + nl a) Q (upd ρ t (.bool false)) w)
        | _ => bsel b (iha k Q ρ w) (ihb (k + nl a) Q ρ w)
      | _ => False)
    (fun id _ ih k Q ρ w => ih k (fun e ρ w => match e with | .exit id' => (match Nat.beq id' id with | true => Q .normal ρ w | false => Q (.exit id') ρ w) | e => Q e ρ w) ρ w)
    (fun b ih k Q ρ w => loopV (ann k) (asg b) (ih (k + 1)) Q ρ w)
    (fun _ _ _ _ _ _ _ _ _ _ => False)
    (fun id _ Q ρ w => Q (.exit id) ρ w)
    (fun _ ih k Q ρ w => ih k Q ρ w)
    (fun _ _ Q ρ w => Q .normal ρ w)
    (fun _ _ _ _ _ => False)
    (fun _ Q ρ w => Q .ret ρ w)
    (fun _ _ _ _ _ => False) c
where
  nl (c : Code) : Nat := match c with
    | .seq a b => nl a + nl b
    | .cond _ a b => nl a + nl b
    | .block _ a => nl a
    | .loop a => nl a + 1
    | .scope a => nl a
    | _ => 0
theorem unT_allT {X Y : Type} {n : Nat} {a : Act} {ρ : Fr} (hr : Rep n a ρ) {K : X → Y → Prop} {K' : Fr → X → Y → Prop} :
    ∀ (l : List (Nat × Tag)) (f : CurT X l) (g : CurT Y l) (ρ0 : Fr), (∀ t, t < n → (∀ p ∈ l, p.1 ≠ t) → ρ0 t = ρ t) → unT ρ l f g K → allT l ρ0 f g K' →
      ∃ (ρ1 : Fr) (x : X) (y : Y), Rep n a ρ1 ∧ K x y ∧ K' ρ1 x y
  | [], f, g, ρ0, h0, hK, hK' => ⟨ρ0, f, g, ⟨hr.size, fun t ht => by rw [hr.get t ht, h0 t ht (fun p hp => by cases hp)]⟩, hK, hK'⟩
  | (t, tg) :: l, f, g, ρ0, h0, hK, hK' => by
    have step : ∀ v, ρ t = v → ∀ u, u < n → (∀ p ∈ l, p.1 ≠ u) → upd ρ0 t v u = ρ u := by
      intro v hv u hu hp
      by_cases hut : u = t
      · subst hut; rw [upd_same, hv]
      · rw [upd_ne _ _ hut]
        exact h0 u hu fun p hp' => by
          rcases List.mem_cons.1 hp' with rfl | hp'
          · exact fun h => hut h.symm
          · exact hp p hp'
    cases tg with
    | int k =>
      simp only [unT] at hK
      split at hK
      · rename_i k' m hv
        split at hK
        · rename_i hk
          have hk := of_decide_eq_true hk
          subst hk
          exact unT_allT hr l (f m) (g m) (upd ρ0 t (.int k' m)) (step _ hv) hK (hK' m)
        · exact hK.elim
      · exact hK.elim
    | bool =>
      simp only [unT] at hK
      split at hK
      · rename_i b hv; exact unT_allT hr l (f b) (g b) _ (step _ hv) hK (hK' b)
      · exact hK.elim
    | str =>
      simp only [unT] at hK
      split at hK
      · rename_i b hv; exact unT_allT hr l (f b) (g b) _ (step _ hv) hK (hK' b)
      · exact hK.elim
    | ptr =>
      simp only [unT] at hK
      split at hK
      · rename_i b hv; exact unT_allT hr l (f b) (g b) _ (step _ hv) hK (hK' b)
      · exact hK.elim
    | slice =>
      simp only [unT] at hK
      split at hK
      · rename_i x y z hv; exact unT_allT hr l (f x y z) (g x y z) _ (step _ hv) hK (hK' x y z)
      · exact hK.elim
    | map =>
      simp only [unT] at hK
      split at hK
      · rename_i b hv; exact unT_allT hr l (f b) (g b) _ (step _ hv) hK (hK' b)
      · exact hK.elim
    | raw =>
      simp only [unT] at hK
      exact unT_allT hr l (f (ρ t)) (g (ρ t)) _ (step _ rfl) hK (hK' (ρ t))
theorem wpIn_loopN {F : Fence} {n : Nat} {P : Program} {Q : Exit → Act → World → Prop} {c : Code} (I : Nat → Act → World → Prop) {a : Act} {w : World} {k0 : Nat} (h₀ : I k0 a w)
    (round : ∀ k a w, I k a w → c.wpIn F n P (Exit.then (fun a' w' => ∃ k', k' < k ∧ I k' a' w') Q) a w) : (Code.loop c).wpIn F n P Q a w := by
  intro b k cs hro hb hr
  have key : ∀ j a w, I j a w →
      ∃ e a' w', Q e a' w' ∧ ArrivesIn (Machine.fenced P F) P (lone (b.atR a (.code c :: .inLoop c :: k)) cs w) b k cs e a' w' := by
    intro j
    induction j using Nat.strongRecOn with
    | _ j ih =>
      intro a w hI
      obtain ⟨e, a₁, w₁, hq, harr⟩ := round j a w hI b (.inLoop c :: k) cs hro hb hr
      cases e with
      | normal =>
        obtain ⟨k', hlt, hI₁⟩ := hq
        obtain ⟨e₂, a₂, w₂, hq₂, harr₂⟩ := ih k' hlt a₁ w₁ hI₁
        exact ⟨e₂, a₂, w₂, hq₂, .of_steps (StepsIn.trans harr (.one (fenced_calm hb hr rfl) stepR_inLoop)) harr₂⟩
      | exit id => exact ⟨_, a₁, w₁, hq, .pass (x := .inLoop c) rfl (fun _ _ => .inl (by simp)) harr⟩
      | goto l => exact ⟨_, a₁, w₁, hq, .pass (x := .inLoop c) rfl (fun _ _ => .inl (by simp)) harr⟩
      | ret => exact ⟨_, a₁, w₁, hq, .pass (x := .inLoop c) rfl (fun _ _ => .inl (by simp)) harr⟩
      | panic ch => exact ⟨_, a₁, w₁, hq, .pass (x := .inLoop c) rfl (fun _ _ => .inl (by simp)) harr⟩
      | outgrown => exact ⟨_, a₁, w₁, hq, .pass (x := .inLoop c) rfl (fun _ _ => .inl (by simp)) harr⟩
  obtain ⟨e, a', w', hq, harr⟩ := key _ a w h₀
  exact ⟨e, a', w', hq, .of_steps (.one (fenced_calm hb hr rfl) stepR_loop) harr⟩
theorem stepR_scope' {P : Program} {b : Frame} {a : Act} {k : List Item} {cs : List Frame} {w : World} {c : Code} :
    step P (lone (b.atR a (.code (.scope c) :: k)) cs w) = .next (lone (b.atR a (.code c :: .inScope c :: k)) cs w) :=
  step_lone_go (by simp [stepG, stepG.exec, Frame.atR])
theorem stepR_inScope' {P : Program} {b : Frame} {a : Act} {k : List Item} {cs : List Frame} {w : World} {c : Code} :
    step P (lone (b.atR a (.inScope c :: k)) cs w) = .next (lone (b.atR a k) cs w) :=
  step_lone_go (by simp [stepG, stepG.exec, Frame.atR])
theorem wpIn_scope {F : Fence} {n : Nat} {P : Program} {Q : Exit → Act → World → Prop} {c : Code} {a : Act} {w : World} (hg : ∀ l a w, ¬ Q (.goto l) a w) (h : c.wpIn F n P Q a w) :
    (Code.scope c).wpIn F n P Q a w := by
  intro b k cs hro hb hr
  have h0 : (lone (b.atR a (.code (.scope c) :: k)) cs w).fenced P F := fenced_calm hb hr rfl
  obtain ⟨e, a₁, w₁, hq, harr⟩ := h b (.inScope c :: k) cs hro hb hr
  cases e with
  | normal => exact ⟨.normal, a₁, w₁, hq, .head h0 stepR_scope' (StepsIn.trans harr (.one (fenced_calm hb hr rfl) stepR_inScope'))⟩
  | exit id =>
    have hx : exitTo id (.inScope c :: k) = exitTo id k := by simp [exitTo]
    exact ⟨_, a₁, w₁, hq, fun k' hk => .head h0 stepR_scope' (harr.1 k' (by rw [hx]; exact hk)),
      fun hr' hk => let ⟨k₁, h1, h2⟩ := harr.2 hr' (by rw [hx]; exact hk); ⟨k₁, h1, .head h0 stepR_scope' h2⟩⟩
  | goto l => exact absurd hq (hg _ _ _)
  | ret => exact ⟨_, a₁, w₁, hq, .of_steps (.one h0 stepR_scope') harr⟩
  | panic ch => exact ⟨_, a₁, w₁, hq, .of_steps (.one h0 stepR_scope') harr⟩
  | outgrown => exact ⟨_, a₁, w₁, hq, .of_steps (.one h0 stepR_scope') harr⟩
def lift (n : Nat) (D : List Deferred) (Fx : Nat → Option Value) (Q : Exit → Fr → World → Prop) : Exit → Act → World → Prop
  | .panic _, _, _ => False
  | .outgrown, _, _ => False
  | .goto _, _, _ => False
  | e, a, w => Real n D Fx (Q e) a w
theorem fixF_get {ρ j : Fr} : ∀ {fx : List Nat} {t : Nat}, fixF fx ρ j t = if t ∈ fx then ρ t else j t
  | [], t => by simp [fixF]
  | u :: fx, t => by
    change upd (fixF fx ρ j) u (ρ u) t = _
    by_cases h : t = u
    · subst h; rw [upd_same]; simp
    · rw [upd_ne _ _ h, fixF_get]; simp [h]
theorem dis_spec {fx asx : List Nat} (h : dis fx asx = true) {t : Nat} (ht : t ∈ fx) : t ∉ asx := by
  intro hm
  have := List.all_eq_true.1 (List.all_eq_true.1 h t ht) t hm
  simp at this
theorem wpC_sound {P : Program} (hP : Plain P) (hM : P.follows .mixedOrders = true) {n : Nat} {ann : Nat → Ann} {rd : Option Nat} {m : Nat} {D : List Deferred} :
    ∀ (c : Code) (k : Nat) (Fx : Nat → Option Value) (Q : Exit → Fr → World → Prop) (a : Act) (w : World), (∀ t ∈ asg c, Fx t = none) →
      Real n D Fx (wpC P n ann c k Q) a w → c.wpIn (fence rd) m P (lift n D Fx Q) a w := by
  intro c
  induction c with
  | skip => intro k Fx Q a w hx h; exact wpIn_skip h
  | region id ops draw =>
    intro k Fx Q a w hx h
    refine vcRegion_sound (D := D) (Fx := Fx) (K := Q .normal) hP hM (fun c a w h => h) (fun a w h => h) (fun j o ho t ht => hx t ?_) h
    simp only [asg, List.mem_filterMap]
    exact ⟨o, by rw [Array.mem_toList_iff]; exact Array.mem_of_getElem? ho, ht⟩
  | seq x y ihx ihy =>
    intro k Fx Q a w hx h
    have hxx : ∀ t ∈ asg x, Fx t = none := fun t ht => hx t (by simp [asg, ht])
    have hxy : ∀ t ∈ asg y, Fx t = none := fun t ht => hx t (by simp [asg, ht])
    refine wpIn_seq (wpIn_mono (ihx k Fx _ a w hxx h) fun e a' w' hq => ?_)
    cases e with
    | normal => exact ihy _ Fx Q a' w' hxy hq
    | exit id => exact hq
    | ret => exact hq
    | goto l => exact hq
    | panic c => exact hq
    | outgrown => exact hq
  | cond c x y ihx ihy =>
    intro k Fx Q a w hx h
    have hxx : ∀ t ∈ asg x, Fx t = none := fun t ht => hx t (by simp [asg, ht])
    have hxy : ∀ t ∈ asg y, Fx t = none := fun t ht => hx t (by simp [asg, ht])
    obtain ⟨ρ, hr, hd, hF, h⟩ := h
    change (match ev n ρ c with
      | .bool b => match (generalizing := false) c with
        | .tmp t => bsel b (wpC P n ann x k Q (upd ρ t (.bool true)) w) (wpC P n ann y (k + wpC.nl x) Q (upd ρ t (.bool false)) w)
        | _ => bsel b (wpC P n ann x k Q ρ w) (wpC P n ann y (k + wpC.nl x) Q ρ w)
      | _ => False) at h
    split at h
    · rename_i b hb
      have hev : a.eval c = .bool b := by rw [hr.eval, hb]
      split at h
      · rename_i t
        have hpos : ∀ v, ev n ρ (.tmp t) = .bool v → Rep n a (upd ρ t (.bool v)) := by
          intro v hv
          simp only [ev] at hv
          split at hv
          · exact hr.set t _ hv
          · simp [undef] at hv
        cases b
        · exact wpIn_cond_false hev (ihy _ Fx Q a w hxy ⟨_, hpos _ hb, hd, hF, h⟩)
        · exact wpIn_cond_true hev (ihx _ Fx Q a w hxx ⟨_, hpos _ hb, hd, hF, h⟩)
      · cases b
        · exact wpIn_cond_false hev (ihy _ Fx Q a w hxy ⟨_, hr, hd, hF, h⟩)
        · exact wpIn_cond_true hev (ihx _ Fx Q a w hxx ⟨_, hr, hd, hF, h⟩)
    · exact h.elim
  | block id c ih =>
    intro k Fx Q a w hx h
    refine wpIn_block (wpIn_mono (ih k Fx _ a w hx h) fun e a' w' hq => ?_)
    cases e with
    | normal => exact hq
    | exit id' =>
      obtain ⟨ρ, hr, hd, hF, hq⟩ := hq
      simp only at hq
      simp only [Exit.inBlock]
      split at hq
      · rename_i hb
        rw [if_pos (Nat.eq_of_beq_eq_true hb)]
        exact ⟨ρ, hr, hd, hF, hq⟩
      · rename_i hb
        rw [if_neg (Nat.ne_of_beq_eq_false hb)]
        exact ⟨ρ, hr, hd, hF, hq⟩
    | ret => exact hq
    | goto l => exact hq
    | panic c => exact hq
    | outgrown => exact hq
  | loop b ih =>
    intro k Fx Q a w hx h
    obtain ⟨ρ, hr, hd, hF, h⟩ := h
    change loopV (ann k) (asg b) (wpC P n ann b (k + 1)) Q ρ w at h
    unfold loopV at h
    split at h
    · exact h.elim
    · rename_i hdis
      obtain ⟨I, μ, h0, hall⟩ := h
      generalize han : ann k = an at *
      let Fx2 : Nat → Option Value := fun t => if t ∈ an.fx ∧ t < n then some (ρ t) else Fx t
      have hFx2 : ∀ t ∈ asg b, Fx2 t = none := by
        intro t ht
        have : t ∉ an.fx := fun hm => dis_spec hdis hm ht
        simp only [Fx2, this, false_and, if_false]
        exact hx t ht
      have hF2 : ∀ t v, Fx2 t = some v → a.tmps[t]? = some v := by
        intro t v hv
        simp only [Fx2] at hv
        split at hv
        · rename_i hc
          cases hv
          exact hr.get t hc.2
        · exact hF t v hv
      obtain ⟨ρ1, i, m1, hr1, hi, hB⟩ := unT_allT hr an.st I μ (fixF an.fx ρ ρ) (fun t ht _ => by rw [fixF_get]; split <;> rfl) h0 (hall ρ)
      refine wpIn_loopN (fun k0 a w => ∃ (ρ1 : Fr) (i : World → Prop) (μ1 : World → Nat), Rep n a ρ1 ∧ a.defers = D ∧ (∀ t v, Fx2 t = some v → a.tmps[t]? = some v) ∧ i w ∧ μ1 w = k0 ∧
          ∀ w, i w → wpC P n ann b (k + 1) (fun e ρ' w' => match e with
            | .normal => unT ρ' an.st I μ fun i' m' => i' w' ∧ m' w' < μ1 w
            | e => Q e ρ' w') ρ1 w) (k0 := m1 w) ⟨ρ1, i, m1, hr1, hd, hF2, hi, rfl, hB⟩ ?round
      case round =>
        rintro k0 a1 w1 ⟨ρ1, i, m1, hr1, hd1, hF1, hi, rfl, hB⟩
        refine wpIn_mono (ih (k + 1) Fx2 _ a1 w1 hFx2 ⟨ρ1, hr1, hd1, hF1, hB w1 hi⟩) fun e a' w' hq => ?_
        have weak : ∀ {K : Fr → World → Prop}, Real n D Fx2 K a' w' → Real n D Fx K a' w' := by
          rintro K ⟨ρ', hr', hd', hF', hK⟩
          refine ⟨ρ', hr', hd', fun t v hv => ?_, hK⟩
          by_cases hc : t ∈ an.fx ∧ t < n
          · have e1 := hF' t (ρ t) (by simp only [Fx2, if_pos hc])
            have e2 := hF t v hv
            rw [hr.get t hc.2] at e2
            rw [e1]; exact e2
          · exact hF' t v (by simp only [Fx2, if_neg hc]; exact hv)
        cases e with
        | normal =>
          obtain ⟨ρ', hr', hd', hF', hq⟩ := hq
          obtain ⟨ρ2, i2, m2, hr2, ⟨hi2, hlt⟩, hB2⟩ := unT_allT hr' an.st I μ (fixF an.fx ρ ρ') (fun t ht _ => by
            rw [fixF_get]
            split
            · rename_i hm
              have e1 := hF' t (ρ t) (by simp only [Fx2, if_pos (And.intro hm ht)])
              rw [hr'.get t ht] at e1
              injection e1 with e1
              exact e1.symm
            · rfl) hq (hall ρ')
          exact ⟨m2 w', hlt, ρ2, i2, m2, hr2, hd', hF', hi2, rfl, hB2⟩
        | exit id => exact weak hq
        | ret => exact weak hq
        | goto l => exact hq
        | panic c => exact hq
        | outgrown => exact hq
  | rangeFunc f ps asx body iha ihb =>
    intro k Fx Q a w hx h
    obtain ⟨ρ, hr, hd, hF, h⟩ := h
    exact h.elim
  | exit id => intro k Fx Q a w hx h; exact wpIn_exit h
  | scope c ih =>
    intro k Fx Q a w hx h
    exact wpIn_scope (fun l a w h => h) (ih k Fx Q a w hx h)
  | label l => intro k Fx Q a w hx h; exact wpIn_label h
  | goto l =>
    intro k Fx Q a w hx h
    obtain ⟨ρ, hr, hd, hF, h⟩ := h
    exact h.elim
  | ret => intro k Fx Q a w hx h; exact wpIn_ret h
  | refuse why =>
    intro k Fx Q a w hx h
    obtain ⟨ρ, hr, hd, hF, h⟩ := h
    exact h.elim
end Go.Fw

