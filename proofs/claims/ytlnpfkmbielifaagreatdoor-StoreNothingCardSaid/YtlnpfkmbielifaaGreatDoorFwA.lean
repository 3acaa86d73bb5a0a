/- Part of a proof over the given program: a text of lemmas (conditions: none beyond each lemma as stated). -/
import Derived.RangeFuncIn
import Derived.RangeFuncLeaves
import Derived.RangeFuncCalls
import Derived.OrdersIn
import Derived.WalkKit
set_option linter.unnecessarySimpa false
set_option linter.unusedVariables false
set_option linter.unusedSimpArgs false
set_option autoImplicit false
namespace Go.Fw

/-! Frames as functions. -/
abbrev Fr := Nat → Value
def upd (ρ : Fr) (d : Nat) (v : Value) : Fr := fun t => match Nat.beq t d with | true => v | false => ρ t
def updO (ρ : Fr) (d : Option Nat) (v : Value) : Fr := match d with | some d => upd ρ d v | none => ρ
def ev (n : Nat) (ρ : Fr) (x : Operand) : Value := match x with
  | .tmp t => match Nat.blt t n with | true => ρ t | false => undef
  | .const v => v
  | .global g => .pointer (some ⟨g, 0, none⟩)
  | .func f => .func (.func f) #[] #[]

structure Rep (n : Nat) (a : Act) (ρ : Fr) : Prop where
  size : a.tmps.size = n
  get : ∀ t, t < n → a.tmps[t]? = some (ρ t)

theorem Rep.eval {n : Nat} {a : Act} {ρ : Fr} (h : Rep n a ρ) (x : Operand) : a.eval x = ev n ρ x := by
  cases x with
  | tmp t =>
    simp only [Act.eval, ev]
    cases hb : Nat.blt t n with
    | true =>
      have := h.get t (by simpa [Nat.blt_eq] using hb)
      simp [this]
    | false =>
      have hge : n ≤ t := by
        rcases Nat.lt_or_ge t n with h' | h'
        · rw [show Nat.blt t n = true from by simpa [Nat.blt_eq] using h'] at hb; cases hb
        · exact h'
      have : a.tmps[t]? = none := by simp [h.size, hge]
      simp [this]
  | const v => rfl
  | global g => rfl
  | func f => rfl

theorem Rep.evalF {n : Nat} {a : Act} {ρ : Fr} (h : Rep n a ρ) : a.eval = ev n ρ := funext h.eval

theorem upd_same (ρ : Fr) (d : Nat) (v : Value) : upd ρ d v d = v := by
  simp [upd]
theorem upd_ne (ρ : Fr) {d t : Nat} (v : Value) (h : t ≠ d) : upd ρ d v t = ρ t := by
  unfold upd
  cases hb : Nat.beq t d with
  | true => exact absurd (Nat.eq_of_beq_eq_true hb) h
  | false => rfl

theorem Rep.put {n : Nat} {a : Act} {ρ : Fr} (h : Rep n a ρ) (d : Option Nat) (v : Value) : Rep n (a.put d v) (updO ρ d v) := by
  cases d with
  | none => exact h
  | some d =>
    refine ⟨by simp [Act.put, h.size], fun t ht => ?_⟩
    simp only [Act.put, updO]
    by_cases hd : t = d
    · subst hd
      rw [upd_same, Array.getElem?_setIfInBounds]
      simp [h.size, ht]
    · rw [upd_ne _ _ hd, Array.getElem?_setIfInBounds_ne (Ne.symm hd)]
      exact h.get t ht

theorem Rep.set {n : Nat} {a : Act} {ρ : Fr} (h : Rep n a ρ) (d : Nat) (v : Value) (hv : ρ d = v) : Rep n a (upd ρ d v) :=
  ⟨h.size, fun t ht => by
    by_cases hd : t = d
    · subst hd; rw [upd_same, ← hv]; exact h.get t ht
    · rw [upd_ne _ _ hd]; exact h.get t ht⟩

/-! Tags: how a value of a type is opened. -/
inductive Tag where
  | int (k : IntKind) | bool | str | ptr | slice | map | raw

def exTag (t : Tag) (K : Value → Prop) : Prop := match t with
  | .int k => ∃ n : Int, K (.int k n)
  | .bool => ∃ b : Bool, K (.bool b)
  | .str => ∃ s : ByteArray, K (.string s)
  | .ptr => ∃ p : Option Addr, K (.pointer p)
  | .slice => ∃ (a : Option Addr) (l c : Nat), K (.slice a l c)
  | .map => ∃ r : Option Nat, K (.map r)
  | .raw => ∃ v : Value, K v

theorem exTag_ex {t : Tag} {K : Value → Prop} (h : exTag t K) : ∃ v, K v := by
  cases t <;> simp only [exTag] at h
  all_goals first
    | (obtain ⟨x, h⟩ := h; exact ⟨_, h⟩)
    | (obtain ⟨x, y, z, h⟩ := h; exact ⟨_, h⟩)

def exTags (ts : List Tag) (K : List Value → Prop) : Prop :=
  List.rec (motive := fun _ => (List Value → Prop) → Prop) (fun K => K []) (fun t _ ih K => exTag t fun v => ih fun vs => K (v :: vs)) ts K

theorem exTags_ex : ∀ {ts : List Tag} {K : List Value → Prop}, exTags ts K → ∃ vs, vs.length = ts.length ∧ K vs
  | [], _, h => ⟨[], rfl, h⟩
  | t :: ts, K, h => by
    obtain ⟨v, hv⟩ := exTag_ex (t := t) (K := fun v => exTags ts fun vs => K (v :: vs)) h
    obtain ⟨vs, hl, hvs⟩ := exTags_ex hv
    exact ⟨v :: vs, by simp [hl], hvs⟩

inductive Shape where
  | one (t : Tag) | agg (ts : List Tag)
inductive RShape where
  | single (s : Shape) | tup (ss : List Shape)

def exShape (s : Shape) (K : Value → Prop) : Prop := match s with
  | .one t => exTag t K
  | .agg ts => exTags ts fun vs => K (.agg vs.toArray)

theorem exShape_ex {s : Shape} {K : Value → Prop} (h : exShape s K) : ∃ v, K v := by
  cases s with
  | one t => exact exTag_ex h
  | agg ts => obtain ⟨vs, _, h⟩ := exTags_ex h; exact ⟨_, h⟩

def exShapes (ss : List Shape) (K : List Value → Prop) : Prop :=
  List.rec (motive := fun _ => (List Value → Prop) → Prop) (fun K => K []) (fun s _ ih K => exShape s fun v => ih fun vs => K (v :: vs)) ss K

theorem exShapes_ex : ∀ {ss : List Shape} {K : List Value → Prop}, exShapes ss K → ∃ vs, K vs
  | [], _, h => ⟨[], h⟩
  | s :: ss, K, h => by
    obtain ⟨v, hv⟩ := exShape_ex (s := s) (K := fun v => exShapes ss fun vs => K (v :: vs)) h
    obtain ⟨vs, hvs⟩ := exShapes_ex hv
    exact ⟨v :: vs, hvs⟩

def exR (r : RShape) (K : Value → Prop) : Prop := match r with
  | .single s => exShape s K
  | .tup ss => exShapes ss fun vs => K (.tuple vs.toArray)

theorem exR_ex {r : RShape} {K : Value → Prop} (h : exR r K) : ∃ v, K v := by
  cases r with
  | single s => exact exShape_ex h
  | tup ss => obtain ⟨vs, h⟩ := exShapes_ex h; exact ⟨_, h⟩

def tagOf (d : TypeDesc) : Tag := match d with
  | .bool => .bool
  | .int k => .int k
  | .string => .str
  | .pointer _ => .ptr
  | .slice _ => .slice
  | .map _ _ => .map
  | _ => .raw

/-- The tags of a type's cells. -/
def flat (P : Program) : Nat → TypeId → List Tag
  | 0, _ => [.raw]
  | f + 1, t => match P.underlying t with
    | some (.struct fs) => fs.toList.flatMap fun x => flat P f x.type
    | some (.array n e) => (List.replicate n (flat P f e)).flatten
    | some d => [tagOf d]
    | none => [.raw]

def shapeOf (P : Program) (t : TypeId) : Shape := match P.underlying t with
  | some (.struct _) | some (.array _ _) => .agg (flat P 8 t)
  | some d => .one (tagOf d)
  | none => .one .raw

def rshapeOf (P : Program) (t : TypeId) : RShape := match P.underlying t with
  | some (.tuple ts) => .tup (ts.toList.map (shapeOf P))
  | _ => .single (shapeOf P t)

/-! The words of a VC. -/
def bAnd (k : IntKind) (x y : Int) : Int := k.wrap (BitVec.ofInt k.bits x &&& BitVec.ofInt k.bits y).toNat
def bOr (k : IntKind) (x y : Int) : Int := k.wrap (BitVec.ofInt k.bits x ||| BitVec.ofInt k.bits y).toNat
def bXor (k : IntKind) (x y : Int) : Int := k.wrap (BitVec.ofInt k.bits x ^^^ BitVec.ofInt k.bits y).toNat
def bAndNot (k : IntKind) (x y : Int) : Int := k.wrap (BitVec.ofInt k.bits x &&& ~~~ BitVec.ofInt k.bits y).toNat
def bNot (k : IntKind) (x : Int) : Int := bXor k (if k.signed then -1 else k.max) x
def shl (k : IntKind) (x y : Int) : Int := k.wrap (x * 2 ^ min y.toNat k.bits)
def shr (k : IntKind) (x y : Int) : Int := x.fdiv (2 ^ min y.toNat k.bits)

def bsel (b : Bool) (X Y : Prop) : Prop := match b with | true => X | false => Y
@[simp] theorem bsel_true (X Y : Prop) : bsel true X Y = X := rfl
@[simp] theorem bsel_false (X Y : Prop) : bsel false X Y = Y := rfl
theorem bsel_iff (b : Bool) (X Y : Prop) : bsel b X Y ↔ if b = true then X else Y := by cases b <;> simp

/-- Cells from a on. -/
def cellsFrom (w : World) (a : Addr) (vs : List Value) : Nat → Prop :=
  List.rec (motive := fun _ => Nat → Prop) (fun _ => True) (fun v vs ih i => match vs with | [] => w.cell? (a.add i) = some v | _ => w.cell? (a.add i) = some v ∧ ih (i + 1)) vs
def CellsAt (w : World) (a : Addr) (vs : List Value) : Prop := cellsFrom w a vs 0
theorem cellsFrom_cons {w : World} {a : Addr} {v : Value} {vs : List Value} {i : Nat} : cellsFrom w a (v :: vs) i ↔ w.cell? (a.add i) = some v ∧ cellsFrom w a vs (i + 1) := by
  cases vs with
  | nil => simp [cellsFrom]
  | cons u us => exact Iff.rfl

def szK (P : Program) (t : TypeId) (K : Nat → Prop) : Prop := match P.info? t with | some i => K i.size | none => False

def ldS (P : Program) (t : TypeId) (w : World) (a : Addr) (K : Value → Prop) : Prop := match shapeOf P t with
  | .one (.int k) => ∃ n : Int, w.cell? a = some (.int k n) ∧ K (.int k n)
  | .one .bool => ∃ b : Bool, w.cell? a = some (.bool b) ∧ K (.bool b)
  | .one .str => ∃ s : ByteArray, w.cell? a = some (.string s) ∧ K (.string s)
  | .one .ptr => ∃ p : Option Addr, w.cell? a = some (.pointer p) ∧ K (.pointer p)
  | .one .slice => ∃ (s : Option Addr) (l c : Nat), w.cell? a = some (.slice s l c) ∧ K (.slice s l c)
  | .one .map => ∃ r : Option Nat, w.cell? a = some (.map r) ∧ K (.map r)
  | .one .raw => ∃ v : Value, w.cell? a = some v ∧ K v
  | .agg ts => szK P t fun sz => match Nat.beq ts.length sz with
    | true => exTags ts fun vs => CellsAt w a vs ∧ K (.agg vs.toArray)
    | false => False

def ldK (P : Program) (t : TypeId) (w : World) (a : Addr) (K : Value → Prop) : Prop := match P.underlying t with | some _ => ldS P t w a K | none => False

def plainV (v : Value) : Bool := match v with | .agg _ => false | .tuple _ => false | _ => true

def plK (v : Value) (K : Prop) : Prop := match v with | .agg _ => False | .tuple _ => False | _ => K
theorem plK_iff {v : Value} {K : Prop} (h : plK v K) : K ∧ plainV v = true := by cases v <;> simp_all [plK, plainV]

/-- A store of one cell. -/
def stK (w : World) (a : Addr) (v : Value) (K : World → Prop) : Prop :=
  ((w.cell? a).isSome = true ∧ w.frozen? a = false) ∧ K (w.setCell a v)
/-- A store of several cells. -/
def stsFrom (a : Addr) (vs : List Value) (K : World → Prop) : Nat → World → Prop :=
  List.rec (motive := fun _ => Nat → World → Prop) (fun _ w => K w) (fun v _ ih i w => plK v (stK w (a.add i) v fun w' => ih (i + 1) w')) vs
def stsK (w : World) (a : Addr) (vs : List Value) (K : World → Prop) : Prop := stsFrom a vs K 0 w

def nilK (p : Option Addr) (K : Addr → Prop) : Prop := match p with | some a => K a | none => False
theorem nilK_of {p : Option Addr} {K : Addr → Prop} (h : nilK p K) : ∃ a, p = some a ∧ K a := by cases p <;> first | exact h.elim | exact ⟨_, rfl, h⟩
@[simp] theorem nilK_some (a : Addr) (K : Addr → Prop) : nilK (some a) K = K a := rfl
@[simp] theorem nilK_none (K : Addr → Prop) : nilK none K = False := rfl
def idxK (base : Option Addr) (len : Nat) (i : Int) (size : Nat) (K : Addr → Prop) : Prop :=
  ∃ a, base = some a ∧ (0 ≤ i ∧ i < len) ∧ K (a.add (i.toNat * size))
def aidxK (a : Addr) (len : Nat) (i : Int) (size : Nat) (K : Addr → Prop) : Prop := (0 ≤ i ∧ i < len) ∧ K (a.add (i.toNat * size))
def sidxK (s : ByteArray) (i : Int) (K : Int → Prop) : Prop := ∃ b : UInt8, (0 ≤ i ∧ s[i.toNat]? = some b) ∧ K b.toNat
/-- x[lo:hi] of a slice. -/
def slcK (a : Option Addr) (cap : Nat) (lo hi : Int) (size : Nat) (K : Option Addr → Nat → Nat → Prop) : Prop :=
  (0 ≤ lo ∧ lo ≤ hi ∧ hi ≤ cap) ∧ K (if (cap : Int) = lo then a else a.map (·.add (lo.toNat * size))) (hi.toNat - lo.toNat) (cap - lo.toNat)
def sslK (s : ByteArray) (lo hi : Int) (K : ByteArray → Prop) : Prop :=
  (0 ≤ lo ∧ lo ≤ hi ∧ hi ≤ s.size) ∧ K (s.extract lo.toNat hi.toNat)

def newK (w : World) (cells : Array Value) (elem : TypeId) (K : Addr → World → Prop) : Prop :=
  K ⟨w.heap.size, 0, none⟩ (w.alloc (.cells cells elem))

/-- The run of an operation that is not opened here. -/
def runS (P : Program) (r : RShape) (s : Sem Value) (w : World) (K : Value → World → Prop) : Prop :=
  ∃ w', exR r fun v => s.run P w = .ok v w' ∧ K v w'
def runU (P : Program) (s : Sem Unit) (w : World) (K : World → Prop) : Prop := ∃ w', s.run P w = .ok () w' ∧ K w'

/-- What a call hands back. -/
def RetK (r : RShape) (K : Value → World → Prop) : Ending → World → Prop := fun e w => exR r fun v => e = .returned v ∧ K v w

theorem RetK_ret {r : RShape} {K : Value → World → Prop} {e : Ending} {w : World} (h : RetK r K e w) : ∃ v, e = .returned v ∧ K v w := exR_ex h

/-- A static call. -/
def CallS (P : Program) (f : FuncId) (args : Array Value) (r : RShape) (w : World) (K : Value → World → Prop) : Prop :=
  Calls P f args w (RetK r K)

/-- A round of a range over a function. -/
def RoundK (P : Program) (l : Nat) (args : Array Value) (w : World) (K : Bool → World → Prop) : Prop :=
  ∃ f tmps assign body w', (Instr.yield l args).run P w = .ok (.round l f tmps assign body) w' ∧
    RoundIn Fence.wide 0 P l f tmps assign body w' fun e w'' => ∃ b, e = .returned (.bool b) ∧ K b w''

/-- A call of a value. -/
def CallV (P : Program) (fv : Value) (args : Array Value) (w : World) (R : Ending → World → Prop) : Prop := match fv with
  | .func (.func f) first cap => (callFunc f (first ++ args ++ cap)).run P w = .ok (.enter f (first ++ args ++ cap)) w ∧ Calls P f (first ++ args ++ cap) w R
  | .func (.yield l) first _ => RoundK P l (first ++ args) w fun b w => R (.returned (.bool b)) w
  | _ => False

/-- A call of a method through an interface value. -/
def InvK (P : Program) (rv : Value) (name : String) (args : Array Value) (w : World) (R : Ending → World → Prop) : Prop :=
  ∃ f x, (callMethod rv name args).run P w = .ok (.enter f (#[x] ++ args)) w ∧ Calls P f (#[x] ++ args) w R

end Go.Fw
