/- Part of a proof over the given program: a text of lemmas (conditions: none beyond each lemma as stated). -/
import Derived.Test.YtlnpfkmbielifaaGreatDoorFwA
set_option linter.unnecessarySimpa false
set_option linter.unusedVariables false
set_option linter.unusedSimpArgs false
set_option autoImplicit false
namespace Go.Fw

/-! Operations that neither read nor write the world. -/
noncomputable def pv (P : Program) {α : Type} (s : Sem α) : Option α :=
  Sem.rec (motive := fun _ => Option α) (fun a => some a) (fun _ _ _ _ => none) (fun _ _ _ _ _ => none) (fun _ _ _ => none) (fun _ _ _ => none)
    (fun _ _ _ _ => none) (fun _ _ _ => none) (fun _ _ _ => none) (fun _ _ _ _ => none) (fun _ _ _ => none) (fun _ _ _ => none)
    (fun _ ih => ih P) (fun _ _ ih => ih) (fun _ => none) s

theorem pv_run {P : Program} {α : Type} {s : Sem α} {a : α} (h : pv P s = some a) (w : World) : s.run P w = .ok a w := by
  induction s with
  | pure x => simp only [pv] at h; cases h; rfl
  | program k ih => exact ih P h
  | mark m k ih => exact ih h
  | load | store | new | shape | freeze | frozen | getObj | setObj | choose | sys | halt => simp [pv] at h

noncomputable def pvK (P : Program) (s : Sem Next) (K : Value → Prop) : Prop := match pv P s with
  | some (.value v) => K v
  | _ => False
noncomputable def pvV (P : Program) (s : Sem Value) (K : Value → Prop) : Prop := match pv P s with
  | some v => K v
  | none => False
/-- A pure operation that is not opened here. -/
def opP (P : Program) (r : RShape) (s : Sem Value) (K : Value → Prop) : Prop := exR r fun v => (∀ w, s.run P w = .ok v w) ∧ K v

def nilV (v : Value) (Kp : Addr → Prop) (Kv : Prop) : Prop := match v with
  | .pointer p => nilK p Kp
  | .iface _ _ => Kv
  | .func (.func _) _ _ => Kv
  | _ => False
def eqNilI (v : Value) (K : Bool → Prop) : Prop := match v with | .nilIface => K true | .iface _ _ => K false | _ => False
def eqNilF (v : Value) (K : Bool → Prop) : Prop := match v with | .nilFunc => K true | .func _ _ _ => K false | _ => False

def eqSem (op : BinOp) (t : TypeId) (xo yo : Operand) (vx vy : Value) : Sem Value := do eqGuard op t xo yo vx vy; binOp op t vx vy

def sgn (op : BinOp) (b : Bool) : Bool := match op with | .neq => !b | _ => b

noncomputable def eqK (P : Program) (op : BinOp) (t : TypeId) (xo yo : Operand) (vx vy : Value) (K : Value → Prop) : Prop :=
  match P.underlying t with
  | some (.interface _) => match yo with
    | .const .nilIface => eqNilI vx fun b => K (.bool (sgn op b))
    | _ => opP P (.single (.one .bool)) (eqSem op t xo yo vx vy) K
  | some (.func _ _ _) => match yo with
    | .const .nilFunc => eqNilF vx fun b => K (.bool (sgn op b))
    | _ => False
  | some (.pointer _) => match vx with
    | .pointer p => match yo with
      | .const (.pointer none) => K (.bool (sgn op p.isNone))
      | _ => False
    | _ => False
  | some (.slice _) => match vx with
    | .slice a _ _ => match yo with
      | .const (.slice none _ _) => K (.bool (sgn op a.isNone))
      | _ => False
    | _ => False
  | some (.map _ _) => match vx with
    | .map r => match yo with
      | .const (.map none) => K (.bool (sgn op r.isNone))
      | _ => False
    | _ => False
  | some (.struct _) | some (.array _ _) => opP P (.single (.one .bool)) (eqSem op t xo yo vx vy) K
  | _ => pvV P (eqSem op t xo yo vx vy) K

/-- Struct literals. -/
def cellsS (s : Shape) (v : Value) : Array Value := match s with | .one _ => #[v] | .agg _ => v.cells
theorem plain_cells {v : Value} (h : plainV v = true) : v.cells = #[v] := by cases v <;> simp_all [Value.cells, plainV]

def fillS (P : Program) (place : Nat → Option (Nat × Nat × Shape)) (cells : List Value) : List (Nat × Value) → (List Value → Prop) → Prop
  | [], K => K cells
  | (i, v) :: rest, K => match place i with
    | none => False
    | some (off, size, .one _) => match Nat.beq size 1 with
      | true => match Nat.ble (off + 1) cells.length with
        | true => plK v (fillS P place (cells.set off v) rest K)
        | false => False
      | false => False
    | some (off, size, .agg _) => match v with
      | .agg cs => match Nat.beq cs.toList.length size with
        | true => match Nat.ble (off + size) cells.length with
          | true => fillS P place (cells.take off ++ cs.toList ++ cells.drop (off + size)) rest K
          | false => False
        | false => False
      | _ => False

def buildK (P : Program) (t : TypeId) (parts : List (Nat × Value)) (K : Value → Prop) : Prop :=
  match P.info? t with
  | some i => match i.zero with
    | some z => match P.underlying t with
      | some (.struct fs) => match fs.toList.all (fun f => (P.info? f.type).isSome) with
        | false => False
        | true => fillS P (fun j => match fs[j]? with | some f => some (f.offset, P.cellsOf f.type, shapeOf P f.type) | none => none) z.cells.toList parts fun cs => K (.agg cs.toArray)
      | some (.array _ e) => szK P e fun sz => fillS P (fun j => some (j * sz, sz, shapeOf P e)) z.cells.toList parts fun cs => K (.agg cs.toArray)
      | _ => False
    | none => False
  | none => False

theorem foldl_set (off : Nat) : ∀ (l : List Value) (k : Nat) (c : List Value), off + k + l.length ≤ c.length →
    (l.zipIdx k).foldl (fun cs (p : Value × Nat) => cs.setIfInBounds (off + p.2) p.1) c.toArray = (c.take (off + k) ++ l ++ c.drop (off + k + l.length)).toArray
  | [], k, c, _ => by simp
  | v :: l, k, c, h => by
    simp only [List.zipIdx_cons, List.foldl_cons, List.setIfInBounds_toArray]
    rw [foldl_set off l (k + 1) (c.set (off + k) v) (by simp at h ⊢; omega)]
    simp only [List.length_cons] at h ⊢
    have e1 : off + (k + 1) = off + k + 1 := by omega
    have hlt : off + k < c.length := by omega
    have e2 : (c.set (off + k) v).take (off + k + 1) = c.take (off + k) ++ [v] := by
      rw [List.take_succ_eq_append_getElem (by simpa using hlt), List.take_set_of_le (Nat.le_refl _)]
      simp
    have e3 : (c.set (off + k) v).drop (off + k + 1 + l.length) = c.drop (off + k + (l.length + 1)) := by
      rw [List.drop_set_of_lt (by omega)]
      congr 1; omega
    rw [e1, e2, e3]
    simp

theorem fill_of (P : Program) (pl : Nat → Option (Nat × Nat)) (place : Nat → Option (Nat × Nat × Shape)) (hpl : ∀ j, pl j = (place j).map fun x => (x.1, x.2.1)) :
    ∀ (parts : List (Nat × Value)) (cells : List Value) (K : List Value → Prop), fillS P place cells parts K → ∃ cs, Instr.fill pl cells.toArray parts = some cs.toArray ∧ K cs
  | [], cells, K, h => ⟨cells, rfl, h⟩
  | (i, v) :: rest, cells, K, h => by
    unfold fillS at h
    unfold Instr.fill
    rw [hpl i]
    split at h
    · exact h.elim
    · rename_i off size t hp
      simp only [hp, Option.map_some]
      split at h
      · rename_i hs
        have hs := Nat.eq_of_beq_eq_true hs
        subst hs
        split at h
        · rename_i hl
          have hl := Nat.le_of_ble_eq_true hl
          obtain ⟨h, hv⟩ := plK_iff h
          obtain ⟨cs, hf, hK⟩ := fill_of P pl place hpl rest _ K h
          refine ⟨cs, ?_, hK⟩
          rw [plain_cells hv]
          have : ¬ (cells.length < off + 1) := by omega
          simp [this]
          simpa using hf
        · exact h.elim
      · exact h.elim
    · rename_i off size ts hp
      simp only [hp, Option.map_some]
      split at h
      · rename_i cs0
        split at h
        · rename_i hs
          have hs := Nat.eq_of_beq_eq_true hs
          split at h
          · rename_i hl
            have hl := Nat.le_of_ble_eq_true hl
            obtain ⟨cs, hf, hK⟩ := fill_of P pl place hpl rest _ K h
            refine ⟨cs, ?_, hK⟩
            have hsz : cs0.size = size := by simpa using hs
            simp only [Value.cells, hsz, List.size_toArray]
            have hn : ¬ (cells.length < off + size) := by omega
            simp only [ne_eq, not_true_eq_false, decide_false, Bool.false_or, gt_iff_lt, hn]
            rw [← hf]
            congr 1
            have := foldl_set off cs0.toList 0 cells (by simp [hsz]; omega)
            simp only [Nat.add_zero] at this
            rw [← Array.foldl_toList, Array.toList_zipIdx]
            rw [this]
            simp [hsz]
          · exact h.elim
        · exact h.elim
      · exact h.elim

def lenK (P : Program) (t : TypeId) (v : Value) (K : Int → Prop) : Prop := match P.underlying t with
  | some .string => match v with | .string s => K s.size | _ => False
  | some (.slice _) => match v with | .slice _ l _ => K l | _ => False
  | _ => False
def capK (P : Program) (t : TypeId) (v : Value) (K : Int → Prop) : Prop := match P.underlying t with
  | some (.slice _) => match v with | .slice _ _ c => K c | _ => False
  | _ => False

def optEv (n : Nat) (ρ : Fr) (x : Option Operand) (d : Int) (K : Int → Prop) : Prop := match x with
  | none => K d
  | some o => match ev n ρ o with | .int _ i => K i | _ => False

def divK (vx vy : Value) (K : IntKind → Int → Int → Prop) : Prop := match vx with
  | .int k a => match vy with
    | .int k' b => match decide (k = k') with
      | true => b ≠ 0 ∧ K k a b
      | false => False
    | _ => False
  | _ => False
def shK (vx vy : Value) (K : IntKind → Int → Int → Prop) : Prop := match vx with
  | .int k a => match vy with
    | .int _ b => 0 ≤ b ∧ K k a b
    | _ => False
  | _ => False
def catK (vx vy : Value) (K : ByteArray → Prop) : Prop := match vx with
  | .string a => match vy with
    | .string b => ((a.size + b.size : Nat) : Int) ≤ 9223372036854775807 ∧ K (a ++ b)
    | _ => False
  | _ => False

def okShape (s : Shape) (ok : Bool) : RShape := match ok with | true => .tup [s, .one .bool] | false => .single s

/-- The pure operations. -/
def isPure (P : Program) (o : Op) : Bool := match o with
  | .move _ | .assign _ | .pick _ _ _ | .nilCheck _ | .binOp _ _ _ _ _ | .unOp _ _ _ | .makeInterface _ _ | .makeFunc _ _ _ | .fieldAddr _ _ _ | .field _ _ _
  | .indexAddr _ _ _ | .index _ _ _ | .slice _ _ _ _ _ | .typeAssert _ _ _ _ | .extract _ _ | .build _ _ => true
  | .convert _ dst _ => match P.underlying dst with | some (.int _) => true | _ => false
  | .call c => match c.callee with
    | .builtin .len | .builtin .cap => match c.argTypes[0]? with
      | some t => match P.underlying t with | some (.map _ _) => false | _ => true
      | none => false
    | _ => false
  | _ => false

noncomputable def vcPure (P : Program) (n : Nat) (ρ : Fr) (o : Oper) (K : Value → Prop) : Prop := match o.op with
  | .move x => K (ev n ρ x)
  | .assign x => K (ev n ρ x)
  | .pick c a b => match ev n ρ c with | .bool x => bsel x (K (ev n ρ a)) (K (ev n ρ b)) | _ => False
  | .nilCheck x => nilV (ev n ρ x) (fun a => K (.pointer (some a))) (K (ev n ρ x))
  | .binOp op t x y _ => match op with
    | .eql => eqK P .eql t x y (ev n ρ x) (ev n ρ y) K
    | .neq => eqK P .neq t x y (ev n ρ x) (ev n ρ y) K
    | .quo => divK (ev n ρ x) (ev n ρ y) fun k a b => K (.int k (k.wrap (a.tdiv b)))
    | .rem => divK (ev n ρ x) (ev n ρ y) fun k a b => K (.int k (a.tmod b))
    | .shl => shK (ev n ρ x) (ev n ρ y) fun k a b => K (.int k (k.wrap (a * 2 ^ min b.toNat k.bits)))
    | .shr => shK (ev n ρ x) (ev n ρ y) fun k a b => K (.int k (a.fdiv (2 ^ min b.toNat k.bits)))
    | .add => match P.underlying t with
      | some .string => catK (ev n ρ x) (ev n ρ y) fun s => K (.string s)
      | _ => pvK P (execOp (ev n ρ) o) K
    | _ => pvK P (execOp (ev n ρ) o) K
  | .indexAddr t x i => match P.underlying t with
    | some (.slice e) => match ev n ρ x with
      | .slice base len _ => match ev n ρ i with | .int _ i => szK P e fun sz => idxK base len i sz fun a => K (.pointer (some a)) | _ => False
      | _ => False
    | some (.array len e) => match ev n ρ x with
      | .pointer (some a) => match ev n ρ i with | .int _ i => szK P e fun sz => aidxK a len i sz fun a => K (.pointer (some a)) | _ => False
      | _ => False
    | _ => False
  | .index t x i => match P.underlying t with
    | some .string => match ev n ρ x with
      | .string s => match ev n ρ i with | .int _ i => sidxK s i fun b => K (.int .u8 b) | _ => False
      | _ => False
    | _ => pvK P (execOp (ev n ρ) o) K
  | .slice t x lo hi mx => match P.underlying t with
    | some (.slice e) => match ev n ρ x with
      | .slice a len cap => match mx with
        | none => optEv n ρ lo 0 fun lo => optEv n ρ hi len fun hi => szK P e fun sz => slcK a cap lo hi sz fun p l c => K (.slice p l c)
        | some _ => opP P (.single (.one .slice)) (Instr.sliceAt t (ev n ρ x) (lo.map (ev n ρ)) (hi.map (ev n ρ)) (mx.map (ev n ρ))) K
      | _ => False
    | some .string => match ev n ρ x with
      | .string s => match mx with
        | none => optEv n ρ lo 0 fun lo => optEv n ρ hi s.size fun hi => sslK s lo hi fun s => K (.string s)
        | some _ => False
      | _ => False
    | _ => opP P (.single (.one .slice)) (Instr.sliceAt t (ev n ρ x) (lo.map (ev n ρ)) (hi.map (ev n ρ)) (mx.map (ev n ρ))) K
  | .typeAssert x xT as ok => opP P (okShape (shapeOf P as) ok) (Instr.typeAssert (ev n ρ x) xT as ok) K
  | .build t parts => buildK P t (parts.toList.map fun p => (p.1, ev n ρ p.2)) K
  | .call c => match c.callee with
    | .builtin .len => match c.argTypes.toList with
      | t :: _ => match c.args.toList with | x :: _ => lenK P t (ev n ρ x) fun l => K (.int .i64 l) | _ => False
      | _ => False
    | .builtin .cap => match c.argTypes.toList with
      | t :: _ => match c.args.toList with | x :: _ => capK P t (ev n ρ x) fun l => K (.int .i64 l) | _ => False
      | _ => False
    | _ => False
  | _ => pvK P (execOp (ev n ρ) o) K

/-! Soundness of the pure ones. -/
def Gives (P : Program) (n : Nat) (ρ : Fr) (o : Oper) (v : Value) : Prop := ∀ w, (execOp (ev n ρ) o).run P w = .ok (.value v) w

theorem pvK_gives {P : Program} {n : Nat} {ρ : Fr} {o : Oper} {K : Value → Prop} (h : pvK P (execOp (ev n ρ) o) K) : ∃ v, Gives P n ρ o v ∧ K v := by
  unfold pvK at h
  split at h
  · rename_i v hv; exact ⟨v, pv_run hv, h⟩
  · exact h.elim

theorem opP_gives {P : Program} {r : RShape} {s : Sem Value} {K : Value → Prop} (h : opP P r s K) : ∃ v, (∀ w, s.run P w = .ok v w) ∧ K v := exR_ex h

theorem run_v {P : Program} {s : Sem Value} {v : Value} {w w' : World} (h : s.run P w = .ok v w') :
    (do pure (Next.value (← s)) : Sem Next).run P w = .ok (.value v) w' := by
  simp [h, Result.andThen]

theorem pvV_gives {P : Program} {s : Sem Value} {K : Value → Prop} (h : pvV P s K) : ∃ v, (∀ w, s.run P w = .ok v w) ∧ K v := by
  unfold pvV at h
  split at h
  · rename_i v hv; exact ⟨v, pv_run hv, h⟩
  · exact h.elim

theorem eqSem_const {P : Program} {op : BinOp} (hop : op = .eql ∨ op = .neq) {t : TypeId} {xo : Operand} {c : Value} {vx : Value} {w : World} {b : Bool}
    (hx : ∀ cs, vx ≠ .agg cs) (hb : (Op.equal t vx c).run P w = .ok b w) (hc : c = .nilIface ∨ c = .nilFunc ∨ c = .pointer none ∨ (∃ l k, c = .slice none l k) ∨ c = .map none) :
    (eqSem op t xo (.const c) vx c).run P w = .ok (.bool (sgn op b)) w := by
  have hg : (eqGuard op t xo (.const c) vx c).run P w = .ok () w := by
    unfold eqGuard
    rcases hop with rfl | rfl <;> rcases hc with rfl | rfl | rfl | ⟨l, k, rfl⟩ | rfl <;> cases vx <;> simp_all
  have he : (binOp op t vx c).run P w = .ok (.bool (sgn op b)) w := by
    rcases hop with rfl | rfl <;> rcases hc with rfl | rfl | rfl | ⟨l, k, rfl⟩ | rfl <;> cases vx <;> simp_all [binOp, Result.andThen, sgn]
  simp [eqSem, hg, he, Result.andThen]

section
variable {P : Program} {t : TypeId} (w : World) (d : Nat)
theorem eqIn_iface {ms : Array (String × TypeId)} (hu : P.underlying t = some (.interface ms)) (u : TypeId) (x : Value) :
    (Op.equalIn (d + 1) t (.iface u x) .nilIface).run P w = .ok false w := by simp [Op.equalIn, run_underlying hu]
theorem eqIn_nilIface {ms : Array (String × TypeId)} (hu : P.underlying t = some (.interface ms)) :
    (Op.equalIn (d + 1) t .nilIface .nilIface).run P w = .ok true w := by simp [Op.equalIn, run_underlying hu]
theorem eqIn_func {a b : Array TypeId} {v : Bool} (hu : P.underlying t = some (.func a b v)) (f : Fn) (x y : Array Value) :
    (Op.equalIn (d + 1) t (.func f x y) .nilFunc).run P w = .ok false w := by simp [Op.equalIn, run_underlying hu]
theorem eqIn_nilFunc {a b : Array TypeId} {v : Bool} (hu : P.underlying t = some (.func a b v)) :
    (Op.equalIn (d + 1) t .nilFunc .nilFunc).run P w = .ok true w := by simp [Op.equalIn, run_underlying hu]
theorem eqIn_ptr {e : TypeId} (hu : P.underlying t = some (.pointer e)) (p : Option Addr) :
    (Op.equalIn (d + 1) t (.pointer p) (.pointer none)).run P w = .ok p.isNone w := by cases p <;> simp [Op.equalIn, run_underlying hu]
theorem eqIn_slice {e : TypeId} (hu : P.underlying t = some (.slice e)) (p : Option Addr) (l c l' c' : Nat) :
    (Op.equalIn (d + 1) t (.slice p l c) (.slice none l' c')).run P w = .ok p.isNone w := by cases p <;> simp [Op.equalIn, run_underlying hu]
theorem eqIn_map {k e : TypeId} (hu : P.underlying t = some (.map k e)) (p : Option Nat) :
    (Op.equalIn (d + 1) t (.map p) (.map none)).run P w = .ok p.isNone w := by cases p <;> simp [Op.equalIn, run_underlying hu]
end

theorem eqK_gives {P : Program} {op : BinOp} (hop : op = .eql ∨ op = .neq) {t : TypeId} {xo yo : Operand} {n : Nat} {ρ : Fr} {K : Value → Prop}
    (h : eqK P op t xo yo (ev n ρ xo) (ev n ρ yo) K) : ∃ v, (∀ w, (eqSem op t xo yo (ev n ρ xo) (ev n ρ yo)).run P w = .ok v w) ∧ K v := by
  unfold eqK at h
  generalize hvx : ev n ρ xo = vx at *
  split at h
  · rename_i ms hu
    split at h
    · cases vx <;> simp only [eqNilI] at h
      · exact ⟨_, fun w => eqSem_const hop (by simp) (eqIn_iface w 9999 hu _ _) (.inl rfl), h⟩
      · exact ⟨_, fun w => eqSem_const hop (by simp) (eqIn_nilIface w 9999 hu) (.inl rfl), h⟩
    · exact opP_gives h
  · rename_i hu
    split at h
    · cases vx <;> simp only [eqNilF] at h
      · exact ⟨_, fun w => eqSem_const hop (by simp) (eqIn_func w 9999 hu _ _ _) (.inr (.inl rfl)), h⟩
      · exact ⟨_, fun w => eqSem_const hop (by simp) (eqIn_nilFunc w 9999 hu) (.inr (.inl rfl)), h⟩
    · exact h.elim
  · rename_i hu
    split at h
    · split at h
      · exact ⟨_, fun w => eqSem_const hop (by simp) (eqIn_ptr w 9999 hu _) (.inr (.inr (.inl rfl))), h⟩
      · exact h.elim
    · exact h.elim
  · rename_i hu
    split at h
    · split at h
      · exact ⟨_, fun w => eqSem_const hop (by simp) (eqIn_slice w 9999 hu _ _ _ _ _) (.inr (.inr (.inr (.inl ⟨_, _, rfl⟩)))), h⟩
      · exact h.elim
    · exact h.elim
  · rename_i hu
    split at h
    · split at h
      · exact ⟨_, fun w => eqSem_const hop (by simp) (eqIn_map w 9999 hu _) (.inr (.inr (.inr (.inr rfl)))), h⟩
      · exact h.elim
    · exact h.elim
  · exact opP_gives h
  · exact opP_gives h
  · exact pvV_gives h

end Go.Fw
