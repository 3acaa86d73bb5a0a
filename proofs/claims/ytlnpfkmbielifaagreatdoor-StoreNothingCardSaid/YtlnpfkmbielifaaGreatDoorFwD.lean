/- Part of a proof over the given program: a text of lemmas (conditions: none beyond each lemma as stated). -/
import Derived.Test.YtlnpfkmbielifaaGreatDoorFwC
set_option linter.unnecessarySimpa false
set_option linter.unusedVariables false
set_option linter.unusedSimpArgs false
set_option autoImplicit false
namespace Go.Fw

/-- Has a function a Go body? -/
def bodied (P : Program) (f : FuncId) : Bool := match P.funcs[f]? with
  | some fn => match fn.body with | some _ => true | none => false
  | none => false

/-- No function is runtime.NumGoroutine. -/
def Plain (P : Program) : Prop := ∀ (f : FuncId) (fn : Func), P.funcs[f]? = some fn → (fn.name == "runtime.NumGoroutine") = false

def boxK (P : Program) (t : TypeId) (v : Value) (w : World) (K : Addr → World → Prop) : Prop := match shapeOf P t with
  | .one _ => plK v (newK w #[v] t K)
  | .agg _ => match v with | .agg cs => newK w cs t K | _ => False

def storK (P : Program) (t : TypeId) (a : Addr) (v : Value) (w : World) (K : World → Prop) : Prop := szK P t fun sz => match shapeOf P t with
  | .one _ => match Nat.beq sz 1 with | true => plK v (stK w a v K) | false => False
  | .agg _ => match v with
    | .agg cs => match Nat.beq cs.toList.length sz with | true => stsK w a cs.toList K | false => False
    | _ => False

/-- The element cells of a slice literal. -/
def bsK (P : Program) (t : TypeId) (len : Nat) (parts : List (Nat × Value)) (w : World) (K : Value → World → Prop) : Prop := match P.underlying t with
  | some (.slice e) => match P.info? e with
    | some i => match i.zero with
      | some z => match Nat.ble (len * i.size) 1000 with
        | true => match Nat.beq (len * i.size) 0 with
          | true => fillS P (fun j => some (j * i.size, i.size, shapeOf P e)) [] parts fun cs => newK w cs.toArray e fun a w' => K (.slice (some a) len len) w'
          | false => match Nat.beq z.cells.toList.length i.size with
            | true => fillS P (fun j => some (j * i.size, i.size, shapeOf P e)) ((List.replicate len z.cells.toList).flatten) parts fun cs => newK w cs.toArray e fun a w' => K (.slice (some a) len len) w'
            | false => False
        | false => False
      | none => False
    | none => False
  | _ => False

def rsh (P : Program) (t : TypeId) : RShape := match P.underlying t with
  | some (.tuple ts) => match ts.toList with
    | [] => .single (.one .raw)
    | l => .tup (l.map (shapeOf P))
  | _ => .single (shapeOf P t)

def elSh (P : Program) (t : TypeId) : Shape := match P.underlying t with | some (.map _ e) => shapeOf P e | _ => .one .raw

/-- A round of a range over a string. -/
def nextSK (it : Value) (w : World) (Kd : World → Prop) (K : Int → Int → World → Prop) : Prop :=
  ∃ (r : Nat) (s : ByteArray) (pos : Nat), (it = .pointer (some ⟨r, 0, none⟩) ∧ w.heap[r]? = some (.stringIter s pos)) ∧
    (pos < s.size → K pos (Utf8.decode s pos).1 { w with heap := w.heap.setIfInBounds r (.stringIter s (pos + (Utf8.decode s pos).2)) }) ∧ (¬ pos < s.size → Kd w)

/-- The operations that look at the world or change it. -/
noncomputable def vcEff (P : Program) (n : Nat) (ρ : Fr) (o : Oper) (w : World) (K : Value → World → Prop) : Prop := match o.op with
  | .load t x => match ev n ρ x with | .pointer (some a) => ldK P t w a fun v => K v w | _ => False
  | .store t x y => match ev n ρ x with | .pointer (some a) => storK P t a (ev n ρ y) w fun w' => K undef w' | _ => False
  | .alloc t => match P.info? t with
    | some i => match i.zero with | some z => newK w z.cells t fun a w' => K (.pointer (some a)) w' | none => False
    | none => False
  | .box t x => boxK P t (ev n ρ x) w fun a w' => K (.pointer (some a)) w'
  | .buildSlice t len parts => bsK P t len (parts.toList.map fun p => (p.1, ev n ρ p.2)) w K
  | .convert s d x => runS P (rsh P o.type) (convert s d (ev n ρ x)) w K
  | .makeMap t r => runS P (rsh P t) (Instr.makeMap t (r.map (ev n ρ))) w K
  | .makeSlice t l c => runS P (rsh P t) (Instr.makeSlice t (ev n ρ l) (ev n ρ c)) w K
  | .lookup t x i ok => runS P (okShape (elSh P t) ok) (Instr.lookup t (ev n ρ x) (ev n ρ i) ok) w K
  | .mapUpdate t m k x => runU P (Instr.mapUpdate t (ev n ρ m) (ev n ρ k) (ev n ρ x)) w fun w' => K undef w'
  | .insert t m k x => runU P (Instr.mapUpdate t (ev n ρ m) (ev n ρ k) (ev n ρ x)) w fun w' => K undef w'
  | .mapEntry t m k => runS P (.single (.one .raw)) (Instr.mapEntry t (ev n ρ m) (ev n ρ k)) w K
  | .entryStore t m k x => runU P (Instr.entryStore t (ev n ρ m) (ev n ρ k) (ev n ρ x)) w fun w' => K undef w'
  | .range t x => runS P (.single (.one .ptr)) (Instr.range t (ev n ρ x)) w K
  | .next it s => match s with
    | true => nextSK (ev n ρ it) w (fun w' => K (.tuple #[.bool false]) w') (fun p c w' => K (.tuple #[.bool true, .int .i64 p, .int .i32 c]) w')
    | false => runS P (.single (.one .raw)) (Instr.next (ev n ρ it) false o.type) w K
  | .call c => match c.callee with
    | .value x => match x with
      | .func f => match bodied P f with
        | true => CallS P f (c.args.toList.map (ev n ρ)).toArray (rsh P o.type) w K
        | false => runS P (rsh P o.type) (extV P f (c.args.toList.map (ev n ρ)).toArray) w K
      | _ => CallV P (ev n ρ x) (c.args.toList.map (ev n ρ)).toArray w (RetK (rsh P o.type) K)
    | .invoke r name => InvK P (ev n ρ r) name (c.args.toList.map (ev n ρ)).toArray w (RetK (rsh P o.type) K)
    | .builtin b => runS P (rsh P o.type) (bltV b c.argTypes o.type (c.args.toList.map (ev n ρ)).toArray) w K
  | _ => False
where
  extV (P : Program) (f : FuncId) (args : Array Value) : Sem Value := do
    match ← callFunc f args with
    | .value v => pure v
    | _ => stuck ""
  bltV (b : Builtin) (tys : Array TypeId) (t : TypeId) (args : Array Value) : Sem Value := match b with
    | .append => Builtin.append_ tys t args
    | .clear => Builtin.clear_ tys t args
    | .copy => Builtin.copy_ tys t args
    | .delete => Builtin.delete_ tys t args
    | .len => Builtin.len_ tys t args
    | .max => Builtin.max_ tys t args
    | .min => Builtin.min_ tys t args
    | _ => stuck ""

/-- The fence of an activation, or of a round. -/
def fence (rd : Option Nat) : Fence := { Fence.wide with round := rd }

section
variable {P : Program} {n : Nat} {ρ : Fr} {o : Oper}

/-- An operation's end in the calculus of the kit. -/
def Upon (P : Program) (o : Oper) (ρe : Operand → Value) (w : World) (K : Value → World → Prop) : Prop :=
  (∃ v w', (execOp ρe o).run P w = .ok (.value v) w' ∧ K v w') ∨
  (∃ w', (execOp ρe o).run P w = .ok .skip w' ∧ K undef w') ∨
  (∃ f args w', (execOp ρe o).run P w = .ok (.enter f args) w' ∧ Calls P f args w' (fun e w'' => ∃ v, e = .returned v ∧ K v w'')) ∨
  (∃ l f tmps assign body w', (execOp ρe o).run P w = .ok (.round l f tmps assign body) w' ∧ RoundIn Fence.wide 0 P l f tmps assign body w' fun e w'' => ∃ b, e = .returned (.bool b) ∧ K (.bool b) w'')

theorem Upon.mono {ρe : Operand → Value} {w : World} {K K' : Value → World → Prop} (h : Upon P o ρe w K) (hK : ∀ v w, K v w → K' v w) : Upon P o ρe w K' := by
  rcases h with ⟨v, w', he, h⟩ | ⟨w', he, h⟩ | ⟨f, args, w', he, h⟩ | ⟨l, f, tmps, as, body, w', he, h⟩
  · exact .inl ⟨v, w', he, hK _ _ h⟩
  · exact .inr (.inl ⟨w', he, hK _ _ h⟩)
  · exact .inr (.inr (.inl ⟨f, args, w', he, h.mono fun e w'' ⟨v, hv, hk⟩ => ⟨v, hv, hK _ _ hk⟩⟩))
  · exact .inr (.inr (.inr ⟨l, f, tmps, as, body, w', he, h.mono fun e w'' ⟨b, hb, hk⟩ => ⟨b, hb, hK _ _ hk⟩⟩))

theorem Upon.wpIn {rd : Option Nat} {m : Nat} {a : Act} {w : World} {next : Act → World → Prop} {Q : Exit → Act → World → Prop} (hnd : ∀ c, o.op ≠ .defer c)
    (h : Upon P o a.eval w fun v w' => next (a.put o.dst v) w') : o.wpIn (fence rd) m P a w next Q := by
  refine ⟨fun _ _ => trivial, ?_⟩
  have hF : (fence rd).round = rd := rfl
  rw [hF, Oper.semAt_eq rd a.eval o hnd]
  rcases h with ⟨v, w', he, hK⟩ | ⟨w', he, hK⟩ | ⟨f, args, w', he, hc⟩ | ⟨l, f, tmps, as, body, w', he, hc⟩
  · rw [he]; exact hK
  · rw [he]; exact hK
  · rw [he]
    refine ⟨fun h => (by simp [fence, Fence.wide] at h), ?_⟩
    have h1 : CallsIn Fence.wide (m - 1) P f args w' (fun e w'' => ∃ v, e = .returned v ∧ next (a.put o.dst v) w'') := callsIn_wide.2 hc
    have h2 : CallsIn (fence rd) (m - 1) P f args w' (fun e w'' => ∃ v, e = .returned v ∧ next (a.put o.dst v) w'') := h1
    refine h2.mono fun e w'' he => ?_
    obtain ⟨v, rfl, hK⟩ := he
    exact hK
  · rw [he]
    refine ⟨fun h => (by simp [fence, Fence.wide] at h), ?_⟩
    have h2 : RoundIn (fence rd) (m - 1) P l f tmps as body w' fun e w'' => ∃ b, e = .returned (.bool b) ∧ next (a.put o.dst (.bool b)) w'' :=
      ⟨trivial, fun c cs _ => hc.2 c cs (room_wide _)⟩
    refine h2.mono fun e w'' he => ?_
    obtain ⟨b, rfl, hK⟩ := he
    exact hK

theorem shape_one {t : TypeId} {d : TypeDesc} {g : Tag} (hu : P.underlying t = some d) (hs : shapeOf P t = .one g) (w : World) : (isAgg t).run P w = .ok false w := by
  unfold shapeOf at hs
  simp only [hu] at hs
  cases d <;> simp_all [isAgg, run_underlying hu]

theorem shape_agg {t : TypeId} {ts : List Tag} (hs : shapeOf P t = .agg ts) (w : World) : (isAgg t).run P w = .ok true w := by
  unfold shapeOf at hs
  cases hu : P.underlying t with
  | none => simp [hu] at hs
  | some d =>
    simp only [hu] at hs
    cases d <;> simp_all [isAgg, run_underlying hu]

theorem loadCells_run {w : World} {a : Addr} : ∀ (vs : List Value) (i : Nat) (acc : Array Value), cellsFrom w a vs i →
    (loadCellsFrom a i vs.length acc).run P w = .ok (acc ++ vs.toArray) w
  | [], i, acc, _ => by simp [loadCellsFrom]
  | v :: vs, i, acc, h => by
    obtain ⟨hv, h⟩ := cellsFrom_cons.1 h
    have hl : (load (a.add i)).run P w = .ok v w := by simp [load, Sem.run, hv]
    simp only [List.length_cons, loadCellsFrom, Sem.run_bind, hl, Result.andThen]
    rw [loadCells_run vs (i + 1) (acc.push v) h]
    simp

theorem ldK_run {t : TypeId} {w : World} {a : Addr} {K : Value → Prop} (h : ldK P t w a K) : ∃ v, (loadVar t a).run P w = .ok v w ∧ K v := by
  unfold ldK at h
  split at h
  · rename_i d hu
    unfold ldS at h
    have one : ∀ {v : Value} {g : Tag}, shapeOf P t = .one g → w.cell? a = some v → (loadVar t a).run P w = .ok v w := by
      intro v g hs hc
      simp [loadVar, shape_one hu hs, load, Sem.run, hc]
    split at h
    · obtain ⟨x, hc, h⟩ := h; exact ⟨_, one (by assumption) hc, h⟩
    · obtain ⟨x, hc, h⟩ := h; exact ⟨_, one (by assumption) hc, h⟩
    · obtain ⟨x, hc, h⟩ := h; exact ⟨_, one (by assumption) hc, h⟩
    · obtain ⟨x, hc, h⟩ := h; exact ⟨_, one (by assumption) hc, h⟩
    · obtain ⟨x, y, z, hc, h⟩ := h; exact ⟨_, one (by assumption) hc, h⟩
    · obtain ⟨x, hc, h⟩ := h; exact ⟨_, one (by assumption) hc, h⟩
    · obtain ⟨x, hc, h⟩ := h; exact ⟨_, one (by assumption) hc, h⟩
    · rename_i ts hs
      obtain ⟨i, hi, h⟩ := szK_of h
      split at h
      · rename_i hl
        have hl := Nat.eq_of_beq_eq_true hl
        obtain ⟨vs, hvl, hc, hK⟩ := exTags_ex h
        refine ⟨_, ?_, hK⟩
        have := loadCells_run (P := P) vs 0 #[] hc
        simp only [loadVar, Sem.run_bind, shape_agg hs, Result.andThen, if_true, sizeOf, run_typeInfo w hi, Sem.run_pure, loadCells]
        rw [← hl, ← hvl, this]
        simp
      · exact h.elim
  · exact h.elim

theorem store_run {w : World} {a : Addr} {v : Value} (hp : plainV v = true) (hc : (w.cell? a).isSome = true) (hf : w.frozen? a = false) :
    (store a v).run P w = .ok () (w.setCell a v) := by
  obtain ⟨u, hu⟩ := Option.isSome_iff_exists.1 hc
  cases v <;> simp_all [store, Sem.run, plainV]

theorem storeCells_run {a : Addr} {K : World → Prop} : ∀ (vs : List Value) (i : Nat) (w : World), stsFrom a vs K i w → ∃ w', (storeCells a vs i).run P w = .ok () w' ∧ K w'
  | [], i, w, h => ⟨w, by simp [storeCells], h⟩
  | v :: vs, i, w, h => by
    obtain ⟨⟨⟨hc, hf⟩, h⟩, hp⟩ := plK_iff h
    obtain ⟨w', hr, hK⟩ := storeCells_run vs (i + 1) _ h
    exact ⟨w', by simp [storeCells, store_run hp hc hf, hr], hK⟩

theorem storK_run {t : TypeId} {w : World} {a : Addr} {v : Value} {K : World → Prop} (h : storK P t a v w K) : ∃ w', (storeVar t a v).run P w = .ok () w' ∧ K w' := by
  unfold storK at h
  obtain ⟨i, hi, h⟩ := szK_of h
  split at h
  · split at h
    · rename_i hs
      have hs := Nat.eq_of_beq_eq_true hs
      obtain ⟨⟨⟨hc, hf⟩, h⟩, hp⟩ := plK_iff h
      refine ⟨_, ?_, h⟩
      have hadd : a.add 0 = a := by simp [Addr.add]
      simp [storeVar, plain_cells hp, sizeOf, run_typeInfo w hi, hs, storeCells, hadd, store_run hp hc hf]
    · exact h.elim
  · rcases v with _ | _ | _ | _ | _ | _ | _ | _ | _ | _ | _ | _ | _ | cs | _ <;> first | exact h.elim | skip
    simp only at h
    split at h
    · rename_i hs
      have hs := Nat.eq_of_beq_eq_true hs
      obtain ⟨w', hr, hK⟩ := storeCells_run (P := P) cs.toList 0 w h
      refine ⟨w', ?_, hK⟩
      have hsz : cs.size = i.size := by simpa using hs
      simp [storeVar, Value.cells, sizeOf, run_typeInfo w hi, hsz, hr]
    · exact h.elim

theorem runS_run {r : RShape} {s : Sem Value} {w : World} {K : Value → World → Prop} (h : runS P r s w K) : ∃ v w', s.run P w = .ok v w' ∧ K v w' := by
  obtain ⟨w', h⟩ := h
  obtain ⟨v, hr, hK⟩ := exR_ex h
  exact ⟨v, w', hr, hK⟩

theorem newRow_run (e : TypeId) (cs : Array Value) (w : World) : (newRow e cs).run P w = .ok ⟨w.heap.size, 0, none⟩ (w.alloc (.cells cs e)) := by
  rfl

theorem upon_v {s : Sem Value} {w w' : World} {v : Value} {K : Value → World → Prop} (he : execOp (ev n ρ) o = (do pure (Next.value (← s)))) (hr : s.run P w = .ok v w') (hK : K v w') :
    Upon P o (ev n ρ) w K := .inl ⟨v, w', by rw [he]; exact run_v hr, hK⟩
theorem upon_u {s : Sem Unit} {w w' : World} {K : Value → World → Prop} (he : execOp (ev n ρ) o = (do s; pure Next.skip)) (hr : s.run P w = .ok () w') (hK : K undef w') :
    Upon P o (ev n ρ) w K := .inr (.inl ⟨w', by rw [he]; simp [hr, Result.andThen], hK⟩)

theorem zeroRow (len sz : Nat) (z : List Value) (hz : z.length = sz) (hpos : len * sz ≠ 0) :
    ((Array.range (len * sz)).map fun i => z.toArray[i % sz]!).toList = (List.replicate len z).flatten := by
  subst hz
  have hp : 0 < z.length := by
    rcases Nat.eq_zero_or_pos z.length with h | h
    · rw [h] at hpos; simp at hpos
    · exact h
  apply List.ext_getElem
  · simp [Nat.mul_comm]
  · intro i h1 h2
    simp at h1
    have hm : i % z.length < z.length := Nat.mod_lt _ hp
    have : ∀ (len : Nat) (i : Nat) (h : i < (List.replicate len z).flatten.length), (List.replicate len z).flatten[i] = z[i % z.length]'(Nat.mod_lt _ hp) := by
      intro len
      induction len with
      | zero => intro i h; simp at h
      | succ k ih =>
        intro i h
        simp only [List.replicate_succ, List.flatten_cons]
        by_cases hi : i < z.length
        · rw [List.getElem_append_left hi]
          congr 1; exact (Nat.mod_eq_of_lt hi).symm
        · rw [List.getElem_append_right (by omega)]
          rw [ih]
          congr 1
          conv => rhs; rw [Nat.mod_eq_sub_mod (by omega)]
    rw [this]
    simp [hm]

theorem vcEff_upon (hP : Plain P) {w : World} {K : Value → World → Prop} (h : vcEff P n ρ o w K) : Upon P o (ev n ρ) w K := by
  cases ho : o.op <;> simp only [vcEff, ho] at h
  case load t x =>
    split at h
    · rename_i a hx
      obtain ⟨v, hr, hK⟩ := ldK_run h
      exact upon_v (s := Instr.loadAt t (ev n ρ x)) (by simp only [execOp, ho]) (by simp [Instr.loadAt, hx, Instr.sureAddr, hr]) hK
    · exact h.elim
  case store t x y =>
    split at h
    · rename_i a hx
      obtain ⟨w', hr, hK⟩ := storK_run h
      exact upon_u (s := Instr.storeAt t (ev n ρ x) (ev n ρ y)) (by simp only [execOp, ho]) (by simp [Instr.storeAt, hx, Instr.sureAddr, hr]) hK
    · exact h.elim
  case alloc t =>
    split at h
    · rename_i i hi
      split at h
      · rename_i z hz
        exact upon_v (s := Instr.alloc t true (.tuple #[])) (by simp only [execOp, ho]) (by simp [Instr.alloc, zeroValue, run_typeInfo w hi, hz, newVar, newRow_run]) h
      · exact h.elim
    · exact h.elim
  case box t x =>
    unfold boxK at h
    split at h
    · obtain ⟨h, hp⟩ := plK_iff h
      exact upon_v (s := Instr.box t (ev n ρ x)) (by simp only [execOp, ho]) (by simp [Instr.box, newVar, newRow_run, plain_cells hp]) h
    · split at h
      · rename_i cs hx
        exact upon_v (s := Instr.box t (ev n ρ x)) (by simp only [execOp, ho]) (by simp [Instr.box, newVar, newRow_run, hx, Value.cells]) h
      · exact h.elim
  case buildSlice t len parts =>
    unfold bsK at h
    split at h
    · rename_i e hu
      split at h
      · rename_i i hi
        split at h
        · rename_i z hz
          split at h
          · rename_i hle
            have hle := Nat.le_of_ble_eq_true hle
            have hlim : ¬ (len * i.size > 2 ^ 24) := by omega
            have hp : (parts.map fun p => (p.1, ev n ρ p.2)).toList = parts.toList.map fun p => (p.1, ev n ρ p.2) := by simp
            split at h
            · rename_i h0
              have h0 := Nat.eq_of_beq_eq_true h0
              obtain ⟨cs, hf, hK⟩ := fill_of P (fun j => some (j * i.size, i.size)) _ (fun j => rfl) _ _ _ h
              refine upon_v (s := Instr.buildSlice t len (parts.map fun p => (p.1, ev n ρ p.2))) (by simp only [execOp, ho]) ?_ hK
              have hz0 : ((Array.range (len * i.size)).map fun j => (#[] : Array Value)[j % (#[] : Array Value).size]!) = #[] := by rw [h0]; simp
              simp only [Instr.buildSlice, Sem.run_bind, run_underlying hu, Result.andThen, sizeOf, run_typeInfo w hi, Sem.run_pure, hp, if_neg hlim, if_pos h0, hz0]
              rw [hf]
              simp only [Sem.run_bind, newRow_run, Result.andThen, Sem.run_pure]
            · rename_i h0
              have h0 : len * i.size ≠ 0 := by
                intro hc
                rw [hc] at h0
                exact absurd h0 (by decide)
              split at h
              · rename_i hzs
                have hzs := Nat.eq_of_beq_eq_true hzs
                obtain ⟨cs, hf, hK⟩ := fill_of P (fun j => some (j * i.size, i.size)) _ (fun j => rfl) _ _ _ h
                refine upon_v (s := Instr.buildSlice t len (parts.map fun p => (p.1, ev n ρ p.2))) (by simp only [execOp, ho]) ?_ hK
                have hz1 : ((Array.range (len * i.size)).map fun j => z.cells[j % z.cells.size]!) = ((List.replicate len z.cells.toList).flatten).toArray := by
                  apply Array.ext'
                  have := zeroRow len i.size z.cells.toList hzs h0
                  simp only [Array.toArray_toList] at this
                  have hsz : z.cells.size = i.size := by simpa using hzs
                  rw [hsz]
                  simpa using this
                simp only [Instr.buildSlice, Sem.run_bind, run_underlying hu, Result.andThen, sizeOf, run_typeInfo w hi, Sem.run_pure, hp, if_neg hlim, if_neg h0, zeroValue, hz, hz1]
                rw [hf]
                simp only [Sem.run_bind, newRow_run, Result.andThen, Sem.run_pure]
              · exact h.elim
          · exact h.elim
        · exact h.elim
      · exact h.elim
    · exact h.elim
  case convert s d x =>
    obtain ⟨v, w', hr, hK⟩ := runS_run h
    exact upon_v (by simp only [execOp, ho]) hr hK
  case makeMap t r =>
    obtain ⟨v, w', hr, hK⟩ := runS_run h
    exact upon_v (by simp only [execOp, ho]) hr hK
  case makeSlice t l c =>
    obtain ⟨v, w', hr, hK⟩ := runS_run h
    exact upon_v (by simp only [execOp, ho]) hr hK
  case lookup t x i ok =>
    obtain ⟨v, w', hr, hK⟩ := runS_run h
    exact upon_v (by simp only [execOp, ho]) hr hK
  case mapUpdate t m k x =>
    obtain ⟨w', hr, hK⟩ := h
    exact upon_u (by simp only [execOp, ho]) hr hK
  case insert t m k x =>
    obtain ⟨w', hr, hK⟩ := h
    exact upon_u (by simp only [execOp, ho]) hr hK
  case mapEntry t m k =>
    obtain ⟨v, w', hr, hK⟩ := runS_run h
    exact upon_v (by simp only [execOp, ho]) hr hK
  case entryStore t m k x =>
    obtain ⟨w', hr, hK⟩ := h
    exact upon_u (by simp only [execOp, ho]) hr hK
  case range t x =>
    obtain ⟨v, w', hr, hK⟩ := runS_run h
    exact upon_v (by simp only [execOp, ho]) hr hK
  case next it s =>
    split at h
    · obtain ⟨r, s, pos, ⟨hi, hh⟩, hlt, hge⟩ := h
      by_cases hp : pos < s.size
      · refine upon_v (s := Instr.next (ev n ρ it) true o.type) (by simp only [execOp, ho]) ?_ (hlt hp)
        simp [Instr.next, hi, getObj, setObj, Sem.run, hh, hp, Result.andThen, goInt]
      · refine upon_v (s := Instr.next (ev n ρ it) true o.type) (by simp only [execOp, ho]) ?_ (hge hp)
        simp [Instr.next, hi, getObj, Sem.run, hh, hp, Result.andThen]
    · obtain ⟨v, w', hr, hK⟩ := runS_run h
      exact upon_v (by simp only [execOp, ho]) hr hK
  case call c =>
    have hargs : (c.args.toList.map (ev n ρ)).toArray = c.args.map (ev n ρ) := by apply Array.ext'; simp
    simp only [hargs] at h
    split at h
    · rename_i x hc
      split at h
      · rename_i f
        split at h
        · rename_i hb
          refine .inr (.inr (.inl ⟨f, c.args.map (ev n ρ), w, ?_, h.mono fun _ _ => RetK_ret⟩))
          unfold bodied at hb
          split at hb
          · rename_i fn hf
            split at hb
            · rename_i b hbd
              have hne : ¬ fn.name = "runtime.NumGoroutine" := by simpa using hP f fn hf
              simp [execOp, ho, resolve, hc, ev, Deferred.ofValue, invoke, callFunc, hf, hne, hbd]
            · cases hb
          · cases hb
        · obtain ⟨v, w', hr, hK⟩ := runS_run h
          refine .inl ⟨v, w', ?_, hK⟩
          unfold vcEff.extV at hr
          have he : (execOp (ev n ρ) o).run P w = (callFunc f (c.args.map (ev n ρ))).run P w := by
            simp [execOp, ho, resolve, hc, ev, Deferred.ofValue, invoke]
          rw [he]
          rw [Sem.run_bind] at hr
          cases hcf : (callFunc f (c.args.map (ev n ρ))).run P w with
          | halt x w₁ => rw [hcf] at hr; simp [Result.andThen] at hr
          | ok nx w₁ =>
            rw [hcf] at hr
            simp only [Result.andThen] at hr
            split at hr
            · simp at hr; obtain ⟨rfl, rfl⟩ := hr; rfl
            · simp [stuck, Sem.run] at hr
      · rename_i hnf
        generalize hfv : ev n ρ x = fv at h
        unfold CallV at h
        split at h
        · rename_i f first cap
          obtain ⟨hr, hcall⟩ := h
          refine .inr (.inr (.inl ⟨f, _, w, ?_, hcall.mono fun _ _ => RetK_ret⟩))
          rw [← hr]
          simp [execOp, ho, resolve, hc, hfv, Deferred.ofValue, invoke]
        · rename_i l first cap
          obtain ⟨f, tmps, as, body, w', hr, hround⟩ := h
          refine .inr (.inr (.inr ⟨l, f, tmps, as, body, w', ?_, hround.mono fun e w'' ⟨b, hb, hk⟩ => ⟨b, hb, by obtain ⟨v, hv, hK⟩ := RetK_ret hk; cases hv; exact hK⟩⟩))
          rw [← hr]
          simp [execOp, ho, resolve, hc, hfv, Deferred.ofValue, invoke]
        · exact h.elim
    · rename_i r name hc
      obtain ⟨f, x, hr, hcall⟩ := h
      refine .inr (.inr (.inl ⟨f, _, w, ?_, hcall.mono fun _ _ => RetK_ret⟩))
      rw [← hr]
      have hx : (#[ev n ρ r] ++ c.args.map (ev n ρ))[0]? = some (ev n ρ r) := by rw [Array.getElem?_append_left (by simp)]; rfl
      have hex : (#[ev n ρ r] ++ c.args.map (ev n ρ)).extract 1 (#[ev n ρ r] ++ c.args.map (ev n ρ)).size = c.args.map (ev n ρ) := by
        apply Array.ext'; simp [List.take_of_length_le]
      simp only [execOp, ho, resolve, hc, invoke, pure_bind, hx, hex]
    · rename_i b hc
      obtain ⟨v, w', hr, hK⟩ := runS_run h
      refine .inl ⟨v, w', ?_, hK⟩
      simp only [execOp, ho, resolve, hc, invoke, pure_bind]
      cases b <;> first | exact run_v hr | (simp [vcEff.bltV, stuck] at hr)

end
end Go.Fw
