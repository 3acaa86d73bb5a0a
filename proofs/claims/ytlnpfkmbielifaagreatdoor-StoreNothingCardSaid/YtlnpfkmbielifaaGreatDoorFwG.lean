/- Part of a proof over the given program: a text of lemmas (conditions: none beyond each lemma as stated). -/
import Derived.Test.YtlnpfkmbielifaaGreatDoorFwF
set_option linter.unnecessarySimpa false
set_option linter.unusedVariables false
set_option linter.unusedSimpArgs false
set_option autoImplicit false
namespace Go.Fw

def ldAgain (P : Program) (t : TypeId) (w : World) (a : Addr) (v : Value) : Prop := match shapeOf P t with
  | .one _ => w.cell? a = some v
  | .agg _ => match v with | .agg cs => CellsAt w a cs.toList | _ => False

noncomputable def vcQuiet (P : Program) (n : Nat) (ρ : Fr) (o : Oper) (w : World) (K : Value → Option (World → Prop) → Prop) : Prop := match o.op with
  | .load t x => match ev n ρ x with | .pointer (some a) => ldK P t w a fun v => K v (some fun w' => ldAgain P t w' a v) | _ => False
  | _ => match isPure P o.op with | true => vcPure P n ρ o fun v => K v none | false => False

def isQuiet (P : Program) (o : Op) : Bool := match o with | .load _ _ => true | _ => isPure P o

def readyM (ops : Array Oper) (mask : Nat) (i : Nat) : Bool := match ops[i]? with
  | some o => !mask.testBit i && o.after.toList.all fun e => !Region.binds .any e || mask.testBit e.on
  | none => false
def readyL (ops : Array Oper) (mask : Nat) : List Nat := (List.range ops.size).filter (readyM ops mask)
def findQ (P : Program) (ops : Array Oper) (mask : Nat) : Option Nat := (readyL ops mask).find? fun i => match ops[i]? with | some o => isQuiet P o.op | none => false
/-- Every two operations are ordered, or apart. -/
def pairOK (ops : Array Oper) (bf : List Nat) : Bool := (List.range ops.size).all fun i => match ops[i]? with
  | none => true
  | some oi => (List.range ops.size).all fun j => Nat.beq j i || (bf.getD j 0).testBit i || (bf.getD i 0).testBit j || (match ops[j]? with | some oj => oi.apart ops oj | none => true)
def noSD (ops : Array Oper) : Bool := ops.toList.all fun o => match o.op with | .select _ _ => false | .defer _ => false | _ => true

def addC (i : Nat) (φ : Option (World → Prop)) (R : Checks) : Checks := match φ with | some φ => (i, φ) :: R | none => R
def dropC (bm : Nat) (R : Checks) : Checks := R.filter fun r => !bm.testBit r.1
def recK (bm : Nat) (R : Checks) (w : World) (X : Prop) : Prop := match R with
  | [] => X
  | r :: R => match bm.testBit r.1 with
    | true => recK bm R w X
    | false => r.2 w ∧ recK bm R w X
def allK (f : Nat → Prop) : List Nat → Prop
  | [] => True
  | [x] => f x
  | x :: y :: l => f x ∧ allK f (y :: l)

noncomputable def vcD (P : Program) (n : Nat) (ops : Array Oper) (bf : List Nat) (fuel : Nat) : Nat → Checks → (Fr → World → Prop) → Fr → World → Prop :=
  Nat.rec (motive := fun _ => Nat → Checks → (Fr → World → Prop) → Fr → World → Prop)
    (fun mask _ K ρ w => match readyL ops mask with | [] => K ρ w | _ => False)
    (fun _ ih mask R K ρ w => match findQ P ops mask with
      | some i => match ops[i]? with
        | none => False
        | some o => guardV n ops o ρ (fun ρ => vcQuiet P n ρ o w fun v φ => ih (mask ||| 2 ^ i) (addC i φ R) K (updO ρ o.dst v) w) (fun ρ => ih (mask ||| 2 ^ i) R K (updO ρ o.dst undef) w)
      | none => match readyL ops mask with
        | [] => K ρ w
        | i :: l => allK (fun i => match ops[i]? with
          | none => False
          | some o => guardV n ops o ρ (fun ρ => vcOp P n ρ o w fun v w' => recK (bf.getD i 0) R w' (ih (mask ||| 2 ^ i) (dropC (bf.getD i 0) R) K (updO ρ o.dst v) w'))
              (fun ρ => ih (mask ||| 2 ^ i) (dropC (bf.getD i 0) R) K (updO ρ o.dst undef) w)) (i :: l)) fuel

noncomputable def vcRegion (P : Program) (n : Nat) (ops : Array Oper) (draw : Bool) (K : Fr → World → Prop) (ρ : Fr) (w : World) : Prop := match draw with
  | false => vcList P n ops ops.toList K ρ w
  | true => match noSD ops && pairOK ops (bfOf ops) with
    | true => vcD P n ops (bfOf ops) ops.size 0 [] K ρ w.drew
    | false => False

section
variable {P : Program} {n : Nat} {ρ : Fr} {o : Oper} {ops : Array Oper}

theorem ldK_again {t : TypeId} {w : World} {a : Addr} {K : Value → Prop} (h : ldK P t w a K) :
    ∃ v, (∀ w', ldAgain P t w' a v → (loadVar t a).run P w' = .ok v w') ∧ ldAgain P t w a v ∧ K v := by
  unfold ldK at h
  split at h
  · rename_i d hu
    unfold ldS at h
    have one : ∀ {v : Value} {g : Tag}, shapeOf P t = .one g → w.cell? a = some v → (∀ w', ldAgain P t w' a v → (loadVar t a).run P w' = .ok v w') ∧ ldAgain P t w a v := by
      intro v g hs hc
      refine ⟨fun w' h => ?_, by unfold ldAgain; rw [hs]; exact hc⟩
      unfold ldAgain at h
      rw [hs] at h
      simp only at h
      simp [loadVar, shape_one hu hs, load, Sem.run, h]
    split at h
    · obtain ⟨x, hc, h⟩ := h; exact ⟨_, (one (by assumption) hc).1, (one (by assumption) hc).2, h⟩
    · obtain ⟨x, hc, h⟩ := h; exact ⟨_, (one (by assumption) hc).1, (one (by assumption) hc).2, h⟩
    · obtain ⟨x, hc, h⟩ := h; exact ⟨_, (one (by assumption) hc).1, (one (by assumption) hc).2, h⟩
    · obtain ⟨x, hc, h⟩ := h; exact ⟨_, (one (by assumption) hc).1, (one (by assumption) hc).2, h⟩
    · obtain ⟨x, y, z, hc, h⟩ := h; exact ⟨_, (one (by assumption) hc).1, (one (by assumption) hc).2, h⟩
    · obtain ⟨x, hc, h⟩ := h; exact ⟨_, (one (by assumption) hc).1, (one (by assumption) hc).2, h⟩
    · obtain ⟨x, hc, h⟩ := h; exact ⟨_, (one (by assumption) hc).1, (one (by assumption) hc).2, h⟩
    · rename_i ts hs
      obtain ⟨i, hi, h⟩ := szK_of h
      split at h
      · rename_i hl
        have hl := Nat.eq_of_beq_eq_true hl
        obtain ⟨vs, hvl, hc, hK⟩ := exTags_ex h
        refine ⟨_, fun w' hw' => ?_, by unfold ldAgain; rw [hs]; exact hc, hK⟩
        unfold ldAgain at hw'
        rw [hs] at hw'
        have := loadCells_run (P := P) vs 0 #[] hw'
        simp only [loadVar, Sem.run_bind, shape_agg hs, Result.andThen, if_true, sizeOf, run_typeInfo w' hi, Sem.run_pure, loadCells]
        rw [← hl, ← hvl, this]
        simp
      · exact h.elim
  · exact h.elim

theorem vcQuiet_of {w : World} {K : Value → Option (World → Prop) → Prop} (h : vcQuiet P n ρ o w K) :
    (∀ c, o.op ≠ .defer c) ∧ ∃ v φ, (∀ w', (∀ f, φ = some f → f w') → (execOp (ev n ρ) o).run P w' = .ok (.value v) w') ∧ (∀ f, φ = some f → f w) ∧ K v φ := by
  unfold vcQuiet at h
  split at h
  · rename_i t x ho
    refine ⟨(fun c hc => by rw [ho] at hc; cases hc), ?_⟩
    split at h
    · rename_i a hx
      obtain ⟨v, hr, hφ, hK⟩ := ldK_again h
      refine ⟨v, _, fun w' hw' => ?_, (fun f hf => by cases hf; exact hφ), hK⟩
      have := hr w' (hw' _ rfl)
      have he : execOp (ev n ρ) o = (do pure (Next.value (← Instr.loadAt t (ev n ρ x)))) := by simp only [execOp, ho]
      rw [he]
      exact run_v (by simp [Instr.loadAt, hx, Instr.sureAddr, this])
    · exact h.elim
  · split at h
    · rename_i hp
      obtain ⟨v, hg, hK⟩ := vcPure_gives hp h
      exact ⟨isPure_noDefer hp, v, none, fun w' _ => hg w', (fun f hf => by cases hf), hK⟩
    · exact h.elim

theorem bfs_spec (ops : Array Oper) : ∀ (l : List Oper) (acc : List Nat), (∀ j, l[j]? = ops[acc.length + j]?) →
    (∀ j, j < acc.length → ∃ o, ops[j]? = some o ∧ ∀ k, (acc.getD j 0).testBit k = true → ∃ e ∈ o.after, Region.binds .any e = true ∧ (e.on = k ∨ (e.on < acc.length ∧ (acc.getD e.on 0).testBit k = true))) →
    let r := bfs l acc
    (∀ j, j < r.length → ∃ o, ops[j]? = some o ∧ ∀ k, (r.getD j 0).testBit k = true → ∃ e ∈ o.after, Region.binds .any e = true ∧ (e.on = k ∨ (e.on < r.length ∧ (r.getD e.on 0).testBit k = true)))
  | [], acc, _, h => h
  | o :: l, acc, hl, h => by
    have h0 : ops[acc.length]? = some o := by simpa using (hl 0).symm
    refine bfs_spec ops l (acc ++ [bfMask o acc]) (fun j => ?_) (fun j hj => ?_)
    · have := hl (j + 1)
      simp only [List.length_append, List.length_cons, List.length_nil]
      rw [show acc.length + (0 + 1) + j = acc.length + (j + 1) by omega, ← this]
      simp
    · simp only [List.length_append, List.length_cons, List.length_nil] at hj
      by_cases hlt : j < acc.length
      · obtain ⟨oj, hoj, hk⟩ := h j hlt
        refine ⟨oj, hoj, fun k hb => ?_⟩
        rw [show (acc ++ [bfMask o acc]).getD j 0 = acc.getD j 0 by simp [List.getD, List.getElem?_append_left hlt]] at hb
        obtain ⟨e, he, hbd, hor⟩ := hk k hb
        refine ⟨e, he, hbd, hor.imp id fun ⟨h1, h2⟩ => ⟨by simp; omega, ?_⟩⟩
        rw [show (acc ++ [bfMask o acc]).getD e.on 0 = acc.getD e.on 0 by simp [List.getD, List.getElem?_append_left h1]]
        exact h2
      · have hj' : j = acc.length := by omega
        subst hj'
        refine ⟨o, h0, fun k hb => ?_⟩
        rw [show (acc ++ [bfMask o acc]).getD acc.length 0 = bfMask o acc by simp [List.getD]] at hb
        have key : ∀ (es : List Edge) (s : Nat), (es.foldl (fun s e => match Region.binds .any e with | true => s ||| 2 ^ e.on ||| acc.getD e.on 0 | false => s) s).testBit k = true →
            s.testBit k = true ∨ ∃ e ∈ es, Region.binds .any e = true ∧ (e.on = k ∨ (acc.getD e.on 0).testBit k = true) := by
          intro es
          induction es with
          | nil => intro s hs; exact .inl hs
          | cons e es ih =>
            intro s hs
            simp only [List.foldl_cons] at hs
            rcases ih _ hs with h1 | ⟨e', he', hh⟩
            · split at h1
              · rename_i hbd
                rw [Nat.testBit_or, Nat.testBit_or, Bool.or_eq_true, Bool.or_eq_true] at h1
                rcases h1 with (h1 | h1) | h1
                · exact .inl h1
                · refine .inr ⟨e, List.mem_cons_self, hbd, .inl ?_⟩
                  rw [Nat.testBit_two_pow] at h1
                  exact of_decide_eq_true h1
                · exact .inr ⟨e, List.mem_cons_self, hbd, .inr h1⟩
              · exact .inl h1
            · exact .inr ⟨e', List.mem_cons_of_mem _ he', hh⟩
        rcases key o.after.toList 0 hb with h1 | ⟨e, he, hbd, hor⟩
        · simp at h1
        · refine ⟨e, Array.mem_toList_iff.1 he, hbd, hor.imp id fun h2 => ?_⟩
          have h1 : e.on < acc.length := by
            rcases Nat.lt_or_ge e.on acc.length with h' | h'
            · exact h'
            · simp [List.getD, List.getElem?_eq_none h'] at h2
          refine ⟨by simp; omega, ?_⟩
          rw [show (acc ++ [bfMask o acc]).getD e.on 0 = acc.getD e.on 0 by simp [List.getD, List.getElem?_append_left h1]]
          exact h2

theorem bfs_length : ∀ (l : List Oper) (acc : List Nat), (bfs l acc).length = acc.length + l.length
  | [], acc => rfl
  | o :: l, acc => by
    change (bfs l (acc ++ [bfMask o acc])).length = _
    rw [bfs_length l]
    simp; omega

theorem bfOf_before (ops : Array Oper) : Before ops fun j => (bfOf ops).getD j 0 := by
  intro j o ho k hk
  have hj : j < (bfOf ops).length := by
    rw [bfOf, bfs_length]
    simpa using (Array.getElem?_eq_some_iff.1 ho).1
  obtain ⟨o', ho', h⟩ := bfs_spec ops ops.toList [] (fun j => by simp) (fun j hj => absurd hj (Nat.not_lt_zero _)) j hj
  rw [ho] at ho'
  cases ho'
  obtain ⟨e, he, hb, hor⟩ := h k hk
  exact ⟨e, he, hb, hor.imp id fun h => h.2⟩

def LM (listed : Array Bool) (mask size : Nat) : Prop := listed.size = size ∧ ∀ i, listed.getD i false = mask.testBit i

theorem LM.ready {listed : Array Bool} {mask : Nat} (h : LM listed mask ops.size) : Region.ready .any ops listed = readyL ops mask := by
  unfold Region.ready readyL
  apply List.filter_congr
  intro i hi
  have hi : i < ops.size := by simpa using hi
  have ht : listed.getD i true = mask.testBit i := by
    rw [← h.2 i]
    simp [h.1, hi]
  unfold readyM
  cases ho : ops[i]? with
  | none => simp
  | some o =>
    simp only [Option.map_some, Option.getD_some, ht]
    rw [← Array.all_toList]
    have hf : (fun e : Edge => !Region.binds .any e || listed.getD e.on false) = fun e => !Region.binds .any e || mask.testBit e.on := by
      funext e; rw [h.2]
    rw [hf]

theorem LM.set {listed : Array Bool} {mask : Nat} (h : LM listed mask ops.size) {i : Nat} (hi : i < ops.size) : LM (listed.setIfInBounds i true) (mask ||| 2 ^ i) ops.size := by
  refine ⟨by simp [h.1], fun j => ?_⟩
  rw [Nat.testBit_or, Nat.testBit_two_pow, ← h.2 j]
  by_cases hij : i = j
  · subst hij
    simp [h.1, hi]
  · rw [getD_set_ne false hij]; simp [hij]

theorem LM.zero : LM (Array.replicate ops.size false) 0 ops.size := by
  refine ⟨by simp, fun i => ?_⟩
  simp only [Nat.zero_testBit, Array.getD_eq_getD_getElem?, Array.getElem?_replicate]
  split <;> rfl

theorem readyL_lt {mask i : Nat} (h : i ∈ readyL ops mask) : i < ops.size := by
  unfold readyL at h
  simpa using (List.mem_filter.1 h).1

theorem noSD_spec (h : noSD ops = true) : ∀ (j : Nat) (o : Oper), ops[j]? = some o → (∀ cs b, o.op ≠ .select cs b) ∧ ∀ c, o.op ≠ .defer c := by
  intro j o ho
  have hm : o ∈ ops.toList := by
    rw [Array.mem_toList_iff]; exact Array.mem_of_getElem? ho
  have := List.all_eq_true.1 h o hm
  constructor
  · intro cs b hc; simp [hc] at this
  · intro c hc; simp [hc] at this

theorem pair_spec {i : Nat} {oi : Oper} {listed : Array Bool} (hB : Before ops fun j => (bfOf ops).getD j 0) (hC : Closed (fun j => (bfOf ops).getD j 0) listed) (h : pairOK ops (bfOf ops) = true)
    (hoi : ops[i]? = some oi) (hr : i ∈ Region.ready .any ops listed) :
    ∀ j oj, ops[j]? = some oj → j ≠ i → listed.getD j true = false → ((bfOf ops).getD j 0).testBit i = true ∨ oi.apart ops oj = true := by
  intro j oj hoj hne hun
  have hj : j < ops.size := (Array.getElem?_eq_some_iff.1 hoj).1
  have hi : i < ops.size := (Array.getElem?_eq_some_iff.1 hoi).1
  have h1 := List.all_eq_true.1 h i (by simpa using hi)
  simp only [hoi] at h1
  have h2 := List.all_eq_true.1 h1 j (by simpa using hj)
  have hb : Nat.beq j i = false := by
    cases hb : Nat.beq j i with
    | false => rfl
    | true => exact absurd (Nat.eq_of_beq_eq_true hb) hne
  have hnb : ((bfOf ops).getD i 0).testBit j = false := by
    cases hc : ((bfOf ops).getD i 0).testBit j with
    | false => rfl
    | true =>
      have := ready_before hB hC hr j hc
      rw [listed_false hun] at this
      cases this
  rw [hoj, hb, hnb] at h2
  simpa using h2

theorem allK_mem {f : Nat → Prop} : ∀ {l : List Nat}, allK f l → ∀ i ∈ l, f i
  | [], _, i, hi => by cases hi
  | [x], h, i, hi => by
    simp only [List.mem_singleton] at hi
    subst hi; exact h
  | x :: y :: l, h, i, hi => by
    rcases List.mem_cons.1 hi with rfl | hi
    · exact h.1
    · exact allK_mem h.2 i hi

theorem recK_of {bm : Nat} {w : World} {X : Prop} : ∀ {R : Checks}, recK bm R w X → (∀ r ∈ R, bm.testBit r.1 = false → r.2 w) ∧ X
  | [], h => ⟨(fun r hr => by cases hr), h⟩
  | r :: R, h => by
    unfold recK at h
    split at h
    · rename_i hb
      obtain ⟨h1, h2⟩ := recK_of h
      refine ⟨fun r' hr' hf => ?_, h2⟩
      rcases List.mem_cons.1 hr' with rfl | hr'
      · rw [hb] at hf; cases hf
      · exact h1 r' hr' hf
    · obtain ⟨h1, h2⟩ := recK_of h.2
      refine ⟨fun r' hr' hf => ?_, h2⟩
      rcases List.mem_cons.1 hr' with rfl | hr'
      · exact h.1
      · exact h1 r' hr' hf

variable {rd : Option Nat} {m : Nat} {Q : Exit → Act → World → Prop} {K : Fr → World → Prop} {D : List Deferred} {Fx : Nat → Option Value}

theorem vcD_sound (hP : Plain P) (hsd : noSD ops = true) (hpair : pairOK ops (bfOf ops) = true) (hQp : ∀ c a w, ¬ Q (.panic c) a w) (hQ : ∀ a w, Real n D Fx K a w → Q .normal a w) (hx : ∀ (j : Nat) (o : Oper), ops[j]? = some o → ∀ t, o.dst = some t → Fx t = none) :
    ∀ (fuel mask : Nat) (R : Checks) (listed : Array Bool) (a : Act) (w : World), LM listed mask ops.size → Closed (fun j => (bfOf ops).getD j 0) listed → (∀ r ∈ R, r.2 w) →
      Real n D Fx (vcD P n ops (bfOf ops) fuel mask R K) a w → wpAnyR P rd m ops (fun j => (bfOf ops).getD j 0) Q fuel R listed a w
  | 0, mask, R, listed, a, w, hL, hC, hR, h => by
    obtain ⟨ρ, hr, hd, hF, h⟩ := h
    change (match readyL ops mask with | [] => K ρ w | _ => False) at h
    unfold wpAnyR
    rw [hL.ready]
    split at h
    · rename_i he
      exact ⟨he, hQ a w ⟨ρ, hr, hd, hF, h⟩⟩
    · exact h.elim
  | fuel + 1, mask, R, listed, a, w, hL, hC, hR, h => by
    obtain ⟨ρ, hr, hd, hF, h⟩ := h
    have ih := vcD_sound hP hsd hpair hQp hQ hx fuel
    change (match findQ P ops mask with
      | some i => match ops[i]? with
        | none => False
        | some o => guardV n ops o ρ (fun ρ => vcQuiet P n ρ o w fun v φ => vcD P n ops (bfOf ops) fuel (mask ||| 2 ^ i) (addC i φ R) K (updO ρ o.dst v) w) (fun ρ => vcD P n ops (bfOf ops) fuel (mask ||| 2 ^ i) R K (updO ρ o.dst undef) w)
      | none => match readyL ops mask with
        | [] => K ρ w
        | i :: l => allK (fun i => match ops[i]? with
          | none => False
          | some o => guardV n ops o ρ (fun ρ => vcOp P n ρ o w fun v w' => recK ((bfOf ops).getD i 0) R w' (vcD P n ops (bfOf ops) fuel (mask ||| 2 ^ i) (dropC ((bfOf ops).getD i 0) R) K (updO ρ o.dst v) w'))
              (fun ρ => vcD P n ops (bfOf ops) fuel (mask ||| 2 ^ i) (dropC ((bfOf ops).getD i 0) R) K (updO ρ o.dst undef) w)) (i :: l)) at h
    split at h
    · rename_i i hfind
      have hir : i ∈ readyL ops mask := List.mem_of_find?_eq_some hfind
      have hlt := readyL_lt hir
      split at h
      · exact h.elim
      · rename_i o ho
        have hready : i ∈ Region.ready .any ops listed := by rw [hL.ready]; exact hir
        have hB := bfOf_before ops
        have hC' := hC.set hB hready
        rcases guardV_of hr h with ⟨hw, ρ', hr', h⟩ | ⟨hw, ρ', hr', h⟩
        · obtain ⟨hnd, v, φ, hrun, hφ, h⟩ := vcQuiet_of h
          refine wpAnyR_take (φ := fun w' => ∀ f, φ = some f → f w') ho hB (noSD_spec hsd) (fun c a w hq => absurd hq (hQp _ _ _)) fuel listed R a w hC (pair_spec (bfOf_before ops) hC hpair ho hready) hready
            (.inl ⟨hw, hnd, fun w' hw' => by rw [hr'.evalF]; exact hrun w' hw'⟩) hφ hR ?_
          refine wpAnyR_sub fuel (addC i φ R) _ _ _ _ (fun r hr => ?_) (ih _ _ _ _ _ (hL.set hlt) hC' (fun r hr => ?_) ⟨_, hr'.put _ _, by rw [put_defers']; exact hd, fx_put hF (hx _ _ ho) _, h⟩)
          · rcases List.mem_cons.1 hr with rfl | hr2
            · cases φ with
              | none => exact .inl fun w f hf => by cases hf
              | some f =>
                refine .inr ?_
                have : (i, fun w' : World => ∀ g : World → Prop, some f = some g → g w') = (i, f) := by
                  congr 1; funext w'; apply propext
                  exact ⟨fun h => h f rfl, fun h g hg => by cases hg; exact h⟩
                rw [this]
                exact List.mem_cons_self
            · right
              cases φ with
              | none => exact hr2
              | some f => exact List.mem_cons_of_mem _ hr2
          · cases φ with
            | none => exact hR r hr
            | some f =>
              rcases List.mem_cons.1 hr with rfl | hr
              · exact hφ f rfl
              · exact hR r hr
        · refine wpAnyR_take (φ := fun _ => True) (v := undef) ho hB (noSD_spec hsd) (fun c a w hq => absurd hq (hQp _ _ _)) fuel listed R a w hC (pair_spec (bfOf_before ops) hC hpair ho hready) hready
            (.inr ⟨hw, rfl⟩) trivial hR ?_
          refine wpAnyR_sub fuel R _ _ _ _ (fun r hr => ?_) (ih _ _ _ _ _ (hL.set hlt) hC' hR ⟨_, hr'.put _ _, by rw [put_defers']; exact hd, fx_put hF (hx _ _ ho) _, h⟩)
          rcases List.mem_cons.1 hr with rfl | hr
          · exact .inl fun w => trivial
          · exact .inr hr
    · unfold wpAnyR
      rw [hL.ready]
      split at h
      · rename_i he
        rw [he]
        exact ⟨fun _ => hQ a w ⟨ρ, hr, hd, hF, h⟩, (fun i hi => by cases hi)⟩
      · rename_i i0 l he
        rw [he]
        refine ⟨(fun h => by cases h), fun i hi => ?_⟩
        have hir : i ∈ readyL ops mask := by rw [he]; exact hi
        have hlt := readyL_lt hir
        have hready : i ∈ Region.ready .any ops listed := by rw [hL.ready]; exact hir
        have hC' := hC.set (bfOf_before ops) hready
        have h := allK_mem h i hi
        unfold wpOpIn
        split at h
        · exact h.elim
        · rename_i o ho
          simp only [ho]
          rcases guardV_of hr h with ⟨hw, ρ', hr', h⟩ | ⟨hw, ρ', hr', h⟩
          · rw [if_pos hw]
            obtain ⟨hu, hnd⟩ := vcOp_upon hP h
            rw [← hr'.evalF] at hu
            refine Upon.wpIn hnd (hu.mono fun v w' hK => ?_)
            obtain ⟨hck, hK⟩ := recK_of hK
            exact ⟨hck, ih _ _ _ _ _ (hL.set hlt) hC' (fun r hr => by
              have := List.mem_filter.1 hr
              exact hck r this.1 (by simpa using this.2)) ⟨_, hr'.put _ _, by rw [put_defers']; exact hd, fx_put hF (hx _ _ ho) _, hK⟩⟩
          · rw [if_neg (by simp [hw])]
            exact ⟨fun _ _ => trivial, (fun r hr _ => hR r hr), ih _ _ _ _ _ (hL.set hlt) hC' (fun r hr => hR r (List.mem_filter.1 hr).1) ⟨_, hr'.put _ _, by rw [put_defers']; exact hd, fx_put hF (hx _ _ ho) _, h⟩⟩

theorem vcRegion_sound (hP : Plain P) (hM : P.follows .mixedOrders = true) {id : Nat} {draw : Bool} (hQp : ∀ c a w, ¬ Q (.panic c) a w) (hQ : ∀ a w, Real n D Fx K a w → Q .normal a w) (hx : ∀ (j : Nat) (o : Oper), ops[j]? = some o → ∀ t, o.dst = some t → Fx t = none)
    {a : Act} {w : World} (h : Real n D Fx (vcRegion P n ops draw K) a w) : (Code.region id ops draw).wpIn (fence rd) m P Q a w := by
  obtain ⟨ρ, hr, hd, hF, h⟩ := h
  unfold vcRegion at h
  split at h
  · refine wpIn_region ?_
    have := vcList_sound (rd := rd) (m := m) hP hQ ops.toList 0 (fun j => by simp) (fun o ho => by
      obtain ⟨j, hj⟩ := List.mem_iff_getElem?.1 ho
      exact hx j o (by simpa using hj)) a w ⟨ρ, hr, hd, hF, h⟩
    rw [List.range_eq_range', ← Array.length_toList]
    exact this
  · split at h
    · rename_i hsd
      obtain ⟨hsd, hpair⟩ := (Bool.and_eq_true _ _).mp hsd
      refine wpIn_region_any hM (wpAnyR_any _ [] _ _ _ (vcD_sound hP hsd hpair hQp hQ hx ops.size 0 [] _ a _ LM.zero (fun j hj => ?_) (fun r hr => by cases hr) ⟨ρ, hr, hd, hF, h⟩))
      exfalso
      simp only [Array.getD_eq_getD_getElem?, Array.getElem?_replicate] at hj
      split at hj <;> simp at hj
    · exact h.elim
end
end Go.Fw
