/- Part of a proof over the given program: texts of lemmas (conditions: none beyond each lemma as stated). -/
import Derived.Test.YtdmoefbfepeeaaaGreatDoorP5
import Derived.RangeFuncRecord
set_option linter.unnecessarySimpa false
set_option linter.unusedVariables false
set_option linter.unusedSimpArgs false

set_option autoImplicit false
namespace Go.Fw

/-! A range over a function, outermost. -/

/-- Yield's arguments, in the loop's variables. -/
noncomputable def putL (ρ : Fr) (l : List (Nat × Value)) : Fr := List.rec (motive := fun _ => Fr → Fr) (fun ρ => ρ) (fun x _ ih ρ => ih (upd ρ x.1 x.2)) l ρ

/-- How a round is left. -/
def rndQ (l : Nat) (Rec : LoopState → Option Code → Obj) (K : Bool → World → Prop) (e : Exit) (_ : Fr) (w : World) : Prop := match e with
  | .normal => (∃ s p, w.heap[l]? = some (Rec s p)) ∧ K true (w.putObj l (Rec .ready none))
  | .ret => (∃ s p, w.heap[l]? = some (Rec s p)) ∧ K false (w.putObj l (Rec .done (some .ret)))
  | .exit id => (∃ s p, w.heap[l]? = some (Rec s p)) ∧ K false (w.putObj l (Rec .done (some (.exit id))))
  | _ => False

noncomputable def nlM (c : Code) : Nat :=
  Code.rec (motive := fun _ => Nat) 0 (fun _ _ _ => 0) (fun _ _ a b => a + b) (fun _ _ _ a b => a + b) (fun _ _ a => a) (fun _ a => a + 1) (fun _ _ _ _ a b => a + b + 1) (fun _ => 0) (fun _ a => a) (fun _ => 0) (fun _ => 0) 0 (fun _ => 0) c

/-- One round: the assignments, then the body. -/
noncomputable def rndV (P : Program) (n : Nat) (ann : Nat → Ann) (assign body : Code) (k : Nat) (l : Nat) (Rec : LoopState → Option Code → Obj) (K : Bool → World → Prop) (ρ : Fr) (w : World) : Prop :=
  wpC P n ann assign k (fun e ρ1 w1 => match e with
    | .normal => w1.heap[l]? = some (Rec .ready none) ∧ wpC P n ann body (k + nlM assign) (rndQ l Rec K) ρ1 (w1.putObj l (Rec .busy none))
    | _ => False) ρ w

/-- How the statement may be left otherwise than at its end: ret, exits. -/
noncomputable def exOf (c : Code) : List (Option Nat) :=
  Code.rec (motive := fun _ => List (Option Nat)) [] (fun _ _ _ => []) (fun _ _ a b => a ++ b) (fun _ _ _ a b => a ++ b) (fun _ _ a => a) (fun _ a => a) (fun _ _ _ _ a b => a ++ b) (fun id => [some id]) (fun _ a => a) (fun _ => []) (fun _ => []) [none] (fun _ => []) c

noncomputable def rngX (l d : Nat) (Rec : LoopState → Option Code → Obj) (ms : List Nat) (Q : List Nat → Exit → Fr → World → Prop) (ρ : Fr) (xs : List (Option Nat)) (w : World) : Prop :=
  List.rec (motive := fun _ => Prop) False (fun x _ ih => match x with
    | none => (w.heap[l]? = some (Rec .done (some .ret)) ∧ Q (d :: ms) .ret ρ (w.putObj l (Rec .exhausted (some .ret)))) ∨ ih
    | some id => (w.heap[l]? = some (Rec .done (some (.exit id))) ∧ Q (d :: ms) (.exit id) ρ (w.putObj l (Rec .exhausted (some (.exit id))))) ∨ ih) xs

/-- How the statement is left. -/
noncomputable def rngE (l d : Nat) (Rec : LoopState → Option Code → Obj) (ms : List Nat) (Q : List Nat → Exit → Fr → World → Prop) (ρ : Fr) (xs : List (Option Nat)) (e : Ending) (w : World) : Prop :=
  (∃ v, e = .returned v) ∧ ((w.heap[l]? = some (Rec .ready none) ∧ Q (d :: ms) .normal ρ (w.putObj l (Rec .exhausted none))) ∨ rngX l d Rec ms Q ρ xs w)

/-- For all values of yield's arguments. -/
def allTag (g : Tag) (K : Value → Prop) : Prop := match g with
  | .int k => ∀ n : Int, K (.int k n)
  | .bool => ∀ b : Bool, K (.bool b)
  | .str => ∀ b : ByteArray, K (.string b)
  | .ptr => ∀ b : Option Addr, K (.pointer b)
  | .slice => ∀ (a : Option Addr) (n c : Nat), K (.slice a n c)
  | .map => ∀ b : Option Nat, K (.map b)
  | .raw => ∀ b : Value, K b
theorem allTag_of {g : Tag} {K : Value → Prop} (h : ∀ v, K v) : allTag g K := by cases g <;> simp only [allTag] <;> intros <;> exact h _
def allTags (ts : List Tag) (K : List Value → Prop) : Prop := match ts with
  | [] => K []
  | g :: ts => allTag g fun v => allTags ts fun vs => K (v :: vs)
theorem allTags_of : ∀ {ts : List Tag} {K : List Value → Prop}, (∀ vs, K vs) → allTags ts K
  | [], _, h => h []
  | _ :: _, _, h => allTag_of fun _ => allTags_of fun _ => h _
def forT (ρ : Fr) (l : List (Nat × Shape)) (F : List Value → Fr → Prop) : Prop := match l with
  | [] => F [] ρ
  | (t, .one g) :: l => allTag g fun v => forT (upd ρ t v) l (fun vs => F (v :: vs))
  | (t, .agg ts) :: l => allTags ts fun cs => forT (upd ρ t (.agg cs.toArray)) l (fun vs => F (.agg cs.toArray :: vs))

theorem forT_of : ∀ (l : List (Nat × Shape)) (ρ : Fr) (F : List Value → Fr → Prop), (∀ vs, vs.length = l.length → F vs (putL ρ ((l.map (·.1)).zip vs))) → forT ρ l F
  | [], ρ, F, h => h [] rfl
  | (t, g) :: l, ρ, F, h => by
    have step : ∀ v, ∀ vs, vs.length = l.length → F (v :: vs) (putL (upd ρ t v) ((l.map (·.1)).zip vs)) := fun v vs hl => h (v :: vs) (by simp [hl])
    cases g with
    | one g => exact allTag_of fun v => forT_of l _ _ (fun vs hl => step _ vs hl)
    | agg ts => exact allTags_of fun cs => forT_of l _ _ (fun vs hl => step _ vs hl)

def sameL (a b : List Nat) : Bool := match a, b with
  | [], [] => true
  | x :: a, y :: b => match Nat.beq x y with | true => sameL a b | false => false
  | _, _ => false
theorem sameL_eq : ∀ {a b : List Nat}, sameL a b = true → a = b
  | [], [], _ => rfl
  | x :: a, y :: b, h => by
    simp only [sameL] at h
    split at h
    · rename_i hb
      rw [Nat.eq_of_beq_eq_true hb, sameL_eq h]
    · cases h
  | [], _ :: _, h => by cases h
  | _ :: _, [], h => by cases h

/-- A call of a function's value, not of a yield. -/
def CallG (P : Program) (fv : Value) (args : Array Value) (w : World) (R : Ending → World → Prop) : Prop := match fv with
  | .func (.func f) first cap => (callFunc f (first ++ args ++ cap)).run P w = .ok (.enter f (first ++ args ++ cap)) w ∧ Calls P f (first ++ args ++ cap) w R
  | _ => False

noncomputable def rngV (P : Program) (n : Nat) (ann : Nat → Ann) (sh : Nat → List (Nat × Shape)) (g : Operand) (ps : Array Tmp) (assign body : Code) (k : Nat) (ms : List Nat) (Q : List Nat → Exit → Fr → World → Prop) (ρ : Fr) (w : World) : Prop :=
  match sameL ((sh k).map (·.1)) ps.toList with
  | false => False
  | true => ∀ Rec : LoopState → Option Code → Obj, (∀ s p c e f, Rec s p ≠ .cells c e f) →
    (∀ (w' : World) (K : Bool → World → Prop), w'.heap[w.heap.size + 1]? = some (Rec .ready none) →
      forT ρ (sh k) fun vs ρ1 => rndV P n ann assign body (k + 1) (w.heap.size + 1) Rec K ρ1 w' → RoundK P (w.heap.size + 1) vs.toArray w' K) →
    CallG P (ev n ρ g) #[.func (.yield (w.heap.size + 1)) #[] #[]] ((w.alloc (.deferred (some []))).alloc (Rec .ready none)) (rngE (w.heap.size + 1) w.heap.size Rec ms Q ρ (exOf body))

/-- The VC of a code that may range over functions; ms: the marks that it has pushed. -/
noncomputable def wpM (P : Program) (n : Nat) (ann : Nat → Ann) (sh : Nat → List (Nat × Shape)) (c : Code) : Nat → List Nat → (List Nat → Exit → Fr → World → Prop) → Fr → World → Prop :=
  Code.rec (motive := fun _ => Nat → List Nat → (List Nat → Exit → Fr → World → Prop) → Fr → World → Prop)
    (fun _ ms Q ρ w => Q ms .normal ρ w)
    (fun _ ops draw _ ms Q ρ w => vcRegion P n ops draw (Q ms .normal) ρ w)
    (fun a _ iha ihb k ms Q ρ w => iha k ms (fun ms e ρ w => match e with | .normal => ihb (k + nlM a) ms Q ρ w | e => Q ms e ρ w) ρ w)
    (fun c a _ iha ihb k ms Q ρ w => match ev n ρ c with
      | .bool b => match c with
        | .tmp t => bsel b (iha k ms Q (upd ρ t (.bool true)) w) (ihb (k + nlM a) ms Q (upd ρ t (.bool false)) w)
        | _ => bsel b (iha k ms Q ρ w) (ihb (k + nlM a) ms Q ρ w)
      | _ => False)
    (fun id _ ih k ms Q ρ w => ih k ms (fun ms e ρ w => match e with | .exit id' => (match Nat.beq id' id with | true => Q ms .normal ρ w | false => Q ms (.exit id') ρ w) | e => Q ms e ρ w) ρ w)
    (fun b _ k ms Q ρ w => loopV (ann k) (asg b) (wpC P n ann b (k + 1)) (Q ms) ρ w)
    (fun g ps assign body _ _ k ms Q ρ w => rngV P n ann sh g ps assign body k ms Q ρ w)
    (fun id _ ms Q ρ w => Q ms (.exit id) ρ w)
    (fun _ ih k ms Q ρ w => ih k ms Q ρ w)
    (fun _ _ ms Q ρ w => Q ms .normal ρ w)
    (fun _ _ _ _ _ _ => False)
    (fun _ ms Q ρ w => Q ms .ret ρ w)
    (fun _ _ _ _ _ _ => False) c

def marksOf (ms : List Nat) : List Deferred := ms.map fun r => { target := .collected r, args := #[] }

def liftM (n : Nat) (Q : List Nat → Exit → Fr → World → Prop) (e : Exit) (a : Act) (w : World) : Prop :=
  ∃ ms, lift n (marksOf ms) (fun _ => none) (Q ms) e a w

theorem fence_in (l : Nat) : (fence none).inRound l = fence (some l) := rfl

theorem rep_putL {n : Nat} {a : Act} : ∀ (l : List (Nat × Value)) (tmps : Array Value) (ρ : Fr), Rep n { tmps := tmps, defers := a.defers } ρ →
    Rep n { tmps := l.foldl (fun tmps x => tmps.setIfInBounds x.1 x.2) tmps, defers := a.defers } (putL ρ l)
  | [], _, _, h => h
  | x :: l, tmps, ρ, h => by
    have := h.put (some x.1) x.2
    exact rep_putL (a := a) l _ _ this

theorem roundK_of {P : Program} (hP : Plain P) (hM : P.follows .mixedOrders = true) {n : Nat} {ann : Nat → Ann} {l : Nat} {r : Loop} {k : Nat} {ρ : Fr} {w : World} {vs : List Value} {K : Bool → World → Prop}
    (hs : r.state = .ready) (hw : w.heap[l]? = some (.loop r)) (hl : vs.length = r.params.toList.length) (hr : Rep n { tmps := r.tmps, defers := [] } ρ)
    (h : rndV P n ann r.assign r.body k l (fun s p => .loop { r with state := s, pending := p }) K (putL ρ (r.params.toList.zip vs)) w) (hp : r.pending = none) : RoundK P l vs.toArray w K := by
  have hrun := run_yield (P := P) (args := vs.toArray) hw (by simpa using hl)
  have e0 : ((r.params.zip vs.toArray).foldl (fun tmps (x : Tmp × Value) => tmps.setIfInBounds x.1 x.2) r.tmps) = (r.params.toList.zip vs).foldl (fun tmps x => tmps.setIfInBounds x.1 x.2) r.tmps := by
    rw [← Array.foldl_toList, Array.toList_zip]
  refine ⟨_, _, _, _, _, hrun, ?_⟩
  have hrep := rep_putL (a := { tmps := #[], defers := [] }) (r.params.toList.zip vs) r.tmps ρ hr
  have e1 : (r.params.zip vs.toArray).foldl (fun tmps x => match x with | (t, a) => tmps.setIfInBounds t a) r.tmps = (r.params.toList.zip vs).foldl (fun tmps x => tmps.setIfInBounds x.1 x.2) r.tmps := e0
  rw [e1]
  have hr0 : r = { r with state := .ready, pending := none } := by cases r; simp_all
  have h1 : RoundIn (fence none) 0 P l r.fn ((r.params.toList.zip vs).foldl (fun tmps x => tmps.setIfInBounds x.1 x.2) r.tmps) r.assign r.body w fun e w'' => ∃ b, e = .returned (.bool b) ∧ K b w'' := by
    refine roundIn_of_wpIn trivial ?_
    rw [fence_in]
    have hs1 := wpC_sound (rd := some l) (m := 0) (D := []) hP hM r.assign k (fun _ => none) _ _ w (fun _ _ => rfl) ⟨_, hrep, rfl, (fun t v hv => by cases hv), h⟩
    refine wpIn_mono hs1 fun e a w1 hq => ?_
    cases e with
    | normal =>
      obtain ⟨ρ1, hr1, hd1, _, hq1, hq2⟩ := hq
      simp only at hq1
      rw [← hr0] at hq1
      refine ⟨_, run_beginRound hq1 hs, ?_⟩
      have e2 : ({ r with state := .busy } : Loop) = { r with state := .busy, pending := none } := by cases r; simp_all
      rw [e2]
      have hs2 := wpC_sound (rd := some l) (m := 0) (D := []) hP hM r.body (k + nlM r.assign) (fun _ => none) _ _ _ (fun _ _ => rfl) ⟨ρ1, hr1, hd1, (fun t v hv => by cases hv), hq2⟩
      refine wpIn_mono hs2 fun e a w2 hq => ?_
      cases e with
      | normal =>
        obtain ⟨_, _, _, _, ⟨s, p, hh⟩, hK⟩ := hq
        exact ⟨_, _, run_endRound none hh, _, rfl, hK⟩
      | ret =>
        obtain ⟨_, _, _, _, ⟨s, p, hh⟩, hK⟩ := hq
        exact ⟨_, _, run_endRound (some .ret) hh, _, rfl, hK⟩
      | exit id =>
        obtain ⟨_, _, _, _, ⟨s, p, hh⟩, hK⟩ := hq
        exact ⟨_, _, run_endRound (some (.exit id)) hh, _, rfl, hK⟩
      | goto l => exact False.elim hq
      | panic c => exact False.elim hq
      | outgrown => exact False.elim hq
    | exit id => obtain ⟨_, _, _, _, hq⟩ := hq; exact hq
    | ret => obtain ⟨_, _, _, _, hq⟩ := hq; exact hq
    | goto l => exact False.elim hq
    | panic c => exact False.elim hq
    | outgrown => exact False.elim hq
  exact ⟨trivial, fun c cs _ => h1.2 c cs (room_wide _)⟩
/-- The deferred marks, taken one by one. -/
def takeAll : List Nat → (World → Prop) → World → Prop
  | [], K, w => K w
  | r :: rs, K, w => w.heap[r]? = some (.deferred (some [])) ∧ takeAll rs K (w.putObj r (.deferred none))

theorem wpM_sound {P : Program} (hP : Plain P) (hM : P.follows .mixedOrders = true) {n : Nat} {ann : Nat → Ann} {sh : Nat → List (Nat × Shape)} {m : Nat} :
    ∀ (c : Code) (k : Nat) (ms : List Nat) (Q : List Nat → Exit → Fr → World → Prop) (a : Act) (w : World),
      Real n (marksOf ms) (fun _ => none) (wpM P n ann sh c k ms Q) a w → c.wpIn (fence none) m P (liftM n Q) a w := by
  have base : ∀ (c : Code) (k : Nat) (ms : List Nat) (Q : List Nat → Exit → Fr → World → Prop) (a : Act) (w : World),
      Real n (marksOf ms) (fun _ => none) (wpC P n ann c k (Q ms)) a w → c.wpIn (fence none) m P (liftM n Q) a w := fun c k ms Q a w h =>
    wpIn_mono (wpC_sound (rd := none) (m := m) hP hM c k (fun _ => none) _ a w (fun _ _ => rfl) h) fun e a w hq => ⟨ms, hq⟩
  intro c
  induction c with
  | skip => intro k ms Q a w h; exact base .skip k ms Q a w h
  | region id ops draw => intro k ms Q a w h; exact base (.region id ops draw) k ms Q a w h
  | loop b ih => intro k ms Q a w h; exact base (.loop b) k ms Q a w h
  | exit id => intro k ms Q a w h; exact base (.exit id) k ms Q a w h
  | scope b ih => intro k ms Q a w h; exact wpIn_scope (fun l a w hq => by obtain ⟨_, hq⟩ := hq; exact hq) (ih k ms Q a w h)
  | label l => intro k ms Q a w h; exact base (.label l) k ms Q a w h
  | goto l => intro k ms Q a w h; obtain ⟨_, _, _, _, h⟩ := h; exact h.elim
  | ret => intro k ms Q a w h; exact base .ret k ms Q a w h
  | refuse s => intro k ms Q a w h; obtain ⟨_, _, _, _, h⟩ := h; exact h.elim
  | seq x y ihx ihy =>
    intro k ms Q a w h
    refine wpIn_seq (wpIn_mono (ihx k ms _ a w h) fun e a' w' hq => ?_)
    obtain ⟨ms', hq⟩ := hq
    cases e with
    | normal => exact ihy _ ms' Q a' w' hq
    | exit id => exact ⟨ms', hq⟩
    | ret => exact ⟨ms', hq⟩
    | goto l => exact False.elim hq
    | panic c => exact False.elim hq
    | outgrown => exact False.elim hq
  | cond c x y ihx ihy =>
    intro k ms Q a w h
    obtain ⟨ρ, hr, hd, hF, h⟩ := h
    change (match ev n ρ c with
      | .bool b => match (generalizing := false) c with
        | .tmp t => bsel b (wpM P n ann sh x k ms Q (upd ρ t (.bool true)) w) (wpM P n ann sh y (k + nlM x) ms Q (upd ρ t (.bool false)) w)
        | _ => bsel b (wpM P n ann sh x k ms Q ρ w) (wpM P n ann sh y (k + nlM x) ms Q ρ w)
      | _ => False) at h
    split at h
    · rename_i b hb
      have hev : a.eval c = .bool b := by rw [hr.eval, hb]
      split at h
      · rename_i t
        have hpos : ∀ v, ev n ρ (.tmp t) = .bool v → Rep n a (upd ρ t (.bool v)) := by
          intro v hv
          simp only [ev] at hv
          split at hv
          · exact hr.set t _ hv
          · simp [undef] at hv
        cases b
        · exact wpIn_cond_false hev (ihy _ ms Q a w ⟨_, hpos _ hb, hd, hF, h⟩)
        · exact wpIn_cond_true hev (ihx _ ms Q a w ⟨_, hpos _ hb, hd, hF, h⟩)
      · cases b
        · exact wpIn_cond_false hev (ihy _ ms Q a w ⟨_, hr, hd, hF, h⟩)
        · exact wpIn_cond_true hev (ihx _ ms Q a w ⟨_, hr, hd, hF, h⟩)
    · exact h.elim
  | block id c ih =>
    intro k ms Q a w h
    refine wpIn_block (wpIn_mono (ih k ms _ a w h) fun e a' w' hq => ?_)
    obtain ⟨ms', hq⟩ := hq
    cases e with
    | normal => exact ⟨ms', hq⟩
    | exit id' =>
      obtain ⟨ρ, hr, hd, hF, hq⟩ := hq
      simp only at hq
      simp only [Exit.inBlock]
      split at hq
      · rename_i hb
        rw [if_pos (Nat.eq_of_beq_eq_true hb)]
        exact ⟨ms', ρ, hr, hd, hF, hq⟩
      · rename_i hb
        rw [if_neg (Nat.ne_of_beq_eq_false hb)]
        exact ⟨ms', ρ, hr, hd, hF, hq⟩
    | ret => exact ⟨ms', hq⟩
    | goto l => exact False.elim hq
    | panic c => exact False.elim hq
    | outgrown => exact False.elim hq
  | rangeFunc g ps assign body iha ihb =>
    intro k ms Q a w h
    obtain ⟨ρ, hr, hd, hF, h⟩ := h
    change rngV P n ann sh g ps assign body k ms Q ρ w at h
    unfold rngV at h
    split at h
    · exact h.elim
    rename_i hsame
    have hsame := sameL_eq hsame
    refine wpIn_rangeFunc fun fn _ => ?_
    let r : Loop := { state := .ready, pending := none, fn := fn, tmps := a.tmps, params := ps, assign := assign, body := body, defers := w.heap.size }
    have h2 := h (fun s p => .loop { r with state := s, pending := p }) (fun s p c e f hh => by cases hh) (fun w' K hw => forT_of _ _ _ fun vs hl hv => roundK_of hP hM (r := r) rfl hw
      (by
        have e : (sh k).length = ps.toList.length := by rw [← hsame, List.length_map]
        rw [← e]; exact hl) ⟨hr.size, hr.get⟩ (by rw [hsame] at hv; exact hv) rfl)
    have hentry := run_enterLoop_outer (P := P) (w := w) fn a.tmps ps assign body
    have hev : a.eval g = ev n ρ g := hr.eval g
    generalize hfv : ev n ρ g = fv at h2 hev
    unfold CallG at h2
    split at h2
    · rename_i f first cap
      obtain ⟨hcf, hcall⟩ := h2
      refine ⟨w.heap.size + 1, [{ target := .collected w.heap.size, args := #[] }], (w.alloc (.deferred (some []))).alloc (.loop { r with state := .ready, pending := none }), { target := .fn (.func f) cap, args := first ++ #[.func (.yield (w.heap.size + 1)) #[] #[]] },
        (w.alloc (.deferred (some []))).alloc (.loop { r with state := .ready, pending := none }), f, first ++ #[.func (.yield (w.heap.size + 1)) #[] #[]] ++ cap, (w.alloc (.deferred (some []))).alloc (.loop { r with state := .ready, pending := none }), hentry, ?_, ?_, ?_, ?_, ?_⟩
      · have hc : ∀ v, a.eval (.const v) = v := fun _ => rfl
        simp [resolve, hev, Deferred.ofValue, hc]
      · intro f' _; trivial
      · simp only [invoke]; exact hcf
      · intro hh; simp [fence, Fence.wide] at hh
      · generalize hR : rngE (w.heap.size + 1) w.heap.size (fun s p => Obj.loop { r with state := s, pending := p }) ms Q ρ (exOf body) = R at hcall
        have h1 : CallsIn Fence.wide (m - 1) P f (first ++ #[.func (.yield (w.heap.size + 1)) #[] #[]] ++ cap) ((w.alloc (.deferred (some []))).alloc (.loop { r with state := .ready, pending := none })) R := callsIn_wide.2 hcall
        have h2 : CallsIn (fence none) (m - 1) P f (first ++ #[.func (.yield (w.heap.size + 1)) #[] #[]] ++ cap) ((w.alloc (.deferred (some []))).alloc (.loop { r with state := .ready, pending := none })) R := h1
        refine CallsIn.mono h2 fun e w3 hq => ?_
        rw [← hR] at hq
        obtain ⟨⟨v, rfl⟩, hq⟩ := hq
        have hD : (marksOf [w.heap.size] ++ a.defers) = marksOf (w.heap.size :: ms) := by rw [hd]; rfl
        rcases hq with ⟨hh, hq⟩ | hq
        · refine ⟨none, _, run_endLoop hh (by simp), ?_⟩
          exact ⟨w.heap.size :: ms, ρ, ⟨hr.size, hr.get⟩, hD, hF, hq⟩
        · generalize exOf body = xs at hq
          induction xs with
          | nil => exact False.elim hq
          | cons x xs ihx =>
            cases x with
            | none =>
              rcases hq with ⟨hh, hq⟩ | hq
              · exact ⟨some .ret, _, run_endLoop hh (by simp), wpIn_ret ⟨w.heap.size :: ms, ρ, ⟨hr.size, hr.get⟩, hD, hF, hq⟩⟩
              · exact ihx hq
            | some id =>
              rcases hq with ⟨hh, hq⟩ | hq
              · exact ⟨some (.exit id), _, run_endLoop hh (by simp), wpIn_exit ⟨w.heap.size :: ms, ρ, ⟨hr.size, hr.get⟩, hD, hF, hq⟩⟩
              · exact ihx hq
    · exact h2.elim

/-- The results, behind the marks. -/
def resM (P : Program) (n : Nat) (rs : List ResultVar) (Qr : Value → World → Prop) (ms : List Nat) (e : Exit) (ρ : Fr) (w : World) : Prop := match e with
  | .normal => takeAll ms (resV P n rs Qr ρ) w
  | .ret => takeAll ms (resV P n rs Qr ρ) w
  | _ => False

theorem leaves_of {P : Program} {F : Fence} {n m : Nat} {fn : Func} {tmps : Array Value} {R : Ending → World → Prop} {K : World → Prop} (hK : ∀ w, K w → LeavesInM F m P fn tmps R [] .returning w) :
    ∀ (ms : List Nat) (w : World), takeAll ms K w → LeavesInM F m P fn tmps R (marksOf ms) .returning w
  | [], w, h => hK w h
  | r :: rs, w, h => by
    obtain ⟨h1, h2⟩ := h
    exact ⟨by simp, .inl ⟨r, _, rfl, run_takeDeferred h1, leaves_of (n := n) hK rs _ h2⟩⟩

theorem calls_of_vcM {P : Program} (hP : Plain P) (hM : P.follows .mixedOrders = true) {f : FuncId} {fn : Func} {c : Code} {args : List Value} {w : World} {Q : Value → World → Prop} (ann : Nat → Ann) (sh : Nat → List (Nat × Shape))
    (hf : P.funcs[f]? = some fn) (hb : fn.body = some c) (hle : Nat.ble args.length fn.ntmps = true)
    (h : wpM P fn.ntmps ann sh c 0 [] (resM P fn.ntmps fn.results.toList Q) (argsF args) w) : Calls P f args.toArray w fun e w' => ∃ v, e = .returned v ∧ Q v w' := by
  have hle := Nat.le_of_ble_eq_true hle
  refine (callsIn_wide (n := 0)).1 ?_
  have key : CallsIn (fence none) 0 P f args.toArray w fun e w' => ∃ v, e = .returned v ∧ Q v w' := by
    refine callsIn_of_wp_marks hf hb trivial ?_
    have hrep : Rep fn.ntmps { tmps := args.toArray ++ Array.replicate (fn.ntmps - args.toArray.size) undef, defers := [] } (argsF args) := by
      refine ⟨by simp; omega, fun t ht => ?_⟩
      simp only [argsF, List.size_toArray]
      by_cases hlt : t < args.length
      · rw [Array.getElem?_append_left (by simpa using hlt)]
        simp [hlt]
      · rw [Array.getElem?_append_right (by simpa using hlt)]
        have : args[t]? = none := by simp; omega
        rw [this, Array.getElem?_replicate, if_pos (by simp only [List.size_toArray]; omega)]
    have hs := wpM_sound (m := 0) hP hM c 0 [] _ _ w ⟨_, hrep, rfl, (fun t v hv => by cases hv), h⟩
    refine wpIn_mono hs fun e a w' hq => ?_
    obtain ⟨ms, hq⟩ := hq
    have fin : ∀ {a : Act} {w' : World}, Real fn.ntmps (marksOf ms) (fun _ => none) (fun ρ w => takeAll ms (resV P fn.ntmps fn.results.toList Q ρ) w) a w' →
        LeavesInM (fence none) 0 P fn a.tmps (fun e w' => ∃ v, e = .returned v ∧ Q v w') a.defers .returning w' := by
      rintro a w' ⟨ρ, hr, hd, _, hq⟩
      rw [hd]
      refine leaves_of (n := 0) (fun w3 hK => ?_) ms w' hq
      obtain ⟨vs, hm, hl, hK⟩ := resL_run hr _ _ hK
      have hm' : (fn.results.mapM (fun (x : ResultVar) => (match x with | .tmp t => pure (a.tmps.getD t undef) | .cell ad t => do loadVar t (← asAddr (a.tmps.getD ad undef)) : Sem Value))).run P w3 = .ok vs.toArray w3 := by
        rw [Array.mapM_eq_mapM_toList]
        simp only [map_eq_pure_bind, Sem.run_bind, Result.andThen, Sem.run_pure]
        erw [hm]
      show LeavesIn (fence none) 0 P fn a.tmps _ [] .returning w3
      split at hK
      · rename_i v
        exact ⟨v, by unfold results; rw [Sem.run_bind]; erw [hm']; rfl, v, rfl, hK⟩
      · rename_i hne
        refine ⟨.tuple vs.toArray, ?_, _, rfl, hK⟩
        unfold results
        rw [Sem.run_bind]
        erw [hm']
        have hs : ¬ vs.toArray.size = 1 := by
          intro hc
          match vs, hc with
          | [v], _ => exact hne v rfl
        simp only [Result.andThen, dif_neg hs]
        rfl
    cases e with
    | normal => exact fin hq
    | ret => exact fin hq
    | exit id => obtain ⟨ρ, _, _, _, hq⟩ := hq; exact hq.elim
    | goto l => exact False.elim hq
    | panic c => exact False.elim hq
    | outgrown => exact False.elim hq
  exact key
end Go.Fw

set_option autoImplicit false
namespace Go.Fw
open Go.Proofs

theorem sound_ofM {f : FuncId} {fn : Func} {args : List Value} {w : World} {Q : Value → World → Prop} (hf : Tryz.prog.funcs[f]? = some fn) (ann : Nat → Ann) (sh : Nat → List (Nat × Shape)) (hle : Nat.ble args.length fn.ntmps = true)
    (h : match fn.body with | some c => wpM Tryz.prog fn.ntmps ann sh c 0 [] (resM Tryz.prog fn.ntmps fn.results.toList Q) (argsF args) w | none => False) :
    Calls Tryz.prog f args.toArray w fun e w' => ∃ v, e = .returned v ∧ Q v w' := by
  split at h
  · rename_i c hb; exact calls_of_vcM pPlain pMixed ann sh hf hb hle h
  · exact h.elim
end Go.Fw

set_option autoImplicit false
set_option linter.unusedVariables false
set_option maxRecDepth 100000
namespace Go.Fw
open Go.Proofs

def V65J1 (Q : Value → World → Prop) (x13 : Addr) (x14 : Bool) (w15 : World) : Prop :=
bsel x14 (
Q (.tuple #[.pointer none, .int .i64 1]) w15) (
∃ t16 : Int, ∃ t17 : Int, ∃ t18 : Int, ∃ t19 : Option Addr, ∃ t20 : Nat, ∃ t21 : Nat, ∃ t22 : Option Addr, ∃ t23 : Nat, ∃ t24 : Nat, CellsAt w15 x13 [.int .i64 t16, .int .i64 t17, .int .i64 t18, .slice t19 t20 t21, .slice t22 t23 t24] ∧
newK w15 #[.int .i64 0, .int .i64 0, .int .i64 0, .int .i64 0] 217 fun a25 w26 =>
newK w26 #[.slice none 0 0, .int .i64 0, .int .i64 t16, .int .i64 t17, .int .i64 t18, .slice t19 t20 t21, .slice t22 t23 t24, .pointer (some a25)] 220 fun a27 w28 =>
∃ t29 : Option Addr, ∃ t30 : Nat, ∃ t31 : Nat, w28.cell? (a27.add 0) = some (.slice t29 t30 t31) ∧
newK w28 #[.int .i64 1, .int .i64 0, .bool false, .bool false, .bool false, .slice none 0 0, .string ⟨#[]⟩, .slice none 0 0, .pointer none, .int .i64 0, .slice none 0 0, .int .i64 0, .int .i64 0, .int .i64 0, .int .i64 0, .pointer none, .pointer none, .int .i64 0, .pointer none, .bool false, .bool false, .bool false, .int .i64 2, .int .i64 0, .bool false, .bool false, .bool false, .slice none 0 0, .string ⟨#[]⟩, .slice none 0 0, .pointer none, .int .i64 0, .slice none 0 0, .int .i64 0, .int .i64 0, .int .i64 0, .int .i64 0, .pointer none, .pointer none, .int .i64 0, .pointer none, .bool false, .bool false, .bool false, .int .i64 2, .int .i64 0, .bool false, .bool true, .bool false, .slice none 0 0, .string ⟨#[]⟩, .slice none 0 0, .pointer none, .int .i64 0, .slice none 0 0, .int .i64 0, .int .i64 0, .int .i64 0, .int .i64 0, .pointer none, .pointer none, .int .i64 0, .pointer none, .bool false, .bool false, .bool false] 226 fun a32 w33 =>
∃ w34 : World, ∃ t35 : Option Addr, ∃ t36 : Nat, ∃ t37 : Nat, (vcEff.bltV .append #[218, 218] 218 #[.slice t29 t30 t31, .slice (some a32) 3 3]).run Tryz.prog w33 = .ok (.slice t35 t36 t37) w34 ∧
stK w34 (a27.add 0) (.slice t35 t36 t37) fun w38 =>
Q (.tuple #[.pointer (some a27), .int .i64 0]) w38)

def V65 (x1 : Int) (x2 : Int) (x3 : Int) (x4 : Option Addr) (x5 : Nat) (x6 : Nat) (x7 : Option Addr) (x8 : Nat) (x9 : Nat) (w : World) (Q : Value → World → Prop) : Prop :=
newK w #[.int .i64 x1, .int .i64 x2, .int .i64 x3, .slice x4 x5 x6, .slice x7 x8 x9] 32 fun a10 w11 =>
∃ t12 : Int, w11.cell? (a10.add 0) = some (.int .i64 t12) ∧
bsel (decide (t12 < 0)) (
V65J1 Q a10 true w11) (
∃ t39 : Int, w11.cell? (a10.add 0) = some (.int .i64 t39) ∧
bsel (decide (t39 > 100000)) (
V65J1 Q a10 true w11) (
∃ t40 : Int, w11.cell? (a10.add 1) = some (.int .i64 t40) ∧
bsel (decide (t40 < 0)) (
V65J1 Q a10 true w11) (
∃ t41 : Int, w11.cell? (a10.add 1) = some (.int .i64 t41) ∧
bsel (decide (t41 > 65536)) (
V65J1 Q a10 true w11) (
∃ t42 : Int, w11.cell? (a10.add 2) = some (.int .i64 t42) ∧
bsel (decide (t42 < 0)) (
V65J1 Q a10 true w11) (
∃ t43 : Int, w11.cell? (a10.add 2) = some (.int .i64 t43) ∧
V65J1 Q a10 (decide (t43 > 256)) w11)))))

def V65_ann : Nat → Ann := fun _ => ⟨[], []⟩
theorem V65_eq (x1 : Int) (x2 : Int) (x3 : Int) (x4 : Option Addr) (x5 : Nat) (x6 : Nat) (x7 : Option Addr) (x8 : Nat) (x9 : Nat) (w : World) (Q : Value → World → Prop) : (match Tryz.f65.body with | some c => wpC Tryz.prog Tryz.f65.ntmps V65_ann c 0 (resQ Tryz.prog Tryz.f65.ntmps Tryz.f65.results.toList Q) (argsF [.agg #[.int .i64 x1, .int .i64 x2, .int .i64 x3, .slice x4 x5 x6, .slice x7 x8 x9]]) w | none => False) = V65 x1 x2 x3 x4 x5 x6 x7 x8 x9 w Q := by kernel_rfl
theorem V65_sound (x1 : Int) (x2 : Int) (x3 : Int) (x4 : Option Addr) (x5 : Nat) (x6 : Nat) (x7 : Option Addr) (x8 : Nat) (x9 : Nat) (w : World) (Q : Value → World → Prop) (h : V65 x1 x2 x3 x4 x5 x6 x7 x8 x9 w Q) : Calls Tryz.prog 65 #[.agg #[.int .i64 x1, .int .i64 x2, .int .i64 x3, .slice x4 x5 x6, .slice x7 x8 x9]] w fun e w' => ∃ v, e = .returned v ∧ Q v w' :=
  sound_of Tryz.func65 V65_ann rfl ((V65_eq x1 x2 x3 x4 x5 x6 x7 x8 x9 w Q).mpr h)

def V66 (x1 : Option Addr) (x2 : Option Addr) (x3 : Nat) (x4 : Nat) (w : World) (Q : Value → World → Prop) : Prop :=
∃ (I5 : Int → World → Prop) (μ6 : Int → World → Nat), I5 0 w ∧ ∀ (j9 : Fr) (i7 : Int) (w8 : World), I5 i7 w8 →
bsel (decide (i7 < (x3 : Int))) (
nilK x1 fun a10 =>
∃ t11 : Int, w8.cell? ((a10.add 2).add 1) = some (.int .i64 t11) ∧
Calls Tryz.prog 116 #[.slice x2 x3 x4, .int .i64 i7, .int .i64 t11] w8 fun e12 w13 => ∃ t14 : Int, e12 = .returned (.int .i64 t14) ∧
bsel (t14 != 0) (
Q (.tuple #[.slice none 0 0, .int .i64 t14]) w13) (
(I5 (IntKind.wrap .i64 (i7 + 1)) w13 ∧ μ6 (IntKind.wrap .i64 (i7 + 1)) w13 < μ6 i7 w8))) (
∃ (I15 : Option Addr → Nat → Nat → Int → World → Prop) (μ16 : Option Addr → Nat → Nat → Int → World → Nat), I15 none 0 0 0 w8 ∧ ∀ (j22 : Fr) (i17 : Option Addr) (i18 : Nat) (i19 : Nat) (i20 : Int) (w21 : World), I15 i17 i18 i19 i20 w21 →
bsel (decide (i20 < (x3 : Int))) (
Calls Tryz.prog 117 #[.pointer x1, .slice x2 x3 x4, .slice i17 i18 i19, .int .i64 i20] w21 fun e23 w24 => ∃ t25 : Int, e23 = .returned (.int .i64 t25) ∧
newK w24 #[.int .i64 t25] 3 fun a26 w27 =>
∃ w28 : World, ∃ t29 : Option Addr, ∃ t30 : Nat, ∃ t31 : Nat, (vcEff.bltV .append #[30, 30] 30 #[.slice i17 i18 i19, .slice (some a26) 1 1]).run Tryz.prog w27 = .ok (.slice t29 t30 t31) w28 ∧
(I15 t29 t30 t31 (IntKind.wrap .i64 (i20 + 1)) w28 ∧ μ16 t29 t30 t31 (IntKind.wrap .i64 (i20 + 1)) w28 < μ16 i17 i18 i19 i20 w21)) (
∃ (I32 : Int → World → Prop) (μ33 : Int → World → Nat), I32 0 w21 ∧ ∀ (j36 : Fr) (i34 : Int) (w35 : World), I32 i34 w35 →
bsel (decide (i34 < (x3 : Int))) (
idxK x2 x3 i34 8 fun a37 =>
∃ t38 : Int, w35.cell? (a37.add 0) = some (.int .i64 t38) ∧
bsel (t38 == 6) (
∃ (I39 : Int → World → Prop) (μ40 : Int → World → Nat), I39 0 w35 ∧ ∀ (j43 : Fr) (i41 : Int) (w42 : World), I39 i41 w42 →
idxK x2 x3 i34 8 fun a44 =>
∃ t45 : Option Addr, ∃ t46 : Nat, ∃ t47 : Nat, w42.cell? (a44.add 5) = some (.slice t45 t46 t47) ∧
bsel (decide (i41 < (t46 : Int))) (
nilK x1 fun a48 =>
∃ t49 : Option Addr, ∃ t50 : Nat, ∃ t51 : Nat, w42.drew.cell? (a48.add 0) = some (.slice t49 t50 t51) ∧
idxK i17 i18 i34 1 fun a52 =>
∃ t53 : Int, w42.drew.cell? a52 = some (.int .i64 t53) ∧
nilK x1 fun a54 =>
∃ t55 : Option Addr, ∃ t56 : Nat, ∃ t57 : Nat, w42.drew.cell? (a54.add 0) = some (.slice t55 t56 t57) ∧
idxK i17 i18 i34 1 fun a58 =>
∃ t59 : Int, w42.drew.cell? a58 = some (.int .i64 t59) ∧
idxK t55 t56 t59 22 fun a60 =>
∃ t61 : Option Addr, ∃ t62 : Nat, ∃ t63 : Nat, w42.drew.cell? (a60.add 7) = some (.slice t61 t62 t63) ∧
idxK x2 x3 i34 8 fun a64 =>
∃ t65 : Option Addr, ∃ t66 : Nat, ∃ t67 : Nat, w42.drew.cell? (a64.add 5) = some (.slice t65 t66 t67) ∧
idxK t65 t66 i41 1 fun a68 =>
∃ t69 : Int, w42.drew.cell? a68 = some (.int .i64 t69) ∧
idxK i17 i18 t69 1 fun a70 =>
∃ t71 : Int, w42.drew.cell? a70 = some (.int .i64 t71) ∧
newK w42.drew #[.int .i64 t71] 3 fun a72 w73 =>
(w73.cell? (a60.add 7) = some (.slice t61 t62 t63)) ∧
(w73.cell? a58 = some (.int .i64 t59)) ∧
(w73.cell? (a54.add 0) = some (.slice t55 t56 t57)) ∧
(w73.cell? a52 = some (.int .i64 t53)) ∧
(w73.cell? (a48.add 0) = some (.slice t49 t50 t51)) ∧
∃ w74 : World, ∃ t75 : Option Addr, ∃ t76 : Nat, ∃ t77 : Nat, (vcEff.bltV .append #[30, 30] 30 #[.slice t61 t62 t63, .slice (some a72) 1 1]).run Tryz.prog w73 = .ok (.slice t75 t76 t77) w74 ∧
(w74.cell? a52 = some (.int .i64 t53)) ∧
(w74.cell? (a48.add 0) = some (.slice t49 t50 t51)) ∧
idxK t49 t50 t53 22 fun a78 =>
stK w74 (a78.add 7) (.slice t75 t76 t77) fun w79 =>
(I39 (IntKind.wrap .i64 (i41 + 1)) w79 ∧ μ40 (IntKind.wrap .i64 (i41 + 1)) w79 < μ40 i41 w42)) (
(I32 (IntKind.wrap .i64 (i34 + 1)) w42 ∧ μ33 (IntKind.wrap .i64 (i34 + 1)) w42 < μ33 i34 w35))) (
(I32 (IntKind.wrap .i64 (i34 + 1)) w35 ∧ μ33 (IntKind.wrap .i64 (i34 + 1)) w35 < μ33 i34 w35))) (
Q (.tuple #[.slice i17 i18 i19, .int .i64 0]) w35)))

def V66_ann : Nat → Ann := fun k => match k with | 0 => ⟨[0, 1], [(6, .int .i64)]⟩ | 1 => ⟨[0, 1], [(8, .slice), (9, .int .i64)]⟩ | 2 => ⟨[0, 1, 8], [(10, .int .i64)]⟩ | 3 => ⟨[0, 1, 8, 10], [(11, .int .i64)]⟩ | _ => ⟨[], []⟩
theorem V66_eq (x1 : Option Addr) (x2 : Option Addr) (x3 : Nat) (x4 : Nat) (w : World) (Q : Value → World → Prop) : (match Tryz.f66.body with | some c => wpC Tryz.prog Tryz.f66.ntmps V66_ann c 0 (resQ Tryz.prog Tryz.f66.ntmps Tryz.f66.results.toList Q) (argsF [.pointer x1, .slice x2 x3 x4]) w | none => False) = V66 x1 x2 x3 x4 w Q := by kernel_rfl
theorem V66_sound (x1 : Option Addr) (x2 : Option Addr) (x3 : Nat) (x4 : Nat) (w : World) (Q : Value → World → Prop) (h : V66 x1 x2 x3 x4 w Q) : Calls Tryz.prog 66 #[.pointer x1, .slice x2 x3 x4] w fun e w' => ∃ v, e = .returned v ∧ Q v w' :=
  sound_of Tryz.func66 V66_ann rfl ((V66_eq x1 x2 x3 x4 w Q).mpr h)

def V182 (x1 : Bool) (w : World) (Q : Value → World → Prop) : Prop :=
bsel x1 (
Q (.int .i64 2) w) (
Q (.int .i64 1) w)

def V182_ann : Nat → Ann := fun _ => ⟨[], []⟩
theorem V182_eq (x1 : Bool) (w : World) (Q : Value → World → Prop) : (match Tryz.f182.body with | some c => wpC Tryz.prog Tryz.f182.ntmps V182_ann c 0 (resQ Tryz.prog Tryz.f182.ntmps Tryz.f182.results.toList Q) (argsF [.bool x1]) w | none => False) = V182 x1 w Q := by kernel_rfl
theorem V182_sound (x1 : Bool) (w : World) (Q : Value → World → Prop) (h : V182 x1 w Q) : Calls Tryz.prog 182 #[.bool x1] w fun e w' => ∃ v, e = .returned v ∧ Q v w' :=
  sound_of Tryz.func182 V182_ann rfl ((V182_eq x1 w Q).mpr h)

def V184 (x1 : Option Addr) (x2 : ByteArray) (w : World) (Q : Value → World → Prop) : Prop :=
Calls Tryz.prog 245 #[.pointer x1, .agg #[.int .i64 4, .int .i64 0, .bool false, .bool false, .bool false, .slice none 0 0, .string x2, .slice none 0 0, .pointer none, .int .i64 0, .slice none 0 0, .int .i64 0, .int .i64 0, .int .i64 0, .int .i64 0, .pointer none, .pointer none, .int .i64 0, .pointer none, .bool false, .bool false, .bool false]] w fun e3 w4 => ∃ t5 : Int, e3 = .returned (.int .i64 t5) ∧
Q (.int .i64 t5) w4

def V184_ann : Nat → Ann := fun _ => ⟨[], []⟩
theorem V184_eq (x1 : Option Addr) (x2 : ByteArray) (w : World) (Q : Value → World → Prop) : (match Tryz.f184.body with | some c => wpC Tryz.prog Tryz.f184.ntmps V184_ann c 0 (resQ Tryz.prog Tryz.f184.ntmps Tryz.f184.results.toList Q) (argsF [.pointer x1, .string x2]) w | none => False) = V184 x1 x2 w Q := by kernel_rfl
theorem V184_sound (x1 : Option Addr) (x2 : ByteArray) (w : World) (Q : Value → World → Prop) (h : V184 x1 x2 w Q) : Calls Tryz.prog 184 #[.pointer x1, .string x2] w fun e w' => ∃ v, e = .returned v ∧ Q v w' :=
  sound_of Tryz.func184 V184_ann rfl ((V184_eq x1 x2 w Q).mpr h)

def V185 (x1 : Option Addr) (x2 : Int) (x3 : Int) (x4 : Bool) (x5 : Bool) (x6 : Bool) (x7 : Option Addr) (x8 : Nat) (x9 : Nat) (x10 : ByteArray) (x11 : Option Addr) (x12 : Nat) (x13 : Nat) (x14 : Option Addr) (x15 : Int) (x16 : Option Addr) (x17 : Nat) (x18 : Nat) (x19 : Int) (x20 : Int) (x21 : Int) (x22 : Int) (x23 : Option Addr) (x24 : Option Addr) (x25 : Int) (x26 : Option Addr) (x27 : Bool) (x28 : Bool) (x29 : Bool) (w : World) (Q : Value → World → Prop) : Prop :=
newK w #[.int .i64 x2, .int .i64 x3, .bool x4, .bool x5, .bool x6, .slice x7 x8 x9, .string x10, .slice x11 x12 x13, .pointer x14, .int .i64 x15, .slice x16 x17 x18, .int .i64 x19, .int .i64 x20, .int .i64 x21, .int .i64 x22, .pointer x23, .pointer x24, .int .i64 x25, .pointer x26, .bool x27, .bool x28, .bool x29] 226 fun a30 w31 =>
nilK x1 fun a32 =>
∃ t33 : Int, w31.cell? (a32.add 1) = some (.int .i64 t33) ∧
nilK x1 fun a34 =>
stK w31 (a34.add 1) (.int .i64 (IntKind.wrap .i64 (t33 + 1))) fun w35 =>
nilK x1 fun a36 =>
∃ t37 : Int, w35.cell? (a36.add 1) = some (.int .i64 t37) ∧
stK w35 (a30.add 1) (.int .i64 t37) fun w38 =>
∃ t39 : Int, ∃ t40 : Int, ∃ t41 : Bool, ∃ t42 : Bool, ∃ t43 : Bool, ∃ t44 : Option Addr, ∃ t45 : Nat, ∃ t46 : Nat, ∃ t47 : ByteArray, ∃ t48 : Option Addr, ∃ t49 : Nat, ∃ t50 : Nat, ∃ t51 : Option Addr, ∃ t52 : Int, ∃ t53 : Option Addr, ∃ t54 : Nat, ∃ t55 : Nat, ∃ t56 : Int, ∃ t57 : Int, ∃ t58 : Int, ∃ t59 : Int, ∃ t60 : Option Addr, ∃ t61 : Option Addr, ∃ t62 : Int, ∃ t63 : Option Addr, ∃ t64 : Bool, ∃ t65 : Bool, ∃ t66 : Bool, CellsAt w38 a30 [.int .i64 t39, .int .i64 t40, .bool t41, .bool t42, .bool t43, .slice t44 t45 t46, .string t47, .slice t48 t49 t50, .pointer t51, .int .i64 t52, .slice t53 t54 t55, .int .i64 t56, .int .i64 t57, .int .i64 t58, .int .i64 t59, .pointer t60, .pointer t61, .int .i64 t62, .pointer t63, .bool t64, .bool t65, .bool t66] ∧
Calls Tryz.prog 245 #[.pointer x1, .agg #[.int .i64 t39, .int .i64 t40, .bool t41, .bool t42, .bool t43, .slice t44 t45 t46, .string t47, .slice t48 t49 t50, .pointer t51, .int .i64 t52, .slice t53 t54 t55, .int .i64 t56, .int .i64 t57, .int .i64 t58, .int .i64 t59, .pointer t60, .pointer t61, .int .i64 t62, .pointer t63, .bool t64, .bool t65, .bool t66]] w38 fun e67 w68 => ∃ t69 : Int, e67 = .returned (.int .i64 t69) ∧
Q (.int .i64 t69) w68

def V185_ann : Nat → Ann := fun _ => ⟨[], []⟩
theorem V185_eq (x1 : Option Addr) (x2 : Int) (x3 : Int) (x4 : Bool) (x5 : Bool) (x6 : Bool) (x7 : Option Addr) (x8 : Nat) (x9 : Nat) (x10 : ByteArray) (x11 : Option Addr) (x12 : Nat) (x13 : Nat) (x14 : Option Addr) (x15 : Int) (x16 : Option Addr) (x17 : Nat) (x18 : Nat) (x19 : Int) (x20 : Int) (x21 : Int) (x22 : Int) (x23 : Option Addr) (x24 : Option Addr) (x25 : Int) (x26 : Option Addr) (x27 : Bool) (x28 : Bool) (x29 : Bool) (w : World) (Q : Value → World → Prop) : (match Tryz.f185.body with | some c => wpC Tryz.prog Tryz.f185.ntmps V185_ann c 0 (resQ Tryz.prog Tryz.f185.ntmps Tryz.f185.results.toList Q) (argsF [.pointer x1, .agg #[.int .i64 x2, .int .i64 x3, .bool x4, .bool x5, .bool x6, .slice x7 x8 x9, .string x10, .slice x11 x12 x13, .pointer x14, .int .i64 x15, .slice x16 x17 x18, .int .i64 x19, .int .i64 x20, .int .i64 x21, .int .i64 x22, .pointer x23, .pointer x24, .int .i64 x25, .pointer x26, .bool x27, .bool x28, .bool x29]]) w | none => False) = V185 x1 x2 x3 x4 x5 x6 x7 x8 x9 x10 x11 x12 x13 x14 x15 x16 x17 x18 x19 x20 x21 x22 x23 x24 x25 x26 x27 x28 x29 w Q := by kernel_rfl
theorem V185_sound (x1 : Option Addr) (x2 : Int) (x3 : Int) (x4 : Bool) (x5 : Bool) (x6 : Bool) (x7 : Option Addr) (x8 : Nat) (x9 : Nat) (x10 : ByteArray) (x11 : Option Addr) (x12 : Nat) (x13 : Nat) (x14 : Option Addr) (x15 : Int) (x16 : Option Addr) (x17 : Nat) (x18 : Nat) (x19 : Int) (x20 : Int) (x21 : Int) (x22 : Int) (x23 : Option Addr) (x24 : Option Addr) (x25 : Int) (x26 : Option Addr) (x27 : Bool) (x28 : Bool) (x29 : Bool) (w : World) (Q : Value → World → Prop) (h : V185 x1 x2 x3 x4 x5 x6 x7 x8 x9 x10 x11 x12 x13 x14 x15 x16 x17 x18 x19 x20 x21 x22 x23 x24 x25 x26 x27 x28 x29 w Q) : Calls Tryz.prog 185 #[.pointer x1, .agg #[.int .i64 x2, .int .i64 x3, .bool x4, .bool x5, .bool x6, .slice x7 x8 x9, .string x10, .slice x11 x12 x13, .pointer x14, .int .i64 x15, .slice x16 x17 x18, .int .i64 x19, .int .i64 x20, .int .i64 x21, .int .i64 x22, .pointer x23, .pointer x24, .int .i64 x25, .pointer x26, .bool x27, .bool x28, .bool x29]] w fun e w' => ∃ v, e = .returned v ∧ Q v w' :=
  sound_of Tryz.func185 V185_ann rfl ((V185_eq x1 x2 x3 x4 x5 x6 x7 x8 x9 x10 x11 x12 x13 x14 x15 x16 x17 x18 x19 x20 x21 x22 x23 x24 x25 x26 x27 x28 x29 w Q).mpr h)

def V245J1 (Q : Value → World → Prop) (x72 : Option Addr) (w73 : World) : Prop :=
nilK x72 fun a74 =>
∃ t75 : Option Addr, ∃ t76 : Nat, ∃ t77 : Nat, w73.cell? (a74.add 0) = some (.slice t75 t76 t77) ∧
Q (.int .i64 (IntKind.wrap .i64 ((t76 : Int) - 1))) w73

def V245 (x1 : Option Addr) (x2 : Int) (x3 : Int) (x4 : Bool) (x5 : Bool) (x6 : Bool) (x7 : Option Addr) (x8 : Nat) (x9 : Nat) (x10 : ByteArray) (x11 : Option Addr) (x12 : Nat) (x13 : Nat) (x14 : Option Addr) (x15 : Int) (x16 : Option Addr) (x17 : Nat) (x18 : Nat) (x19 : Int) (x20 : Int) (x21 : Int) (x22 : Int) (x23 : Option Addr) (x24 : Option Addr) (x25 : Int) (x26 : Option Addr) (x27 : Bool) (x28 : Bool) (x29 : Bool) (w : World) (Q : Value → World → Prop) : Prop :=
newK w #[.int .i64 x2, .int .i64 x3, .bool x4, .bool x5, .bool x6, .slice x7 x8 x9, .string x10, .slice x11 x12 x13, .pointer x14, .int .i64 x15, .slice x16 x17 x18, .int .i64 x19, .int .i64 x20, .int .i64 x21, .int .i64 x22, .pointer x23, .pointer x24, .int .i64 x25, .pointer x26, .bool x27, .bool x28, .bool x29] 226 fun a30 w31 =>
nilK x1 fun a32 =>
∃ t33 : Option Addr, ∃ t34 : Nat, ∃ t35 : Nat, w31.drew.cell? (a32.add 0) = some (.slice t33 t34 t35) ∧
∃ t36 : Int, ∃ t37 : Int, ∃ t38 : Bool, ∃ t39 : Bool, ∃ t40 : Bool, ∃ t41 : Option Addr, ∃ t42 : Nat, ∃ t43 : Nat, ∃ t44 : ByteArray, ∃ t45 : Option Addr, ∃ t46 : Nat, ∃ t47 : Nat, ∃ t48 : Option Addr, ∃ t49 : Int, ∃ t50 : Option Addr, ∃ t51 : Nat, ∃ t52 : Nat, ∃ t53 : Int, ∃ t54 : Int, ∃ t55 : Int, ∃ t56 : Int, ∃ t57 : Option Addr, ∃ t58 : Option Addr, ∃ t59 : Int, ∃ t60 : Option Addr, ∃ t61 : Bool, ∃ t62 : Bool, ∃ t63 : Bool, CellsAt w31.drew a30 [.int .i64 t36, .int .i64 t37, .bool t38, .bool t39, .bool t40, .slice t41 t42 t43, .string t44, .slice t45 t46 t47, .pointer t48, .int .i64 t49, .slice t50 t51 t52, .int .i64 t53, .int .i64 t54, .int .i64 t55, .int .i64 t56, .pointer t57, .pointer t58, .int .i64 t59, .pointer t60, .bool t61, .bool t62, .bool t63] ∧
newK w31.drew #[.int .i64 t36, .int .i64 t37, .bool t38, .bool t39, .bool t40, .slice t41 t42 t43, .string t44, .slice t45 t46 t47, .pointer t48, .int .i64 t49, .slice t50 t51 t52, .int .i64 t53, .int .i64 t54, .int .i64 t55, .int .i64 t56, .pointer t57, .pointer t58, .int .i64 t59, .pointer t60, .bool t61, .bool t62, .bool t63] 226 fun a64 w65 =>
(w65.cell? (a32.add 0) = some (.slice t33 t34 t35)) ∧
∃ w66 : World, ∃ t67 : Option Addr, ∃ t68 : Nat, ∃ t69 : Nat, (vcEff.bltV .append #[218, 218] 218 #[.slice t33 t34 t35, .slice (some a64) 1 1]).run Tryz.prog w65 = .ok (.slice t67 t68 t69) w66 ∧
nilK x1 fun a70 =>
stK w66 (a70.add 0) (.slice t67 t68 t69) fun w71 =>
V245J1 Q x1 w71

def V245_ann : Nat → Ann := fun _ => ⟨[], []⟩
theorem V245_eq (x1 : Option Addr) (x2 : Int) (x3 : Int) (x4 : Bool) (x5 : Bool) (x6 : Bool) (x7 : Option Addr) (x8 : Nat) (x9 : Nat) (x10 : ByteArray) (x11 : Option Addr) (x12 : Nat) (x13 : Nat) (x14 : Option Addr) (x15 : Int) (x16 : Option Addr) (x17 : Nat) (x18 : Nat) (x19 : Int) (x20 : Int) (x21 : Int) (x22 : Int) (x23 : Option Addr) (x24 : Option Addr) (x25 : Int) (x26 : Option Addr) (x27 : Bool) (x28 : Bool) (x29 : Bool) (w : World) (Q : Value → World → Prop) : (match Tryz.f245.body with | some c => wpC Tryz.prog Tryz.f245.ntmps V245_ann c 0 (resQ Tryz.prog Tryz.f245.ntmps Tryz.f245.results.toList Q) (argsF [.pointer x1, .agg #[.int .i64 x2, .int .i64 x3, .bool x4, .bool x5, .bool x6, .slice x7 x8 x9, .string x10, .slice x11 x12 x13, .pointer x14, .int .i64 x15, .slice x16 x17 x18, .int .i64 x19, .int .i64 x20, .int .i64 x21, .int .i64 x22, .pointer x23, .pointer x24, .int .i64 x25, .pointer x26, .bool x27, .bool x28, .bool x29]]) w | none => False) = V245 x1 x2 x3 x4 x5 x6 x7 x8 x9 x10 x11 x12 x13 x14 x15 x16 x17 x18 x19 x20 x21 x22 x23 x24 x25 x26 x27 x28 x29 w Q := by kernel_rfl
theorem V245_sound (x1 : Option Addr) (x2 : Int) (x3 : Int) (x4 : Bool) (x5 : Bool) (x6 : Bool) (x7 : Option Addr) (x8 : Nat) (x9 : Nat) (x10 : ByteArray) (x11 : Option Addr) (x12 : Nat) (x13 : Nat) (x14 : Option Addr) (x15 : Int) (x16 : Option Addr) (x17 : Nat) (x18 : Nat) (x19 : Int) (x20 : Int) (x21 : Int) (x22 : Int) (x23 : Option Addr) (x24 : Option Addr) (x25 : Int) (x26 : Option Addr) (x27 : Bool) (x28 : Bool) (x29 : Bool) (w : World) (Q : Value → World → Prop) (h : V245 x1 x2 x3 x4 x5 x6 x7 x8 x9 x10 x11 x12 x13 x14 x15 x16 x17 x18 x19 x20 x21 x22 x23 x24 x25 x26 x27 x28 x29 w Q) : Calls Tryz.prog 245 #[.pointer x1, .agg #[.int .i64 x2, .int .i64 x3, .bool x4, .bool x5, .bool x6, .slice x7 x8 x9, .string x10, .slice x11 x12 x13, .pointer x14, .int .i64 x15, .slice x16 x17 x18, .int .i64 x19, .int .i64 x20, .int .i64 x21, .int .i64 x22, .pointer x23, .pointer x24, .int .i64 x25, .pointer x26, .bool x27, .bool x28, .bool x29]] w fun e w' => ∃ v, e = .returned v ∧ Q v w' :=
  sound_of Tryz.func245 V245_ann rfl ((V245_eq x1 x2 x3 x4 x5 x6 x7 x8 x9 x10 x11 x12 x13 x14 x15 x16 x17 x18 x19 x20 x21 x22 x23 x24 x25 x26 x27 x28 x29 w Q).mpr h)

end Go.Fw

set_option autoImplicit false
namespace Go.Fw

/-! The calculus with cuts: at a chosen sequence the second part is looked at once, over whatever the first part leaves. -/
noncomputable def nlX (c : Code) : Nat :=
  Code.rec (motive := fun _ => Nat) 0 (fun _ _ _ => 0) (fun _ _ a b => a + b) (fun _ _ _ a b => a + b) (fun _ _ a => a) (fun _ a => a + 1) (fun _ _ _ _ _ _ => 0) (fun _ => 0) (fun _ a => a) (fun _ => 0) (fun _ => 0) 0 (fun _ => 0) c
noncomputable def nsX (c : Code) : Nat :=
  Code.rec (motive := fun _ => Nat) 0 (fun _ _ _ => 0) (fun _ _ a b => a + b + 1) (fun _ _ _ a b => a + b) (fun _ _ a => a) (fun _ a => a) (fun _ _ _ _ _ _ => 0) (fun _ => 0) (fun _ a => a) (fun _ => 0) (fun _ => 0) 0 (fun _ => 0) c

noncomputable def cutV (an : Ann) (asx : List Nat) (A B : (Exit → Fr → World → Prop) → Fr → World → Prop) (Q : Exit → Fr → World → Prop) (ρ : Fr) (w : World) : Prop :=
  match dis an.fx asx with
  | false => False
  | true => ∃ R : CurT (World → Prop) an.st, A (fun e ρ' w' => match e with | .normal => unT ρ' an.st R R (fun i _ => i w') | e => Q e ρ' w') ρ w ∧
      ∀ j : Fr, allT an.st (fixF an.fx ρ j) R R fun ρ1 i _ => ∀ w, i w → B Q ρ1 w

noncomputable def wpX (P : Program) (n : Nat) (ann : Nat → Ann) (cut : Nat → Option Ann) (c : Code) : Nat → Nat → (Exit → Fr → World → Prop) → Fr → World → Prop :=
  Code.rec (motive := fun _ => Nat → Nat → (Exit → Fr → World → Prop) → Fr → World → Prop)
    (fun _ _ Q ρ w => Q .normal ρ w)
    (fun _ ops draw _ _ Q ρ w => vcRegion P n ops draw (Q .normal) ρ w)
    (fun a _ iha ihb k q Q ρ w => match cut q with
      | none => iha k (q + 1) (fun e ρ w => match e with | .normal => ihb (k + nlX a) (q + 1 + nsX a) Q ρ w | e => Q e ρ w) ρ w
      | some an => cutV an (asg a) (iha k (q + 1)) (ihb (k + nlX a) (q + 1 + nsX a)) Q ρ w)
    (fun c a _ iha ihb k q Q ρ w => match ev n ρ c with
      | .bool b => match c with
        | .tmp t => bsel b (iha k q Q (upd ρ t (.bool true)) w) (ihb (k + nlX a) (q + nsX a) Q (upd ρ t (.bool false)) w)
        | _ => bsel b (iha k q Q ρ w) (ihb (k + nlX a) (q + nsX a) Q ρ w)
      | _ => False)
    (fun id _ ih k q Q ρ w => ih k q (fun e ρ w => match e with | .exit id' => (match Nat.beq id' id with | true => Q .normal ρ w | false => Q (.exit id') ρ w) | e => Q e ρ w) ρ w)
    (fun b ih k q Q ρ w => loopV (ann k) (asg b) (ih (k + 1) q) Q ρ w)
    (fun _ _ _ _ _ _ _ _ _ _ _ => False)
    (fun id _ _ Q ρ w => Q (.exit id) ρ w)
    (fun _ ih k q Q ρ w => ih k q Q ρ w)
    (fun _ _ _ Q ρ w => Q .normal ρ w)
    (fun _ _ _ _ _ _ => False)
    (fun _ _ Q ρ w => Q .ret ρ w)
    (fun _ _ _ _ _ _ => False) c

theorem wpX_sound {P : Program} (hP : Plain P) (hM : P.follows .mixedOrders = true) {n : Nat} {ann : Nat → Ann} {cut : Nat → Option Ann} {rd : Option Nat} {m : Nat} {D : List Deferred} :
    ∀ (c : Code) (k q : Nat) (Fx : Nat → Option Value) (Q : Exit → Fr → World → Prop) (a : Act) (w : World), (∀ t ∈ asg c, Fx t = none) →
      Real n D Fx (wpX P n ann cut c k q Q) a w → c.wpIn (fence rd) m P (lift n D Fx Q) a w := by
  intro c
  induction c with
  | skip => intro k q Fx Q a w hx h; exact wpIn_skip h
  | region id ops draw =>
    intro k q Fx Q a w hx h
    refine vcRegion_sound (D := D) (Fx := Fx) (K := Q .normal) hP hM (fun c a w h => h) (fun a w h => h) (fun j o ho t ht => hx t ?_) h
    simp only [asg, List.mem_filterMap]
    exact ⟨o, by rw [Array.mem_toList_iff]; exact Array.mem_of_getElem? ho, ht⟩
  | seq x y ihx ihy =>
    intro k q Fx Q a w hx h
    have hxx : ∀ t ∈ asg x, Fx t = none := fun t ht => hx t (by simp [asg, ht])
    have hxy : ∀ t ∈ asg y, Fx t = none := fun t ht => hx t (by simp [asg, ht])
    obtain ⟨ρ, hr, hd, hF, h⟩ := h
    change (match cut q with
      | none => wpX P n ann cut x k (q + 1) (fun e ρ w => match e with | .normal => wpX P n ann cut y (k + nlX x) (q + 1 + nsX x) Q ρ w | e => Q e ρ w) ρ w
      | some an => cutV an (asg x) (wpX P n ann cut x k (q + 1)) (wpX P n ann cut y (k + nlX x) (q + 1 + nsX x)) Q ρ w) at h
    split at h
    · refine wpIn_seq (wpIn_mono (ihx k (q + 1) Fx _ a w hxx ⟨ρ, hr, hd, hF, h⟩) fun e a' w' hq => ?_)
      cases e with
      | normal => exact ihy _ _ Fx Q a' w' hxy hq
      | exit id => exact hq
      | ret => exact hq
      | goto l => exact hq
      | panic c => exact hq
      | outgrown => exact hq
    · rename_i an han
      unfold cutV at h
      split at h
      · exact h.elim
      · rename_i hdis
        obtain ⟨R, h0, hall⟩ := h
        let Fx2 : Nat → Option Value := fun t => if t ∈ an.fx ∧ t < n then some (ρ t) else Fx t
        have hFx2 : ∀ t ∈ asg x, Fx2 t = none := by
          intro t ht
          have : t ∉ an.fx := fun hm => dis_spec hdis hm ht
          simp only [Fx2, this, false_and, if_false]
          exact hxx t ht
        have hF2 : ∀ t v, Fx2 t = some v → a.tmps[t]? = some v := by
          intro t v hv
          simp only [Fx2] at hv
          split at hv
          · rename_i hc
            cases hv
            exact hr.get t hc.2
          · exact hF t v hv
        refine wpIn_seq (wpIn_mono (ihx k (q + 1) Fx2 _ a w hFx2 ⟨ρ, hr, hd, hF2, h0⟩) fun e a' w' hq => ?_)
        have weak : ∀ {K : Fr → World → Prop}, Real n D Fx2 K a' w' → Real n D Fx K a' w' := by
          rintro K ⟨ρ', hr', hd', hF', hK⟩
          refine ⟨ρ', hr', hd', fun t v hv => ?_, hK⟩
          by_cases hc : t ∈ an.fx ∧ t < n
          · have e1 := hF' t (ρ t) (by simp only [Fx2, if_pos hc])
            have e2 := hF t v hv
            rw [hr.get t hc.2] at e2
            rw [e1]; exact e2
          · exact hF' t v (by simp only [Fx2, if_neg hc]; exact hv)
        cases e with
        | normal =>
          have hq : Real n D Fx2 (fun ρ' w' => unT ρ' an.st R R fun i _ => i w') a' w' := hq
          have hw := weak hq
          obtain ⟨ρw, _, _, hFw, _⟩ := hw
          obtain ⟨ρ', hr', hd', hF', hq⟩ := hq
          obtain ⟨ρ2, i2, m2, hr2, hi2, hB2⟩ := unT_allT hr' an.st R R (fixF an.fx ρ ρ') (fun t ht _ => by
            rw [fixF_get]
            split
            · rename_i hm
              have e1 := hF' t (ρ t) (by simp only [Fx2, if_pos (And.intro hm ht)])
              rw [hr'.get t ht] at e1
              injection e1 with e1
              exact e1.symm
            · rfl) hq (hall ρ')
          exact ihy _ _ Fx Q a' w' hxy ⟨ρ2, hr2, hd', hFw, hB2 w' hi2⟩
        | exit id => exact weak hq
        | ret => exact weak hq
        | goto l => exact hq
        | panic c => exact hq
        | outgrown => exact hq
  | cond c x y ihx ihy =>
    intro k q Fx Q a w hx h
    have hxx : ∀ t ∈ asg x, Fx t = none := fun t ht => hx t (by simp [asg, ht])
    have hxy : ∀ t ∈ asg y, Fx t = none := fun t ht => hx t (by simp [asg, ht])
    obtain ⟨ρ, hr, hd, hF, h⟩ := h
    change (match ev n ρ c with
      | .bool b => match (generalizing := false) c with
        | .tmp t => bsel b (wpX P n ann cut x k q Q (upd ρ t (.bool true)) w) (wpX P n ann cut y (k + nlX x) (q + nsX x) Q (upd ρ t (.bool false)) w)
        | _ => bsel b (wpX P n ann cut x k q Q ρ w) (wpX P n ann cut y (k + nlX x) (q + nsX x) Q ρ w)
      | _ => False) at h
    split at h
    · rename_i b hb
      have hev : a.eval c = .bool b := by rw [hr.eval, hb]
      split at h
      · rename_i t
        have hpos : ∀ v, ev n ρ (.tmp t) = .bool v → Rep n a (upd ρ t (.bool v)) := by
          intro v hv
          simp only [ev] at hv
          split at hv
          · exact hr.set t _ hv
          · simp [undef] at hv
        cases b
        · exact wpIn_cond_false hev (ihy _ _ Fx Q a w hxy ⟨_, hpos _ hb, hd, hF, h⟩)
        · exact wpIn_cond_true hev (ihx _ _ Fx Q a w hxx ⟨_, hpos _ hb, hd, hF, h⟩)
      · cases b
        · exact wpIn_cond_false hev (ihy _ _ Fx Q a w hxy ⟨_, hr, hd, hF, h⟩)
        · exact wpIn_cond_true hev (ihx _ _ Fx Q a w hxx ⟨_, hr, hd, hF, h⟩)
    · exact h.elim
  | block id c ih =>
    intro k q Fx Q a w hx h
    refine wpIn_block (wpIn_mono (ih k q Fx _ a w hx h) fun e a' w' hq => ?_)
    cases e with
    | normal => exact hq
    | exit id' =>
      obtain ⟨ρ, hr, hd, hF, hq⟩ := hq
      simp only at hq
      simp only [Exit.inBlock]
      split at hq
      · rename_i hb
        rw [if_pos (Nat.eq_of_beq_eq_true hb)]
        exact ⟨ρ, hr, hd, hF, hq⟩
      · rename_i hb
        rw [if_neg (Nat.ne_of_beq_eq_false hb)]
        exact ⟨ρ, hr, hd, hF, hq⟩
    | ret => exact hq
    | goto l => exact hq
    | panic c => exact hq
    | outgrown => exact hq
  | loop b ih =>
    intro k q Fx Q a w hx h
    obtain ⟨ρ, hr, hd, hF, h⟩ := h
    change loopV (ann k) (asg b) (wpX P n ann cut b (k + 1) q) Q ρ w at h
    unfold loopV at h
    split at h
    · exact h.elim
    · rename_i hdis
      obtain ⟨I, μ, h0, hall⟩ := h
      generalize han : ann k = an at *
      let Fx2 : Nat → Option Value := fun t => if t ∈ an.fx ∧ t < n then some (ρ t) else Fx t
      have hFx2 : ∀ t ∈ asg b, Fx2 t = none := by
        intro t ht
        have : t ∉ an.fx := fun hm => dis_spec hdis hm ht
        simp only [Fx2, this, false_and, if_false]
        exact hx t ht
      have hF2 : ∀ t v, Fx2 t = some v → a.tmps[t]? = some v := by
        intro t v hv
        simp only [Fx2] at hv
        split at hv
        · rename_i hc
          cases hv
          exact hr.get t hc.2
        · exact hF t v hv
      obtain ⟨ρ1, i, m1, hr1, hi, hB⟩ := unT_allT hr an.st I μ (fixF an.fx ρ ρ) (fun t ht _ => by rw [fixF_get]; split <;> rfl) h0 (hall ρ)
      refine wpIn_loopN (fun k0 a w => ∃ (ρ1 : Fr) (i : World → Prop) (μ1 : World → Nat), Rep n a ρ1 ∧ a.defers = D ∧ (∀ t v, Fx2 t = some v → a.tmps[t]? = some v) ∧ i w ∧ μ1 w = k0 ∧
          ∀ w, i w → wpX P n ann cut b (k + 1) q (fun e ρ' w' => match e with
            | .normal => unT ρ' an.st I μ fun i' m' => i' w' ∧ m' w' < μ1 w
            | e => Q e ρ' w') ρ1 w) (k0 := m1 w) ⟨ρ1, i, m1, hr1, hd, hF2, hi, rfl, hB⟩ ?round
      case round =>
        rintro k0 a1 w1 ⟨ρ1, i, m1, hr1, hd1, hF1, hi, rfl, hB⟩
        refine wpIn_mono (ih (k + 1) q Fx2 _ a1 w1 hFx2 ⟨ρ1, hr1, hd1, hF1, hB w1 hi⟩) fun e a' w' hq => ?_
        have weak : ∀ {K : Fr → World → Prop}, Real n D Fx2 K a' w' → Real n D Fx K a' w' := by
          rintro K ⟨ρ', hr', hd', hF', hK⟩
          refine ⟨ρ', hr', hd', fun t v hv => ?_, hK⟩
          by_cases hc : t ∈ an.fx ∧ t < n
          · have e1 := hF' t (ρ t) (by simp only [Fx2, if_pos hc])
            have e2 := hF t v hv
            rw [hr.get t hc.2] at e2
            rw [e1]; exact e2
          · exact hF' t v (by simp only [Fx2, if_neg hc]; exact hv)
        cases e with
        | normal =>
          obtain ⟨ρ', hr', hd', hF', hq⟩ := hq
          obtain ⟨ρ2, i2, m2, hr2, ⟨hi2, hlt⟩, hB2⟩ := unT_allT hr' an.st I μ (fixF an.fx ρ ρ') (fun t ht _ => by
            rw [fixF_get]
            split
            · rename_i hm
              have e1 := hF' t (ρ t) (by simp only [Fx2, if_pos (And.intro hm ht)])
              rw [hr'.get t ht] at e1
              injection e1 with e1
              exact e1.symm
            · rfl) hq (hall ρ')
          exact ⟨m2 w', hlt, ρ2, i2, m2, hr2, hd', hF', hi2, rfl, hB2⟩
        | exit id => exact weak hq
        | ret => exact weak hq
        | goto l => exact hq
        | panic c => exact hq
        | outgrown => exact hq
  | rangeFunc f ps asx body iha ihb =>
    intro k q Fx Q a w hx h
    obtain ⟨ρ, hr, hd, hF, h⟩ := h
    exact h.elim
  | exit id => intro k q Fx Q a w hx h; exact wpIn_exit h
  | scope c ih =>
    intro k q Fx Q a w hx h
    exact wpIn_scope (fun l a w h => h) (ih k q Fx Q a w hx h)
  | label l => intro k q Fx Q a w hx h; exact wpIn_label h
  | goto l =>
    intro k q Fx Q a w hx h
    obtain ⟨ρ, hr, hd, hF, h⟩ := h
    exact h.elim
  | ret => intro k q Fx Q a w hx h; exact wpIn_ret h
  | refuse why =>
    intro k q Fx Q a w hx h
    obtain ⟨ρ, hr, hd, hF, h⟩ := h
    exact h.elim

theorem resL_runX {P : Program} {n : Nat} {a : Act} {ρ : Fr} {w : World} (hr : Rep n a ρ) : ∀ (l : List ResultVar) (K : List Value → Prop), resL P n ρ w l K →
    ∃ vs, (l.mapM (fun (x : ResultVar) => (match x with | .tmp t => pure (a.tmps.getD t undef) | .cell ad t => do loadVar t (← asAddr (a.tmps.getD ad undef)) : Sem Value))).run P w = .ok vs w ∧ vs.length = l.length ∧ K vs
  | [], K, h => ⟨[], by simp, rfl, h⟩
  | .tmp t :: l, K, h => by
    obtain ⟨vs, hm, hl, hK⟩ := resL_runX hr l _ h
    have he : a.tmps.getD t undef = ev n ρ (.tmp t) := hr.eval (.tmp t)
    refine ⟨_, ?_, ?_, hK⟩
    · rw [List.mapM_cons]
      simp only [Sem.run_bind, Sem.run_pure, Result.andThen, hm, he]
    · simp [hl]
  | .cell ad t :: l, K, h => by
    unfold resL at h
    split at h
    · rename_i addr had
      obtain ⟨v, hv, h⟩ := ldK_run h
      obtain ⟨vs, hm, hl, hK⟩ := resL_runX hr l _ h
      have he : a.tmps.getD ad undef = .pointer (some addr) := by rw [← had]; exact hr.eval (.tmp ad)
      refine ⟨_, ?_, ?_, hK⟩
      · rw [List.mapM_cons, Sem.run_bind]
        have hc : ((do loadVar t (← asAddr (a.tmps.getD ad undef))) : Sem Value).run P w = .ok v w := by
          rw [he]; simp [asAddr, hv]
        erw [hc]
        simp only [Result.andThen]
        rw [Sem.run_bind]
        erw [hm]
        rfl
      · simp [hl]
    · exact h.elim

theorem calls_of_vcX {P : Program} (hP : Plain P) (hM : P.follows .mixedOrders = true) {f : FuncId} {fn : Func} {c : Code} {args : List Value} {w : World} {Q : Value → World → Prop} (ann : Nat → Ann) (cut : Nat → Option Ann)
    (hf : P.funcs[f]? = some fn) (hb : fn.body = some c) (hle : Nat.ble args.length fn.ntmps = true)
    (h : wpX P fn.ntmps ann cut c 0 0 (resQ P fn.ntmps fn.results.toList Q) (argsF args) w) : Calls P f args.toArray w fun e w' => ∃ v, e = .returned v ∧ Q v w' := by
  have hle := Nat.le_of_ble_eq_true hle
  refine (callsIn_wide (n := 0)).1 (callsIn_of_wp (F := Fence.wide) hf hb trivial ?_)
  have hrep : Rep fn.ntmps { tmps := args.toArray ++ Array.replicate (fn.ntmps - args.toArray.size) undef, defers := [] } (argsF args) := by
    refine ⟨by simp; omega, fun t ht => ?_⟩
    simp only [argsF, List.size_toArray]
    by_cases hlt : t < args.length
    · rw [Array.getElem?_append_left (by simpa using hlt)]
      simp [hlt]
    · rw [Array.getElem?_append_right (by simpa using hlt)]
      have : args[t]? = none := by simp; omega
      rw [this, Array.getElem?_replicate, if_pos (by simp only [List.size_toArray]; omega)]
  have hs := wpX_sound (rd := none) (m := 0) (cut := cut) hP hM c 0 0 (fun _ => none) _ _ w (fun _ _ => rfl) ⟨_, hrep, rfl, (fun t v hv => by cases hv), h⟩
  refine wpIn_mono hs fun e a w' hq => ?_
  have fin : ∀ {a : Act} {w' : World}, Real fn.ntmps [] (fun _ => none) (resV P fn.ntmps fn.results.toList Q) a w' →
      a.defers = [] ∧ ∃ v, (results fn a.tmps).run P w' = .ok v w' ∧ ∃ u, Ending.returned v = .returned u ∧ Q u w' := by
    rintro a w' ⟨ρ, hr, hd, _, hq⟩
    obtain ⟨vs, hm, hl, hK⟩ := resL_runX hr _ _ hq
    have hm' : (fn.results.mapM (fun (x : ResultVar) => (match x with | .tmp t => pure (a.tmps.getD t undef) | .cell ad t => do loadVar t (← asAddr (a.tmps.getD ad undef)) : Sem Value))).run P w' = .ok vs.toArray w' := by
      rw [Array.mapM_eq_mapM_toList]
      simp only [map_eq_pure_bind, Sem.run_bind, hm, Result.andThen, Sem.run_pure]
    refine ⟨hd, ?_⟩
    split at hK
    · rename_i v
      exact ⟨v, by unfold results; rw [Sem.run_bind]; erw [hm']; rfl, v, rfl, hK⟩
    · rename_i hne
      refine ⟨.tuple vs.toArray, ?_, _, rfl, hK⟩
      unfold results
      rw [Sem.run_bind]
      erw [hm']
      have hs : ¬ vs.toArray.size = 1 := by
        intro hc
        match vs, hc with
        | [v], _ => exact hne v rfl
      simp only [Result.andThen, dif_neg hs]
      rfl
  cases e with
  | normal => exact fin hq
  | ret => exact fin hq
  | exit id => obtain ⟨ρ, _, _, _, hq⟩ := hq; exact hq
  | goto l => exact False.elim hq
  | panic c => exact False.elim hq
  | outgrown => exact False.elim hq

end Go.Fw

set_option autoImplicit false
namespace Go.Fw
open Go.Proofs

theorem calls_of_vcX' {P : Program} (hP : Plain P) (hM : P.follows .mixedOrders = true) {f : FuncId} {fn : Func} {args : List Value} {w : World} {Q : Value → World → Prop} (ann : Nat → Ann) (cut : Nat → Option Ann)
    (hf : P.funcs[f]? = some fn) (hle : Nat.ble args.length fn.ntmps = true)
    (h : match fn.body with | some c => wpX P fn.ntmps ann cut c 0 0 (resQ P fn.ntmps fn.results.toList Q) (argsF args) w | none => False) : Calls P f args.toArray w fun e w' => ∃ v, e = .returned v ∧ Q v w' := by
  split at h
  · rename_i c hb; exact calls_of_vcX hP hM ann cut hf hb hle h
  · exact h.elim


theorem sound_ofX {f : FuncId} {fn : Func} {args : List Value} {w : World} {Q : Value → World → Prop} (hf : Tryz.prog.funcs[f]? = some fn) (ann : Nat → Ann) (cut : Nat → Option Ann) (hle : Nat.ble args.length fn.ntmps = true)
    (h : match fn.body with | some c => wpX Tryz.prog fn.ntmps ann cut c 0 0 (resQ Tryz.prog fn.ntmps fn.results.toList Q) (argsF args) w | none => False) :
    Calls Tryz.prog f args.toArray w fun e w' => ∃ v, e = .returned v ∧ Q v w' := calls_of_vcX' pPlain pMixed ann cut hf hle h
end Go.Fw

set_option autoImplicit false
set_option linter.unusedVariables false
set_option maxRecDepth 100000
namespace Go.Fw
open Go.Proofs

def V116J1 (Q : Value → World → Prop) (x154 : Option Addr) (x155 : Nat) (x156 : Nat) (x157 : Int) (x158 : Int) (x159 : Addr) (x160 : Bool) (x161 : Bool) (x162 : Bool) (x163 : Bool) (x164 : Bool) (w165 : World) : Prop :=
bsel x164 (
Q (.int .i64 1) w165) (
∃ (I166 : Int → World → Prop) (μ167 : Int → World → Nat), I166 0 w165 ∧ ∀ (j170 : Fr) (i168 : Int) (w169 : World), I166 i168 w169 →
∃ t171 : Option Addr, ∃ t172 : Nat, ∃ t173 : Nat, w169.cell? (x159.add 5) = some (.slice t171 t172 t173) ∧
bsel (decide (i168 < (t172 : Int))) (
∃ t174 : Option Addr, ∃ t175 : Nat, ∃ t176 : Nat, w169.cell? (x159.add 5) = some (.slice t174 t175 t176) ∧
idxK t174 t175 i168 1 fun a177 =>
∃ t178 : Int, w169.cell? a177 = some (.int .i64 t178) ∧
∃ R179 : Bool → World → Prop, (
bsel (decide (t178 < 0)) (
R179 true w169) (
bsel (decide (t178 ≥ (x155 : Int))) (
R179 true w169) (
bsel (decide (t178 ≥ x157)) (
∃ t194 : Int, w169.cell? (x159.add 0) = some (.int .i64 t194) ∧
bsel (t194 != 6) (
R179 true w169) (
bsel x160 (
idxK x154 x155 t178 8 fun a195 =>
∃ t196 : Int, w169.cell? (a195.add 0) = some (.int .i64 t196) ∧
R179 (t196 != 7) w169) (
R179 false w169))) (
bsel x160 (
idxK x154 x155 t178 8 fun a197 =>
∃ t198 : Int, w169.cell? (a197.add 0) = some (.int .i64 t198) ∧
R179 (t198 != 7) w169) (
R179 false w169))))) ∧ ∀ (j201 : Fr) (r199 : Bool) (w200 : World), R179 r199 w200 →
bsel r199 (
Q (.int .i64 1) w200) (
∃ R202 : Bool → World → Prop, (
bsel x162 (
R202 true w200) (
bsel x161 (
((2 : Int) ≠ 0) ∧
R202 (Int.tmod i168 2 == 0) w200) (
R202 false w200))) ∧ ∀ (j219 : Fr) (r217 : Bool) (w218 : World), R202 r217 w218 →
bsel r217 (
idxK x154 x155 t178 8 fun a220 =>
∃ t221 : Int, ∃ t222 : Bool, ∃ t223 : Bool, ∃ t224 : Option Addr, ∃ t225 : Nat, ∃ t226 : Nat, ∃ t227 : ByteArray, ∃ t228 : Option Addr, ∃ t229 : Nat, ∃ t230 : Nat, ∃ t231 : Bool, ∃ t232 : Bool, CellsAt w218 a220 [.int .i64 t221, .bool t222, .bool t223, .slice t224 t225 t226, .string t227, .slice t228 t229 t230, .bool t231, .bool t232] ∧
newK w218 #[.int .i64 0, .bool false, .bool false, .slice none 0 0, .string ⟨#[]⟩, .slice none 0 0, .bool false, .bool false] 42 fun a233 w234 =>
stK w234 (a233.add 0) (.int .i64 t221) fun w235 =>
stK w235 (a233.add 1) (.bool t222) fun w236 =>
stK w236 (a233.add 2) (.bool t223) fun w237 =>
stK w237 (a233.add 3) (.slice t224 t225 t226) fun w238 =>
stK w238 (a233.add 4) (.string t227) fun w239 =>
stK w239 (a233.add 5) (.slice t228 t229 t230) fun w240 =>
stK w240 (a233.add 6) (.bool t231) fun w241 =>
stK w241 (a233.add 7) (.bool t232) fun w242 =>
∃ R243 : Bool → World → Prop, (
∃ t244 : Int, w242.cell? (a233.add 0) = some (.int .i64 t244) ∧
bsel (decide (t244 ≥ 1)) (
∃ t245 : Int, w242.cell? (a233.add 0) = some (.int .i64 t245) ∧
bsel (decide (t245 ≤ 4)) (
R243 false w242) (
∃ t259 : Int, w242.cell? (a233.add 0) = some (.int .i64 t259) ∧
bsel (t259 == 14) (
∃ t260 : Bool, w242.cell? (a233.add 6) = some (.bool t260) ∧
bsel t260 (
R243 false w242) (
∃ t261 : Bool, w242.cell? (a233.add 7) = some (.bool t261) ∧
R243 (!(!t261)) w242)) (
R243 true w242))) (
∃ t262 : Int, w242.cell? (a233.add 0) = some (.int .i64 t262) ∧
bsel (t262 == 14) (
∃ t263 : Bool, w242.cell? (a233.add 6) = some (.bool t263) ∧
bsel t263 (
R243 false w242) (
∃ t264 : Bool, w242.cell? (a233.add 7) = some (.bool t264) ∧
R243 (!(!t264)) w242)) (
R243 true w242))) ∧ ∀ (j267 : Fr) (r265 : Bool) (w266 : World), R243 r265 w266 →
bsel r265 (
Q (.int .i64 1) w266) (
(I166 (IntKind.wrap .i64 (i168 + 1)) w266 ∧ μ167 (IntKind.wrap .i64 (i168 + 1)) w266 < μ167 i168 w169))) (
(I166 (IntKind.wrap .i64 (i168 + 1)) w218 ∧ μ167 (IntKind.wrap .i64 (i168 + 1)) w218 < μ167 i168 w169)))) (
∃ R280 : Bool → World → Prop, (
∃ t281 : Int, w169.cell? (x159.add 0) = some (.int .i64 t281) ∧
bsel (t281 == 4) (
∃ t282 : ByteArray, w169.cell? (x159.add 4) = some (.string t282) ∧
Calls Tryz.prog 179 #[.string t282] w169 fun e283 w284 => ∃ t285 : Int, e283 = .returned (.int .i64 t285) ∧
bsel (decide (t285 > 65536)) (
R280 true w284) (
∃ t295 : Int, w284.cell? (x159.add 0) = some (.int .i64 t295) ∧
bsel (t295 == 3) (
∃ t296 : Bool, ∃ t297 : Option Addr, ∃ t298 : Nat, ∃ t299 : Nat, CellsAt w284 (x159.add 2) [.bool t296, .slice t297 t298 t299] ∧
Calls Tryz.prog 180 #[.agg #[.bool t296, .slice t297 t298 t299]] w284 fun e300 w301 => ∃ t302 : Bool, ∃ t303 : Option Addr, ∃ t304 : Nat, ∃ t305 : Nat, e300 = .returned (.agg #[.bool t302, .slice t303 t304 t305]) ∧
bsel (decide ((t304 : Int) > 256)) (
R280 true w301) (
bsel x163 (
∃ t306 : Option Addr, ∃ t307 : Nat, ∃ t308 : Nat, w301.cell? (x159.add 5) = some (.slice t306 t307 t308) ∧
R280 (decide ((t307 : Int) > 65536)) w301) (
R280 false w301))) (
bsel x163 (
∃ t309 : Option Addr, ∃ t310 : Nat, ∃ t311 : Nat, w284.cell? (x159.add 5) = some (.slice t309 t310 t311) ∧
R280 (decide ((t310 : Int) > 65536)) w284) (
R280 false w284)))) (
∃ t312 : Int, w169.cell? (x159.add 0) = some (.int .i64 t312) ∧
bsel (t312 == 3) (
∃ t313 : Bool, ∃ t314 : Option Addr, ∃ t315 : Nat, ∃ t316 : Nat, CellsAt w169 (x159.add 2) [.bool t313, .slice t314 t315 t316] ∧
Calls Tryz.prog 180 #[.agg #[.bool t313, .slice t314 t315 t316]] w169 fun e317 w318 => ∃ t319 : Bool, ∃ t320 : Option Addr, ∃ t321 : Nat, ∃ t322 : Nat, e317 = .returned (.agg #[.bool t319, .slice t320 t321 t322]) ∧
bsel (decide ((t321 : Int) > 256)) (
R280 true w318) (
bsel x163 (
∃ t323 : Option Addr, ∃ t324 : Nat, ∃ t325 : Nat, w318.cell? (x159.add 5) = some (.slice t323 t324 t325) ∧
R280 (decide ((t324 : Int) > 65536)) w318) (
R280 false w318))) (
bsel x163 (
∃ t326 : Option Addr, ∃ t327 : Nat, ∃ t328 : Nat, w169.cell? (x159.add 5) = some (.slice t326 t327 t328) ∧
R280 (decide ((t327 : Int) > 65536)) w169) (
R280 false w169)))) ∧ ∀ (j331 : Fr) (r329 : Bool) (w330 : World), R280 r329 w330 →
bsel r329 (
Q (.int .i64 3) w330) (
∃ R332 : Bool → World → Prop, (
bsel x161 (
∃ t333 : Int, ∃ t334 : Bool, ∃ t335 : Bool, ∃ t336 : Option Addr, ∃ t337 : Nat, ∃ t338 : Nat, ∃ t339 : ByteArray, ∃ t340 : Option Addr, ∃ t341 : Nat, ∃ t342 : Nat, ∃ t343 : Bool, ∃ t344 : Bool, CellsAt w330 x159 [.int .i64 t333, .bool t334, .bool t335, .slice t336 t337 t338, .string t339, .slice t340 t341 t342, .bool t343, .bool t344] ∧
Calls Tryz.prog 181 #[.slice x154 x155 x156, .agg #[.int .i64 t333, .bool t334, .bool t335, .slice t336 t337 t338, .string t339, .slice t340 t341 t342, .bool t343, .bool t344]] w330 fun e345 w346 => ∃ t347 : Int, e345 = .returned (.int .i64 t347) ∧
R332 (decide (t347 > x158)) w346) (
bsel x162 (
∃ t350 : Int, ∃ t351 : Bool, ∃ t352 : Bool, ∃ t353 : Option Addr, ∃ t354 : Nat, ∃ t355 : Nat, ∃ t356 : ByteArray, ∃ t357 : Option Addr, ∃ t358 : Nat, ∃ t359 : Nat, ∃ t360 : Bool, ∃ t361 : Bool, CellsAt w330 x159 [.int .i64 t350, .bool t351, .bool t352, .slice t353 t354 t355, .string t356, .slice t357 t358 t359, .bool t360, .bool t361] ∧
Calls Tryz.prog 181 #[.slice x154 x155 x156, .agg #[.int .i64 t350, .bool t351, .bool t352, .slice t353 t354 t355, .string t356, .slice t357 t358 t359, .bool t360, .bool t361]] w330 fun e362 w363 => ∃ t364 : Int, e362 = .returned (.int .i64 t364) ∧
R332 (decide (t364 > x158)) w363) (
R332 false w330))) ∧ ∀ (j367 : Fr) (r365 : Bool) (w366 : World), R332 r365 w366 →
bsel r365 (
Q (.int .i64 3) w366) (
Q (.int .i64 0) w366))))

def V116J2 (Q : Value → World → Prop) (x58 : Option Addr) (x59 : Nat) (x60 : Nat) (x61 : Int) (x62 : Int) (x63 : Addr) (x64 : Bool) (x65 : Bool) (x66 : Bool) (w67 : World) : Prop :=
∃ R68 : Bool → World → Prop, (
∃ t69 : Int, w67.cell? (x63.add 0) = some (.int .i64 t69) ∧
bsel (t69 == 5) (
R68 true w67) (
∃ t81 : Int, w67.cell? (x63.add 0) = some (.int .i64 t81) ∧
R68 (t81 == 6) w67)) ∧ ∀ (j84 : Fr) (r82 : Bool) (w83 : World), R68 r82 w83 →
∃ R85 : Bool → World → Prop, (
∃ t86 : Option Addr, ∃ t87 : Nat, ∃ t88 : Nat, w83.cell? (x63.add 5) = some (.slice t86 t87 t88) ∧
bsel (decide ((t87 : Int) > 0)) (
bsel (!x65) (
bsel (!x66) (
bsel (!r82) (
bsel (!x64) (
R85 true w83) (
bsel x65 (
∃ t101 : Option Addr, ∃ t102 : Nat, ∃ t103 : Nat, w83.cell? (x63.add 5) = some (.slice t101 t102 t103) ∧
((2 : Int) ≠ 0) ∧
bsel (Int.tmod (t102 : Int) 2 != 0) (
R85 true w83) (
bsel x64 (
∃ t104 : Option Addr, ∃ t105 : Nat, ∃ t106 : Nat, w83.cell? (x63.add 5) = some (.slice t104 t105 t106) ∧
R85 ((t105 : Int) != 1) w83) (
R85 false w83))) (
bsel x64 (
∃ t107 : Option Addr, ∃ t108 : Nat, ∃ t109 : Nat, w83.cell? (x63.add 5) = some (.slice t107 t108 t109) ∧
R85 ((t108 : Int) != 1) w83) (
R85 false w83)))) (
bsel x65 (
∃ t110 : Option Addr, ∃ t111 : Nat, ∃ t112 : Nat, w83.cell? (x63.add 5) = some (.slice t110 t111 t112) ∧
((2 : Int) ≠ 0) ∧
bsel (Int.tmod (t111 : Int) 2 != 0) (
R85 true w83) (
bsel x64 (
∃ t113 : Option Addr, ∃ t114 : Nat, ∃ t115 : Nat, w83.cell? (x63.add 5) = some (.slice t113 t114 t115) ∧
R85 ((t114 : Int) != 1) w83) (
R85 false w83))) (
bsel x64 (
∃ t116 : Option Addr, ∃ t117 : Nat, ∃ t118 : Nat, w83.cell? (x63.add 5) = some (.slice t116 t117 t118) ∧
R85 ((t117 : Int) != 1) w83) (
R85 false w83)))) (
bsel x65 (
∃ t119 : Option Addr, ∃ t120 : Nat, ∃ t121 : Nat, w83.cell? (x63.add 5) = some (.slice t119 t120 t121) ∧
((2 : Int) ≠ 0) ∧
bsel (Int.tmod (t120 : Int) 2 != 0) (
R85 true w83) (
bsel x64 (
∃ t122 : Option Addr, ∃ t123 : Nat, ∃ t124 : Nat, w83.cell? (x63.add 5) = some (.slice t122 t123 t124) ∧
R85 ((t123 : Int) != 1) w83) (
R85 false w83))) (
bsel x64 (
∃ t125 : Option Addr, ∃ t126 : Nat, ∃ t127 : Nat, w83.cell? (x63.add 5) = some (.slice t125 t126 t127) ∧
R85 ((t126 : Int) != 1) w83) (
R85 false w83)))) (
bsel x65 (
∃ t128 : Option Addr, ∃ t129 : Nat, ∃ t130 : Nat, w83.cell? (x63.add 5) = some (.slice t128 t129 t130) ∧
((2 : Int) ≠ 0) ∧
bsel (Int.tmod (t129 : Int) 2 != 0) (
R85 true w83) (
bsel x64 (
∃ t131 : Option Addr, ∃ t132 : Nat, ∃ t133 : Nat, w83.cell? (x63.add 5) = some (.slice t131 t132 t133) ∧
R85 ((t132 : Int) != 1) w83) (
R85 false w83))) (
bsel x64 (
∃ t134 : Option Addr, ∃ t135 : Nat, ∃ t136 : Nat, w83.cell? (x63.add 5) = some (.slice t134 t135 t136) ∧
R85 ((t135 : Int) != 1) w83) (
R85 false w83)))) (
bsel x65 (
∃ t137 : Option Addr, ∃ t138 : Nat, ∃ t139 : Nat, w83.cell? (x63.add 5) = some (.slice t137 t138 t139) ∧
((2 : Int) ≠ 0) ∧
bsel (Int.tmod (t138 : Int) 2 != 0) (
R85 true w83) (
bsel x64 (
∃ t140 : Option Addr, ∃ t141 : Nat, ∃ t142 : Nat, w83.cell? (x63.add 5) = some (.slice t140 t141 t142) ∧
R85 ((t141 : Int) != 1) w83) (
R85 false w83))) (
bsel x64 (
∃ t143 : Option Addr, ∃ t144 : Nat, ∃ t145 : Nat, w83.cell? (x63.add 5) = some (.slice t143 t144 t145) ∧
R85 ((t144 : Int) != 1) w83) (
R85 false w83)))) ∧ ∀ (j148 : Fr) (r146 : Bool) (w147 : World), R85 r146 w147 →
bsel r146 (
Q (.int .i64 1) w147) (
∃ t149 : Int, w147.cell? (x63.add 0) = some (.int .i64 t149) ∧
bsel (t149 == 4) (
∃ t150 : ByteArray, w147.cell? (x63.add 4) = some (.string t150) ∧
Calls Tryz.prog 178 #[.string t150] w147 fun e151 w152 => ∃ t153 : Bool, e151 = .returned (.bool t153) ∧
V116J1 Q x58 x59 x60 x61 x62 x63 x64 x65 x66 r82 (!t153) w152) (
V116J1 Q x58 x59 x60 x61 x62 x63 x64 x65 x66 r82 false w147))

def V116J3 (Q : Value → World → Prop) (x31 : Option Addr) (x32 : Nat) (x33 : Nat) (x34 : Int) (x35 : Int) (x36 : Addr) (x37 : Bool) (w38 : World) : Prop :=
∃ R39 : Bool → World → Prop, (
∃ t40 : Int, w38.cell? (x36.add 0) = some (.int .i64 t40) ∧
bsel (decide (t40 ≥ 1)) (
∃ t41 : Int, w38.cell? (x36.add 0) = some (.int .i64 t41) ∧
bsel (decide (t41 ≤ 9)) (
R39 false w38) (
∃ t51 : Int, w38.cell? (x36.add 0) = some (.int .i64 t51) ∧
bsel (t51 == 14) (
R39 false w38) (
R39 (!x37) w38))) (
∃ t52 : Int, w38.cell? (x36.add 0) = some (.int .i64 t52) ∧
bsel (t52 == 14) (
R39 false w38) (
R39 (!x37) w38))) ∧ ∀ (j55 : Fr) (r53 : Bool) (w54 : World), R39 r53 w54 →
bsel r53 (
Q (.int .i64 12) w54) (
∃ t56 : Int, w54.cell? (x36.add 0) = some (.int .i64 t56) ∧
∃ t57 : Int, w54.cell? (x36.add 0) = some (.int .i64 t57) ∧
bsel (t57 == 8) (
V116J2 Q x31 x32 x33 x34 x35 x36 x37 (t56 == 7) true w54) (
∃ t368 : Int, w54.cell? (x36.add 0) = some (.int .i64 t368) ∧
V116J2 Q x31 x32 x33 x34 x35 x36 x37 (t56 == 7) (t368 == 9) w54))

def V116 (x1 : Option Addr) (x2 : Nat) (x3 : Nat) (x4 : Int) (x5 : Int) (w : World) (Q : Value → World → Prop) : Prop :=
idxK x1 x2 x4 8 fun a6 =>
∃ t7 : Int, ∃ t8 : Bool, ∃ t9 : Bool, ∃ t10 : Option Addr, ∃ t11 : Nat, ∃ t12 : Nat, ∃ t13 : ByteArray, ∃ t14 : Option Addr, ∃ t15 : Nat, ∃ t16 : Nat, ∃ t17 : Bool, ∃ t18 : Bool, CellsAt w a6 [.int .i64 t7, .bool t8, .bool t9, .slice t10 t11 t12, .string t13, .slice t14 t15 t16, .bool t17, .bool t18] ∧
newK w #[.int .i64 0, .bool false, .bool false, .slice none 0 0, .string ⟨#[]⟩, .slice none 0 0, .bool false, .bool false] 42 fun a19 w20 =>
stK w20 (a19.add 0) (.int .i64 t7) fun w21 =>
stK w21 (a19.add 1) (.bool t8) fun w22 =>
stK w22 (a19.add 2) (.bool t9) fun w23 =>
stK w23 (a19.add 3) (.slice t10 t11 t12) fun w24 =>
stK w24 (a19.add 4) (.string t13) fun w25 =>
stK w25 (a19.add 5) (.slice t14 t15 t16) fun w26 =>
stK w26 (a19.add 6) (.bool t17) fun w27 =>
stK w27 (a19.add 7) (.bool t18) fun w28 =>
∃ t29 : Int, w28.cell? (a19.add 0) = some (.int .i64 t29) ∧
bsel (decide (t29 ≥ 15)) (
∃ t30 : Int, w28.cell? (a19.add 0) = some (.int .i64 t30) ∧
V116J3 Q x1 x2 x3 x4 x5 a19 (decide (t30 ≤ 17)) w28) (
V116J3 Q x1 x2 x3 x4 x5 a19 false w28)

def V116_ann : Nat → Ann := fun k => match k with | 0 => ⟨[0, 1, 2, 7, 8, 9, 10, 11], [(12, .int .i64)]⟩ | _ => ⟨[], []⟩
def V116_cut : Nat → Option Ann := fun q => match q with | 4 => some ⟨[0, 1, 2, 7, 8], [(43, .bool)]⟩ | 8 => some ⟨[0, 1, 2, 7, 8, 9, 10], [(11, .bool)]⟩ | 10 => some ⟨[0, 1, 2, 7, 8, 9, 10, 11], [(101, .bool)]⟩ | 22 => some ⟨[0, 1, 2, 7, 8, 9, 10, 11, 12, 13], [(151, .bool)]⟩ | 24 => some ⟨[0, 1, 2, 7, 8, 9, 10, 11, 12, 13], [(160, .bool)]⟩ | 26 => some ⟨[0, 1, 2, 7, 8, 9, 10, 11, 12], [(187, .bool)]⟩ | 29 => some ⟨[0, 2, 7, 9, 10], [(218, .bool)]⟩ | 32 => some ⟨[], [(229, .bool)]⟩ | _ => none
theorem V116_eq (x1 : Option Addr) (x2 : Nat) (x3 : Nat) (x4 : Int) (x5 : Int) (w : World) (Q : Value → World → Prop) : (match Tryz.f116.body with | some c => wpX Tryz.prog Tryz.f116.ntmps V116_ann V116_cut c 0 0 (resQ Tryz.prog Tryz.f116.ntmps Tryz.f116.results.toList Q) (argsF [.slice x1 x2 x3, .int .i64 x4, .int .i64 x5]) w | none => False) = V116 x1 x2 x3 x4 x5 w Q := by kernel_rfl
theorem V116_sound (x1 : Option Addr) (x2 : Nat) (x3 : Nat) (x4 : Int) (x5 : Int) (w : World) (Q : Value → World → Prop) (h : V116 x1 x2 x3 x4 x5 w Q) : Calls Tryz.prog 116 #[.slice x1 x2 x3, .int .i64 x4, .int .i64 x5] w fun e w' => ∃ v, e = .returned v ∧ Q v w' :=
  sound_ofX Tryz.func116 V116_ann V116_cut rfl ((V116_eq x1 x2 x3 x4 x5 w Q).mpr h)

end Go.Fw

set_option autoImplicit false
set_option linter.unusedVariables false
set_option maxRecDepth 100000
namespace Go.Fw
open Go.Proofs

def V117J1 (I126 : Int → World → Prop) (μ127 : Int → World → Nat) (i128 : Int) (w129 : World) (x141 : Option Addr) (x142 : Option Addr) (x143 : Nat) (x144 : Nat) (x145 : Option Addr) (x146 : Nat) (x147 : Nat) (x148 : Addr) (x149 : Int) (x150 : Int) (x151 : Int) (x152 : Int) (w153 : World) : Prop :=
∃ t154 : Option Addr, ∃ t155 : Nat, ∃ t156 : Nat, w153.drew.cell? (x148.add 5) = some (.slice t154 t155 t156) ∧
idxK t154 t155 x151 1 fun a157 =>
∃ t158 : Int, w153.drew.cell? a157 = some (.int .i64 t158) ∧
idxK x142 x143 t158 8 fun a159 =>
∃ t160 : Int, ∃ t161 : Bool, ∃ t162 : Bool, ∃ t163 : Option Addr, ∃ t164 : Nat, ∃ t165 : Nat, ∃ t166 : ByteArray, ∃ t167 : Option Addr, ∃ t168 : Nat, ∃ t169 : Nat, ∃ t170 : Bool, ∃ t171 : Bool, CellsAt w153.drew a159 [.int .i64 t160, .bool t161, .bool t162, .slice t163 t164 t165, .string t166, .slice t167 t168 t169, .bool t170, .bool t171] ∧
∃ t172 : Option Addr, ∃ t173 : Nat, ∃ t174 : Nat, w153.drew.cell? (x148.add 5) = some (.slice t172 t173 t174) ∧
idxK t172 t173 x151 1 fun a175 =>
∃ t176 : Int, w153.drew.cell? a175 = some (.int .i64 t176) ∧
idxK x145 x146 t176 1 fun a177 =>
∃ t178 : Int, w153.drew.cell? a177 = some (.int .i64 t178) ∧
Calls Tryz.prog 189 #[.agg #[.int .i64 t160, .bool t161, .bool t162, .slice t163 t164 t165, .string t166, .slice t167 t168 t169, .bool t170, .bool t171], .pointer x141, .int .i64 t178] w153.drew fun e179 w180 => ∃ t181 : Int, ∃ t182 : Bool, e179 = .returned (.tuple #[.int .i64 t181, .bool t182]) ∧
∃ t183 : Option Addr, ∃ t184 : Nat, ∃ t185 : Nat, w180.cell? (x148.add 5) = some (.slice t183 t184 t185) ∧
idxK t183 t184 x151 1 fun a186 =>
∃ t187 : Int, w180.cell? a186 = some (.int .i64 t187) ∧
idxK x145 x146 t187 1 fun a188 =>
∃ t189 : Int, w180.cell? a188 = some (.int .i64 t189) ∧
Calls Tryz.prog 190 #[.pointer x141, .int .i64 x149, .int .i64 t181, .int .i64 t189, .int .i64 x152] w180 fun e190 w191 => ∃ t192 : Value, e190 = .returned (t192) ∧
(I126 (IntKind.wrap .i64 (x151 + x150)) w191 ∧ μ127 (IntKind.wrap .i64 (x151 + x150)) w191 < μ127 i128 w129)

def V117J2 (Q : Value → World → Prop) (x115 : Option Addr) (x116 : Option Addr) (x117 : Nat) (x118 : Nat) (x119 : Option Addr) (x120 : Nat) (x121 : Nat) (x122 : Addr) (x123 : Int) (x124 : Int) (w125 : World) : Prop :=
∃ (I126 : Int → World → Prop) (μ127 : Int → World → Nat), I126 0 w125 ∧ ∀ (j130 : Fr) (i128 : Int) (w129 : World), I126 i128 w129 →
∃ t131 : Option Addr, ∃ t132 : Nat, ∃ t133 : Nat, w129.cell? (x122.add 5) = some (.slice t131 t132 t133) ∧
bsel (decide (i128 < (t132 : Int))) (
bsel (x124 == 2) (
∃ t134 : Option Addr, ∃ t135 : Nat, ∃ t136 : Nat, w129.cell? (x122.add 5) = some (.slice t134 t135 t136) ∧
idxK t134 t135 (IntKind.wrap .i64 (i128 + 1)) 1 fun a137 =>
∃ t138 : Int, w129.cell? a137 = some (.int .i64 t138) ∧
idxK x119 x120 t138 1 fun a139 =>
∃ t140 : Int, w129.cell? a139 = some (.int .i64 t140) ∧
V117J1 I126 μ127 i128 w129 x115 x116 x117 x118 x119 x120 x121 x122 x123 x124 i128 t140 w129) (
V117J1 I126 μ127 i128 w129 x115 x116 x117 x118 x119 x120 x121 x122 x123 x124 i128 0 w129)) (
Q (.int .i64 x123) w129)

def V117J3 (Q : Value → World → Prop) (x100 : Option Addr) (x101 : Option Addr) (x102 : Nat) (x103 : Nat) (x104 : Option Addr) (x105 : Nat) (x106 : Nat) (x107 : Addr) (x108 : Bool) (w109 : World) : Prop :=
bsel x108 (
∃ t110 : Int, w109.cell? (x107.add 0) = some (.int .i64 t110) ∧
Calls Tryz.prog 188 #[.pointer x100, .int .i64 t110] w109 fun e111 w112 => ∃ t113 : Int, e111 = .returned (.int .i64 t113) ∧
∃ t114 : Int, w112.cell? (x107.add 0) = some (.int .i64 t114) ∧
bsel (t114 == 7) (
V117J2 Q x100 x101 x102 x103 x104 x105 x106 x107 t113 2 w112) (
V117J2 Q x100 x101 x102 x103 x104 x105 x106 x107 t113 1 w112)) (
∃ t193 : Int, w109.drew.cell? (x107.add 0) = some (.int .i64 t193) ∧
∃ t194 : Option Addr, ∃ t195 : Nat, ∃ t196 : Nat, w109.drew.cell? (x107.add 5) = some (.slice t194 t195 t196) ∧
idxK t194 t195 0 1 fun a197 =>
∃ t198 : Int, w109.drew.cell? a197 = some (.int .i64 t198) ∧
idxK x104 x105 t198 1 fun a199 =>
∃ t200 : Int, w109.drew.cell? a199 = some (.int .i64 t200) ∧
Calls Tryz.prog 185 #[.pointer x100, .agg #[.int .i64 t193, .int .i64 0, .bool false, .bool false, .bool false, .slice none 0 0, .string ⟨#[]⟩, .slice none 0 0, .pointer none, .int .i64 0, .slice none 0 0, .int .i64 0, .int .i64 0, .int .i64 0, .int .i64 0, .pointer none, .pointer none, .int .i64 t200, .pointer none, .bool false, .bool false, .bool false]] w109.drew fun e201 w202 => ∃ t203 : Int, e201 = .returned (.int .i64 t203) ∧
Q (.int .i64 t203) w202)

def V117 (x1 : Option Addr) (x2 : Option Addr) (x3 : Nat) (x4 : Nat) (x5 : Option Addr) (x6 : Nat) (x7 : Nat) (x8 : Int) (w : World) (Q : Value → World → Prop) : Prop :=
idxK x2 x3 x8 8 fun a9 =>
∃ t10 : Int, ∃ t11 : Bool, ∃ t12 : Bool, ∃ t13 : Option Addr, ∃ t14 : Nat, ∃ t15 : Nat, ∃ t16 : ByteArray, ∃ t17 : Option Addr, ∃ t18 : Nat, ∃ t19 : Nat, ∃ t20 : Bool, ∃ t21 : Bool, CellsAt w a9 [.int .i64 t10, .bool t11, .bool t12, .slice t13 t14 t15, .string t16, .slice t17 t18 t19, .bool t20, .bool t21] ∧
newK w #[.int .i64 0, .bool false, .bool false, .slice none 0 0, .string ⟨#[]⟩, .slice none 0 0, .bool false, .bool false] 42 fun a22 w23 =>
stK w23 (a22.add 0) (.int .i64 t10) fun w24 =>
stK w24 (a22.add 1) (.bool t11) fun w25 =>
stK w25 (a22.add 2) (.bool t12) fun w26 =>
stK w26 (a22.add 3) (.slice t13 t14 t15) fun w27 =>
stK w27 (a22.add 4) (.string t16) fun w28 =>
stK w28 (a22.add 5) (.slice t17 t18 t19) fun w29 =>
stK w29 (a22.add 6) (.bool t20) fun w30 =>
stK w30 (a22.add 7) (.bool t21) fun w31 =>
∃ t32 : Int, w31.cell? (a22.add 0) = some (.int .i64 t32) ∧
bsel (t32 == 1) (
Q (.int .i64 0) w31) (
bsel (t32 == 2) (
∃ t33 : Bool, w31.cell? (a22.add 1) = some (.bool t33) ∧
Calls Tryz.prog 182 #[.bool t33] w31 fun e34 w35 => ∃ t36 : Int, e34 = .returned (.int .i64 t36) ∧
Q (.int .i64 t36) w35) (
bsel (t32 == 3) (
∃ t37 : Bool, ∃ t38 : Option Addr, ∃ t39 : Nat, ∃ t40 : Nat, CellsAt w31 (a22.add 2) [.bool t37, .slice t38 t39 t40] ∧
Calls Tryz.prog 183 #[.pointer x1, .agg #[.bool t37, .slice t38 t39 t40]] w31 fun e41 w42 => ∃ t43 : Int, e41 = .returned (.int .i64 t43) ∧
Q (.int .i64 t43) w42) (
bsel (t32 == 4) (
∃ t44 : ByteArray, w31.cell? (a22.add 4) = some (.string t44) ∧
Calls Tryz.prog 184 #[.pointer x1, .string t44] w31 fun e45 w46 => ∃ t47 : Int, e45 = .returned (.int .i64 t47) ∧
Q (.int .i64 t47) w46) (
bsel (t32 == 5) (
∃ (I48 : Option Addr → Nat → Nat → Int → World → Prop) (μ49 : Option Addr → Nat → Nat → Int → World → Nat), I48 none 0 0 0 w31 ∧ ∀ (j55 : Fr) (i50 : Option Addr) (i51 : Nat) (i52 : Nat) (i53 : Int) (w54 : World), I48 i50 i51 i52 i53 w54 →
∃ t56 : Option Addr, ∃ t57 : Nat, ∃ t58 : Nat, w54.cell? (a22.add 5) = some (.slice t56 t57 t58) ∧
bsel (decide (i53 < (t57 : Int))) (
∃ t59 : Option Addr, ∃ t60 : Nat, ∃ t61 : Nat, w54.cell? (a22.add 5) = some (.slice t59 t60 t61) ∧
idxK t59 t60 i53 1 fun a62 =>
∃ t63 : Int, w54.cell? a62 = some (.int .i64 t63) ∧
idxK x5 x6 t63 1 fun a64 =>
∃ t65 : Int, w54.cell? a64 = some (.int .i64 t65) ∧
newK w54 #[.int .i64 t65] 3 fun a66 w67 =>
∃ w68 : World, ∃ t69 : Option Addr, ∃ t70 : Nat, ∃ t71 : Nat, (vcEff.bltV .append #[30, 30] 30 #[.slice i50 i51 i52, .slice (some a66) 1 1]).run Tryz.prog w67 = .ok (.slice t69 t70 t71) w68 ∧
(I48 t69 t70 t71 (IntKind.wrap .i64 (i53 + 1)) w68 ∧ μ49 t69 t70 t71 (IntKind.wrap .i64 (i53 + 1)) w68 < μ49 i50 i51 i52 i53 w54)) (
∃ t72 : Int, w54.cell? (a22.add 0) = some (.int .i64 t72) ∧
Calls Tryz.prog 185 #[.pointer x1, .agg #[.int .i64 t72, .int .i64 0, .bool false, .bool false, .bool false, .slice none 0 0, .string ⟨#[]⟩, .slice i50 i51 i52, .pointer none, .int .i64 0, .slice none 0 0, .int .i64 0, .int .i64 0, .int .i64 0, .int .i64 0, .pointer none, .pointer none, .int .i64 0, .pointer none, .bool false, .bool false, .bool false]] w54 fun e73 w74 => ∃ t75 : Int, e73 = .returned (.int .i64 t75) ∧
Q (.int .i64 t75) w74)) (
bsel (t32 == 6) (
∃ t76 : Int, w31.cell? (a22.add 0) = some (.int .i64 t76) ∧
Calls Tryz.prog 185 #[.pointer x1, .agg #[.int .i64 t76, .int .i64 0, .bool false, .bool false, .bool false, .slice none 0 0, .string ⟨#[]⟩, .slice none 0 0, .pointer none, .int .i64 0, .slice none 0 0, .int .i64 0, .int .i64 0, .int .i64 0, .int .i64 0, .pointer none, .pointer none, .int .i64 0, .pointer none, .bool false, .bool false, .bool false]] w31 fun e77 w78 => ∃ t79 : Int, e77 = .returned (.int .i64 t79) ∧
Q (.int .i64 t79) w78) (
bsel (t32 == 14) (
Calls Tryz.prog 186 #[.pointer x1, .string (⟨#[67]⟩ : ByteArray), .int .i64 (-1)] w31 fun e80 w81 => ∃ t82 : Int, e80 = .returned (.int .i64 t82) ∧
nilK x1 fun a83 =>
∃ t84 : Option Addr, ∃ t85 : Nat, ∃ t86 : Nat, w81.drew.cell? (a83.add 0) = some (.slice t84 t85 t86) ∧
∃ t87 : Bool, w81.drew.cell? (a22.add 6) = some (.bool t87) ∧
idxK t84 t85 t82 22 fun a88 =>
stK w81.drew (a88.add 20) (.bool t87) fun w89 =>
nilK x1 fun a90 =>
∃ t91 : Option Addr, ∃ t92 : Nat, ∃ t93 : Nat, w89.drew.cell? (a90.add 0) = some (.slice t91 t92 t93) ∧
∃ t94 : Bool, w89.drew.cell? (a22.add 7) = some (.bool t94) ∧
idxK t91 t92 t82 22 fun a95 =>
stK w89.drew (a95.add 21) (.bool t94) fun w96 =>
Calls Tryz.prog 187 #[.pointer x1, .int .i64 t82] w96 fun e97 w98 => ∃ t99 : Int, e97 = .returned (.int .i64 t99) ∧
Q (.int .i64 t99) w98) (
bsel (t32 == 7) (
V117J3 Q x1 x2 x3 x4 x5 x6 x7 a22 true w31) (
bsel (t32 == 8) (
V117J3 Q x1 x2 x3 x4 x5 x6 x7 a22 true w31) (
V117J3 Q x1 x2 x3 x4 x5 x6 x7 a22 (t32 == 9) w31)))))))))

def V117_ann : Nat → Ann := fun k => match k with | 0 => ⟨[0, 2, 9], [(10, .slice), (11, .int .i64)]⟩ | 1 => ⟨[0, 1, 2, 9, 13, 14], [(15, .int .i64)]⟩ | _ => ⟨[], []⟩
theorem V117_eq (x1 : Option Addr) (x2 : Option Addr) (x3 : Nat) (x4 : Nat) (x5 : Option Addr) (x6 : Nat) (x7 : Nat) (x8 : Int) (w : World) (Q : Value → World → Prop) : (match Tryz.f117.body with | some c => wpC Tryz.prog Tryz.f117.ntmps V117_ann c 0 (resQ Tryz.prog Tryz.f117.ntmps Tryz.f117.results.toList Q) (argsF [.pointer x1, .slice x2 x3 x4, .slice x5 x6 x7, .int .i64 x8]) w | none => False) = V117 x1 x2 x3 x4 x5 x6 x7 x8 w Q := by kernel_rfl
theorem V117_sound (x1 : Option Addr) (x2 : Option Addr) (x3 : Nat) (x4 : Nat) (x5 : Option Addr) (x6 : Nat) (x7 : Nat) (x8 : Int) (w : World) (Q : Value → World → Prop) (h : V117 x1 x2 x3 x4 x5 x6 x7 x8 w Q) : Calls Tryz.prog 117 #[.pointer x1, .slice x2 x3 x4, .slice x5 x6 x7, .int .i64 x8] w fun e w' => ∃ v, e = .returned v ∧ Q v w' :=
  sound_of Tryz.func117 V117_ann rfl ((V117_eq x1 x2 x3 x4 x5 x6 x7 x8 w Q).mpr h)

end Go.Fw

set_option autoImplicit false
set_option linter.unusedVariables false
set_option maxRecDepth 100000
namespace Go.Fw
open Go.Proofs

def V9J1 (Q : Value → World → Prop) (I4 : Int → Int → World → Prop) (μ5 : Int → Int → World → Nat) (i6 : Int) (i7 : Int) (w8 : World) (x10 : Option Addr) (x11 : Nat) (x12 : Nat) (x13 : Int) (x14 : Int) (x15 : Bool) (w16 : World) : Prop :=
bsel x15 (
idxK x10 x11 x14 8 fun a17 =>
∃ t18 : Option Addr, ∃ t19 : Nat, ∃ t20 : Nat, w16.drew.cell? (a17.add 5) = some (.slice t18 t19 t20) ∧
idxK x10 x11 x14 8 fun a21 =>
∃ t22 : ByteArray, w16.drew.cell? (a21.add 4) = some (.string t22) ∧
idxK x10 x11 x14 8 fun a23 =>
∃ t24 : Option Addr, ∃ t25 : Nat, ∃ t26 : Nat, w16.drew.cell? ((a23.add 2).add 1) = some (.slice t24 t25 t26) ∧
(I4 (IntKind.wrap .i64 (IntKind.wrap .i64 (IntKind.wrap .i64 (x13 + (t19 : Int)) + (t22.size : Int)) + (t25 : Int))) (IntKind.wrap .i64 (x14 + 1)) w16.drew ∧ μ5 (IntKind.wrap .i64 (IntKind.wrap .i64 (IntKind.wrap .i64 (x13 + (t19 : Int)) + (t22.size : Int)) + (t25 : Int))) (IntKind.wrap .i64 (x14 + 1)) w16.drew < μ5 i6 i7 w8)) (
Q (.bool (decide (x13 > 3000))) w16)

def V9 (x1 : Option Addr) (x2 : Nat) (x3 : Nat) (w : World) (Q : Value → World → Prop) : Prop :=
bsel (decide ((x2 : Int) > 120)) (
Q (.bool true) w) (
∃ (I4 : Int → Int → World → Prop) (μ5 : Int → Int → World → Nat), I4 0 0 w ∧ ∀ (j9 : Fr) (i6 : Int) (i7 : Int) (w8 : World), I4 i6 i7 w8 →
bsel (decide (i7 < (x2 : Int))) (
V9J1 Q I4 μ5 i6 i7 w8 x1 x2 x3 i6 i7 (decide (i6 ≤ 3000)) w8) (
V9J1 Q I4 μ5 i6 i7 w8 x1 x2 x3 i6 i7 false w8))

def V9_ann : Nat → Ann := fun k => match k with | 0 => ⟨[0], [(3, .int .i64), (4, .int .i64)]⟩ | _ => ⟨[], []⟩
theorem V9_eq (x1 : Option Addr) (x2 : Nat) (x3 : Nat) (w : World) (Q : Value → World → Prop) : (match Tryz.f9.body with | some c => wpC Tryz.prog Tryz.f9.ntmps V9_ann c 0 (resQ Tryz.prog Tryz.f9.ntmps Tryz.f9.results.toList Q) (argsF [.slice x1 x2 x3]) w | none => False) = V9 x1 x2 x3 w Q := by kernel_rfl
theorem V9_sound (x1 : Option Addr) (x2 : Nat) (x3 : Nat) (w : World) (Q : Value → World → Prop) (h : V9 x1 x2 x3 w Q) : Calls Tryz.prog 9 #[.slice x1 x2 x3] w fun e w' => ∃ v, e = .returned v ∧ Q v w' :=
  sound_of Tryz.func9 V9_ann rfl ((V9_eq x1 x2 x3 w Q).mpr h)

def V10J1 (Q : Value → World → Prop) (x29 : Option Addr) (x30 : Option Addr) (x31 : Nat) (x32 : Nat) (x33 : Bool) (w34 : World) : Prop :=
bsel x33 (
Q (.bool false) w34) (
idxK x30 x31 1 1 fun a35 =>
∃ t36 : Int, w34.cell? a35 = some (.int .i64 t36) ∧
Calls Tryz.prog 33 #[.pointer x29, .int .i64 t36] w34 fun e37 w38 => ∃ t39 : Int, ∃ t40 : Int, e37 = .returned (.tuple #[.int .i64 t39, .int .i64 t40]) ∧
bsel (t40 == 0) (
bsel (t39 == 2) (
idxK x30 x31 0 1 fun a41 =>
∃ t42 : Int, w38.cell? a41 = some (.int .i64 t42) ∧
Calls Tryz.prog 34 #[.pointer x29, .int .i64 t42] w38 fun e43 w44 => ∃ t45 : ByteArray, e43 = .returned (.string t45) ∧
bsel (t45.toList == (⟨#[39, 97, 39]⟩ : ByteArray).toList) (
idxK x30 x31 1 1 fun a46 =>
∃ t47 : Int, w44.cell? a46 = some (.int .i64 t47) ∧
Calls Tryz.prog 34 #[.pointer x29, .int .i64 t47] w44 fun e48 w49 => ∃ t50 : ByteArray, e48 = .returned (.string t50) ∧
bsel (t50.toList == (⟨#[35, 49]⟩ : ByteArray).toList) (
idxK x30 x31 0 1 fun a51 =>
∃ t52 : Int, w49.cell? a51 = some (.int .i64 t52) ∧
Calls Tryz.prog 35 #[.pointer x29, .int .i64 t52] w49 fun e53 w54 => ∃ t55 : Bool, e53 = .returned (.bool t55) ∧
Q (.bool t55) w54) (
Q (.bool false) w49)) (
Q (.bool false) w44)) (
Q (.bool false) w38)) (
Q (.bool false) w38))

def V10J2 (Q : Value → World → Prop) (x16 : Option Addr) (x17 : Bool) (w18 : World) : Prop :=
bsel x17 (
Q (.bool false) w18) (
newK w18 #[.int .i64 0, .int .i64 0] 3 fun a19 w20 =>
newK w20 #[.int .i64 4, .bool false, .bool false, .slice none 0 0, .string (⟨#[97]⟩ : ByteArray), .slice none 0 0, .bool false, .bool false, .int .i64 5, .bool false, .bool false, .slice none 0 0, .string ⟨#[]⟩, .slice (some a19) 2 2, .bool false, .bool false] 42 fun a21 w22 =>
Calls Tryz.prog 13 #[.pointer x16, .slice (some a21) 2 2] w22 fun e23 w24 => ∃ t25 : Option Addr, ∃ t26 : Nat, ∃ t27 : Nat, ∃ t28 : Int, e23 = .returned (.tuple #[.slice t25 t26 t27, .int .i64 t28]) ∧
bsel (t28 != 0) (
V10J1 Q x16 t25 t26 t27 true w24) (
V10J1 Q x16 t25 t26 t27 ((t26 : Int) != 2) w24))

def V10  (w : World) (Q : Value → World → Prop) : Prop :=
Calls Tryz.prog 12 #[.int .i64 10, .int .i64 3] w fun e1 w2 => ∃ t3 : Int, ∃ t4 : Int, ∃ t5 : Int, ∃ t6 : Option Addr, ∃ t7 : Nat, ∃ t8 : Nat, ∃ t9 : Option Addr, ∃ t10 : Nat, ∃ t11 : Nat, e1 = .returned (.agg #[.int .i64 t3, .int .i64 t4, .int .i64 t5, .slice t6 t7 t8, .slice t9 t10 t11]) ∧
Calls Tryz.prog 11 #[.agg #[.int .i64 t3, .int .i64 t4, .int .i64 t5, .slice t6 t7 t8, .slice t9 t10 t11], .pointer none] w2 fun e12 w13 => ∃ t14 : Option Addr, ∃ t15 : Int, e12 = .returned (.tuple #[.pointer t14, .int .i64 t15]) ∧
bsel (t15 != 0) (
V10J2 Q t14 true w13) (
V10J2 Q t14 (Option.isNone t14) w13)

def V10_ann : Nat → Ann := fun _ => ⟨[], []⟩
theorem V10_eq  (w : World) (Q : Value → World → Prop) : (match Tryz.f10.body with | some c => wpC Tryz.prog Tryz.f10.ntmps V10_ann c 0 (resQ Tryz.prog Tryz.f10.ntmps Tryz.f10.results.toList Q) (argsF []) w | none => False) = V10  w Q := by kernel_rfl
theorem V10_sound  (w : World) (Q : Value → World → Prop) (h : V10  w Q) : Calls Tryz.prog 10 #[] w fun e w' => ∃ v, e = .returned v ∧ Q v w' :=
  sound_of Tryz.func10 V10_ann rfl ((V10_eq  w Q).mpr h)

def V11J1 (Q : Value → World → Prop) (x38 : Addr) (w39 : World) : Prop :=
newK w39 #[.iface 85 (.agg #[]), .iface 87 (.agg #[.bool false]), .iface 87 (.agg #[.bool true])] 77 fun a40 w41 =>
∃ (I42 : Int → World → Prop) (μ43 : Int → World → Nat), I42 0 w41 ∧ ∀ (j46 : Fr) (i44 : Int) (w45 : World), I42 i44 w45 →
bsel (decide (i44 < (3 : Int))) (
idxK (some a40) 3 i44 1 fun a47 =>
∃ t48 : Value, w45.cell? a47 = some (t48) ∧
∃ t49 : Option Addr, w45.cell? (x38.add 6) = some (.pointer t49) ∧
Calls Tryz.prog 38 #[.pointer t49, t48] w45 fun e50 w51 => ∃ t52 : Int, e50 = .returned (.int .i64 t52) ∧
(I42 (IntKind.wrap .i64 (i44 + 1)) w51 ∧ μ43 (IntKind.wrap .i64 (i44 + 1)) w51 < μ43 i44 w45)) (
Q (.tuple #[.pointer (some x38), .int .i64 0]) w45)

def V11J2 (Q : Value → World → Prop) (x14 : Option Addr) (x15 : Addr) (x16 : Bool) (w17 : World) : Prop :=
bsel x16 (
Q (.tuple #[.pointer none, .int .i64 1]) w17) (
∃ t18 : Int, ∃ t19 : Int, ∃ t20 : Int, ∃ t21 : Option Addr, ∃ t22 : Nat, ∃ t23 : Nat, ∃ t24 : Option Addr, ∃ t25 : Nat, ∃ t26 : Nat, CellsAt w17.drew x15 [.int .i64 t18, .int .i64 t19, .int .i64 t20, .slice t21 t22 t23, .slice t24 t25 t26] ∧
∃ t27 : Option Addr, ∃ t28 : Nat, ∃ t29 : Nat, w17.drew.cell? (x15.add 4) = some (.slice t27 t28 t29) ∧
Calls Tryz.prog 36 #[] w17.drew fun e30 w31 => ∃ t32 : Option Addr, e30 = .returned (.pointer t32) ∧
(w31.cell? (x15.add 4) = some (.slice t27 t28 t29)) ∧
(CellsAt w31 x15 [.int .i64 t18, .int .i64 t19, .int .i64 t20, .slice t21 t22 t23, .slice t24 t25 t26]) ∧
Calls Tryz.prog 37 #[.slice t27 t28 t29] w31 fun e33 w34 => ∃ t35 : Option Addr, e33 = .returned (.pointer t35) ∧
(CellsAt w34 x15 [.int .i64 t18, .int .i64 t19, .int .i64 t20, .slice t21 t22 t23, .slice t24 t25 t26]) ∧
newK w34 #[.int .i64 t18, .int .i64 t19, .int .i64 t20, .slice t21 t22 t23, .slice t24 t25 t26, .pointer x14, .pointer t32, .int .i64 0, .int .i64 0, .int .i64 0, .pointer t35, .bool false] 81 fun a36 w37 =>
V11J1 Q a36 w37)

def V11 (x1 : Int) (x2 : Int) (x3 : Int) (x4 : Option Addr) (x5 : Nat) (x6 : Nat) (x7 : Option Addr) (x8 : Nat) (x9 : Nat) (x10 : Option Addr) (w : World) (Q : Value → World → Prop) : Prop :=
newK w #[.int .i64 x1, .int .i64 x2, .int .i64 x3, .slice x4 x5 x6, .slice x7 x8 x9] 32 fun a11 w12 =>
∃ t13 : Int, w12.cell? (a11.add 0) = some (.int .i64 t13) ∧
bsel (decide (t13 < 0)) (
V11J2 Q x10 a11 true w12) (
∃ t53 : Int, w12.cell? (a11.add 0) = some (.int .i64 t53) ∧
bsel (decide (t53 > 100000)) (
V11J2 Q x10 a11 true w12) (
∃ t54 : Int, w12.cell? (a11.add 1) = some (.int .i64 t54) ∧
bsel (decide (t54 < 0)) (
V11J2 Q x10 a11 true w12) (
∃ t55 : Int, w12.cell? (a11.add 1) = some (.int .i64 t55) ∧
bsel (decide (t55 > 65536)) (
V11J2 Q x10 a11 true w12) (
∃ t56 : Int, w12.cell? (a11.add 2) = some (.int .i64 t56) ∧
bsel (decide (t56 < 0)) (
V11J2 Q x10 a11 true w12) (
∃ t57 : Int, w12.cell? (a11.add 2) = some (.int .i64 t57) ∧
V11J2 Q x10 a11 (decide (t57 > 256)) w12)))))

def V11_ann : Nat → Ann := fun k => match k with | 0 => ⟨[6, 51, 52], [(53, .int .i64)]⟩ | _ => ⟨[], []⟩
theorem V11_eq (x1 : Int) (x2 : Int) (x3 : Int) (x4 : Option Addr) (x5 : Nat) (x6 : Nat) (x7 : Option Addr) (x8 : Nat) (x9 : Nat) (x10 : Option Addr) (w : World) (Q : Value → World → Prop) : (match Tryz.f11.body with | some c => wpC Tryz.prog Tryz.f11.ntmps V11_ann c 0 (resQ Tryz.prog Tryz.f11.ntmps Tryz.f11.results.toList Q) (argsF [.agg #[.int .i64 x1, .int .i64 x2, .int .i64 x3, .slice x4 x5 x6, .slice x7 x8 x9], .pointer x10]) w | none => False) = V11 x1 x2 x3 x4 x5 x6 x7 x8 x9 x10 w Q := by kernel_rfl
theorem V11_sound (x1 : Int) (x2 : Int) (x3 : Int) (x4 : Option Addr) (x5 : Nat) (x6 : Nat) (x7 : Option Addr) (x8 : Nat) (x9 : Nat) (x10 : Option Addr) (w : World) (Q : Value → World → Prop) (h : V11 x1 x2 x3 x4 x5 x6 x7 x8 x9 x10 w Q) : Calls Tryz.prog 11 #[.agg #[.int .i64 x1, .int .i64 x2, .int .i64 x3, .slice x4 x5 x6, .slice x7 x8 x9], .pointer x10] w fun e w' => ∃ v, e = .returned v ∧ Q v w' :=
  sound_of Tryz.func11 V11_ann rfl ((V11_eq x1 x2 x3 x4 x5 x6 x7 x8 x9 x10 w Q).mpr h)

def V12 (x1 : Int) (x2 : Int) (w : World) (Q : Value → World → Prop) : Prop :=
newK w #[.int .i64 0, .int .i64 0, .int .i64 0, .slice none 0 0, .slice none 0 0] 32 fun a3 w4 =>
stK w4 (a3.add 0) (.int .i64 0) fun w5 =>
stK w5 (a3.add 1) (.int .i64 x1) fun w6 =>
stK w6 (a3.add 2) (.int .i64 x2) fun w7 =>
stK w7 (a3.add 3) (.slice none 0 0) fun w8 =>
stK w8 (a3.add 4) (.slice none 0 0) fun w9 =>
∃ t10 : Int, ∃ t11 : Int, ∃ t12 : Int, ∃ t13 : Option Addr, ∃ t14 : Nat, ∃ t15 : Nat, ∃ t16 : Option Addr, ∃ t17 : Nat, ∃ t18 : Nat, CellsAt w9 a3 [.int .i64 t10, .int .i64 t11, .int .i64 t12, .slice t13 t14 t15, .slice t16 t17 t18] ∧
Q (.agg #[.int .i64 t10, .int .i64 t11, .int .i64 t12, .slice t13 t14 t15, .slice t16 t17 t18]) w9

def V12_ann : Nat → Ann := fun _ => ⟨[], []⟩
theorem V12_eq (x1 : Int) (x2 : Int) (w : World) (Q : Value → World → Prop) : (match Tryz.f12.body with | some c => wpC Tryz.prog Tryz.f12.ntmps V12_ann c 0 (resQ Tryz.prog Tryz.f12.ntmps Tryz.f12.results.toList Q) (argsF [.int .i64 x1, .int .i64 x2]) w | none => False) = V12 x1 x2 w Q := by kernel_rfl
theorem V12_sound (x1 : Int) (x2 : Int) (w : World) (Q : Value → World → Prop) (h : V12 x1 x2 w Q) : Calls Tryz.prog 12 #[.int .i64 x1, .int .i64 x2] w fun e w' => ∃ v, e = .returned v ∧ Q v w' :=
  sound_of Tryz.func12 V12_ann rfl ((V12_eq x1 x2 w Q).mpr h)

def V13 (x1 : Option Addr) (x2 : Option Addr) (x3 : Nat) (x4 : Nat) (w : World) (Q : Value → World → Prop) : Prop :=
bsel (Option.isNone x1) (
Q (.tuple #[.slice none 0 0, .int .i64 1]) w) (
newK w #[.pointer x1, .slice x2 x3 x4, .slice none 0 0] 92 fun a5 w6 =>
∃ (I7 : Int → World → Prop) (μ8 : Int → World → Nat), I7 0 w6 ∧ ∀ (j11 : Fr) (i9 : Int) (w10 : World), I7 i9 w10 →
bsel (decide (i9 < (x3 : Int))) (
Calls Tryz.prog 39 #[.pointer (some a5), .int .i64 i9] w10 fun e12 w13 => ∃ t14 : Int, e12 = .returned (.int .i64 t14) ∧
bsel (t14 != 0) (
Q (.tuple #[.slice none 0 0, .int .i64 t14]) w13) (
(I7 (IntKind.wrap .i64 (i9 + 1)) w13 ∧ μ8 (IntKind.wrap .i64 (i9 + 1)) w13 < μ8 i9 w10))) (
∃ (I15 : Int → World → Prop) (μ16 : Int → World → Nat), I15 0 w10 ∧ ∀ (j19 : Fr) (i17 : Int) (w18 : World), I15 i17 w18 →
bsel (decide (i17 < (x3 : Int))) (
idxK x2 x3 i17 8 fun a20 =>
∃ t21 : Int, ∃ t22 : Bool, ∃ t23 : Bool, ∃ t24 : Option Addr, ∃ t25 : Nat, ∃ t26 : Nat, ∃ t27 : ByteArray, ∃ t28 : Option Addr, ∃ t29 : Nat, ∃ t30 : Nat, ∃ t31 : Bool, ∃ t32 : Bool, CellsAt w18 a20 [.int .i64 t21, .bool t22, .bool t23, .slice t24 t25 t26, .string t27, .slice t28 t29 t30, .bool t31, .bool t32] ∧
newK w18 #[.int .i64 0, .bool false, .bool false, .slice none 0 0, .string ⟨#[]⟩, .slice none 0 0, .bool false, .bool false] 42 fun a33 w34 =>
stK w34 (a33.add 0) (.int .i64 t21) fun w35 =>
stK w35 (a33.add 1) (.bool t22) fun w36 =>
stK w36 (a33.add 2) (.bool t23) fun w37 =>
stK w37 (a33.add 3) (.slice t24 t25 t26) fun w38 =>
stK w38 (a33.add 4) (.string t27) fun w39 =>
stK w39 (a33.add 5) (.slice t28 t29 t30) fun w40 =>
stK w40 (a33.add 6) (.bool t31) fun w41 =>
stK w41 (a33.add 7) (.bool t32) fun w42 =>
∃ t43 : Option Addr, ∃ t44 : Nat, ∃ t45 : Nat, w42.drew.cell? (a5.add 2) = some (.slice t43 t44 t45) ∧
∃ t46 : Int, ∃ t47 : Bool, ∃ t48 : Bool, ∃ t49 : Option Addr, ∃ t50 : Nat, ∃ t51 : Nat, ∃ t52 : ByteArray, ∃ t53 : Option Addr, ∃ t54 : Nat, ∃ t55 : Nat, ∃ t56 : Bool, ∃ t57 : Bool, CellsAt w42.drew a33 [.int .i64 t46, .bool t47, .bool t48, .slice t49 t50 t51, .string t52, .slice t53 t54 t55, .bool t56, .bool t57] ∧
Calls Tryz.prog 40 #[.pointer (some a5), .agg #[.int .i64 t46, .bool t47, .bool t48, .slice t49 t50 t51, .string t52, .slice t53 t54 t55, .bool t56, .bool t57]] w42.drew fun e58 w59 => ∃ t60 : Int, e58 = .returned (.int .i64 t60) ∧
(w59.cell? (a5.add 2) = some (.slice t43 t44 t45)) ∧
newK w59 #[.int .i64 t60] 3 fun a61 w62 =>
(w62.cell? (a5.add 2) = some (.slice t43 t44 t45)) ∧
∃ w63 : World, ∃ t64 : Option Addr, ∃ t65 : Nat, ∃ t66 : Nat, (vcEff.bltV .append #[30, 30] 30 #[.slice t43 t44 t45, .slice (some a61) 1 1]).run Tryz.prog w62 = .ok (.slice t64 t65 t66) w63 ∧
stK w63 (a5.add 2) (.slice t64 t65 t66) fun w67 =>
(I15 (IntKind.wrap .i64 (i17 + 1)) w67 ∧ μ16 (IntKind.wrap .i64 (i17 + 1)) w67 < μ16 i17 w18)) (
∃ (I79 : Int → World → Prop) (μ80 : Int → World → Nat), I79 0 w18 ∧ ∀ (j83 : Fr) (i81 : Int) (w82 : World), I79 i81 w82 →
bsel (decide (i81 < (x3 : Int))) (
idxK x2 x3 i81 8 fun a84 =>
∃ t85 : Int, ∃ t86 : Bool, ∃ t87 : Bool, ∃ t88 : Option Addr, ∃ t89 : Nat, ∃ t90 : Nat, ∃ t91 : ByteArray, ∃ t92 : Option Addr, ∃ t93 : Nat, ∃ t94 : Nat, ∃ t95 : Bool, ∃ t96 : Bool, CellsAt w82 a84 [.int .i64 t85, .bool t86, .bool t87, .slice t88 t89 t90, .string t91, .slice t92 t93 t94, .bool t95, .bool t96] ∧
newK w82 #[.int .i64 0, .bool false, .bool false, .slice none 0 0, .string ⟨#[]⟩, .slice none 0 0, .bool false, .bool false] 42 fun a97 w98 =>
stK w98 (a97.add 0) (.int .i64 t85) fun w99 =>
stK w99 (a97.add 1) (.bool t86) fun w100 =>
stK w100 (a97.add 2) (.bool t87) fun w101 =>
stK w101 (a97.add 3) (.slice t88 t89 t90) fun w102 =>
stK w102 (a97.add 4) (.string t91) fun w103 =>
stK w103 (a97.add 5) (.slice t92 t93 t94) fun w104 =>
stK w104 (a97.add 6) (.bool t95) fun w105 =>
stK w105 (a97.add 7) (.bool t96) fun w106 =>
∃ t107 : Option Addr, ∃ t108 : Nat, ∃ t109 : Nat, w106.cell? (a5.add 2) = some (.slice t107 t108 t109) ∧
idxK t107 t108 i81 1 fun a110 =>
∃ t111 : Int, w106.cell? a110 = some (.int .i64 t111) ∧
Calls Tryz.prog 41 #[.pointer x1, .int .i64 t111] w106 fun e112 w113 => ∃ t114 : Value, e112 = .returned (t114) ∧
∃ t115 : Option Addr, ∃ t116 : Bool, (∀ w : World, (Instr.typeAssert t114 77 94 true).run Tryz.prog w = .ok (.tuple #[.pointer t115, .bool t116]) w) ∧
bsel t116 (
∃ t117 : Option Addr, ∃ t118 : Nat, ∃ t119 : Nat, w113.cell? (a97.add 5) = some (.slice t117 t118 t119) ∧
∃ (I120 : Int → World → Prop) (μ121 : Int → World → Nat), I120 0 w113 ∧ ∀ (j124 : Fr) (i122 : Int) (w123 : World), I120 i122 w123 →
bsel (decide (i122 < (t118 : Int))) (
idxK t117 t118 i122 1 fun a125 =>
∃ t126 : Int, w123.cell? a125 = some (.int .i64 t126) ∧
nilK t115 fun a127 =>
∃ t128 : Option Addr, ∃ t129 : Nat, ∃ t130 : Nat, w123.drew.cell? (a127.add 1) = some (.slice t128 t129 t130) ∧
∃ t131 : Option Addr, ∃ t132 : Nat, ∃ t133 : Nat, w123.drew.cell? (a5.add 2) = some (.slice t131 t132 t133) ∧
idxK t131 t132 t126 1 fun a134 =>
∃ t135 : Int, w123.drew.cell? a134 = some (.int .i64 t135) ∧
idxK t128 t129 i122 1 fun a136 =>
stK w123.drew a136 (.int .i64 t135) fun w137 =>
(I120 (IntKind.wrap .i64 (i122 + 1)) w137 ∧ μ121 (IntKind.wrap .i64 (i122 + 1)) w137 < μ121 i122 w123)) (
(I79 (IntKind.wrap .i64 (i81 + 1)) w123 ∧ μ80 (IntKind.wrap .i64 (i81 + 1)) w123 < μ80 i81 w82))) (
(I79 (IntKind.wrap .i64 (i81 + 1)) w113 ∧ μ80 (IntKind.wrap .i64 (i81 + 1)) w113 < μ80 i81 w82))) (
∃ t146 : Option Addr, ∃ t147 : Nat, ∃ t148 : Nat, w82.drew.cell? (a5.add 2) = some (.slice t146 t147 t148) ∧
∃ t149 : Option Addr, ∃ t150 : Nat, ∃ t151 : Nat, w82.drew.cell? (a5.add 2) = some (.slice t149 t150 t151) ∧
∃ w152 : World, ∃ t153 : Option Addr, ∃ t154 : Nat, ∃ t155 : Nat, (Instr.makeSlice 30 (.int .i64 0) (.int .i64 (t147 : Int))).run Tryz.prog w82.drew = .ok (.slice t153 t154 t155) w152 ∧
(w152.cell? (a5.add 2) = some (.slice t149 t150 t151)) ∧
∃ w156 : World, ∃ t157 : Option Addr, ∃ t158 : Nat, ∃ t159 : Nat, (vcEff.bltV .append #[30, 30] 30 #[.slice t153 t154 t155, .slice t149 t150 t151]).run Tryz.prog w152 = .ok (.slice t157 t158 t159) w156 ∧
Q (.tuple #[.slice t157 t158 t159, .int .i64 0]) w156))))

def V13_ann : Nat → Ann := fun k => match k with | 0 => ⟨[0, 1, 6, 24], [(25, .int .i64)]⟩ | 1 => ⟨[0, 1, 6, 35, 36], [(37, .int .i64)]⟩ | 2 => ⟨[0, 6, 54, 55], [(56, .int .i64)]⟩ | 3 => ⟨[0, 6, 13, 54, 55, 56, 76, 77], [(78, .int .i64)]⟩ | _ => ⟨[], []⟩
theorem V13_eq (x1 : Option Addr) (x2 : Option Addr) (x3 : Nat) (x4 : Nat) (w : World) (Q : Value → World → Prop) : (match Tryz.f13.body with | some c => wpC Tryz.prog Tryz.f13.ntmps V13_ann c 0 (resQ Tryz.prog Tryz.f13.ntmps Tryz.f13.results.toList Q) (argsF [.pointer x1, .slice x2 x3 x4]) w | none => False) = V13 x1 x2 x3 x4 w Q := by kernel_rfl
theorem V13_sound (x1 : Option Addr) (x2 : Option Addr) (x3 : Nat) (x4 : Nat) (w : World) (Q : Value → World → Prop) (h : V13 x1 x2 x3 x4 w Q) : Calls Tryz.prog 13 #[.pointer x1, .slice x2 x3 x4] w fun e w' => ∃ v, e = .returned v ∧ Q v w' :=
  sound_of Tryz.func13 V13_ann rfl ((V13_eq x1 x2 x3 x4 w Q).mpr h)

def V14 (x1 : Option Addr) (w : World) (Q : Value → World → Prop) : Prop :=
bsel (Option.isNone x1) (
Q (.int .i64 0) w) (
nilK x1 fun a2 =>
∃ t3 : Int, w.cell? (a2.add 8) = some (.int .i64 t3) ∧
Q (.int .i64 t3) w)

def V14_ann : Nat → Ann := fun _ => ⟨[], []⟩
theorem V14_eq (x1 : Option Addr) (w : World) (Q : Value → World → Prop) : (match Tryz.f14.body with | some c => wpC Tryz.prog Tryz.f14.ntmps V14_ann c 0 (resQ Tryz.prog Tryz.f14.ntmps Tryz.f14.results.toList Q) (argsF [.pointer x1]) w | none => False) = V14 x1 w Q := by kernel_rfl
theorem V14_sound (x1 : Option Addr) (w : World) (Q : Value → World → Prop) (h : V14 x1 w Q) : Calls Tryz.prog 14 #[.pointer x1] w fun e w' => ∃ v, e = .returned v ∧ Q v w' :=
  sound_of Tryz.func14 V14_ann rfl ((V14_eq x1 w Q).mpr h)

def V15 (x1 : Option Addr) (x2 : Int) (w : World) (Q : Value → World → Prop) : Prop :=
Calls Tryz.prog 41 #[.pointer x1, .int .i64 x2] w fun e3 w4 => ∃ t5 : Value, e3 = .returned (t5) ∧
eqNilI t5 fun b6 =>
bsel (!b6) (
InvK Tryz.prog t5 "lexicon/store.numbered" #[] w4 fun e7 w8 => ∃ t9 : Int, e7 = .returned (.int .i64 t9) ∧
Q (.int .i64 t9) w8) (
Q (.int .i64 0) w4)

def V15_ann : Nat → Ann := fun _ => ⟨[], []⟩
theorem V15_eq (x1 : Option Addr) (x2 : Int) (w : World) (Q : Value → World → Prop) : (match Tryz.f15.body with | some c => wpC Tryz.prog Tryz.f15.ntmps V15_ann c 0 (resQ Tryz.prog Tryz.f15.ntmps Tryz.f15.results.toList Q) (argsF [.pointer x1, .int .i64 x2]) w | none => False) = V15 x1 x2 w Q := by kernel_rfl
theorem V15_sound (x1 : Option Addr) (x2 : Int) (w : World) (Q : Value → World → Prop) (h : V15 x1 x2 w Q) : Calls Tryz.prog 15 #[.pointer x1, .int .i64 x2] w fun e w' => ∃ v, e = .returned v ∧ Q v w' :=
  sound_of Tryz.func15 V15_ann rfl ((V15_eq x1 x2 w Q).mpr h)

def V16J1 (w : World) (Q : Value → World → Prop) (x40 : Option Addr) (x41 : Int) (x42 : Int) (x43 : Value) (x44 : Value) (x45 : Addr) (x46 : Addr) (x47 : Bool) (w48 : World) : Prop :=
bsel x47 (
∃ t49 : Bool, ∃ t50 : Option Addr, ∃ t51 : Nat, ∃ t52 : Nat, CellsAt w48 x45 [.bool t49, .slice t50 t51 t52] ∧
∃ t53 : Bool, ∃ t54 : Option Addr, ∃ t55 : Nat, ∃ t56 : Nat, CellsAt w48 x46 [.bool t53, .slice t54 t55 t56] ∧
Calls Tryz.prog 43 #[.agg #[.bool t49, .slice t50 t51 t52], .agg #[.bool t53, .slice t54 t55 t56]] w48 fun e57 w58 => ∃ t59 : Int, e57 = .returned (.int .i64 t59) ∧
Q (.bool (t59 == 0)) w58) (
∃ t60 : Int, ∃ t61 : ByteArray, ∃ t62 : Bool, (∀ w : World, (Instr.typeAssert x43 77 105 true).run Tryz.prog w = .ok (.tuple #[.agg #[.int .i64 t60, .string t61], .bool t62]) w) ∧
newK w48 #[.int .i64 0, .string ⟨#[]⟩] 105 fun a63 w64 =>
stK w64 (a63.add 0) (.int .i64 t60) fun w65 =>
stK w65 (a63.add 1) (.string t61) fun w66 =>
bsel t62 (
∃ t67 : Int, ∃ t68 : ByteArray, CellsAt w66 a63 [.int .i64 t67, .string t68] ∧
∃ b69 : Bool, (∀ w : World, (eqSem .eql 77 (.tmp 61) (.tmp 62) (.iface 105 (.agg #[.int .i64 t67, .string t68])) x44).run Tryz.prog w = .ok (.bool b69) w) ∧
Q (.bool b69) w66) (
Calls Tryz.prog 44 #[.pointer x40, .int .i64 x41] w66 fun e70 w71 => ∃ t72 : ByteArray, ∃ t73 : Bool, e70 = .returned (.tuple #[.string t72, .bool t73]) ∧
Calls Tryz.prog 44 #[.pointer x40, .int .i64 x42] w71 fun e74 w75 => ∃ t76 : ByteArray, ∃ t77 : Bool, e74 = .returned (.tuple #[.string t76, .bool t77]) ∧
bsel t73 (
bsel t77 (
bsel (t72.toList == t76.toList) (
Q (.bool true) w75) (
InvK Tryz.prog x43 "Kind" #[] w75 fun e80 w81 => ∃ t82 : Int, e80 = .returned (.int .i64 t82) ∧
bsel (t82 == 1) (
InvK Tryz.prog x44 "Kind" #[] w81 fun e83 w84 => ∃ t85 : Int, e83 = .returned (.int .i64 t85) ∧
Q (.bool (t85 == 1)) w84) (
Q (.bool false) w81))) (
InvK Tryz.prog x43 "Kind" #[] w75 fun e86 w87 => ∃ t88 : Int, e86 = .returned (.int .i64 t88) ∧
bsel (t88 == 1) (
InvK Tryz.prog x44 "Kind" #[] w87 fun e89 w90 => ∃ t91 : Int, e89 = .returned (.int .i64 t91) ∧
Q (.bool (t91 == 1)) w90) (
Q (.bool false) w87))) (
InvK Tryz.prog x43 "Kind" #[] w75 fun e92 w93 => ∃ t94 : Int, e92 = .returned (.int .i64 t94) ∧
bsel (t94 == 1) (
InvK Tryz.prog x44 "Kind" #[] w93 fun e95 w96 => ∃ t97 : Int, e95 = .returned (.int .i64 t97) ∧
Q (.bool (t97 == 1)) w96) (
Q (.bool false) w93))))

def V16J2 (w : World) (Q : Value → World → Prop) (x11 : Option Addr) (x12 : Int) (x13 : Int) (x14 : Value) (x15 : Value) (x16 : Bool) (w17 : World) : Prop :=
bsel x16 (
Q (.bool false) w17) (
bsel (x12 == x13) (
Q (.bool true) w17) (
Calls Tryz.prog 42 #[.pointer x11, .int .i64 x12] w17 fun e18 w19 => ∃ t20 : Bool, ∃ t21 : Option Addr, ∃ t22 : Nat, ∃ t23 : Nat, ∃ t24 : Bool, e18 = .returned (.tuple #[.agg #[.bool t20, .slice t21 t22 t23], .bool t24]) ∧
newK w19 #[.bool false, .slice none 0 0] 40 fun a25 w26 =>
stK w26 (a25.add 0) (.bool t20) fun w27 =>
stK w27 (a25.add 1) (.slice t21 t22 t23) fun w28 =>
Calls Tryz.prog 42 #[.pointer x11, .int .i64 x13] w28 fun e29 w30 => ∃ t31 : Bool, ∃ t32 : Option Addr, ∃ t33 : Nat, ∃ t34 : Nat, ∃ t35 : Bool, e29 = .returned (.tuple #[.agg #[.bool t31, .slice t32 t33 t34], .bool t35]) ∧
newK w30 #[.bool false, .slice none 0 0] 40 fun a36 w37 =>
stK w37 (a36.add 0) (.bool t31) fun w38 =>
stK w38 (a36.add 1) (.slice t32 t33 t34) fun w39 =>
bsel t24 (
V16J1 w Q x11 x12 x13 x14 x15 a25 a36 t35 w39) (
V16J1 w Q x11 x12 x13 x14 x15 a25 a36 false w39)))

def V16 (x1 : Option Addr) (x2 : Int) (x3 : Int) (w : World) (Q : Value → World → Prop) : Prop :=
Calls Tryz.prog 41 #[.pointer x1, .int .i64 x2] w fun e4 w5 => ∃ t6 : Value, e4 = .returned (t6) ∧
Calls Tryz.prog 41 #[.pointer x1, .int .i64 x3] w5 fun e7 w8 => ∃ t9 : Value, e7 = .returned (t9) ∧
eqNilI t6 fun b10 =>
bsel b10 (
V16J2 w Q x1 x2 x3 t6 t9 true w8) (
eqNilI t9 fun b98 =>
V16J2 w Q x1 x2 x3 t6 t9 b98 w8)

def V16_ann : Nat → Ann := fun _ => ⟨[], []⟩
theorem V16_eq (x1 : Option Addr) (x2 : Int) (x3 : Int) (w : World) (Q : Value → World → Prop) : (match Tryz.f16.body with | some c => wpC Tryz.prog Tryz.f16.ntmps V16_ann c 0 (resQ Tryz.prog Tryz.f16.ntmps Tryz.f16.results.toList Q) (argsF [.pointer x1, .int .i64 x2, .int .i64 x3]) w | none => False) = V16 x1 x2 x3 w Q := by kernel_rfl
theorem V16_sound (x1 : Option Addr) (x2 : Int) (x3 : Int) (w : World) (Q : Value → World → Prop) (h : V16 x1 x2 x3 w Q) : Calls Tryz.prog 16 #[.pointer x1, .int .i64 x2, .int .i64 x3] w fun e w' => ∃ v, e = .returned v ∧ Q v w' :=
  sound_of Tryz.func16 V16_ann rfl ((V16_eq x1 x2 x3 w Q).mpr h)

def V17 (x1 : Option Addr) (x2 : Int) (x3 : Int) (w : World) (Q : Value → World → Prop) : Prop :=
Calls Tryz.prog 45 #[.pointer x1, .int .i64 x2] w fun e4 w5 => ∃ t6 : Int, e4 = .returned (.int .i64 t6) ∧
Calls Tryz.prog 45 #[.pointer x1, .int .i64 x3] w5 fun e7 w8 => ∃ t9 : Int, e7 = .returned (.int .i64 t9) ∧
bsel (t6 == t9) (
Calls Tryz.prog 16 #[.pointer x1, .int .i64 x2, .int .i64 x3] w8 fun e10 w11 => ∃ t12 : Bool, e10 = .returned (.bool t12) ∧
Q (.bool t12) w11) (
Q (.bool false) w8)

def V17_ann : Nat → Ann := fun _ => ⟨[], []⟩
theorem V17_eq (x1 : Option Addr) (x2 : Int) (x3 : Int) (w : World) (Q : Value → World → Prop) : (match Tryz.f17.body with | some c => wpC Tryz.prog Tryz.f17.ntmps V17_ann c 0 (resQ Tryz.prog Tryz.f17.ntmps Tryz.f17.results.toList Q) (argsF [.pointer x1, .int .i64 x2, .int .i64 x3]) w | none => False) = V17 x1 x2 x3 w Q := by kernel_rfl
theorem V17_sound (x1 : Option Addr) (x2 : Int) (x3 : Int) (w : World) (Q : Value → World → Prop) (h : V17 x1 x2 x3 w Q) : Calls Tryz.prog 17 #[.pointer x1, .int .i64 x2, .int .i64 x3] w fun e w' => ∃ v, e = .returned v ∧ Q v w' :=
  sound_of Tryz.func17 V17_ann rfl ((V17_eq x1 x2 x3 w Q).mpr h)

def V33 (x1 : Option Addr) (x2 : Int) (w : World) (Q : Value → World → Prop) : Prop :=
Calls Tryz.prog 41 #[.pointer x1, .int .i64 x2] w fun e3 w4 => ∃ t5 : Value, e3 = .returned (t5) ∧
∃ t6 : ByteArray, ∃ t7 : Bool, (∀ w : World, (Instr.typeAssert t5 77 160 true).run Tryz.prog w = .ok (.tuple #[.agg #[.string t6], .bool t7]) w) ∧
bsel t7 (
newK w4 #[.string ⟨#[]⟩] 160 fun a8 w9 =>
stK w9 (a8.add 0) (.string t6) fun w10 =>
∃ t11 : ByteArray, w10.cell? (a8.add 0) = some (.string t11) ∧
Calls Tryz.prog 71 #[.string t11] w10 fun e12 w13 => ∃ t14 : Int, e12 = .returned (.int .i64 t14) ∧
Q (.tuple #[.int .i64 t14, .int .i64 0]) w13) (
∃ t15 : Option Addr, ∃ t16 : Bool, (∀ w : World, (Instr.typeAssert t5 77 94 true).run Tryz.prog w = .ok (.tuple #[.pointer t15, .bool t16]) w) ∧
bsel t16 (
nilK t15 fun a17 =>
∃ t18 : Option Addr, ∃ t19 : Nat, ∃ t20 : Nat, w4.cell? (a17.add 1) = some (.slice t18 t19 t20) ∧
Q (.tuple #[.int .i64 (t19 : Int), .int .i64 0]) w4) (
∃ t21 : Option Addr, ∃ t22 : Bool, (∀ w : World, (Instr.typeAssert t5 77 111 true).run Tryz.prog w = .ok (.tuple #[.pointer t21, .bool t22]) w) ∧
bsel t22 (
nilK t21 fun a23 =>
∃ t24 : Option Addr, w4.cell? (a23.add 1) = some (.pointer t24) ∧
Calls Tryz.prog 72 #[.pointer t24] w4 fun e25 w26 => ∃ t27 : Int, e25 = .returned (.int .i64 t27) ∧
Q (.tuple #[.int .i64 t27, .int .i64 0]) w26) (
∃ t28 : Option Addr, ∃ t29 : Bool, (∀ w : World, (Instr.typeAssert t5 77 162 true).run Tryz.prog w = .ok (.tuple #[.pointer t28, .bool t29]) w) ∧
bsel t29 (
nilK t28 fun a30 =>
∃ t31 : Int, w4.cell? (a30.add 1) = some (.int .i64 t31) ∧
Calls Tryz.prog 41 #[.pointer x1, .int .i64 t31] w4 fun e32 w33 => ∃ t34 : Value, e32 = .returned (t34) ∧
∃ t35 : Option Addr, ∃ t36 : Bool, (∀ w : World, (Instr.typeAssert t34 77 163 true).run Tryz.prog w = .ok (.tuple #[.pointer t35, .bool t36]) w) ∧
bsel t36 (
nilK t35 fun a37 =>
∃ t38 : Option Addr, w33.cell? (a37.add 1) = some (.pointer t38) ∧
Calls Tryz.prog 73 #[.pointer t38] w33 fun e39 w40 => ∃ t41 : Int, e39 = .returned (.int .i64 t41) ∧
Q (.tuple #[.int .i64 t41, .int .i64 0]) w40) (
nilK t28 fun a42 =>
∃ t43 : Int, w33.cell? (a42.add 1) = some (.int .i64 t43) ∧
Calls Tryz.prog 74 #[.pointer x1, .int .i64 t43] w33 fun e44 w45 => ∃ t46 : Option Addr, e44 = .returned (.pointer t46) ∧
Calls Tryz.prog 72 #[.pointer t46] w45 fun e47 w48 => ∃ t49 : Int, e47 = .returned (.int .i64 t49) ∧
Q (.tuple #[.int .i64 t49, .int .i64 0]) w48)) (
Q (.tuple #[.int .i64 0, .int .i64 12]) w4))))

def V33_ann : Nat → Ann := fun _ => ⟨[], []⟩
theorem V33_eq (x1 : Option Addr) (x2 : Int) (w : World) (Q : Value → World → Prop) : (match Tryz.f33.body with | some c => wpC Tryz.prog Tryz.f33.ntmps V33_ann c 0 (resQ Tryz.prog Tryz.f33.ntmps Tryz.f33.results.toList Q) (argsF [.pointer x1, .int .i64 x2]) w | none => False) = V33 x1 x2 w Q := by kernel_rfl
theorem V33_sound (x1 : Option Addr) (x2 : Int) (w : World) (Q : Value → World → Prop) (h : V33 x1 x2 w Q) : Calls Tryz.prog 33 #[.pointer x1, .int .i64 x2] w fun e w' => ∃ v, e = .returned v ∧ Q v w' :=
  sound_of Tryz.func33 V33_ann rfl ((V33_eq x1 x2 w Q).mpr h)

def V45 (x1 : Option Addr) (x2 : Int) (w : World) (Q : Value → World → Prop) : Prop :=
Calls Tryz.prog 41 #[.pointer x1, .int .i64 x2] w fun e3 w4 => ∃ t5 : Value, e3 = .returned (t5) ∧
eqNilI t5 fun b6 =>
bsel (!b6) (
InvK Tryz.prog t5 "Kind" #[] w4 fun e7 w8 => ∃ t9 : Int, e7 = .returned (.int .i64 t9) ∧
Q (.int .i64 t9) w8) (
Q (.int .i64 0) w4)

def V45_ann : Nat → Ann := fun _ => ⟨[], []⟩
theorem V45_eq (x1 : Option Addr) (x2 : Int) (w : World) (Q : Value → World → Prop) : (match Tryz.f45.body with | some c => wpC Tryz.prog Tryz.f45.ntmps V45_ann c 0 (resQ Tryz.prog Tryz.f45.ntmps Tryz.f45.results.toList Q) (argsF [.pointer x1, .int .i64 x2]) w | none => False) = V45 x1 x2 w Q := by kernel_rfl
theorem V45_sound (x1 : Option Addr) (x2 : Int) (w : World) (Q : Value → World → Prop) (h : V45 x1 x2 w Q) : Calls Tryz.prog 45 #[.pointer x1, .int .i64 x2] w fun e w' => ∃ v, e = .returned v ∧ Q v w' :=
  sound_of Tryz.func45 V45_ann rfl ((V45_eq x1 x2 w Q).mpr h)

def V34 (x1 : Option Addr) (x2 : Int) (w : World) (Q : Value → World → Prop) : Prop :=
Calls Tryz.prog 41 #[.pointer x1, .int .i64 x2] w fun e3 w4 => ∃ t5 : Value, e3 = .returned (t5) ∧
eqNilI t5 fun b6 =>
bsel b6 (
Q (.string (⟨#[]⟩ : ByteArray)) w4) (
∃ t7 : Bool, (∀ w : World, (Instr.typeAssert t5 77 85 true).run Tryz.prog w = .ok (.tuple #[.agg #[], .bool t7]) w) ∧
bsel t7 (
newK w4 #[] 85 fun a8 w9 =>
Q (.string (⟨#[78, 111, 110, 101]⟩ : ByteArray)) w9) (
∃ t10 : Bool, ∃ t11 : Bool, (∀ w : World, (Instr.typeAssert t5 77 87 true).run Tryz.prog w = .ok (.tuple #[.agg #[.bool t10], .bool t11]) w) ∧
bsel t11 (
newK w4 #[.bool false] 87 fun a12 w13 =>
stK w13 (a12.add 0) (.bool t10) fun w14 =>
∃ t15 : Bool, w14.cell? (a12.add 0) = some (.bool t15) ∧
bsel t15 (
Q (.string (⟨#[84, 114, 117, 101]⟩ : ByteArray)) w14) (
Q (.string (⟨#[70, 97, 108, 115, 101]⟩ : ByteArray)) w14)) (
∃ t16 : Bool, ∃ t17 : Option Addr, ∃ t18 : Nat, ∃ t19 : Nat, ∃ t20 : Bool, (∀ w : World, (Instr.typeAssert t5 77 172 true).run Tryz.prog w = .ok (.tuple #[.agg #[.bool t16, .slice t17 t18 t19], .bool t20]) w) ∧
bsel t20 (
newK w4 #[.bool false, .slice none 0 0] 172 fun a21 w22 =>
stK w22 (a21.add 0) (.bool t16) fun w23 =>
stK w23 (a21.add 1) (.slice t17 t18 t19) fun w24 =>
∃ t25 : Bool, ∃ t26 : Option Addr, ∃ t27 : Nat, ∃ t28 : Nat, CellsAt w24 (a21.add 0) [.bool t25, .slice t26 t27 t28] ∧
Calls Tryz.prog 75 #[.agg #[.bool t25, .slice t26 t27 t28]] w24 fun e29 w30 => ∃ t31 : ByteArray, e29 = .returned (.string t31) ∧
Q (.string t31) w30) (
∃ t32 : ByteArray, ∃ t33 : Bool, (∀ w : World, (Instr.typeAssert t5 77 160 true).run Tryz.prog w = .ok (.tuple #[.agg #[.string t32], .bool t33]) w) ∧
bsel t33 (
newK w4 #[.string ⟨#[]⟩] 160 fun a34 w35 =>
stK w35 (a34.add 0) (.string t32) fun w36 =>
∃ t37 : ByteArray, w36.cell? (a34.add 0) = some (.string t37) ∧
Calls Tryz.prog 76 #[.string t37] w36 fun e38 w39 => ∃ t40 : ByteArray, e38 = .returned (.string t40) ∧
Q (.string t40) w39) (
∃ t41 : Int, ∃ t42 : ByteArray, ∃ t43 : Bool, (∀ w : World, (Instr.typeAssert t5 77 105 true).run Tryz.prog w = .ok (.tuple #[.agg #[.int .i64 t41, .string t42], .bool t43]) w) ∧
bsel t43 (
newK w4 #[.int .i64 0, .string ⟨#[]⟩] 105 fun a44 w45 =>
stK w45 (a44.add 0) (.int .i64 t41) fun w46 =>
stK w46 (a44.add 1) (.string t42) fun w47 =>
∃ t48 : ByteArray, w47.cell? (a44.add 1) = some (.string t48) ∧
((((⟨#[60, 110, 97, 116, 105, 118, 101, 32]⟩ : ByteArray).size + t48.size : Nat) : Int) ≤ 9223372036854775807) ∧
(((((⟨#[60, 110, 97, 116, 105, 118, 101, 32]⟩ : ByteArray) ++ t48).size + (⟨#[62]⟩ : ByteArray).size : Nat) : Int) ≤ 9223372036854775807) ∧
Q (.string (((⟨#[60, 110, 97, 116, 105, 118, 101, 32]⟩ : ByteArray) ++ t48) ++ (⟨#[62]⟩ : ByteArray))) w47) (
InvK Tryz.prog t5 "lexicon/store.numbered" #[] w4 fun e49 w50 => ∃ t51 : Int, e49 = .returned (.int .i64 t51) ∧
Calls Tryz.prog 77 #[.int .i64 t51] w50 fun e52 w53 => ∃ t54 : ByteArray, e52 = .returned (.string t54) ∧
((((⟨#[35]⟩ : ByteArray).size + t54.size : Nat) : Int) ≤ 9223372036854775807) ∧
Q (.string ((⟨#[35]⟩ : ByteArray) ++ t54)) w53))))))

def V34_ann : Nat → Ann := fun _ => ⟨[], []⟩
theorem V34_eq (x1 : Option Addr) (x2 : Int) (w : World) (Q : Value → World → Prop) : (match Tryz.f34.body with | some c => wpC Tryz.prog Tryz.f34.ntmps V34_ann c 0 (resQ Tryz.prog Tryz.f34.ntmps Tryz.f34.results.toList Q) (argsF [.pointer x1, .int .i64 x2]) w | none => False) = V34 x1 x2 w Q := by kernel_rfl
theorem V34_sound (x1 : Option Addr) (x2 : Int) (w : World) (Q : Value → World → Prop) (h : V34 x1 x2 w Q) : Calls Tryz.prog 34 #[.pointer x1, .int .i64 x2] w fun e w' => ∃ v, e = .returned v ∧ Q v w' :=
  sound_of Tryz.func34 V34_ann rfl ((V34_eq x1 x2 w Q).mpr h)

def V35J1 (Q : Value → World → Prop) (x35 : Option Addr) (x36 : Int) (w37 : World) : Prop :=
Calls Tryz.prog 33 #[.pointer x35, .int .i64 x36] w37 fun e38 w39 => ∃ t40 : Int, ∃ t41 : Int, e38 = .returned (.tuple #[.int .i64 t40, .int .i64 t41]) ∧
bsel (t41 != 0) (
Q (.bool true) w39) (
Q (.bool (decide (t40 > 0))) w39)

def V35J2 (w : World) (Q : Value → World → Prop) (x8 : Option Addr) (x9 : Int) (x10 : Value) (x11 : Bool) (w12 : World) : Prop :=
bsel x11 (
Q (.bool false) w12) (
∃ t13 : Bool, ∃ t14 : Bool, (∀ w : World, (Instr.typeAssert x10 77 87 true).run Tryz.prog w = .ok (.tuple #[.agg #[.bool t13], .bool t14]) w) ∧
bsel t14 (
newK w12 #[.bool false] 87 fun a15 w16 =>
stK w16 (a15.add 0) (.bool t13) fun w17 =>
∃ t18 : Bool, w17.cell? (a15.add 0) = some (.bool t18) ∧
Q (.bool t18) w17) (
∃ t19 : Bool, ∃ t20 : Option Addr, ∃ t21 : Nat, ∃ t22 : Nat, ∃ t23 : Bool, (∀ w : World, (Instr.typeAssert x10 77 172 true).run Tryz.prog w = .ok (.tuple #[.agg #[.bool t19, .slice t20 t21 t22], .bool t23]) w) ∧
bsel t23 (
newK w12 #[.bool false, .slice none 0 0] 172 fun a24 w25 =>
stK w25 (a24.add 0) (.bool t19) fun w26 =>
stK w26 (a24.add 1) (.slice t20 t21 t22) fun w27 =>
∃ t28 : Option Addr, ∃ t29 : Nat, ∃ t30 : Nat, w27.cell? ((a24.add 0).add 1) = some (.slice t28 t29 t30) ∧
Q (.bool (decide ((t29 : Int) > 0))) w27) (
∃ t31 : Option Addr, ∃ t32 : Bool, (∀ w : World, (Instr.typeAssert x10 77 162 true).run Tryz.prog w = .ok (.tuple #[.pointer t31, .bool t32]) w) ∧
bsel t32 (
nilK t31 fun a33 =>
∃ t34 : Int, w12.cell? (a33.add 2) = some (.int .i64 t34) ∧
bsel (t34 == 18) (
V35J1 Q x8 x9 w12) (
V35J1 Q x8 x9 w12)) (
V35J1 Q x8 x9 w12))))

def V35 (x1 : Option Addr) (x2 : Int) (w : World) (Q : Value → World → Prop) : Prop :=
Calls Tryz.prog 41 #[.pointer x1, .int .i64 x2] w fun e3 w4 => ∃ t5 : Value, e3 = .returned (t5) ∧
eqNilI t5 fun b6 =>
∃ t7 : Bool, (∀ w : World, (Instr.typeAssert t5 77 85 true).run Tryz.prog w = .ok (.tuple #[.agg #[], .bool t7]) w) ∧
bsel b6 (
V35J2 w Q x1 x2 t5 true w4) (
V35J2 w Q x1 x2 t5 t7 w4)

def V35_ann : Nat → Ann := fun _ => ⟨[], []⟩
theorem V35_eq (x1 : Option Addr) (x2 : Int) (w : World) (Q : Value → World → Prop) : (match Tryz.f35.body with | some c => wpC Tryz.prog Tryz.f35.ntmps V35_ann c 0 (resQ Tryz.prog Tryz.f35.ntmps Tryz.f35.results.toList Q) (argsF [.pointer x1, .int .i64 x2]) w | none => False) = V35 x1 x2 w Q := by kernel_rfl
theorem V35_sound (x1 : Option Addr) (x2 : Int) (w : World) (Q : Value → World → Prop) (h : V35 x1 x2 w Q) : Calls Tryz.prog 35 #[.pointer x1, .int .i64 x2] w fun e w' => ∃ v, e = .returned v ∧ Q v w' :=
  sound_of Tryz.func35 V35_ann rfl ((V35_eq x1 x2 w Q).mpr h)

def V36  (w : World) (Q : Value → World → Prop) : Prop :=
newK w #[.slice none 0 0, .slice none 0 0, .slice none 0 0] 178 fun a1 w2 =>
Q (.pointer (some a1)) w2

def V36_ann : Nat → Ann := fun _ => ⟨[], []⟩
theorem V36_eq  (w : World) (Q : Value → World → Prop) : (match Tryz.f36.body with | some c => wpC Tryz.prog Tryz.f36.ntmps V36_ann c 0 (resQ Tryz.prog Tryz.f36.ntmps Tryz.f36.results.toList Q) (argsF []) w | none => False) = V36  w Q := by kernel_rfl
theorem V36_sound  (w : World) (Q : Value → World → Prop) (h : V36  w Q) : Calls Tryz.prog 36 #[] w fun e w' => ∃ v, e = .returned v ∧ Q v w' :=
  sound_of Tryz.func36 V36_ann rfl ((V36_eq  w Q).mpr h)

def V37 (x1 : Option Addr) (x2 : Nat) (x3 : Nat) (w : World) (Q : Value → World → Prop) : Prop :=
∃ w4 : World, ∃ t5 : Option Nat, (Instr.makeMap 179 none).run Tryz.prog w = .ok (.map t5) w4 ∧
newK w4 #[.map t5, .int .i64 0] 181 fun a6 w7 =>
∃ (I8 : Int → World → Prop) (μ9 : Int → World → Nat), I8 0 w7 ∧ ∀ (j12 : Fr) (i10 : Int) (w11 : World), I8 i10 w11 →
bsel (decide (i10 < (x2 : Int))) (
idxK x1 x2 i10 1 fun a13 =>
∃ t14 : Int, w11.cell? a13 = some (.int .i64 t14) ∧
∃ t15 : Option Nat, w11.cell? (a6.add 0) = some (.map t15) ∧
∃ w16 : World, ∃ t17 : Int, (Instr.lookup 179 (.map t15) (.int .i64 t14) false).run Tryz.prog w11 = .ok (.int .i64 t17) w16 ∧
∃ w18 : World, (Instr.mapUpdate 179 (.map t15) (.int .i64 t14) (.int .i64 (IntKind.wrap .i64 (t17 + 1)))).run Tryz.prog w16 = .ok () w18 ∧
(I8 (IntKind.wrap .i64 (i10 + 1)) w18 ∧ μ9 (IntKind.wrap .i64 (i10 + 1)) w18 < μ9 i10 w11)) (
Q (.pointer (some a6)) w11)

def V37_ann : Nat → Ann := fun k => match k with | 0 => ⟨[3, 9, 10], [(11, .int .i64)]⟩ | _ => ⟨[], []⟩
theorem V37_eq (x1 : Option Addr) (x2 : Nat) (x3 : Nat) (w : World) (Q : Value → World → Prop) : (match Tryz.f37.body with | some c => wpC Tryz.prog Tryz.f37.ntmps V37_ann c 0 (resQ Tryz.prog Tryz.f37.ntmps Tryz.f37.results.toList Q) (argsF [.slice x1 x2 x3]) w | none => False) = V37 x1 x2 x3 w Q := by kernel_rfl
theorem V37_sound (x1 : Option Addr) (x2 : Nat) (x3 : Nat) (w : World) (Q : Value → World → Prop) (h : V37 x1 x2 x3 w Q) : Calls Tryz.prog 37 #[.slice x1 x2 x3] w fun e w' => ∃ v, e = .returned v ∧ Q v w' :=
  sound_of Tryz.func37 V37_ann rfl ((V37_eq x1 x2 x3 w Q).mpr h)

def V38J1 (Q : Value → World → Prop) (x31 : Option Addr) (w32 : World) : Prop :=
nilK x31 fun a33 =>
∃ t34 : Option Addr, ∃ t35 : Nat, ∃ t36 : Nat, w32.cell? (a33.add 0) = some (.slice t34 t35 t36) ∧
Q (.int .i64 (IntKind.wrap .i64 ((t35 : Int) - 1))) w32

def V38 (x1 : Option Addr) (x2 : Value) (w : World) (Q : Value → World → Prop) : Prop :=
bsel (Option.isNone x1) (
Q (.int .i64 (-1)) w) (
nilK x1 fun a3 =>
∃ t4 : Option Addr, ∃ t5 : Nat, ∃ t6 : Nat, w.cell? (a3.add 2) = some (.slice t4 t5 t6) ∧
bsel ((t5 : Int) == 0) (
nilK x1 fun a7 =>
∃ t8 : Option Addr, ∃ t9 : Nat, ∃ t10 : Nat, w.drew.cell? (a7.add 0) = some (.slice t8 t9 t10) ∧
nilK x1 fun a11 =>
∃ t12 : Option Addr, ∃ t13 : Nat, ∃ t14 : Nat, w.drew.cell? (a11.add 1) = some (.slice t12 t13 t14) ∧
(plK x2 (
newK w.drew #[x2] 77 fun a15 w16 =>
(w16.cell? (a11.add 1) = some (.slice t12 t13 t14)) ∧
(w16.cell? (a7.add 0) = some (.slice t8 t9 t10)) ∧
(∃ w17 : World, ∃ t18 : Option Addr, ∃ t19 : Nat, ∃ t20 : Nat, (vcEff.bltV .append #[88, 88] 88 #[.slice t8 t9 t10, .slice (some a15) 1 1]).run Tryz.prog w16 = .ok (.slice t18 t19 t20) w17 ∧
(w17.cell? (a11.add 1) = some (.slice t12 t13 t14)) ∧
newK w17 #[.bool true] 4 fun a21 w22 =>
(w22.cell? (a11.add 1) = some (.slice t12 t13 t14)) ∧
∃ w23 : World, ∃ t24 : Option Addr, ∃ t25 : Nat, ∃ t26 : Nat, (vcEff.bltV .append #[175, 175] 175 #[.slice t12 t13 t14, .slice (some a21) 1 1]).run Tryz.prog w22 = .ok (.slice t24 t25 t26) w23 ∧
nilK x1 fun a27 =>
stK w23 (a27.add 0) (.slice t18 t19 t20) fun w28 =>
nilK x1 fun a29 =>
stK w28 (a29.add 1) (.slice t24 t25 t26) fun w30 =>
V38J1 Q x1 w30) ∧
(newK w16 #[.bool true] 4 fun a37 w38 =>
(w38.cell? (a11.add 1) = some (.slice t12 t13 t14)) ∧
(w38.cell? (a7.add 0) = some (.slice t8 t9 t10)) ∧
∃ w39 : World, ∃ t40 : Option Addr, ∃ t41 : Nat, ∃ t42 : Nat, (vcEff.bltV .append #[88, 88] 88 #[.slice t8 t9 t10, .slice (some a15) 1 1]).run Tryz.prog w38 = .ok (.slice t40 t41 t42) w39 ∧
(w39.cell? (a11.add 1) = some (.slice t12 t13 t14)) ∧
∃ w43 : World, ∃ t44 : Option Addr, ∃ t45 : Nat, ∃ t46 : Nat, (vcEff.bltV .append #[175, 175] 175 #[.slice t12 t13 t14, .slice (some a37) 1 1]).run Tryz.prog w39 = .ok (.slice t44 t45 t46) w43 ∧
nilK x1 fun a47 =>
stK w43 (a47.add 0) (.slice t40 t41 t42) fun w48 =>
nilK x1 fun a49 =>
stK w48 (a49.add 1) (.slice t44 t45 t46) fun w50 =>
V38J1 Q x1 w50))) ∧
(newK w.drew #[.bool true] 4 fun a51 w52 =>
(w52.cell? (a11.add 1) = some (.slice t12 t13 t14)) ∧
(w52.cell? (a7.add 0) = some (.slice t8 t9 t10)) ∧
plK x2 (
newK w52 #[x2] 77 fun a53 w54 =>
(w54.cell? (a11.add 1) = some (.slice t12 t13 t14)) ∧
(w54.cell? (a7.add 0) = some (.slice t8 t9 t10)) ∧
∃ w55 : World, ∃ t56 : Option Addr, ∃ t57 : Nat, ∃ t58 : Nat, (vcEff.bltV .append #[88, 88] 88 #[.slice t8 t9 t10, .slice (some a53) 1 1]).run Tryz.prog w54 = .ok (.slice t56 t57 t58) w55 ∧
(w55.cell? (a11.add 1) = some (.slice t12 t13 t14)) ∧
∃ w59 : World, ∃ t60 : Option Addr, ∃ t61 : Nat, ∃ t62 : Nat, (vcEff.bltV .append #[175, 175] 175 #[.slice t12 t13 t14, .slice (some a51) 1 1]).run Tryz.prog w55 = .ok (.slice t60 t61 t62) w59 ∧
nilK x1 fun a63 =>
stK w59 (a63.add 0) (.slice t56 t57 t58) fun w64 =>
nilK x1 fun a65 =>
stK w64 (a65.add 1) (.slice t60 t61 t62) fun w66 =>
V38J1 Q x1 w66))) (
nilK x1 fun a67 =>
∃ t68 : Option Addr, ∃ t69 : Nat, ∃ t70 : Nat, w.cell? (a67.add 2) = some (.slice t68 t69 t70) ∧
idxK t68 t69 0 1 fun a71 =>
∃ t72 : Int, w.cell? a71 = some (.int .i64 t72) ∧
nilK x1 fun a73 =>
Calls Tryz.prog 78 #[.iface 183 (.pointer (some (a73.add 2)))] w fun e74 w75 => ∃ t76 : Value, e74 = .returned (t76) ∧
nilK x1 fun a77 =>
∃ t78 : Option Addr, ∃ t79 : Nat, ∃ t80 : Nat, w75.drew.cell? (a77.add 0) = some (.slice t78 t79 t80) ∧
nilK x1 fun a81 =>
∃ t82 : Option Addr, ∃ t83 : Nat, ∃ t84 : Nat, w75.drew.cell? (a81.add 1) = some (.slice t82 t83 t84) ∧
idxK t78 t79 t72 1 fun a85 =>
plK x2 (
stK w75.drew a85 (x2) fun w86 =>
idxK t82 t83 t72 1 fun a87 =>
stK w86 a87 (.bool true) fun w88 =>
Q (.int .i64 t72) w88)))

def V38_ann : Nat → Ann := fun _ => ⟨[], []⟩
theorem V38_eq (x1 : Option Addr) (x2 : Value) (w : World) (Q : Value → World → Prop) : (match Tryz.f38.body with | some c => wpC Tryz.prog Tryz.f38.ntmps V38_ann c 0 (resQ Tryz.prog Tryz.f38.ntmps Tryz.f38.results.toList Q) (argsF [.pointer x1, x2]) w | none => False) = V38 x1 x2 w Q := by kernel_rfl
theorem V38_sound (x1 : Option Addr) (x2 : Value) (w : World) (Q : Value → World → Prop) (h : V38 x1 x2 w Q) : Calls Tryz.prog 38 #[.pointer x1, x2] w fun e w' => ∃ v, e = .returned v ∧ Q v w' :=
  sound_of Tryz.func38 V38_ann rfl ((V38_eq x1 x2 w Q).mpr h)

def V39J1 (Q : Value → World → Prop) (x37 : Option Addr) (x38 : Int) (x39 : Bool) (w40 : World) : Prop :=
bsel x39 (
Q (.int .i64 1) w40) (
Calls Tryz.prog 82 #[.pointer x37, .int .i64 x38] w40 fun e41 w42 => ∃ t43 : Bool, e41 = .returned (.bool t43) ∧
bsel t43 (
Q (.int .i64 3) w42) (
Q (.int .i64 0) w42))

def V39 (x1 : Option Addr) (x2 : Int) (w : World) (Q : Value → World → Prop) : Prop :=
nilK x1 fun a3 =>
∃ t4 : Option Addr, ∃ t5 : Nat, ∃ t6 : Nat, w.cell? (a3.add 1) = some (.slice t4 t5 t6) ∧
idxK t4 t5 x2 8 fun a7 =>
∃ t8 : Int, ∃ t9 : Bool, ∃ t10 : Bool, ∃ t11 : Option Addr, ∃ t12 : Nat, ∃ t13 : Nat, ∃ t14 : ByteArray, ∃ t15 : Option Addr, ∃ t16 : Nat, ∃ t17 : Nat, ∃ t18 : Bool, ∃ t19 : Bool, CellsAt w a7 [.int .i64 t8, .bool t9, .bool t10, .slice t11 t12 t13, .string t14, .slice t15 t16 t17, .bool t18, .bool t19] ∧
newK w #[.int .i64 0, .bool false, .bool false, .slice none 0 0, .string ⟨#[]⟩, .slice none 0 0, .bool false, .bool false] 42 fun a20 w21 =>
stK w21 (a20.add 0) (.int .i64 t8) fun w22 =>
stK w22 (a20.add 1) (.bool t9) fun w23 =>
stK w23 (a20.add 2) (.bool t10) fun w24 =>
stK w24 (a20.add 3) (.slice t11 t12 t13) fun w25 =>
stK w25 (a20.add 4) (.string t14) fun w26 =>
stK w26 (a20.add 5) (.slice t15 t16 t17) fun w27 =>
stK w27 (a20.add 6) (.bool t18) fun w28 =>
stK w28 (a20.add 7) (.bool t19) fun w29 =>
∃ t30 : Int, w29.cell? (a20.add 0) = some (.int .i64 t30) ∧
Calls Tryz.prog 79 #[.int .i64 t30] w29 fun e31 w32 => ∃ t33 : Bool, e31 = .returned (.bool t33) ∧
bsel (!t33) (
Q (.int .i64 12) w32) (
Calls Tryz.prog 80 #[.pointer x1, .int .i64 x2] w32 fun e34 w35 => ∃ t36 : Bool, e34 = .returned (.bool t36) ∧
bsel t36 (
V39J1 Q x1 x2 true w35) (
∃ t44 : Int, w35.cell? (a20.add 0) = some (.int .i64 t44) ∧
bsel (t44 == 4) (
∃ t45 : ByteArray, w35.cell? (a20.add 4) = some (.string t45) ∧
Calls Tryz.prog 81 #[.string t45] w35 fun e46 w47 => ∃ t48 : Bool, e46 = .returned (.bool t48) ∧
V39J1 Q x1 x2 (!t48) w47) (
V39J1 Q x1 x2 false w35)))

def V39_ann : Nat → Ann := fun _ => ⟨[], []⟩
theorem V39_eq (x1 : Option Addr) (x2 : Int) (w : World) (Q : Value → World → Prop) : (match Tryz.f39.body with | some c => wpC Tryz.prog Tryz.f39.ntmps V39_ann c 0 (resQ Tryz.prog Tryz.f39.ntmps Tryz.f39.results.toList Q) (argsF [.pointer x1, .int .i64 x2]) w | none => False) = V39 x1 x2 w Q := by kernel_rfl
theorem V39_sound (x1 : Option Addr) (x2 : Int) (w : World) (Q : Value → World → Prop) (h : V39 x1 x2 w Q) : Calls Tryz.prog 39 #[.pointer x1, .int .i64 x2] w fun e w' => ∃ v, e = .returned v ∧ Q v w' :=
  sound_of Tryz.func39 V39_ann rfl ((V39_eq x1 x2 w Q).mpr h)

def V40J1 (Q : Value → World → Prop) (x105 : Option Addr) (x106 : Int) (w107 : World) : Prop :=
nilK x105 fun a108 =>
∃ t109 : Option Addr, w107.cell? (a108.add 0) = some (.pointer t109) ∧
Calls Tryz.prog 90 #[.pointer t109, .int .i64 x106] w107 fun e110 w111 => ∃ t112 : Int, e110 = .returned (.int .i64 t112) ∧
Q (.int .i64 t112) w111

def V40J2 (Q : Value → World → Prop) (x102 : Option Addr) (x103 : Int) (w104 : World) : Prop :=
V40J1 Q x102 x103 w104

def V40J3 (w : World) (Q : Value → World → Prop) (x64 : Option Addr) (x65 : Addr) (x66 : Int) (x67 : Bool) (w68 : World) : Prop :=
bsel x67 (
∃ t69 : Int, ∃ t70 : Bool, ∃ t71 : Bool, ∃ t72 : Option Addr, ∃ t73 : Nat, ∃ t74 : Nat, ∃ t75 : ByteArray, ∃ t76 : Option Addr, ∃ t77 : Nat, ∃ t78 : Nat, ∃ t79 : Bool, ∃ t80 : Bool, CellsAt w68 x65 [.int .i64 t69, .bool t70, .bool t71, .slice t72 t73 t74, .string t75, .slice t76 t77 t78, .bool t79, .bool t80] ∧
Calls Tryz.prog 88 #[.pointer x64, .agg #[.int .i64 t69, .bool t70, .bool t71, .slice t72 t73 t74, .string t75, .slice t76 t77 t78, .bool t79, .bool t80]] w68 fun e81 w82 => ∃ t83 : Int, e81 = .returned (.int .i64 t83) ∧
Q (.int .i64 t83) w82) (
bsel (x66 == 14) (
nilK x64 fun a84 =>
∃ t85 : Option Addr, w68.cell? (a84.add 0) = some (.pointer t85) ∧
Calls Tryz.prog 89 #[.pointer t85, .string (⟨#[67]⟩ : ByteArray), .int .i64 (-1)] w68 fun e86 w87 => ∃ t88 : Int, e86 = .returned (.int .i64 t88) ∧
nilK x64 fun a89 =>
∃ t90 : Option Addr, w87.cell? (a89.add 0) = some (.pointer t90) ∧
Calls Tryz.prog 41 #[.pointer t90, .int .i64 t88] w87 fun e91 w92 => ∃ t93 : Value, e91 = .returned (t93) ∧
∃ t94 : Option Addr, ∃ t95 : Bool, (∀ w : World, (Instr.typeAssert t93 77 190 true).run Tryz.prog w = .ok (.tuple #[.pointer t94, .bool t95]) w) ∧
bsel t95 (
∃ t96 : Bool, w92.drew.cell? (x65.add 6) = some (.bool t96) ∧
∃ t97 : Bool, w92.drew.cell? (x65.add 7) = some (.bool t97) ∧
nilK t94 fun a98 =>
stK w92.drew (a98.add 5) (.bool t96) fun w99 =>
(w99.cell? (x65.add 7) = some (.bool t97)) ∧
nilK t94 fun a100 =>
stK w99 (a100.add 6) (.bool t97) fun w101 =>
V40J2 Q x64 t88 w101) (
V40J1 Q x64 t88 w92)) (
nilK x64 fun a113 =>
∃ t114 : Option Addr, w68.drew.cell? (a113.add 0) = some (.pointer t114) ∧
∃ t115 : Int, w68.drew.cell? (x65.add 0) = some (.int .i64 t115) ∧
nilK x64 fun a116 =>
∃ t117 : Option Addr, ∃ t118 : Nat, ∃ t119 : Nat, w68.drew.cell? (a116.add 2) = some (.slice t117 t118 t119) ∧
∃ t120 : Option Addr, ∃ t121 : Nat, ∃ t122 : Nat, w68.drew.cell? (x65.add 5) = some (.slice t120 t121 t122) ∧
idxK t120 t121 0 1 fun a123 =>
∃ t124 : Int, w68.drew.cell? a123 = some (.int .i64 t124) ∧
idxK t117 t118 t124 1 fun a125 =>
∃ t126 : Int, w68.drew.cell? a125 = some (.int .i64 t126) ∧
Calls Tryz.prog 91 #[.pointer t114, .int .i64 t115, .int .i64 t126] w68.drew fun e127 w128 => ∃ t129 : Int, e127 = .returned (.int .i64 t129) ∧
Q (.int .i64 t129) w128))

def V40J4 (w : World) (Q : Value → World → Prop) (x44 : Option Addr) (x45 : Addr) (x46 : Int) (x47 : Bool) (w48 : World) : Prop :=
bsel x47 (
nilK x44 fun a49 =>
∃ t50 : Option Addr, w48.drew.cell? (a49.add 0) = some (.pointer t50) ∧
∃ t51 : Int, w48.drew.cell? (x45.add 0) = some (.int .i64 t51) ∧
∃ t52 : Option Addr, ∃ t53 : Nat, ∃ t54 : Nat, w48.drew.cell? (x45.add 5) = some (.slice t52 t53 t54) ∧
∃ w55 : World, ∃ t56 : Option Addr, ∃ t57 : Nat, ∃ t58 : Nat, (Instr.makeSlice 30 (.int .i64 (t53 : Int)) (.int .i64 (t53 : Int))).run Tryz.prog w48.drew = .ok (.slice t56 t57 t58) w55 ∧
(w55.cell? (x45.add 0) = some (.int .i64 t51)) ∧
(w55.cell? (a49.add 0) = some (.pointer t50)) ∧
Calls Tryz.prog 87 #[.pointer t50, .int .i64 t51, .slice t56 t57 t58] w55 fun e59 w60 => ∃ t61 : Int, e59 = .returned (.int .i64 t61) ∧
Q (.int .i64 t61) w60) (
bsel (x46 == 7) (
V40J3 w Q x44 x45 x46 true w48) (
bsel (x46 == 8) (
V40J3 w Q x44 x45 x46 true w48) (
V40J3 w Q x44 x45 x46 (x46 == 9) w48)))

def V40 (x1 : Option Addr) (x2 : Int) (x3 : Bool) (x4 : Bool) (x5 : Option Addr) (x6 : Nat) (x7 : Nat) (x8 : ByteArray) (x9 : Option Addr) (x10 : Nat) (x11 : Nat) (x12 : Bool) (x13 : Bool) (w : World) (Q : Value → World → Prop) : Prop :=
newK w #[.int .i64 x2, .bool x3, .bool x4, .slice x5 x6 x7, .string x8, .slice x9 x10 x11, .bool x12, .bool x13] 42 fun a14 w15 =>
∃ t16 : Int, w15.cell? (a14.add 0) = some (.int .i64 t16) ∧
bsel (t16 == 1) (
Q (.int .i64 0) w15) (
bsel (t16 == 2) (
∃ t17 : Bool, w15.cell? (a14.add 1) = some (.bool t17) ∧
Calls Tryz.prog 83 #[.bool t17] w15 fun e18 w19 => ∃ t20 : Int, e18 = .returned (.int .i64 t20) ∧
Q (.int .i64 t20) w19) (
bsel (t16 == 3) (
nilK x1 fun a21 =>
∃ t22 : Option Addr, w15.drew.cell? (a21.add 0) = some (.pointer t22) ∧
∃ t23 : Bool, ∃ t24 : Option Addr, ∃ t25 : Nat, ∃ t26 : Nat, CellsAt w15.drew (a14.add 2) [.bool t23, .slice t24 t25 t26] ∧
Calls Tryz.prog 85 #[.agg #[.bool t23, .slice t24 t25 t26]] w15.drew fun e27 w28 => ∃ t29 : Bool, ∃ t30 : Option Addr, ∃ t31 : Nat, ∃ t32 : Nat, e27 = .returned (.agg #[.bool t29, .slice t30 t31 t32]) ∧
(w28.cell? (a21.add 0) = some (.pointer t22)) ∧
Calls Tryz.prog 84 #[.pointer t22, .agg #[.bool t29, .slice t30 t31 t32]] w28 fun e33 w34 => ∃ t35 : Int, e33 = .returned (.int .i64 t35) ∧
Q (.int .i64 t35) w34) (
bsel (t16 == 4) (
nilK x1 fun a38 =>
∃ t39 : Option Addr, w15.drew.cell? (a38.add 0) = some (.pointer t39) ∧
∃ t40 : ByteArray, w15.drew.cell? (a14.add 4) = some (.string t40) ∧
Calls Tryz.prog 86 #[.pointer t39, .string t40] w15.drew fun e41 w42 => ∃ t43 : Int, e41 = .returned (.int .i64 t43) ∧
Q (.int .i64 t43) w42) (
bsel (t16 == 5) (
V40J4 w Q x1 a14 t16 true w15) (
V40J4 w Q x1 a14 t16 (t16 == 6) w15)))))

def V40_ann : Nat → Ann := fun _ => ⟨[], []⟩
theorem V40_eq (x1 : Option Addr) (x2 : Int) (x3 : Bool) (x4 : Bool) (x5 : Option Addr) (x6 : Nat) (x7 : Nat) (x8 : ByteArray) (x9 : Option Addr) (x10 : Nat) (x11 : Nat) (x12 : Bool) (x13 : Bool) (w : World) (Q : Value → World → Prop) : (match Tryz.f40.body with | some c => wpC Tryz.prog Tryz.f40.ntmps V40_ann c 0 (resQ Tryz.prog Tryz.f40.ntmps Tryz.f40.results.toList Q) (argsF [.pointer x1, .agg #[.int .i64 x2, .bool x3, .bool x4, .slice x5 x6 x7, .string x8, .slice x9 x10 x11, .bool x12, .bool x13]]) w | none => False) = V40 x1 x2 x3 x4 x5 x6 x7 x8 x9 x10 x11 x12 x13 w Q := by kernel_rfl
theorem V40_sound (x1 : Option Addr) (x2 : Int) (x3 : Bool) (x4 : Bool) (x5 : Option Addr) (x6 : Nat) (x7 : Nat) (x8 : ByteArray) (x9 : Option Addr) (x10 : Nat) (x11 : Nat) (x12 : Bool) (x13 : Bool) (w : World) (Q : Value → World → Prop) (h : V40 x1 x2 x3 x4 x5 x6 x7 x8 x9 x10 x11 x12 x13 w Q) : Calls Tryz.prog 40 #[.pointer x1, .agg #[.int .i64 x2, .bool x3, .bool x4, .slice x5 x6 x7, .string x8, .slice x9 x10 x11, .bool x12, .bool x13]] w fun e w' => ∃ v, e = .returned v ∧ Q v w' :=
  sound_of Tryz.func40 V40_ann rfl ((V40_eq x1 x2 x3 x4 x5 x6 x7 x8 x9 x10 x11 x12 x13 w Q).mpr h)

def V41 (x1 : Option Addr) (x2 : Int) (w : World) (Q : Value → World → Prop) : Prop :=
bsel (Option.isNone x1) (
Q .nilIface w) (
nilK x1 fun a3 =>
∃ t4 : Option Addr, w.cell? (a3.add 6) = some (.pointer t4) ∧
Calls Tryz.prog 92 #[.pointer t4, .int .i64 x2] w fun e5 w6 => ∃ t7 : Value, ∃ t8 : Bool, e5 = .returned (.tuple #[t7, .bool t8]) ∧
Q t7 w6)

def V41_ann : Nat → Ann := fun _ => ⟨[], []⟩
theorem V41_eq (x1 : Option Addr) (x2 : Int) (w : World) (Q : Value → World → Prop) : (match Tryz.f41.body with | some c => wpC Tryz.prog Tryz.f41.ntmps V41_ann c 0 (resQ Tryz.prog Tryz.f41.ntmps Tryz.f41.results.toList Q) (argsF [.pointer x1, .int .i64 x2]) w | none => False) = V41 x1 x2 w Q := by kernel_rfl
theorem V41_sound (x1 : Option Addr) (x2 : Int) (w : World) (Q : Value → World → Prop) (h : V41 x1 x2 w Q) : Calls Tryz.prog 41 #[.pointer x1, .int .i64 x2] w fun e w' => ∃ v, e = .returned v ∧ Q v w' :=
  sound_of Tryz.func41 V41_ann rfl ((V41_eq x1 x2 w Q).mpr h)

def V71 (x1 : ByteArray) (w : World) (Q : Value → World → Prop) : Prop :=
∃ w2 : World, ∃ t3 : Option Addr, (Instr.range 9 (.string x1)).run Tryz.prog w = .ok (.pointer t3) w2 ∧
∃ (I4 : Int → World → Prop) (μ5 : Int → World → Nat), I4 0 w2 ∧ ∀ (j8 : Fr) (i6 : Int) (w7 : World), I4 i6 w7 →
nextSK (.pointer t3) w7 (fun w9 => (
Q (.int .i64 i6) w9)) fun t10 t11 w12 =>
(I4 (IntKind.wrap .i64 (i6 + 1)) w12 ∧ μ5 (IntKind.wrap .i64 (i6 + 1)) w12 < μ5 i6 w7)

def V71_ann : Nat → Ann := fun k => match k with | 0 => ⟨[5], [(3, .int .i64)]⟩ | _ => ⟨[], []⟩
theorem V71_eq (x1 : ByteArray) (w : World) (Q : Value → World → Prop) : (match Tryz.f71.body with | some c => wpC Tryz.prog Tryz.f71.ntmps V71_ann c 0 (resQ Tryz.prog Tryz.f71.ntmps Tryz.f71.results.toList Q) (argsF [.string x1]) w | none => False) = V71 x1 w Q := by kernel_rfl
theorem V71_sound (x1 : ByteArray) (w : World) (Q : Value → World → Prop) (h : V71 x1 w Q) : Calls Tryz.prog 71 #[.string x1] w fun e w' => ∃ v, e = .returned v ∧ Q v w' :=
  sound_of Tryz.func71 V71_ann rfl ((V71_eq x1 w Q).mpr h)

def V76 (x1 : ByteArray) (w : World) (Q : Value → World → Prop) : Prop :=
newK w #[.pointer none, .slice none 0 0] 150 fun a2 w3 =>
Calls Tryz.prog 130 #[.pointer (some a2), .int .u8 39] w3 fun e4 w5 => ∃ t6 : Value, e4 = .returned (t6) ∧
∃ w7 : World, ∃ t8 : Option Addr, (Instr.range 9 (.string x1)).run Tryz.prog w5 = .ok (.pointer t8) w7 ∧
∃ (I9 : World → Prop) (μ10 : World → Nat), I9  w7 ∧ ∀ (j12 : Fr)  (w11 : World), I9  w11 →
nextSK (.pointer t8) w11 (fun w13 => (
Calls Tryz.prog 130 #[.pointer (some a2), .int .u8 39] w13 fun e17 w18 => ∃ t19 : Value, e17 = .returned (t19) ∧
Calls Tryz.prog 70 #[.pointer (some a2)] w18 fun e20 w21 => ∃ t22 : ByteArray, e20 = .returned (.string t22) ∧
Q (.string t22) w21)) fun t14 t15 w16 =>
Calls Tryz.prog 131 #[.int .i32 t15] w16 fun e23 w24 => ∃ t25 : ByteArray, e23 = .returned (.string t25) ∧
Calls Tryz.prog 69 #[.pointer (some a2), .string t25] w24 fun e26 w27 => ∃ t28 : Int, ∃ t29 : Value, e26 = .returned (.tuple #[.int .i64 t28, t29]) ∧
(I9  w27 ∧ μ10  w27 < μ10  w11)

def V76_ann : Nat → Ann := fun k => match k with | 0 => ⟨[3, 8], []⟩ | _ => ⟨[], []⟩
theorem V76_eq (x1 : ByteArray) (w : World) (Q : Value → World → Prop) : (match Tryz.f76.body with | some c => wpC Tryz.prog Tryz.f76.ntmps V76_ann c 0 (resQ Tryz.prog Tryz.f76.ntmps Tryz.f76.results.toList Q) (argsF [.string x1]) w | none => False) = V76 x1 w Q := by kernel_rfl
theorem V76_sound (x1 : ByteArray) (w : World) (Q : Value → World → Prop) (h : V76 x1 w Q) : Calls Tryz.prog 76 #[.string x1] w fun e w' => ∃ v, e = .returned v ∧ Q v w' :=
  sound_of Tryz.func76 V76_ann rfl ((V76_eq x1 w Q).mpr h)

def V77 (x1 : Int) (w : World) (Q : Value → World → Prop) : Prop :=
Calls Tryz.prog 132 #[.int .i64 x1] w fun e2 w3 => ∃ t4 : ByteArray, e2 = .returned (.string t4) ∧
Q (.string t4) w3

def V77_ann : Nat → Ann := fun _ => ⟨[], []⟩
theorem V77_eq (x1 : Int) (w : World) (Q : Value → World → Prop) : (match Tryz.f77.body with | some c => wpC Tryz.prog Tryz.f77.ntmps V77_ann c 0 (resQ Tryz.prog Tryz.f77.ntmps Tryz.f77.results.toList Q) (argsF [.int .i64 x1]) w | none => False) = V77 x1 w Q := by kernel_rfl
theorem V77_sound (x1 : Int) (w : World) (Q : Value → World → Prop) (h : V77 x1 w Q) : Calls Tryz.prog 77 #[.int .i64 x1] w fun e w' => ∃ v, e = .returned v ∧ Q v w' :=
  sound_of Tryz.func77 V77_ann rfl ((V77_eq x1 w Q).mpr h)

def V79 (x1 : Int) (w : World) (Q : Value → World → Prop) : Prop :=
bsel (decide (x1 ≥ 1)) (
bsel (decide (x1 ≤ 9)) (
Q (.bool true) w) (
bsel (x1 == 14) (
Q (.bool true) w) (
bsel (decide (x1 ≥ 15)) (
Q (.bool (decide (x1 ≤ 17))) w) (
Q (.bool false) w)))) (
bsel (x1 == 14) (
Q (.bool true) w) (
bsel (decide (x1 ≥ 15)) (
Q (.bool (decide (x1 ≤ 17))) w) (
Q (.bool false) w)))

def V79_ann : Nat → Ann := fun _ => ⟨[], []⟩
theorem V79_eq (x1 : Int) (w : World) (Q : Value → World → Prop) : (match Tryz.f79.body with | some c => wpC Tryz.prog Tryz.f79.ntmps V79_ann c 0 (resQ Tryz.prog Tryz.f79.ntmps Tryz.f79.results.toList Q) (argsF [.int .i64 x1]) w | none => False) = V79 x1 w Q := by kernel_rfl
theorem V79_sound (x1 : Int) (w : World) (Q : Value → World → Prop) (h : V79 x1 w Q) : Calls Tryz.prog 79 #[.int .i64 x1] w fun e w' => ∃ v, e = .returned v ∧ Q v w' :=
  sound_of Tryz.func79 V79_ann rfl ((V79_eq x1 w Q).mpr h)

def V80J1 (Q : Value → World → Prop) (x112 : Option Addr) (x113 : Addr) (x114 : Bool) (w115 : World) : Prop :=
bsel x114 (
∃ t116 : Option Addr, ∃ t117 : Nat, ∃ t118 : Nat, w115.drew.cell? (x113.add 5) = some (.slice t116 t117 t118) ∧
bsel ((t117 : Int) != 1) (
Q (.bool true) w115.drew) (
nilK x112 fun a121 =>
∃ t122 : Option Addr, ∃ t123 : Nat, ∃ t124 : Nat, w115.drew.cell? (a121.add 1) = some (.slice t122 t123 t124) ∧
∃ t125 : Option Addr, ∃ t126 : Nat, ∃ t127 : Nat, w115.drew.cell? (x113.add 5) = some (.slice t125 t126 t127) ∧
idxK t125 t126 0 1 fun a128 =>
∃ t129 : Int, w115.drew.cell? a128 = some (.int .i64 t129) ∧
idxK t122 t123 t129 8 fun a130 =>
∃ t131 : Int, w115.drew.cell? (a130.add 0) = some (.int .i64 t131) ∧
Q (.bool (t131 != 7)) w115.drew)) (
∃ t132 : Option Addr, ∃ t133 : Nat, ∃ t134 : Nat, w115.cell? (x113.add 5) = some (.slice t132 t133 t134) ∧
Q (.bool (decide ((t133 : Int) > 0))) w115)

def V80J2 (Q : Value → World → Prop) (x104 : Option Addr) (x105 : Addr) (x106 : Int) (x107 : Bool) (w108 : World) : Prop :=
bsel x107 (
Q (.bool false) w108) (
bsel (x106 == 7) (
∃ t109 : Option Addr, ∃ t110 : Nat, ∃ t111 : Nat, w108.cell? (x105.add 5) = some (.slice t109 t110 t111) ∧
((2 : Int) ≠ 0) ∧
Q (.bool (Int.tmod (t110 : Int) 2 == 1)) w108) (
bsel (x106 == 15) (
V80J1 Q x104 x105 true w108) (
bsel (x106 == 16) (
V80J1 Q x104 x105 true w108) (
V80J1 Q x104 x105 (x106 == 17) w108))))

def V80J3 (Q : Value → World → Prop) (x35 : Option Addr) (x36 : Addr) (x37 : Int) (w38 : World) : Prop :=
∃ t39 : Option Addr, ∃ t40 : Nat, ∃ t41 : Nat, w38.cell? (x36.add 5) = some (.slice t39 t40 t41) ∧
∃ (I42 : Int → World → Prop) (μ43 : Int → World → Nat), I42 0 w38 ∧ ∀ (j46 : Fr) (i44 : Int) (w45 : World), I42 i44 w45 →
bsel (decide (i44 < (t40 : Int))) (
idxK t39 t40 i44 1 fun a47 =>
∃ t48 : Int, w45.cell? a47 = some (.int .i64 t48) ∧
bsel (decide (t48 < 0)) (
Q (.bool true) w45) (
bsel (decide (t48 ≥ x37)) (
Q (.bool true) w45) (
(I42 (IntKind.wrap .i64 (i44 + 1)) w45 ∧ μ43 (IntKind.wrap .i64 (i44 + 1)) w45 < μ43 i44 w45)))) (
∃ t59 : Int, ∃ t60 : Bool, ∃ t61 : Bool, ∃ t62 : Option Addr, ∃ t63 : Nat, ∃ t64 : Nat, ∃ t65 : ByteArray, ∃ t66 : Option Addr, ∃ t67 : Nat, ∃ t68 : Nat, ∃ t69 : Bool, ∃ t70 : Bool, CellsAt w45 x36 [.int .i64 t59, .bool t60, .bool t61, .slice t62 t63 t64, .string t65, .slice t66 t67 t68, .bool t69, .bool t70] ∧
Calls Tryz.prog 134 #[.agg #[.int .i64 t59, .bool t60, .bool t61, .slice t62 t63 t64, .string t65, .slice t66 t67 t68, .bool t69, .bool t70]] w45 fun e71 w72 => ∃ t73 : Option Addr, ∃ t74 : Nat, ∃ t75 : Nat, e71 = .returned (.slice t73 t74 t75) ∧
∃ (I76 : Int → World → Prop) (μ77 : Int → World → Nat), I76 0 w72 ∧ ∀ (j80 : Fr) (i78 : Int) (w79 : World), I76 i78 w79 →
bsel (decide (i78 < (t74 : Int))) (
idxK t73 t74 i78 1 fun a81 =>
∃ t82 : Int, w79.cell? a81 = some (.int .i64 t82) ∧
nilK x35 fun a83 =>
∃ t84 : Option Addr, ∃ t85 : Nat, ∃ t86 : Nat, w79.cell? (a83.add 1) = some (.slice t84 t85 t86) ∧
idxK t84 t85 t82 8 fun a87 =>
∃ t88 : Int, ∃ t89 : Bool, ∃ t90 : Bool, ∃ t91 : Option Addr, ∃ t92 : Nat, ∃ t93 : Nat, ∃ t94 : ByteArray, ∃ t95 : Option Addr, ∃ t96 : Nat, ∃ t97 : Nat, ∃ t98 : Bool, ∃ t99 : Bool, CellsAt w79 a87 [.int .i64 t88, .bool t89, .bool t90, .slice t91 t92 t93, .string t94, .slice t95 t96 t97, .bool t98, .bool t99] ∧
Calls Tryz.prog 135 #[.agg #[.int .i64 t88, .bool t89, .bool t90, .slice t91 t92 t93, .string t94, .slice t95 t96 t97, .bool t98, .bool t99]] w79 fun e100 w101 => ∃ t102 : Bool, e100 = .returned (.bool t102) ∧
bsel (!t102) (
Q (.bool true) w101) (
(I76 (IntKind.wrap .i64 (i78 + 1)) w101 ∧ μ77 (IntKind.wrap .i64 (i78 + 1)) w101 < μ77 i78 w79))) (
∃ t103 : Int, w79.cell? (x36.add 0) = some (.int .i64 t103) ∧
bsel (t103 == 5) (
V80J2 Q x35 x36 t103 true w79) (
bsel (t103 == 6) (
V80J2 Q x35 x36 t103 true w79) (
bsel (t103 == 8) (
V80J2 Q x35 x36 t103 true w79) (
V80J2 Q x35 x36 t103 (t103 == 9) w79)))))

def V80 (x1 : Option Addr) (x2 : Int) (w : World) (Q : Value → World → Prop) : Prop :=
nilK x1 fun a3 =>
∃ t4 : Option Addr, ∃ t5 : Nat, ∃ t6 : Nat, w.cell? (a3.add 1) = some (.slice t4 t5 t6) ∧
idxK t4 t5 x2 8 fun a7 =>
∃ t8 : Int, ∃ t9 : Bool, ∃ t10 : Bool, ∃ t11 : Option Addr, ∃ t12 : Nat, ∃ t13 : Nat, ∃ t14 : ByteArray, ∃ t15 : Option Addr, ∃ t16 : Nat, ∃ t17 : Nat, ∃ t18 : Bool, ∃ t19 : Bool, CellsAt w a7 [.int .i64 t8, .bool t9, .bool t10, .slice t11 t12 t13, .string t14, .slice t15 t16 t17, .bool t18, .bool t19] ∧
newK w #[.int .i64 0, .bool false, .bool false, .slice none 0 0, .string ⟨#[]⟩, .slice none 0 0, .bool false, .bool false] 42 fun a20 w21 =>
stK w21 (a20.add 0) (.int .i64 t8) fun w22 =>
stK w22 (a20.add 1) (.bool t9) fun w23 =>
stK w23 (a20.add 2) (.bool t10) fun w24 =>
stK w24 (a20.add 3) (.slice t11 t12 t13) fun w25 =>
stK w25 (a20.add 4) (.string t14) fun w26 =>
stK w26 (a20.add 5) (.slice t15 t16 t17) fun w27 =>
stK w27 (a20.add 6) (.bool t18) fun w28 =>
stK w28 (a20.add 7) (.bool t19) fun w29 =>
∃ t30 : Int, w29.cell? (a20.add 0) = some (.int .i64 t30) ∧
bsel (t30 == 6) (
nilK x1 fun a31 =>
∃ t32 : Option Addr, ∃ t33 : Nat, ∃ t34 : Nat, w29.cell? (a31.add 1) = some (.slice t32 t33 t34) ∧
V80J3 Q x1 a20 (t33 : Int) w29) (
V80J3 Q x1 a20 x2 w29)

def V80_ann : Nat → Ann := fun k => match k with | 0 => ⟨[0, 5, 6, 28, 29], [(30, .int .i64)]⟩ | 1 => ⟨[0, 5, 43, 44], [(45, .int .i64)]⟩ | _ => ⟨[], []⟩
theorem V80_eq (x1 : Option Addr) (x2 : Int) (w : World) (Q : Value → World → Prop) : (match Tryz.f80.body with | some c => wpC Tryz.prog Tryz.f80.ntmps V80_ann c 0 (resQ Tryz.prog Tryz.f80.ntmps Tryz.f80.results.toList Q) (argsF [.pointer x1, .int .i64 x2]) w | none => False) = V80 x1 x2 w Q := by kernel_rfl
theorem V80_sound (x1 : Option Addr) (x2 : Int) (w : World) (Q : Value → World → Prop) (h : V80 x1 x2 w Q) : Calls Tryz.prog 80 #[.pointer x1, .int .i64 x2] w fun e w' => ∃ v, e = .returned v ∧ Q v w' :=
  sound_of Tryz.func80 V80_ann rfl ((V80_eq x1 x2 w Q).mpr h)

def V81 (x1 : ByteArray) (w : World) (Q : Value → World → Prop) : Prop :=
Calls Tryz.prog 136 #[.string x1] w fun e2 w3 => ∃ t4 : Bool, e2 = .returned (.bool t4) ∧
Q (.bool t4) w3

def V81_ann : Nat → Ann := fun _ => ⟨[], []⟩
theorem V81_eq (x1 : ByteArray) (w : World) (Q : Value → World → Prop) : (match Tryz.f81.body with | some c => wpC Tryz.prog Tryz.f81.ntmps V81_ann c 0 (resQ Tryz.prog Tryz.f81.ntmps Tryz.f81.results.toList Q) (argsF [.string x1]) w | none => False) = V81 x1 w Q := by kernel_rfl
theorem V81_sound (x1 : ByteArray) (w : World) (Q : Value → World → Prop) (h : V81 x1 w Q) : Calls Tryz.prog 81 #[.string x1] w fun e w' => ∃ v, e = .returned v ∧ Q v w' :=
  sound_of Tryz.func81 V81_ann rfl ((V81_eq x1 w Q).mpr h)

def V82J1 (Q : Value → World → Prop) (x45 : Option Addr) (x46 : Addr) (x47 : Bool) (w48 : World) : Prop :=
bsel x47 (
∃ t49 : Option Addr, ∃ t50 : Nat, ∃ t51 : Nat, w48.cell? (x46.add 5) = some (.slice t49 t50 t51) ∧
Q (.bool (decide ((t50 : Int) > 65536))) w48) (
∃ w52 : World, ∃ t53 : Option Nat, (Instr.makeMap 259 none).run Tryz.prog w48 = .ok (.map t53) w52 ∧
∃ t54 : Int, ∃ t55 : Bool, ∃ t56 : Bool, ∃ t57 : Option Addr, ∃ t58 : Nat, ∃ t59 : Nat, ∃ t60 : ByteArray, ∃ t61 : Option Addr, ∃ t62 : Nat, ∃ t63 : Nat, ∃ t64 : Bool, ∃ t65 : Bool, CellsAt w52 x46 [.int .i64 t54, .bool t55, .bool t56, .slice t57 t58 t59, .string t60, .slice t61 t62 t63, .bool t64, .bool t65] ∧
Calls Tryz.prog 134 #[.agg #[.int .i64 t54, .bool t55, .bool t56, .slice t57 t58 t59, .string t60, .slice t61 t62 t63, .bool t64, .bool t65]] w52 fun e66 w67 => ∃ t68 : Option Addr, ∃ t69 : Nat, ∃ t70 : Nat, e66 = .returned (.slice t68 t69 t70) ∧
∃ (I71 : Int → World → Prop) (μ72 : Int → World → Nat), I71 0 w67 ∧ ∀ (j75 : Fr) (i73 : Int) (w74 : World), I71 i73 w74 →
bsel (decide (i73 < (t69 : Int))) (
idxK t68 t69 i73 1 fun a76 =>
∃ t77 : Int, w74.cell? a76 = some (.int .i64 t77) ∧
Calls Tryz.prog 137 #[.pointer x45, .int .i64 t77] w74 fun e78 w79 => ∃ t80 : ByteArray, e78 = .returned (.string t80) ∧
∃ w81 : World, ∃ t82 : Int, (Instr.lookup 259 (.map t53) (.string t80) false).run Tryz.prog w79 = .ok (.int .i64 t82) w81 ∧
∃ w83 : World, (Instr.mapUpdate 259 (.map t53) (.string t80) (.int .i64 (IntKind.wrap .i64 (t82 + 1)))).run Tryz.prog w81 = .ok () w83 ∧
(I71 (IntKind.wrap .i64 (i73 + 1)) w83 ∧ μ72 (IntKind.wrap .i64 (i73 + 1)) w83 < μ72 i73 w74)) (
nilK x45 fun a84 =>
∃ t85 : Option Addr, w74.drew.cell? (a84.add 0) = some (.pointer t85) ∧
nilK t85 fun a86 =>
∃ t87 : Int, w74.drew.cell? ((a86.add 0).add 1) = some (.int .i64 t87) ∧
∃ w88 : World, ∃ t89 : Int, (vcEff.bltV .len #[259] 3 #[.map t53]).run Tryz.prog w74.drew = .ok (.int .i64 t89) w88 ∧
(w88.cell? ((a86.add 0).add 1) = some (.int .i64 t87)) ∧
(w88.cell? (a84.add 0) = some (.pointer t85)) ∧
Q (.bool (decide (t89 > t87))) w88))

def V82 (x1 : Option Addr) (x2 : Int) (w : World) (Q : Value → World → Prop) : Prop :=
nilK x1 fun a3 =>
∃ t4 : Option Addr, ∃ t5 : Nat, ∃ t6 : Nat, w.cell? (a3.add 1) = some (.slice t4 t5 t6) ∧
idxK t4 t5 x2 8 fun a7 =>
∃ t8 : Int, ∃ t9 : Bool, ∃ t10 : Bool, ∃ t11 : Option Addr, ∃ t12 : Nat, ∃ t13 : Nat, ∃ t14 : ByteArray, ∃ t15 : Option Addr, ∃ t16 : Nat, ∃ t17 : Nat, ∃ t18 : Bool, ∃ t19 : Bool, CellsAt w a7 [.int .i64 t8, .bool t9, .bool t10, .slice t11 t12 t13, .string t14, .slice t15 t16 t17, .bool t18, .bool t19] ∧
newK w #[.int .i64 0, .bool false, .bool false, .slice none 0 0, .string ⟨#[]⟩, .slice none 0 0, .bool false, .bool false] 42 fun a20 w21 =>
stK w21 (a20.add 0) (.int .i64 t8) fun w22 =>
stK w22 (a20.add 1) (.bool t9) fun w23 =>
stK w23 (a20.add 2) (.bool t10) fun w24 =>
stK w24 (a20.add 3) (.slice t11 t12 t13) fun w25 =>
stK w25 (a20.add 4) (.string t14) fun w26 =>
stK w26 (a20.add 5) (.slice t15 t16 t17) fun w27 =>
stK w27 (a20.add 6) (.bool t18) fun w28 =>
stK w28 (a20.add 7) (.bool t19) fun w29 =>
∃ t30 : Int, w29.cell? (a20.add 0) = some (.int .i64 t30) ∧
bsel (t30 == 4) (
∃ t31 : ByteArray, w29.cell? (a20.add 4) = some (.string t31) ∧
Calls Tryz.prog 71 #[.string t31] w29 fun e32 w33 => ∃ t34 : Int, e32 = .returned (.int .i64 t34) ∧
Q (.bool (decide (t34 > 65536))) w33) (
bsel (t30 == 3) (
∃ t35 : Bool, ∃ t36 : Option Addr, ∃ t37 : Nat, ∃ t38 : Nat, CellsAt w29 (a20.add 2) [.bool t35, .slice t36 t37 t38] ∧
Calls Tryz.prog 85 #[.agg #[.bool t35, .slice t36 t37 t38]] w29 fun e39 w40 => ∃ t41 : Bool, ∃ t42 : Option Addr, ∃ t43 : Nat, ∃ t44 : Nat, e39 = .returned (.agg #[.bool t41, .slice t42 t43 t44]) ∧
Q (.bool (decide ((t43 : Int) > 256))) w40) (
bsel (t30 == 5) (
V82J1 Q x1 a20 true w29) (
V82J1 Q x1 a20 (t30 == 6) w29)))

def V82_ann : Nat → Ann := fun k => match k with | 0 => ⟨[0, 6, 41, 42], [(43, .int .i64)]⟩ | _ => ⟨[], []⟩
theorem V82_eq (x1 : Option Addr) (x2 : Int) (w : World) (Q : Value → World → Prop) : (match Tryz.f82.body with | some c => wpC Tryz.prog Tryz.f82.ntmps V82_ann c 0 (resQ Tryz.prog Tryz.f82.ntmps Tryz.f82.results.toList Q) (argsF [.pointer x1, .int .i64 x2]) w | none => False) = V82 x1 x2 w Q := by kernel_rfl
theorem V82_sound (x1 : Option Addr) (x2 : Int) (w : World) (Q : Value → World → Prop) (h : V82 x1 x2 w Q) : Calls Tryz.prog 82 #[.pointer x1, .int .i64 x2] w fun e w' => ∃ v, e = .returned v ∧ Q v w' :=
  sound_of Tryz.func82 V82_ann rfl ((V82_eq x1 x2 w Q).mpr h)

def V83 (x1 : Bool) (w : World) (Q : Value → World → Prop) : Prop :=
bsel x1 (
Q (.int .i64 2) w) (
Q (.int .i64 1) w)

def V83_ann : Nat → Ann := fun _ => ⟨[], []⟩
theorem V83_eq (x1 : Bool) (w : World) (Q : Value → World → Prop) : (match Tryz.f83.body with | some c => wpC Tryz.prog Tryz.f83.ntmps V83_ann c 0 (resQ Tryz.prog Tryz.f83.ntmps Tryz.f83.results.toList Q) (argsF [.bool x1]) w | none => False) = V83 x1 w Q := by kernel_rfl
theorem V83_sound (x1 : Bool) (w : World) (Q : Value → World → Prop) (h : V83 x1 w Q) : Calls Tryz.prog 83 #[.bool x1] w fun e w' => ∃ v, e = .returned v ∧ Q v w' :=
  sound_of Tryz.func83 V83_ann rfl ((V83_eq x1 w Q).mpr h)

def V86 (x1 : Option Addr) (x2 : ByteArray) (w : World) (Q : Value → World → Prop) : Prop :=
Calls Tryz.prog 138 #[.pointer x1] w fun e3 w4 => ∃ t5 : Value, e3 = .returned (t5) ∧
nilK x1 fun a6 =>
∃ t7 : Option Addr, w4.cell? (a6.add 6) = some (.pointer t7) ∧
Calls Tryz.prog 38 #[.pointer t7, .iface 160 (.agg #[.string x2])] w4 fun e8 w9 => ∃ t10 : Int, e8 = .returned (.int .i64 t10) ∧
Q (.int .i64 t10) w9

def V86_ann : Nat → Ann := fun _ => ⟨[], []⟩
theorem V86_eq (x1 : Option Addr) (x2 : ByteArray) (w : World) (Q : Value → World → Prop) : (match Tryz.f86.body with | some c => wpC Tryz.prog Tryz.f86.ntmps V86_ann c 0 (resQ Tryz.prog Tryz.f86.ntmps Tryz.f86.results.toList Q) (argsF [.pointer x1, .string x2]) w | none => False) = V86 x1 x2 w Q := by kernel_rfl
theorem V86_sound (x1 : Option Addr) (x2 : ByteArray) (w : World) (Q : Value → World → Prop) (h : V86 x1 x2 w Q) : Calls Tryz.prog 86 #[.pointer x1, .string x2] w fun e w' => ∃ v, e = .returned v ∧ Q v w' :=
  sound_of Tryz.func86 V86_ann rfl ((V86_eq x1 x2 w Q).mpr h)

def V87 (x1 : Option Addr) (x2 : Int) (x3 : Option Addr) (x4 : Nat) (x5 : Nat) (w : World) (Q : Value → World → Prop) : Prop :=
nilK x1 fun a6 =>
∃ t7 : Option Addr, w.drew.cell? (a6.add 6) = some (.pointer t7) ∧
Calls Tryz.prog 140 #[.pointer x1] w.drew fun e8 w9 => ∃ t10 : Int, e8 = .returned (.agg #[.int .i64 t10]) ∧
(w9.cell? (a6.add 6) = some (.pointer t7)) ∧
newK w9 #[.int .i64 t10, .slice x3 x4 x5, .int .i64 x2] 100 fun a11 w12 =>
(w12.cell? (a6.add 6) = some (.pointer t7)) ∧
Calls Tryz.prog 38 #[.pointer t7, .iface 94 (.pointer (some a11))] w12 fun e13 w14 => ∃ t15 : Int, e13 = .returned (.int .i64 t15) ∧
Q (.int .i64 t15) w14

def V87_ann : Nat → Ann := fun _ => ⟨[], []⟩
theorem V87_eq (x1 : Option Addr) (x2 : Int) (x3 : Option Addr) (x4 : Nat) (x5 : Nat) (w : World) (Q : Value → World → Prop) : (match Tryz.f87.body with | some c => wpC Tryz.prog Tryz.f87.ntmps V87_ann c 0 (resQ Tryz.prog Tryz.f87.ntmps Tryz.f87.results.toList Q) (argsF [.pointer x1, .int .i64 x2, .slice x3 x4 x5]) w | none => False) = V87 x1 x2 x3 x4 x5 w Q := by kernel_rfl
theorem V87_sound (x1 : Option Addr) (x2 : Int) (x3 : Option Addr) (x4 : Nat) (x5 : Nat) (w : World) (Q : Value → World → Prop) (h : V87 x1 x2 x3 x4 x5 w Q) : Calls Tryz.prog 87 #[.pointer x1, .int .i64 x2, .slice x3 x4 x5] w fun e w' => ∃ v, e = .returned v ∧ Q v w' :=
  sound_of Tryz.func87 V87_ann rfl ((V87_eq x1 x2 x3 x4 x5 w Q).mpr h)

def V92 (x1 : Option Addr) (x2 : Int) (w : World) (Q : Value → World → Prop) : Prop :=
Calls Tryz.prog 146 #[.pointer x1, .int .i64 x2] w fun e3 w4 => ∃ t5 : Bool, e3 = .returned (.bool t5) ∧
bsel (!t5) (
newK w4 #[.nilIface] 77 fun a6 w7 =>
∃ t8 : Value, w7.cell? a6 = some (t8) ∧
Q (.tuple #[t8, .bool false]) w7) (
nilK x1 fun a9 =>
∃ t10 : Option Addr, ∃ t11 : Nat, ∃ t12 : Nat, w4.cell? (a9.add 0) = some (.slice t10 t11 t12) ∧
idxK t10 t11 x2 1 fun a13 =>
∃ t14 : Value, w4.cell? a13 = some (t14) ∧
Q (.tuple #[t14, .bool true]) w4)

def V92_ann : Nat → Ann := fun _ => ⟨[], []⟩
theorem V92_eq (x1 : Option Addr) (x2 : Int) (w : World) (Q : Value → World → Prop) : (match Tryz.f92.body with | some c => wpC Tryz.prog Tryz.f92.ntmps V92_ann c 0 (resQ Tryz.prog Tryz.f92.ntmps Tryz.f92.results.toList Q) (argsF [.pointer x1, .int .i64 x2]) w | none => False) = V92 x1 x2 w Q := by kernel_rfl
theorem V92_sound (x1 : Option Addr) (x2 : Int) (w : World) (Q : Value → World → Prop) (h : V92 x1 x2 w Q) : Calls Tryz.prog 92 #[.pointer x1, .int .i64 x2] w fun e w' => ∃ v, e = .returned v ∧ Q v w' :=
  sound_of Tryz.func92 V92_ann rfl ((V92_eq x1 x2 w Q).mpr h)

def V131J1 (Q : Value → World → Prop) (x13 : Int) (x14 : Bool) (w15 : World) : Prop :=
bsel x14 (
Calls Tryz.prog 207 #[.int .i32 x13, .int .i64 4] w15 fun e16 w17 => ∃ t18 : ByteArray, e16 = .returned (.string t18) ∧
((((⟨#[92, 117]⟩ : ByteArray).size + t18.size : Nat) : Int) ≤ 9223372036854775807) ∧
Q (.string ((⟨#[92, 117]⟩ : ByteArray) ++ t18)) w17) (
∃ w19 : World, ∃ t20 : ByteArray, (Go.convert 21 9 (.int .i32 x13)).run Tryz.prog w15 = .ok (.string t20) w19 ∧
Q (.string t20) w19)

def V131J2 (Q : Value → World → Prop) (x7 : Int) (x8 : Bool) (w9 : World) : Prop :=
bsel x8 (
Calls Tryz.prog 207 #[.int .i32 x7, .int .i64 2] w9 fun e10 w11 => ∃ t12 : ByteArray, e10 = .returned (.string t12) ∧
((((⟨#[92, 120]⟩ : ByteArray).size + t12.size : Nat) : Int) ≤ 9223372036854775807) ∧
Q (.string ((⟨#[92, 120]⟩ : ByteArray) ++ t12)) w11) (
bsel (decide (x7 ≥ 128)) (
bsel (decide (x7 ≤ 159)) (
V131J1 Q x7 true w9) (
bsel (x7 == 8232) (
V131J1 Q x7 true w9) (
bsel (x7 == 8233) (
V131J1 Q x7 true w9) (
V131J1 Q x7 (x7 == 65279) w9)))) (
bsel (x7 == 8232) (
V131J1 Q x7 true w9) (
bsel (x7 == 8233) (
V131J1 Q x7 true w9) (
V131J1 Q x7 (x7 == 65279) w9))))

def V131J3 (Q : Value → World → Prop) (x2 : Int) (x3 : Bool) (w4 : World) : Prop :=
bsel x3 (
∃ w5 : World, ∃ t6 : ByteArray, (Go.convert 21 9 (.int .i32 x2)).run Tryz.prog w4 = .ok (.string t6) w5 ∧
((((⟨#[92]⟩ : ByteArray).size + t6.size : Nat) : Int) ≤ 9223372036854775807) ∧
Q (.string ((⟨#[92]⟩ : ByteArray) ++ t6)) w5) (
bsel (x2 == 10) (
Q (.string (⟨#[92, 110]⟩ : ByteArray)) w4) (
bsel (x2 == 9) (
Q (.string (⟨#[92, 116]⟩ : ByteArray)) w4) (
bsel (decide (x2 < 32)) (
V131J2 Q x2 true w4) (
V131J2 Q x2 (x2 == 127) w4))))

def V131 (x1 : Int) (w : World) (Q : Value → World → Prop) : Prop :=
bsel (x1 == 39) (
V131J3 Q x1 true w) (
V131J3 Q x1 (x1 == 92) w)

def V131_ann : Nat → Ann := fun _ => ⟨[], []⟩
theorem V131_eq (x1 : Int) (w : World) (Q : Value → World → Prop) : (match Tryz.f131.body with | some c => wpC Tryz.prog Tryz.f131.ntmps V131_ann c 0 (resQ Tryz.prog Tryz.f131.ntmps Tryz.f131.results.toList Q) (argsF [.int .i32 x1]) w | none => False) = V131 x1 w Q := by kernel_rfl
theorem V131_sound (x1 : Int) (w : World) (Q : Value → World → Prop) (h : V131 x1 w Q) : Calls Tryz.prog 131 #[.int .i32 x1] w fun e w' => ∃ v, e = .returned v ∧ Q v w' :=
  sound_of Tryz.func131 V131_ann rfl ((V131_eq x1 w Q).mpr h)

def V134J1 (Q : Value → World → Prop) (x16 : Addr) (x17 : Int) (x18 : Bool) (w19 : World) : Prop :=
bsel x18 (
∃ t20 : Option Addr, ∃ t21 : Nat, ∃ t22 : Nat, w19.cell? (x16.add 5) = some (.slice t20 t21 t22) ∧
Q (.slice t20 t21 t22) w19) (
bsel (x17 == 7) (
∃ (I23 : Option Addr → Nat → Nat → Int → World → Prop) (μ24 : Option Addr → Nat → Nat → Int → World → Nat), I23 none 0 0 0 w19 ∧ ∀ (j30 : Fr) (i25 : Option Addr) (i26 : Nat) (i27 : Nat) (i28 : Int) (w29 : World), I23 i25 i26 i27 i28 w29 →
∃ t31 : Option Addr, ∃ t32 : Nat, ∃ t33 : Nat, w29.cell? (x16.add 5) = some (.slice t31 t32 t33) ∧
bsel (decide (i28 < (t32 : Int))) (
∃ t34 : Option Addr, ∃ t35 : Nat, ∃ t36 : Nat, w29.cell? (x16.add 5) = some (.slice t34 t35 t36) ∧
idxK t34 t35 i28 1 fun a37 =>
∃ t38 : Int, w29.cell? a37 = some (.int .i64 t38) ∧
newK w29 #[.int .i64 t38] 3 fun a39 w40 =>
∃ w41 : World, ∃ t42 : Option Addr, ∃ t43 : Nat, ∃ t44 : Nat, (vcEff.bltV .append #[30, 30] 30 #[.slice i25 i26 i27, .slice (some a39) 1 1]).run Tryz.prog w40 = .ok (.slice t42 t43 t44) w41 ∧
(I23 t42 t43 t44 (IntKind.wrap .i64 (i28 + 2)) w41 ∧ μ24 t42 t43 t44 (IntKind.wrap .i64 (i28 + 2)) w41 < μ24 i25 i26 i27 i28 w29)) (
Q (.slice i25 i26 i27) w29)) (
Q (.slice none 0 0) w19))

def V134 (x1 : Int) (x2 : Bool) (x3 : Bool) (x4 : Option Addr) (x5 : Nat) (x6 : Nat) (x7 : ByteArray) (x8 : Option Addr) (x9 : Nat) (x10 : Nat) (x11 : Bool) (x12 : Bool) (w : World) (Q : Value → World → Prop) : Prop :=
newK w #[.int .i64 x1, .bool x2, .bool x3, .slice x4 x5 x6, .string x7, .slice x8 x9 x10, .bool x11, .bool x12] 42 fun a13 w14 =>
∃ t15 : Int, w14.cell? (a13.add 0) = some (.int .i64 t15) ∧
bsel (t15 == 8) (
V134J1 Q a13 t15 true w14) (
V134J1 Q a13 t15 (t15 == 9) w14)

def V134_ann : Nat → Ann := fun k => match k with | 0 => ⟨[1], [(3, .slice), (4, .int .i64)]⟩ | _ => ⟨[], []⟩
theorem V134_eq (x1 : Int) (x2 : Bool) (x3 : Bool) (x4 : Option Addr) (x5 : Nat) (x6 : Nat) (x7 : ByteArray) (x8 : Option Addr) (x9 : Nat) (x10 : Nat) (x11 : Bool) (x12 : Bool) (w : World) (Q : Value → World → Prop) : (match Tryz.f134.body with | some c => wpC Tryz.prog Tryz.f134.ntmps V134_ann c 0 (resQ Tryz.prog Tryz.f134.ntmps Tryz.f134.results.toList Q) (argsF [.agg #[.int .i64 x1, .bool x2, .bool x3, .slice x4 x5 x6, .string x7, .slice x8 x9 x10, .bool x11, .bool x12]]) w | none => False) = V134 x1 x2 x3 x4 x5 x6 x7 x8 x9 x10 x11 x12 w Q := by kernel_rfl
theorem V134_sound (x1 : Int) (x2 : Bool) (x3 : Bool) (x4 : Option Addr) (x5 : Nat) (x6 : Nat) (x7 : ByteArray) (x8 : Option Addr) (x9 : Nat) (x10 : Nat) (x11 : Bool) (x12 : Bool) (w : World) (Q : Value → World → Prop) (h : V134 x1 x2 x3 x4 x5 x6 x7 x8 x9 x10 x11 x12 w Q) : Calls Tryz.prog 134 #[.agg #[.int .i64 x1, .bool x2, .bool x3, .slice x4 x5 x6, .string x7, .slice x8 x9 x10, .bool x11, .bool x12]] w fun e w' => ∃ v, e = .returned v ∧ Q v w' :=
  sound_of Tryz.func134 V134_ann rfl ((V134_eq x1 x2 x3 x4 x5 x6 x7 x8 x9 x10 x11 x12 w Q).mpr h)

def V135 (x1 : Int) (x2 : Bool) (x3 : Bool) (x4 : Option Addr) (x5 : Nat) (x6 : Nat) (x7 : ByteArray) (x8 : Option Addr) (x9 : Nat) (x10 : Nat) (x11 : Bool) (x12 : Bool) (w : World) (Q : Value → World → Prop) : Prop :=
newK w #[.int .i64 x1, .bool x2, .bool x3, .slice x4 x5 x6, .string x7, .slice x8 x9 x10, .bool x11, .bool x12] 42 fun a13 w14 =>
∃ t15 : Int, w14.cell? (a13.add 0) = some (.int .i64 t15) ∧
bsel (decide (t15 ≥ 1)) (
∃ t16 : Int, w14.cell? (a13.add 0) = some (.int .i64 t16) ∧
bsel (decide (t16 ≤ 4)) (
Q (.bool true) w14) (
∃ t19 : Int, w14.cell? (a13.add 0) = some (.int .i64 t19) ∧
bsel (t19 == 14) (
∃ t20 : Bool, w14.cell? (a13.add 6) = some (.bool t20) ∧
bsel t20 (
Q (.bool true) w14) (
∃ t21 : Bool, w14.cell? (a13.add 7) = some (.bool t21) ∧
Q (.bool (!t21)) w14)) (
Q (.bool false) w14))) (
∃ t22 : Int, w14.cell? (a13.add 0) = some (.int .i64 t22) ∧
bsel (t22 == 14) (
∃ t23 : Bool, w14.cell? (a13.add 6) = some (.bool t23) ∧
bsel t23 (
Q (.bool true) w14) (
∃ t24 : Bool, w14.cell? (a13.add 7) = some (.bool t24) ∧
Q (.bool (!t24)) w14)) (
Q (.bool false) w14))

def V135_ann : Nat → Ann := fun _ => ⟨[], []⟩
theorem V135_eq (x1 : Int) (x2 : Bool) (x3 : Bool) (x4 : Option Addr) (x5 : Nat) (x6 : Nat) (x7 : ByteArray) (x8 : Option Addr) (x9 : Nat) (x10 : Nat) (x11 : Bool) (x12 : Bool) (w : World) (Q : Value → World → Prop) : (match Tryz.f135.body with | some c => wpC Tryz.prog Tryz.f135.ntmps V135_ann c 0 (resQ Tryz.prog Tryz.f135.ntmps Tryz.f135.results.toList Q) (argsF [.agg #[.int .i64 x1, .bool x2, .bool x3, .slice x4 x5 x6, .string x7, .slice x8 x9 x10, .bool x11, .bool x12]]) w | none => False) = V135 x1 x2 x3 x4 x5 x6 x7 x8 x9 x10 x11 x12 w Q := by kernel_rfl
theorem V135_sound (x1 : Int) (x2 : Bool) (x3 : Bool) (x4 : Option Addr) (x5 : Nat) (x6 : Nat) (x7 : ByteArray) (x8 : Option Addr) (x9 : Nat) (x10 : Nat) (x11 : Bool) (x12 : Bool) (w : World) (Q : Value → World → Prop) (h : V135 x1 x2 x3 x4 x5 x6 x7 x8 x9 x10 x11 x12 w Q) : Calls Tryz.prog 135 #[.agg #[.int .i64 x1, .bool x2, .bool x3, .slice x4 x5 x6, .string x7, .slice x8 x9 x10, .bool x11, .bool x12]] w fun e w' => ∃ v, e = .returned v ∧ Q v w' :=
  sound_of Tryz.func135 V135_ann rfl ((V135_eq x1 x2 x3 x4 x5 x6 x7 x8 x9 x10 x11 x12 w Q).mpr h)

def V136J1 (I2 : ByteArray → World → Prop) (μ3 : ByteArray → World → Nat) (i4 : ByteArray) (w5 : World) (x23 : ByteArray) (x24 : Bool) (w25 : World) : Prop :=
bsel x24 (
sslK x23 16 x23.size fun s26 =>
∃ (I27 : ByteArray → World → Prop) (μ28 : ByteArray → World → Nat), I27 s26 w25 ∧ ∀ (j31 : Fr) (i29 : ByteArray) (w30 : World), I27 i29 w30 →
bsel (decide ((i29.size : Int) > 32)) (
sslK i29 8 i29.size fun s32 =>
sslK i29 16 i29.size fun s33 =>
sslK i29 24 i29.size fun s34 =>
Calls Tryz.prog 209 #[.string i29] w30.drew fun e35 w36 => ∃ t37 : Int, e35 = .returned (.int .u64 t37) ∧
Calls Tryz.prog 209 #[.string s32] w36 fun e38 w39 => ∃ t40 : Int, e38 = .returned (.int .u64 t40) ∧
Calls Tryz.prog 209 #[.string s33] w39 fun e41 w42 => ∃ t43 : Int, e41 = .returned (.int .u64 t43) ∧
Calls Tryz.prog 209 #[.string s34] w42 fun e44 w45 => ∃ t46 : Int, e44 = .returned (.int .u64 t46) ∧
bsel (bAnd .u64 (bOr .u64 (bOr .u64 t37 t40) (bOr .u64 t43 t46)) 9259542123273814144 == 0) (
sslK i29 32 i29.size fun s57 =>
(I27 s57 w45 ∧ μ28 s57 w45 < μ28 i29 w30)) (
(I2 i29 w45 ∧ μ3 i29 w45 < μ3 i4 w5))) (
(I2 i29 w30.drew ∧ μ3 i29 w30.drew < μ3 i4 w5))) (
(I2 x23 w25 ∧ μ3 x23 w25 < μ3 i4 w5))

def V136J2 (I2 : ByteArray → World → Prop) (μ3 : ByteArray → World → Nat) (i4 : ByteArray) (w5 : World) (x12 : ByteArray) (x13 : Bool) (w14 : World) : Prop :=
bsel x13 (
sslK x12 8 x12.size fun s15 =>
bsel (decide ((s15.size : Int) > 16)) (
sslK s15 8 s15.size fun s16 =>
Calls Tryz.prog 209 #[.string s15] w14.drew fun e17 w18 => ∃ t19 : Int, e17 = .returned (.int .u64 t19) ∧
Calls Tryz.prog 209 #[.string s16] w18 fun e20 w21 => ∃ t22 : Int, e20 = .returned (.int .u64 t22) ∧
V136J1 I2 μ3 i4 w5 s15 (bAnd .u64 (bOr .u64 t19 t22) 9259542123273814144 == 0) w21) (
V136J1 I2 μ3 i4 w5 s15 false w14.drew)) (
(I2 x12 w14 ∧ μ3 x12 w14 < μ3 i4 w5))

def V136 (x1 : ByteArray) (w : World) (Q : Value → World → Prop) : Prop :=
∃ (I2 : ByteArray → World → Prop) (μ3 : ByteArray → World → Nat), I2 x1 w ∧ ∀ (j6 : Fr) (i4 : ByteArray) (w5 : World), I2 i4 w5 →
bsel (decide ((i4.size : Int) > 0)) (
sidxK i4 0 fun c7 =>
bsel (decide (c7 < 128)) (
sslK i4 1 i4.size fun s8 =>
bsel (decide ((s8.size : Int) > 8)) (
Calls Tryz.prog 209 #[.string s8] w5 fun e9 w10 => ∃ t11 : Int, e9 = .returned (.int .u64 t11) ∧
V136J2 I2 μ3 i4 w5 s8 (bAnd .u64 t11 9259542123273814144 == 0) w10) (
V136J2 I2 μ3 i4 w5 s8 false w5)) (
aidxK ⟨1, 0, none⟩ 256 c7 1 fun a58 =>
∃ t59 : Int, w5.cell? a58 = some (.int .u8 t59) ∧
((0 : Int) ≤ 4) ∧
aidxK ⟨2, 0, none⟩ 16 (shr .u8 t59 4) 2 fun a60 =>
∃ t61 : Int, ∃ t62 : Int, CellsAt w5 a60 [.int .u8 t61, .int .u8 t62] ∧
newK w5 #[.int .u8 0, .int .u8 0] 329 fun a63 w64 =>
stK w64 (a63.add 0) (.int .u8 t61) fun w65 =>
stK w65 (a63.add 1) (.int .u8 t62) fun w66 =>
bsel (IntKind.wrap .i64 (bAnd .u8 t59 7) == 2) (
bsel (decide ((i4.size : Int) < 2)) (
Q (.bool false) w66.drew) (
sidxK i4 1 fun c73 =>
∃ t74 : Int, w66.drew.cell? (a63.add 0) = some (.int .u8 t74) ∧
bsel (decide (c73 < t74)) (
Q (.bool false) w66.drew) (
∃ t75 : Int, w66.drew.cell? (a63.add 1) = some (.int .u8 t75) ∧
sidxK i4 1 fun c76 =>
bsel (decide (t75 < c76)) (
Q (.bool false) w66.drew) (
sslK i4 2 i4.size fun s77 =>
(I2 s77 w66.drew ∧ μ3 s77 w66.drew < μ3 i4 w5))))) (
bsel (IntKind.wrap .i64 (bAnd .u8 t59 7) == 3) (
bsel (decide ((i4.size : Int) < 3)) (
Q (.bool false) w66.drew) (
sidxK i4 1 fun c84 =>
∃ t85 : Int, w66.drew.cell? (a63.add 0) = some (.int .u8 t85) ∧
bsel (decide (c84 < t85)) (
Q (.bool false) w66.drew) (
∃ t86 : Int, w66.drew.cell? (a63.add 1) = some (.int .u8 t86) ∧
sidxK i4 1 fun c87 =>
bsel (decide (t86 < c87)) (
Q (.bool false) w66.drew) (
sidxK i4 2 fun c88 =>
bsel (decide (c88 < 128)) (
Q (.bool false) w66.drew) (
sidxK i4 2 fun c89 =>
bsel (decide ((191 : Int) < c89)) (
Q (.bool false) w66.drew) (
sslK i4 3 i4.size fun s90 =>
(I2 s90 w66.drew ∧ μ3 s90 w66.drew < μ3 i4 w5))))))) (
bsel (IntKind.wrap .i64 (bAnd .u8 t59 7) == 4) (
bsel (decide ((i4.size : Int) < 4)) (
Q (.bool false) w66.drew) (
sidxK i4 1 fun c95 =>
∃ t96 : Int, w66.drew.cell? (a63.add 0) = some (.int .u8 t96) ∧
bsel (decide (c95 < t96)) (
Q (.bool false) w66.drew) (
∃ t97 : Int, w66.drew.cell? (a63.add 1) = some (.int .u8 t97) ∧
sidxK i4 1 fun c98 =>
bsel (decide (t97 < c98)) (
Q (.bool false) w66.drew) (
sidxK i4 2 fun c99 =>
bsel (decide (c99 < 128)) (
Q (.bool false) w66.drew) (
sidxK i4 2 fun c100 =>
bsel (decide ((191 : Int) < c100)) (
Q (.bool false) w66.drew) (
sidxK i4 3 fun c101 =>
bsel (decide (c101 < 128)) (
Q (.bool false) w66.drew) (
sidxK i4 3 fun c102 =>
bsel (decide ((191 : Int) < c102)) (
Q (.bool false) w66.drew) (
sslK i4 4 i4.size fun s103 =>
(I2 s103 w66.drew ∧ μ3 s103 w66.drew < μ3 i4 w5))))))))) (
Q (.bool false) w66))))) (
Q (.bool true) w5)

def V136_ann : Nat → Ann := fun k => match k with | 0 => ⟨[], [(0, .str)]⟩ | 1 => ⟨[], [(0, .str)]⟩ | _ => ⟨[], []⟩
theorem V136_eq (x1 : ByteArray) (w : World) (Q : Value → World → Prop) : (match Tryz.f136.body with | some c => wpC Tryz.prog Tryz.f136.ntmps V136_ann c 0 (resQ Tryz.prog Tryz.f136.ntmps Tryz.f136.results.toList Q) (argsF [.string x1]) w | none => False) = V136 x1 w Q := by kernel_rfl
theorem V136_sound (x1 : ByteArray) (w : World) (Q : Value → World → Prop) (h : V136 x1 w Q) : Calls Tryz.prog 136 #[.string x1] w fun e w' => ∃ v, e = .returned v ∧ Q v w' :=
  sound_of Tryz.func136 V136_ann rfl ((V136_eq x1 w Q).mpr h)

def V137 (x1 : Option Addr) (x2 : Int) (w : World) (Q : Value → World → Prop) : Prop :=
nilK x1 fun a3 =>
∃ t4 : Option Addr, ∃ t5 : Nat, ∃ t6 : Nat, w.cell? (a3.add 1) = some (.slice t4 t5 t6) ∧
idxK t4 t5 x2 8 fun a7 =>
∃ t8 : Int, ∃ t9 : Bool, ∃ t10 : Bool, ∃ t11 : Option Addr, ∃ t12 : Nat, ∃ t13 : Nat, ∃ t14 : ByteArray, ∃ t15 : Option Addr, ∃ t16 : Nat, ∃ t17 : Nat, ∃ t18 : Bool, ∃ t19 : Bool, CellsAt w a7 [.int .i64 t8, .bool t9, .bool t10, .slice t11 t12 t13, .string t14, .slice t15 t16 t17, .bool t18, .bool t19] ∧
newK w #[.int .i64 0, .bool false, .bool false, .slice none 0 0, .string ⟨#[]⟩, .slice none 0 0, .bool false, .bool false] 42 fun a20 w21 =>
stK w21 (a20.add 0) (.int .i64 t8) fun w22 =>
stK w22 (a20.add 1) (.bool t9) fun w23 =>
stK w23 (a20.add 2) (.bool t10) fun w24 =>
stK w24 (a20.add 3) (.slice t11 t12 t13) fun w25 =>
stK w25 (a20.add 4) (.string t14) fun w26 =>
stK w26 (a20.add 5) (.slice t15 t16 t17) fun w27 =>
stK w27 (a20.add 6) (.bool t18) fun w28 =>
stK w28 (a20.add 7) (.bool t19) fun w29 =>
∃ t30 : Int, w29.cell? (a20.add 0) = some (.int .i64 t30) ∧
bsel (t30 == 1) (
Q (.string (⟨#[110, 111, 110, 101]⟩ : ByteArray)) w29) (
bsel (t30 == 2) (
∃ t31 : Bool, w29.cell? (a20.add 1) = some (.bool t31) ∧
bsel t31 (
Q (.string (⟨#[105, 49]⟩ : ByteArray)) w29) (
Q (.string (⟨#[105, 48]⟩ : ByteArray)) w29)) (
bsel (t30 == 3) (
∃ t32 : Bool, ∃ t33 : Option Addr, ∃ t34 : Nat, ∃ t35 : Nat, CellsAt w29 (a20.add 2) [.bool t32, .slice t33 t34 t35] ∧
Calls Tryz.prog 75 #[.agg #[.bool t32, .slice t33 t34 t35]] w29 fun e36 w37 => ∃ t38 : ByteArray, e36 = .returned (.string t38) ∧
((((⟨#[105]⟩ : ByteArray).size + t38.size : Nat) : Int) ≤ 9223372036854775807) ∧
Q (.string ((⟨#[105]⟩ : ByteArray) ++ t38)) w37) (
bsel (t30 == 4) (
∃ t39 : ByteArray, w29.cell? (a20.add 4) = some (.string t39) ∧
((((⟨#[115]⟩ : ByteArray).size + t39.size : Nat) : Int) ≤ 9223372036854775807) ∧
Q (.string ((⟨#[115]⟩ : ByteArray) ++ t39)) w29) (
Calls Tryz.prog 77 #[.int .i64 x2] w29 fun e40 w41 => ∃ t42 : ByteArray, e40 = .returned (.string t42) ∧
((((⟨#[111]⟩ : ByteArray).size + t42.size : Nat) : Int) ≤ 9223372036854775807) ∧
Q (.string ((⟨#[111]⟩ : ByteArray) ++ t42)) w41))))

def V137_ann : Nat → Ann := fun _ => ⟨[], []⟩
theorem V137_eq (x1 : Option Addr) (x2 : Int) (w : World) (Q : Value → World → Prop) : (match Tryz.f137.body with | some c => wpC Tryz.prog Tryz.f137.ntmps V137_ann c 0 (resQ Tryz.prog Tryz.f137.ntmps Tryz.f137.results.toList Q) (argsF [.pointer x1, .int .i64 x2]) w | none => False) = V137 x1 x2 w Q := by kernel_rfl
theorem V137_sound (x1 : Option Addr) (x2 : Int) (w : World) (Q : Value → World → Prop) (h : V137 x1 x2 w Q) : Calls Tryz.prog 137 #[.pointer x1, .int .i64 x2] w fun e w' => ∃ v, e = .returned v ∧ Q v w' :=
  sound_of Tryz.func137 V137_ann rfl ((V137_eq x1 x2 w Q).mpr h)

def V138 (x1 : Option Addr) (w : World) (Q : Value → World → Prop) : Prop :=
nilK x1 fun a2 =>
∃ t3 : Option Addr, w.cell? (a2.add 10) = some (.pointer t3) ∧
Calls Tryz.prog 210 #[.pointer t3] w fun e4 w5 => ∃ t6 : Bool, e4 = .returned (.bool t6) ∧
bsel t6 (
nilK x1 fun a7 =>
stK w5 (a7.add 11) (.bool true) fun w8 =>
Q (.tuple #[]) w8) (
Q (.tuple #[]) w5)

def V138_ann : Nat → Ann := fun _ => ⟨[], []⟩
theorem V138_eq (x1 : Option Addr) (w : World) (Q : Value → World → Prop) : (match Tryz.f138.body with | some c => wpC Tryz.prog Tryz.f138.ntmps V138_ann c 0 (resQ Tryz.prog Tryz.f138.ntmps Tryz.f138.results.toList Q) (argsF [.pointer x1]) w | none => False) = V138 x1 w Q := by kernel_rfl
theorem V138_sound (x1 : Option Addr) (w : World) (Q : Value → World → Prop) (h : V138 x1 w Q) : Calls Tryz.prog 138 #[.pointer x1] w fun e w' => ∃ v, e = .returned v ∧ Q v w' :=
  sound_of Tryz.func138 V138_ann rfl ((V138_eq x1 w Q).mpr h)

def V140 (x1 : Option Addr) (w : World) (Q : Value → World → Prop) : Prop :=
newK w #[.int .i64 0] 98 fun a2 w3 =>
Calls Tryz.prog 138 #[.pointer x1] w3 fun e4 w5 => ∃ t6 : Value, e4 = .returned (t6) ∧
nilK x1 fun a7 =>
∃ t8 : Int, w5.cell? (a7.add 7) = some (.int .i64 t8) ∧
nilK x1 fun a9 =>
stK w5 (a9.add 7) (.int .i64 (IntKind.wrap .i64 (t8 + 1))) fun w10 =>
nilK x1 fun a11 =>
∃ t12 : Int, w10.cell? (a11.add 8) = some (.int .i64 t12) ∧
nilK x1 fun a13 =>
stK w10 (a13.add 8) (.int .i64 (IntKind.wrap .i64 (t12 + 1))) fun w14 =>
nilK x1 fun a15 =>
∃ t16 : Int, w14.cell? (a15.add 7) = some (.int .i64 t16) ∧
stK w14 (a2.add 0) (.int .i64 t16) fun w17 =>
∃ t18 : Int, CellsAt w17 a2 [.int .i64 t18] ∧
Q (.agg #[.int .i64 t18]) w17

def V140_ann : Nat → Ann := fun _ => ⟨[], []⟩
theorem V140_eq (x1 : Option Addr) (w : World) (Q : Value → World → Prop) : (match Tryz.f140.body with | some c => wpC Tryz.prog Tryz.f140.ntmps V140_ann c 0 (resQ Tryz.prog Tryz.f140.ntmps Tryz.f140.results.toList Q) (argsF [.pointer x1]) w | none => False) = V140 x1 w Q := by kernel_rfl
theorem V140_sound (x1 : Option Addr) (w : World) (Q : Value → World → Prop) (h : V140 x1 w Q) : Calls Tryz.prog 140 #[.pointer x1] w fun e w' => ∃ v, e = .returned v ∧ Q v w' :=
  sound_of Tryz.func140 V140_ann rfl ((V140_eq x1 w Q).mpr h)

def V146 (x1 : Option Addr) (x2 : Int) (w : World) (Q : Value → World → Prop) : Prop :=
bsel (!(Option.isNone x1)) (
bsel (decide (x2 ≥ 0)) (
nilK x1 fun a3 =>
∃ t4 : Option Addr, ∃ t5 : Nat, ∃ t6 : Nat, w.cell? (a3.add 0) = some (.slice t4 t5 t6) ∧
bsel (decide (x2 < (t5 : Int))) (
nilK x1 fun a7 =>
∃ t8 : Option Addr, ∃ t9 : Nat, ∃ t10 : Nat, w.cell? (a7.add 1) = some (.slice t8 t9 t10) ∧
idxK t8 t9 x2 1 fun a11 =>
∃ t12 : Bool, w.cell? a11 = some (.bool t12) ∧
Q (.bool t12) w) (
Q (.bool false) w)) (
Q (.bool false) w)) (
Q (.bool false) w)

def V146_ann : Nat → Ann := fun _ => ⟨[], []⟩
theorem V146_eq (x1 : Option Addr) (x2 : Int) (w : World) (Q : Value → World → Prop) : (match Tryz.f146.body with | some c => wpC Tryz.prog Tryz.f146.ntmps V146_ann c 0 (resQ Tryz.prog Tryz.f146.ntmps Tryz.f146.results.toList Q) (argsF [.pointer x1, .int .i64 x2]) w | none => False) = V146 x1 x2 w Q := by kernel_rfl
theorem V146_sound (x1 : Option Addr) (x2 : Int) (w : World) (Q : Value → World → Prop) (h : V146 x1 x2 w Q) : Calls Tryz.prog 146 #[.pointer x1, .int .i64 x2] w fun e w' => ∃ v, e = .returned v ∧ Q v w' :=
  sound_of Tryz.func146 V146_ann rfl ((V146_eq x1 x2 w Q).mpr h)

def V210 (x1 : Option Addr) (w : World) (Q : Value → World → Prop) : Prop :=
bsel (Option.isNone x1) (
Q (.bool false) w) (
nilK x1 fun a2 =>
∃ t3 : Int, w.cell? (a2.add 1) = some (.int .i64 t3) ∧
nilK x1 fun a4 =>
stK w (a4.add 1) (.int .i64 (IntKind.wrap .i64 (t3 + 1))) fun w5 =>
nilK x1 fun a6 =>
∃ t7 : Option Nat, w5.drew.cell? (a6.add 0) = some (.map t7) ∧
nilK x1 fun a8 =>
∃ t9 : Int, w5.drew.cell? (a8.add 1) = some (.int .i64 t9) ∧
∃ w10 : World, ∃ t11 : Int, (Instr.lookup 179 (.map t7) (.int .i64 t9) false).run Tryz.prog w5.drew = .ok (.int .i64 t11) w10 ∧
Q (.bool (decide (t11 > 0))) w10)

def V210_ann : Nat → Ann := fun _ => ⟨[], []⟩
theorem V210_eq (x1 : Option Addr) (w : World) (Q : Value → World → Prop) : (match Tryz.f210.body with | some c => wpC Tryz.prog Tryz.f210.ntmps V210_ann c 0 (resQ Tryz.prog Tryz.f210.ntmps Tryz.f210.results.toList Q) (argsF [.pointer x1]) w | none => False) = V210 x1 w Q := by kernel_rfl
theorem V210_sound (x1 : Option Addr) (w : World) (Q : Value → World → Prop) (h : V210 x1 w Q) : Calls Tryz.prog 210 #[.pointer x1] w fun e w' => ∃ v, e = .returned v ∧ Q v w' :=
  sound_of Tryz.func210 V210_ann rfl ((V210_eq x1 w Q).mpr h)

end Go.Fw

set_option autoImplicit false
set_option linter.unusedVariables false
namespace Go.Fw
open Go.Proofs Go.RowKit

@[simp] theorem eqNilI_nil (K : Bool → Prop) : eqNilI .nilIface K = K true := rfl
@[simp] theorem eqNilI_iface (u : TypeId) (v : Value) (K : Bool → Prop) : eqNilI (.iface u v) K = K false := rfl

/-! The nil Store. -/
theorem C41_nil (v : Int) (w : World) : Calls Tryz.prog 41 #[.pointer none, .int .i64 v] w fun e w' => e = .returned .nilIface ∧ w' = w :=
  ret_mono (V41_sound none v w (fun r w' => r = .nilIface ∧ w' = w) (by unfold V41; exact bsel_pos rfl ⟨rfl, rfl⟩)) (by rintro _ _ ⟨rfl, rfl⟩; exact ⟨rfl, rfl⟩)
theorem C13_nil (a : Option Addr) (l c : Nat) (w : World) : Calls Tryz.prog 13 #[.pointer none, .slice a l c] w fun e w' => e = .returned (.tuple #[.slice none 0 0, .int .i64 1]) ∧ w' = w :=
  ret_mono (V13_sound none a l c w (fun r w' => r = .tuple #[.slice none 0 0, .int .i64 1] ∧ w' = w) (by unfold V13; exact bsel_pos rfl ⟨rfl, rfl⟩)) (by rintro _ _ ⟨rfl, rfl⟩; exact ⟨rfl, rfl⟩)
theorem C14_nil (w : World) : Calls Tryz.prog 14 #[.pointer none] w fun e w' => e = .returned (.int .i64 0) ∧ w' = w :=
  ret_mono (V14_sound none w (fun r w' => r = .int .i64 0 ∧ w' = w) (by unfold V14; exact bsel_pos rfl ⟨rfl, rfl⟩)) (by rintro _ _ ⟨rfl, rfl⟩; exact ⟨rfl, rfl⟩)
/-- What a value that is none answers: over whatever Store whose 'get' gives nil. -/
def GetsNil (p : Option Addr) (v : Int) (w : World) : Prop := ∀ w1, Keep No w w1 → Calls Tryz.prog 41 #[.pointer p, .int .i64 v] w1 fun e w' => e = .returned .nilIface ∧ Keep No w1 w'
theorem GetsNil.keep {p : Option Addr} {v : Int} {w w1 : World} (h : GetsNil p v w) (hk : Keep No w w1) : GetsNil p v w1 := fun w2 h2 => h w2 (hk.no h2)
theorem getsNil_nil (v : Int) (w : World) : GetsNil none v w := fun w1 _ => (C41_nil v w1).mono (by rintro _ _ ⟨rfl, rfl⟩; exact ⟨rfl, Keep.refl _ _⟩)

theorem C15_none {p : Option Addr} {v : Int} {w : World} (h : GetsNil p v w) : Calls Tryz.prog 15 #[.pointer p, .int .i64 v] w fun e w' => e = .returned (.int .i64 0) ∧ Keep No w w' := by
  refine ret_mono (V15_sound p v w (fun r w' => r = .int .i64 0 ∧ Keep No w w') ?_) (by rintro _ _ ⟨rfl, h⟩; exact ⟨rfl, h⟩)
  unfold V15
  refine (h w (Keep.refl _ _)).mono ?_
  rintro _ w1 ⟨rfl, hk⟩
  exact ⟨_, rfl, by simpa using hk⟩
theorem C45_none {p : Option Addr} {v : Int} {w : World} (h : GetsNil p v w) : Calls Tryz.prog 45 #[.pointer p, .int .i64 v] w fun e w' => e = .returned (.int .i64 0) ∧ Keep No w w' := by
  refine ret_mono (V45_sound p v w (fun r w' => r = .int .i64 0 ∧ Keep No w w') ?_) (by rintro _ _ ⟨rfl, h⟩; exact ⟨rfl, h⟩)
  unfold V45
  refine (h w (Keep.refl _ _)).mono ?_
  rintro _ w1 ⟨rfl, hk⟩
  exact ⟨_, rfl, by simpa using hk⟩
theorem C34_none {p : Option Addr} {v : Int} {w : World} (h : GetsNil p v w) : Calls Tryz.prog 34 #[.pointer p, .int .i64 v] w fun e w' => e = .returned (.string ⟨#[]⟩) ∧ Keep No w w' := by
  refine ret_mono (V34_sound p v w (fun r w' => r = .string ⟨#[]⟩ ∧ Keep No w w') ?_) (by rintro _ _ ⟨rfl, h⟩; exact ⟨rfl, h⟩)
  unfold V34
  refine (h w (Keep.refl _ _)).mono ?_
  rintro _ w1 ⟨rfl, hk⟩
  exact ⟨_, rfl, by simpa using hk⟩
theorem C33_none {p : Option Addr} {v : Int} {w : World} (h : GetsNil p v w) : Calls Tryz.prog 33 #[.pointer p, .int .i64 v] w fun e w' => e = .returned (.tuple #[.int .i64 0, .int .i64 12]) ∧ Keep No w w' := by
  refine ret_mono (V33_sound p v w (fun r w' => r = .tuple #[.int .i64 0, .int .i64 12] ∧ Keep No w w') ?_) (by rintro _ _ ⟨rfl, h⟩; exact ⟨rfl, h⟩)
  unfold V33
  refine (h w (Keep.refl _ _)).mono ?_
  rintro _ w1 ⟨rfl, hk⟩
  exact ⟨_, rfl, _, _, nil96 _, _, _, nil80 _, _, _, nil98 _, _, _, nil102 _, rfl, hk⟩
theorem C35_none {p : Option Addr} {v : Int} {w : World} (h : GetsNil p v w) : Calls Tryz.prog 35 #[.pointer p, .int .i64 v] w fun e w' => e = .returned (.bool false) ∧ Keep No w w' := by
  refine ret_mono (V35_sound p v w (fun r w' => r = .bool false ∧ Keep No w w') ?_) (by rintro _ _ ⟨rfl, h⟩; exact ⟨rfl, h⟩)
  unfold V35
  refine (h w (Keep.refl _ _)).mono ?_
  rintro _ w1 ⟨rfl, hk⟩
  exact ⟨_, rfl, _, nil70 _, by simpa [V35J2] using hk⟩
theorem C16_none {p : Option Addr} {v : Int} {w : World} (h : GetsNil p v w) : Calls Tryz.prog 16 #[.pointer p, .int .i64 v, .int .i64 v] w fun e w' => e = .returned (.bool false) ∧ Keep No w w' := by
  refine ret_mono (V16_sound p v v w (fun r w' => r = .bool false ∧ Keep No w w') ?_) (by rintro _ _ ⟨rfl, h⟩; exact ⟨rfl, h⟩)
  unfold V16
  refine (h w (Keep.refl _ _)).mono ?_
  rintro _ w1 ⟨rfl, hk⟩
  refine ⟨_, rfl, (h w1 hk).mono ?_⟩
  rintro _ w2 ⟨rfl, hk2⟩
  exact ⟨_, rfl, by simpa [V16J2] using hk.no hk2⟩
theorem C17_none {p : Option Addr} {v : Int} {w : World} (h : GetsNil p v w) : Calls Tryz.prog 17 #[.pointer p, .int .i64 v, .int .i64 v] w fun e w' => e = .returned (.bool false) ∧ Keep No w w' := by
  refine ret_mono (V17_sound p v v w (fun r w' => r = .bool false ∧ Keep No w w') ?_) (by rintro _ _ ⟨rfl, h⟩; exact ⟨rfl, h⟩)
  unfold V17
  refine (C45_none h).mono ?_
  rintro _ w1 ⟨rfl, hk⟩
  refine ⟨_, rfl, (C45_none (h.keep hk)).mono ?_⟩
  rintro _ w2 ⟨rfl, hk2⟩
  refine ⟨_, rfl, bsel_pos rfl ((C16_none (h.keep (hk.no hk2))).mono ?_)⟩
  rintro _ w3 ⟨rfl, hk3⟩
  exact ⟨_, rfl, rfl, (hk.no hk2).no hk3⟩

/-! The values that are none of a Store that is there: below 0. -/
theorem C146_neg {p : Option Addr} {v : Int} (hv : v < 0) (w : World) : Calls Tryz.prog 146 #[.pointer p, .int .i64 v] w fun e w' => e = .returned (.bool false) ∧ w' = w := by
  refine ret_mono (V146_sound p v w (fun r w' => r = .bool false ∧ w' = w) ?_) (by rintro _ _ ⟨rfl, h⟩; exact ⟨rfl, h⟩)
  unfold V146
  have : decide (v ≥ 0) = false := by simp; omega
  cases p <;> simp [this]
theorem C92_neg {p : Option Addr} {v : Int} (hv : v < 0) (w : World) : Calls Tryz.prog 92 #[.pointer p, .int .i64 v] w fun e w' => e = .returned (.tuple #[.nilIface, .bool false]) ∧ Keep No w w' := by
  refine ret_mono (V92_sound p v w (fun r w' => r = .tuple #[.nilIface, .bool false] ∧ Keep No w w') ?_) (by rintro _ _ ⟨rfl, h⟩; exact ⟨rfl, h⟩)
  unfold V92
  refine (C146_neg hv w).mono ?_
  rintro _ w1 ⟨rfl, rfl⟩
  refine ⟨_, rfl, bsel_pos rfl (newK_of fun b w2 _ hb hk => ⟨_, hb.cell rfl, rfl, hk⟩)⟩
theorem C41_neg {s : Nat} {v : Int} {all : Option Addr} (hv : v < 0) {w : World} (hs : w.cell? ⟨s, 6, none⟩ = some (.pointer all)) :
    Calls Tryz.prog 41 #[.pointer (some ⟨s, 0, none⟩), .int .i64 v] w fun e w' => e = .returned .nilIface ∧ Keep No w w' := by
  refine ret_mono (V41_sound _ v w (fun r w' => r = .nilIface ∧ Keep No w w') ?_) (by rintro _ _ ⟨rfl, h⟩; exact ⟨rfl, h⟩)
  unfold V41
  refine bsel_neg rfl ?_
  rw [nilK_some]
  refine ⟨all, by simpa using hs, (C92_neg hv w).mono ?_⟩
  rintro _ w1 ⟨rfl, hk⟩
  exact ⟨_, _, rfl, rfl, hk⟩
theorem getsNil_neg {s : Nat} {v : Int} {all : Option Addr} (hv : v < 0) {w : World} (hs : w.cell? ⟨s, 6, none⟩ = some (.pointer all)) : GetsNil (some ⟨s, 0, none⟩) v w :=
  fun w1 hk => C41_neg hv (hk.cell hs id)
end Go.Fw

set_option autoImplicit false
set_option linter.unusedVariables false
namespace Go.Fw
open Go.Proofs Go.RowKit

/-- Types that a row's append wants to know. -/
structure RowT (t e bytes : Nat) (z : Value) : Prop where
  und : Tryz.prog.underlying t = some (.slice e)
  info : ∃ i, Tryz.prog.info? e = some i ∧ i.zero = some z ∧ i.size = 1 ∧ i.bytes = bytes
  one : z.cells.size = 1
  pos : 0 < bytes
theorem info_of {e bytes : Nat} {z : Value} (h : (Tryz.prog.info? e).map (fun i => (i.zero, i.size, i.bytes)) = some (some z, 1, bytes)) : ∃ i, Tryz.prog.info? e = some i ∧ i.zero = some z ∧ i.size = 1 ∧ i.bytes = bytes := by
  obtain ⟨i, hi, hj⟩ := Option.map_eq_some_iff.1 h
  simp at hj
  exact ⟨i, hi, hj⟩
theorem rowVals : RowT 88 77 16 .nilIface := ⟨by kernel_rfl, info_of (by kernel_rfl), rfl, by decide⟩
theorem rowBools : RowT 175 4 1 (.bool false) := ⟨by kernel_rfl, info_of (by kernel_rfl), rfl, by decide⟩
theorem rowInts : RowT 30 3 8 (.int .i64 0) := ⟨by kernel_rfl, info_of (by kernel_rfl), rfl, by decide⟩

theorem appendRow {t e bytes : Nat} {z : Value} (T : RowT t e bytes z)
    {w : World} {base : Nat} {v : Value} {n : Nat} {xs : List Value} (hown : w.ownsRow base e 1 v n xs) {b : Nat} {e' : TypeId} {x : Value} (hb : Blk w b e' [x]) (hx : x.oneCell' = true)
    (hbytes : (n + 1) * bytes ≤ 140737488355328) (hbase : base ≤ w.heap.size) {K : World → Option Addr → Nat → Nat → Prop}
    (h : ∀ g cap w', w'.ownsRow base e 1 (.slice (some ⟨g, 0, none⟩) (n + 1) cap) (n + 1) (xs ++ [x]) → Keep (fun k => v.ownBlock = some k) w w' → (v.ownBlock = some g ∨ g = w.heap.size) → K w' (some ⟨g, 0, none⟩) (n + 1) cap) :
    ∃ w' : World, ∃ a : Option Addr, ∃ l : Nat, ∃ c : Nat, (vcEff.bltV .append #[t, t] t #[v, .slice (some ⟨b, 0, none⟩) 1 1]).run Tryz.prog w = .ok (.slice a l c) w' ∧ K w' a l c := by
  obtain ⟨i, hi, hz, h1, h2⟩ := T.info
  exact append_of T.und hi hz h1 h2 T.one hown hb hx hbytes T.pos hbase h

theorem C12 (p q : Int) (w : World) : Calls Tryz.prog 12 #[.int .i64 p, .int .i64 q] w fun e w' => e = .returned (.agg #[.int .i64 0, .int .i64 p, .int .i64 q, .slice none 0 0, .slice none 0 0]) ∧ Keep No w w' := by
  refine ret_mono (V12_sound p q w (fun r w' => r = .agg #[.int .i64 0, .int .i64 p, .int .i64 q, .slice none 0 0, .slice none 0 0] ∧ Keep No w w') ?_) (by rintro _ _ ⟨rfl, h⟩; exact ⟨rfl, h⟩)
  unfold V12
  refine newK_of fun b w1 hs hb hk => ?_
  refine stK_add hb (by simp) fun w2 hb hk2 => ?_
  replace hk := hk.news hk2 (by rintro k rfl; omega)
  refine stK_add hb (by simp) fun w3 hb hk2 => ?_
  replace hk := hk.news hk2 (by rintro k rfl; omega)
  refine stK_add hb (by simp) fun w4 hb hk2 => ?_
  replace hk := hk.news hk2 (by rintro k rfl; omega)
  refine stK_add hb (by simp) fun w5 hb hk2 => ?_
  replace hk := hk.news hk2 (by rintro k rfl; omega)
  refine stK_add hb (by simp) fun w6 hb hk2 => ?_
  replace hk := hk.news hk2 (by rintro k rfl; omega)
  exact ⟨_, _, _, _, _, _, _, _, _, hb.cells0, rfl, hk⟩

theorem C36 (w : World) : Calls Tryz.prog 36 #[] w fun e w' => ∃ a, e = .returned (.pointer (some ⟨a, 0, none⟩)) ∧ w.heap.size ≤ a ∧ Blk w' a 178 [.slice none 0 0, .slice none 0 0, .slice none 0 0] ∧ Keep No w w' := by
  refine ret_mono (V36_sound w (fun r w' => ∃ a, r = .pointer (some ⟨a, 0, none⟩) ∧ w.heap.size ≤ a ∧ Blk w' a 178 [.slice none 0 0, .slice none 0 0, .slice none 0 0] ∧ Keep No w w') ?_) (by rintro _ _ ⟨a, rfl, h⟩; exact ⟨a, rfl, h⟩)
  unfold V36
  exact newK_of fun b w1 hs hb hk => ⟨b, rfl, by omega, hb, hk⟩

/-- A map from ints to ints: the plan's. -/
def IMap (w : World) (m : Nat) (n : Nat) : Prop := ∃ D : DataW Unit, w.ownsMap Tryz.prog 3 (plainElem Tryz.prog 3) m n D
theorem Keep.imap {fp : Nat → Prop} {w w' : World} {m n : Nat} (hk : Keep fp w w') (h : IMap w m n) (hn : ¬ fp m) : IMap w' m n := by
  obtain ⟨D, es, clock, hb, hr⟩ := h
  exact ⟨D, es, clock, (hk.block m (Array.getElem?_eq_some_iff.1 hb).1 hn).trans hb, hr⟩
theorem IMap.etype {w : World} {m n : Nat} (h : IMap w m n) : Fw.etype w m = none := by
  obtain ⟨D, es, clock, hb, hr⟩ := h
  unfold Fw.etype; rw [hb]
theorem Keep.timap {B : Nat} {ts : List TypeId} {w w' : World} {m n : Nat} (hk : Keep (Ty B ts w) w w') (h : IMap w m n) : IMap w' m n :=
  hk.imap h fun ⟨_, e, he, _⟩ => by rw [h.etype] at he; cases he

structure PlanAt (w : World) (p : Nat) (B : Nat) : Prop where
  ex : ∃ m n c, Blk w p 181 [.map (some m), .int .i64 c] ∧ IMap w m n ∧ B ≤ m
  ge : B ≤ p

theorem C37_nil (a : Option Addr) (c : Nat) (w : World) : Calls Tryz.prog 37 #[.slice a 0 c] w fun e w' => ∃ p, e = .returned (.pointer (some ⟨p, 0, none⟩)) ∧ PlanAt w' p w.heap.size ∧ Keep No w w' := by
  refine ret_mono (V37_sound a 0 c w (fun r w' => ∃ p, r = .pointer (some ⟨p, 0, none⟩) ∧ PlanAt w' p w.heap.size ∧ Keep No w w') ?_) (by rintro _ _ ⟨a, rfl, h⟩; exact ⟨a, rfl, h⟩)
  unfold V37
  refine ⟨_, _, run_makeMap 179 w, ?_⟩
  refine newK_of fun b w1 hs hb hk => ?_
  refine ⟨fun i w' => i = 0 ∧ w' = w1, fun _ _ => 0, ⟨rfl, rfl⟩, ?_⟩
  rintro j i w2 ⟨rfl, rfl⟩
  refine bsel_neg rfl ⟨b, rfl, ⟨⟨w.heap.size, 0, 0, hb, ?_, Nat.le_refl _⟩, by simp at hs; omega⟩, ?_⟩
  · exact hk.imap ⟨_, World.ownsMap_made w Tryz.prog 3 _⟩ id
  · exact (Keep.fresh w _).no hk
/-- The slots: a row of values, a row of trues (the rows' blocks from R on). -/
structure SlotsAt (w : World) (a : Nat) (B R : Nat) (vals : List Value) : Prop where
  ex : ∃ lv tv fc, Blk w a 178 [lv, tv, .slice none 0 fc] ∧ w.ownsRow R 77 1 lv vals.length vals ∧ w.ownsRow R 4 1 tv vals.length (List.replicate vals.length (.bool true)) ∧ fc = 0
  ge : B ≤ a
  len : vals.length < 1000000000000
theorem SlotsAt.keep {w w' : World} {fp : Nat → Prop} {a B R : Nat} {vals : List Value} (h : SlotsAt w a B R vals) (hk : Keep fp w w') (hn : ∀ k, B ≤ k → Fw.etype w k = some 178 → ¬ fp k) (hn2 : ∀ k, R ≤ k → (Fw.etype w k = some 77 ∨ Fw.etype w k = some 4) → ¬ fp k) : SlotsAt w' a B R vals := by
  obtain ⟨⟨lv, tv, fc, h1, h2, h3, h4⟩, hge, hlen⟩ := h
  exact ⟨⟨lv, tv, fc, hk.blk h1 (hn _ hge (by simp [h1.etype])), hk.row h2 fun g hg => hn2 g (h2.lt g hg).1 (by simp [ownsRow_etype h2 hg]), hk.row h3 fun g hg => hn2 g (h3.lt g hg).1 (by simp [ownsRow_etype h3 hg]), h4⟩, hge, hlen⟩
theorem SlotsAt.etype {w : World} {a B R : Nat} {vals : List Value} (h : SlotsAt w a B R vals) : Fw.etype w a = some 178 := by
  obtain ⟨⟨lv, tv, fc, h1, h2, h3, h4⟩, hge, hlen⟩ := h
  exact h1.etype
theorem SlotsAt.no {w w' : World} {a B R : Nat} {vals : List Value} (h : SlotsAt w a B R vals) (hk : Keep No w w') : SlotsAt w' a B R vals := h.keep hk (fun _ _ _ => id) fun _ _ _ => id
theorem SlotsAt.mono {w : World} {a B R B' R' : Nat} {vals : List Value} (h : SlotsAt w a B R vals) (hB : B' ≤ B) (hR : R' ≤ R) : SlotsAt w a B' R' vals := by
  obtain ⟨⟨lv, tv, fc, h1, h2, h3, h4⟩, hge, hlen⟩ := h
  exact ⟨⟨lv, tv, fc, h1, ownsRow_mono h2 hR, ownsRow_mono h3 hR, h4⟩, by omega, hlen⟩

theorem oneCell_of {x : Value} (h : plainV x = true) : x.oneCell' = true := by cases x <;> first | rfl | cases h
theorem plK_of {x : Value} {K : Prop} (h : plainV x = true) (hk : K) : plK x K := by cases x <;> first | exact hk | cases h


theorem ownsRow_ne2 {w : World} {base base' e e' size size' n n' : Nat} {v v' : Value} {xs xs' : List Value} (h : w.ownsRow base e size v n xs) (h' : w.ownsRow base' e' size' v' n' xs') (he : e ≠ e') : ∀ g, v.ownBlock = some g → v'.ownBlock ≠ some g := fun g hg hg' => by
  have h1 := ownsRow_etype h hg
  rw [ownsRow_etype h' hg'] at h1
  cases h1
  exact he rfl

/-- One of a table's rows grows by one. -/
theorem grow_of {t e bytes : Nat} {z : Value} (T : RowT t e bytes z) {W w : World} {B : Nat} {fp : Nat → Prop} {v : Value} {n : Nat} {xs : List Value} {b : Nat} {x : Value}
    (hW : Keep fp W w) (hown : w.ownsRow B e 1 v n xs) (hb : Blk w b e [x]) (hx : x.oneCell' = true) (hbytes : (n + 1) * bytes ≤ 140737488355328) (hbase : B ≤ w.heap.size) (he : ∀ k, k < W.heap.size → v.ownBlock = some k → fp k) {K : World → Option Addr → Nat → Nat → Prop}
    (h : ∀ g cap w', Keep fp W w' → w'.ownsRow B e 1 (.slice (some ⟨g, 0, none⟩) (n + 1) cap) (n + 1) (xs ++ [x]) → (∀ b' e' cs, e ≠ e' → Blk w b' e' cs → Blk w' b' e' cs) →
      (∀ e' v' n' xs', e ≠ e' → w.ownsRow B e' 1 v' n' xs' → w'.ownsRow B e' 1 v' n' xs') → K w' (some ⟨g, 0, none⟩) (n + 1) cap) :
    ∃ w' : World, ∃ a : Option Addr, ∃ l : Nat, ∃ c : Nat, (vcEff.bltV .append #[t, t] t #[v, .slice (some ⟨b, 0, none⟩) 1 1]).run Tryz.prog w = .ok (.slice a l c) w' ∧ K w' a l c :=
  appendRow T hown hb hx hbytes hbase fun g cap w' ho hk hat => h g cap w'
    (hW.trans hk he) ho
    (fun b' e' cs hne hb' => hk.blk hb' fun hg => ownsRow_ne hown hb' hne hg)
    (fun e' v' n' xs' hne ho' => hk.row ho' fun g hg hg' => ownsRow_ne2 hown ho' hne g hg' hg)

theorem C38 {w : World} {a B R : Nat} {fp : Nat → Prop} {vals : List Value} {x : Value} (h : SlotsAt w a B R vals) (hx : plainV x = true) (hl : vals.length < 100000000000) (hB : R ≤ w.heap.size) (hfa : fp a) (hfr : ∀ k, R ≤ k → k < w.heap.size → (etype w k = some 77 ∨ etype w k = some 4) → fp k) :
    Calls Tryz.prog 38 #[.pointer (some ⟨a, 0, none⟩), x] w fun e w' => e = .returned (.int .i64 vals.length) ∧ SlotsAt w' a B R (vals ++ [x]) ∧ Keep fp w w' := by
  refine ret_mono (V38_sound _ x w (fun r w' => r = .int .i64 vals.length ∧ SlotsAt w' a B R (vals ++ [x]) ∧ Keep fp w w') ?_) (by rintro _ _ ⟨rfl, h⟩; exact ⟨rfl, h⟩)
  obtain ⟨⟨lv, tv, fc, hb, hlv, htv, rfl⟩, hge, hlen⟩ := h
  obtain ⟨la, ll, lc, rfl, hll⟩ : ∃ la ll lc, lv = .slice la ll lc ∧ ll = vals.length := by
    rcases hlv.2 with ⟨h1, h2⟩ | ⟨g, cap, cur, h1, _⟩
    · exact ⟨_, _, _, h1, h2.symm⟩
    · exact ⟨_, _, _, h1, rfl⟩
  obtain ⟨ta, tl, tc, rfl⟩ : ∃ la ll lc, tv = .slice la ll lc := by
    rcases htv.2 with ⟨h1, _⟩ | ⟨g, cap, cur, h1, _⟩
    · exact ⟨_, _, _, h1⟩
    · exact ⟨_, _, _, h1⟩
  subst hll
  have hkd : Keep No w w.drew := Keep.drawn w
  have hlnS : ∀ k, k < w.heap.size → (Value.slice la vals.length lc).ownBlock = some k → fp k := fun k hk hg => hfr k (hlv.lt k hg).1 hk (by simp [ownsRow_etype hlv hg])
  have htnS : ∀ k, k < w.heap.size → (Value.slice ta tl tc).ownBlock = some k → fp k := fun k hk hg => hfr k (htv.lt k hg).1 hk (by simp [ownsRow_etype htv hg])
  have haS : ∀ k, k < w.heap.size → k = a → fp k := by rintro k _ rfl; exact hfa
  have hends : ∀ {w3 : World} {g1 c1 g2 c2 : Nat}, Keep fp w w3 → Blk w3 a 178 [.slice la vals.length lc, .slice ta tl tc, .slice none 0 0] →
      w3.ownsRow R 77 1 (.slice (some ⟨g1, 0, none⟩) (vals.length + 1) c1) (vals.length + 1) (vals ++ [x]) → w3.ownsRow R 4 1 (.slice (some ⟨g2, 0, none⟩) (vals.length + 1) c2) (vals.length + 1) (List.replicate vals.length (.bool true) ++ [.bool true]) →
      nilK (some ⟨a, 0, none⟩) fun a63 => stK w3 (a63.add 0) (.slice (some ⟨g1, 0, none⟩) (vals.length + 1) c1) fun w64 => nilK (some ⟨a, 0, none⟩) fun a65 => stK w64 (a65.add 1) (.slice (some ⟨g2, 0, none⟩) (vals.length + 1) c2) fun w66 =>
      V38J1 (fun r w' => r = .int .i64 vals.length ∧ SlotsAt w' a B R (vals ++ [x]) ∧ Keep fp w w') (some ⟨a, 0, none⟩) w66 := by
    intro w3 g1 c1 g2 c2 hk hb3 ho1 ho2
    rw [nilK_some]
    refine stK_add hb3 (by simp) fun w4 hb4 hk4 => ?_
    rw [nilK_some]
    refine stK_add hb4 (by simp) fun w5 hb5 hk5 => ?_
    have n1 := ownsRow_ne ho1 hb3 (by decide)
    have n2 := ownsRow_ne ho2 hb3 (by decide)
    have o1 := hk5.row (hk4.row ho1 fun g hg e => n1 (e ▸ hg)) fun g hg e => n1 (e ▸ hg)
    have o2 := hk5.row (hk4.row ho2 fun g hg e => n2 (e ▸ hg)) fun g hg e => n2 (e ▸ hg)
    have hk' := (hk.trans hk4 haS).trans hk5 haS
    unfold V38J1
    rw [nilK_some]
    refine ⟨_, _, _, hb5.add 0 rfl, ?_, ⟨⟨_, _, _, hb5, by simpa using o1, by simpa [List.replicate_succ'] using o2, rfl⟩, hge, by simp; omega⟩, hk'⟩
    rw [wrap_i64 (by omega)]
    simp
  unfold V38
  refine bsel_neg rfl ?_
  rw [nilK_some]
  refine ⟨_, _, _, hb.add 2 rfl, bsel_pos rfl ?_⟩
  rw [nilK_some]
  refine ⟨_, _, _, hb.drew.add 0 rfl, ?_⟩
  rw [nilK_some]
  refine ⟨_, _, _, hb.drew.add 1 rfl, ?_, ?_⟩
  · refine plK_of hx (newK_of fun b w1 hs1 hb1 hk1 => ?_)
    replace hk1 := hkd.no hk1
    have ha1 := hk1.nblk hb
    refine ⟨ha1.add 1 rfl, ha1.add 0 rfl, ?_, ?_⟩
    · refine grow_of (fp := fp) rowVals hk1.of_no (hk1.nrow hlv) hb1 (oneCell_of hx) (by omega) (by have := hk1.size; omega) hlnS fun g1 c1 w2 hk2 ho1 hbb hrr => ?_
      have ha2 := hbb _ _ _ (by decide) ha1
      refine ⟨ha2.add 1 rfl, newK_of fun b2 w3 hs3 hb3 hk3 => ⟨(hk3.nblk ha2).add 1 rfl, ?_⟩⟩
      refine grow_of (fp := fp) rowBools (hk2.no hk3) (hk3.nrow (hrr _ _ _ _ (by decide) (hk1.nrow htv))) hb3 rfl (by omega) (by have := (hk2.no hk3).size; omega) htnS fun g2 c2 w4 hk4 ho2 hbb4 hrr4 => ?_
      exact hends hk4 (hbb4 _ _ _ (by decide) (hk3.nblk ha2)) (hrr4 _ _ _ _ (by decide) (hk3.nrow ho1)) ho2
    · refine newK_of fun b2 w2 hs2 hb2 hk2 => ?_
      have ha2 := hk2.nblk ha1
      have hb1' := hk2.nblk hb1
      replace hk2 := hk1.no hk2
      refine ⟨ha2.add 1 rfl, ha2.add 0 rfl, ?_⟩
      refine grow_of (fp := fp) rowVals hk2.of_no (hk2.nrow hlv) hb1' (oneCell_of hx) (by omega) (by have := hk2.size; omega) hlnS fun g1 c1 w3 hk3 ho1 hbb hrr => ?_
      have ha3 := hbb _ _ _ (by decide) ha2
      refine ⟨ha3.add 1 rfl, ?_⟩
      refine grow_of (fp := fp) rowBools hk3 (hrr _ _ _ _ (by decide) (hk2.nrow htv)) (hbb _ _ _ (by decide) hb2) rfl (by omega) (by have := hk3.size; omega) htnS fun g2 c2 w4 hk4 ho2 hbb4 hrr4 => ?_
      exact hends hk4 (hbb4 _ _ _ (by decide) ha3) (hrr4 _ _ _ _ (by decide) ho1) ho2
  · refine newK_of fun b w1 hs1 hb1 hk1 => ?_
    replace hk1 := hkd.no hk1
    have ha1 := hk1.nblk hb
    refine ⟨ha1.add 1 rfl, ha1.add 0 rfl, plK_of hx (newK_of fun b2 w2 hs2 hb2 hk2 => ?_)⟩
    have ha2 := hk2.nblk ha1
    have hb1' := hk2.nblk hb1
    replace hk2 := hk1.no hk2
    refine ⟨ha2.add 1 rfl, ha2.add 0 rfl, ?_⟩
    refine grow_of (fp := fp) rowVals hk2.of_no (hk2.nrow hlv) hb2 (oneCell_of hx) (by omega) (by have := hk2.size; omega) hlnS fun g1 c1 w3 hk3 ho1 hbb hrr => ?_
    have ha3 := hbb _ _ _ (by decide) ha2
    refine ⟨ha3.add 1 rfl, ?_⟩
    refine grow_of (fp := fp) rowBools hk3 (hrr _ _ _ _ (by decide) (hk2.nrow htv)) (hbb _ _ _ (by decide) hb1') rfl (by omega) (by have := hk3.size; omega) htnS fun g2 c2 w4 hk4 ho2 hbb4 hrr4 => ?_
    exact hends hk4 (hbb4 _ _ _ (by decide) ha3) (hrr4 _ _ _ _ (by decide) ho1) ho2

end Go.Fw

set_option autoImplicit false
set_option linter.unusedVariables false
namespace Go.Fw
open Go.Proofs Go.RowKit

/-- A Store, as it is kept. -/
structure St where
  fuel : Int
  pairs : Int
  shared : Int
  ina : Option Addr
  inl : Nat
  inc : Nat
  fra : Option Addr
  frl : Nat
  frc : Nat
  m : Option Addr
  last : Int
  live : Int
  except : Int
  due : Bool
  a : Nat
  p : Nat
  vals : List Value

def St.cells (S : St) : List Value := [.int .i64 S.fuel, .int .i64 S.pairs, .int .i64 S.shared, .slice S.ina S.inl S.inc, .slice S.fra S.frl S.frc, .pointer S.m, .pointer (some ⟨S.a, 0, none⟩), .int .i64 S.last, .int .i64 S.live, .int .i64 S.except, .pointer (some ⟨S.p, 0, none⟩), .bool S.due]

structure StAt (w : World) (s : Nat) (B : Nat) (S : St) : Prop where
  blk : Blk w s 81 S.cells
  slots : SlotsAt w S.a B B S.vals
  plan : PlanAt w S.p B
  ge : B ≤ s

abbrev storeTy : List TypeId := [77, 4, 178, 81, 181]

theorem PlanAt.keep {w w' : World} {fp : Nat → Prop} {p B : Nat} (h : PlanAt w p B) (hk : Keep fp w w') (hn : ∀ k, B ≤ k → (Fw.etype w k = some 181 ∨ Fw.etype w k = none) → ¬ fp k) : PlanAt w' p B := by
  obtain ⟨⟨m, n, c, h1, h2, h3⟩, hge⟩ := h
  exact ⟨⟨m, n, c, hk.blk h1 (hn _ hge (by simp [h1.etype])), hk.imap h2 (hn _ h3 (by simp [h2.etype])), h3⟩, hge⟩

/-- The Store stays while nothing of its types turns. -/
theorem StAt.keep {w w' : World} {fp : Nat → Prop} {s B : Nat} {S : St} (h : StAt w s B S) (hk : Keep fp w w') (hn : ∀ k, B ≤ k → fp k → ∃ e, Fw.etype w k = some e ∧ e ∉ storeTy) : StAt w' s B S := by
  obtain ⟨h1, h2, h3, hge⟩ := h
  have hno : ∀ k, B ≤ k → (Fw.etype w k = some 77 ∨ Fw.etype w k = some 4 ∨ Fw.etype w k = some 178 ∨ Fw.etype w k = some 81 ∨ Fw.etype w k = some 181 ∨ Fw.etype w k = none) → ¬ fp k := by
    intro k hB hk' hf
    obtain ⟨e, he, hne⟩ := hn k hB hf
    rw [he] at hk'
    rcases hk' with h | h | h | h | h | h <;> cases h <;> exact hne (by decide)
  exact ⟨hk.blk h1 (hno _ hge (by simp [h1.etype])), h2.keep hk (fun k hB hk' => hno k hB (by simp [hk'])) fun k hB hk' => hno k hB (by rcases hk' with h | h <;> simp [h]), h3.keep hk fun k hB hk' => hno k hB (by rcases hk' with h | h <;> simp [h]), hge⟩
theorem StAt.no {w w' : World} {s B : Nat} {S : St} (h : StAt w s B S) (hk : Keep No w w') : StAt w' s B S := h.keep hk fun _ _ => False.elim

def val0 : List Value := [.iface 85 (.agg #[]), .iface 87 (.agg #[.bool false]), .iface 87 (.agg #[.bool true])]

theorem C11 {fu pa sh : Int} {ia : Option Addr} {il ic : Nat} {fa : Option Addr} {fc : Nat} {m : Option Addr} {w : World} (h1 : 0 ≤ fu ∧ fu ≤ 100000) (h2 : 0 ≤ pa ∧ pa ≤ 65536) (h3 : 0 ≤ sh ∧ sh ≤ 256) :
    Calls Tryz.prog 11 #[.agg #[.int .i64 fu, .int .i64 pa, .int .i64 sh, .slice ia il ic, .slice fa 0 fc], .pointer m] w fun e w' => ∃ s a p, e = .returned (.tuple #[.pointer (some ⟨s, 0, none⟩), .int .i64 0]) ∧
      StAt w' s w.heap.size ⟨fu, pa, sh, ia, il, ic, fa, 0, fc, m, 0, 0, 0, false, a, p, val0⟩ ∧ Keep No w w' := by
  refine ret_mono (V11_sound fu pa sh ia il ic fa 0 fc m w (fun r w' => ∃ s a p, r = .tuple #[.pointer (some ⟨s, 0, none⟩), .int .i64 0] ∧
      StAt w' s w.heap.size ⟨fu, pa, sh, ia, il, ic, fa, 0, fc, m, 0, 0, 0, false, a, p, val0⟩ ∧ Keep No w w') ?_) (by rintro _ _ ⟨s, a, p, rfl, h⟩; exact ⟨s, a, p, rfl, h⟩)
  unfold V11
  refine newK_of fun b w1 hs1 hb hk => ?_
  refine ⟨_, hb.add 0 rfl, bsel_neg (by simp; omega) ?_⟩
  refine ⟨_, hb.add 0 rfl, bsel_neg (by simp; omega) ?_⟩
  refine ⟨_, hb.add 1 rfl, bsel_neg (by simp; omega) ?_⟩
  refine ⟨_, hb.add 1 rfl, bsel_neg (by simp; omega) ?_⟩
  refine ⟨_, hb.add 2 rfl, bsel_neg (by simp; omega) ?_⟩
  refine ⟨_, hb.add 2 rfl, ?_⟩
  unfold V11J2
  refine bsel_neg (by simp; omega) ?_
  have hk := hk.no (Keep.drawn w1)
  replace hb := hb.drew
  refine ⟨_, _, _, _, _, _, _, _, _, hb.cells0, _, _, _, hb.add 4 rfl, (C36 _).mono ?_⟩
  rintro _ w2 ⟨a, rfl, ha, hba, hk2⟩
  replace hb := hk2.nblk hb
  replace ha : w.heap.size ≤ a := by have := hk.size; omega
  replace hk := hk.no hk2
  refine ⟨_, rfl, hb.add 4 rfl, hb.cells0, (C37_nil _ _ _).mono ?_⟩
  rintro _ w3 ⟨p, rfl, hp, hk3⟩
  replace hb := hk3.nblk hb
  replace hba := hk3.nblk hba
  have hsl : ∀ R, SlotsAt w3 a w.heap.size R [] := fun R => ⟨⟨_, _, _, hba, World.ownsRow_nil _ _ _ _, World.ownsRow_nil _ _ _ _, rfl⟩, ha, by simp⟩
  replace hp : PlanAt w3 p w.heap.size := by
    obtain ⟨⟨m, n, c, h1, h2, h3⟩, h4⟩ := hp
    have := hk.size
    exact ⟨⟨m, n, c, h1, h2, by omega⟩, by omega⟩
  replace hk := hk.no hk3
  refine ⟨_, rfl, hb.cells0, newK_of fun s w4 hs4 hbs hk4 => ?_⟩
  replace hsl := fun R => (hsl R).no hk4
  replace hp := hp.keep hk4 fun _ _ _ => id
  have hws : w.heap.size ≤ s := by have := hk.size; omega
  replace hk := hk.no hk4
  unfold V11J1
  refine newK_of fun c w5 hs5 hbc hk5 => ?_
  replace hbs := hk5.nblk hbs
  replace hsl := (hsl w5.heap.size).no hk5
  replace hp := hp.keep hk5 fun _ _ _ => id
  replace hk := hk.no hk5
  have hcw : w.heap.size ≤ c := by have := hk4.size; omega
  have hca : c ≠ a := ne_of_etype hbc.etype hsl.etype (by decide)
  have hsa : s ≠ a := ne_of_etype hbs.etype hsl.etype (by decide)
  refine ⟨fun i w' => 0 ≤ i ∧ i ≤ 3 ∧ SlotsAt w' a w.heap.size w5.heap.size (val0.take i.toNat) ∧ Keep (fun k => k = a) w5 w',
    fun i _ => (3 - i).toNat, ⟨by omega, by omega, hsl, Keep.refl _ _⟩, ?_⟩
  rintro j i w' ⟨hi0, hi3, hsl', hkw⟩
  have hbs' := hkw.blk hbs hsa
  have hbc' := hkw.blk hbc hca
  refine bsel_split (fun hlt => ?_) fun hge => ?_
  · simp at hlt
    obtain ⟨n, rfl⟩ := Int.eq_ofNat_of_zero_le hi0
    have hn : n < 3 := by omega
    obtain ⟨x, hv, hpl, htk⟩ : ∃ x, val0[n]? = some x ∧ plainV x = true ∧ val0.take (n + 1) = val0.take n ++ [x] := by
      rcases n with _ | _ | _ | n
      · exact ⟨_, rfl, rfl, rfl⟩
      · exact ⟨_, rfl, rfl, rfl⟩
      · exact ⟨_, rfl, rfl, rfl⟩
      · omega
    simp only [Int.toNat_natCast] at hsl'
    have hlen : (val0.take n).length = n := by simp [val0]; omega
    refine idxK_of hn ⟨_, hbc'.add (n * 1) (by rw [Nat.mul_one]; exact hv), _, hbs'.add 6 rfl, (C38 (fp := fun k => k = a ∨ w5.heap.size ≤ k) hsl' hpl (by omega) hkw.size (.inl rfl) fun k h _ _ => .inr h).mono ?_⟩
    rintro _ w6 ⟨rfl, hsl6, hk6⟩
    refine ⟨_, rfl, ⟨?_, ?_, ?_, hkw.trans hk6 ?_⟩, ?_⟩
    rotate_left 3
    · intro k h1 h2; omega
    all_goals rw [wrap_i64 (by omega)]
    rotate_left 1
    · omega
    · omega
    · have e : ((n : Int) + 1).toNat = n + 1 := by omega
      rw [e, htk]
      exact hsl6
    · simp only; omega
  · simp at hge
    have : i = 3 := by omega
    subst this
    refine ⟨s, a, p, rfl, ⟨hbs', hsl'.mono (Nat.le_refl _) (by have := hk.size; omega), ?_, hws⟩, hk.news hkw (by rintro k rfl; exact ha)⟩
    refine hp.keep hkw fun k _ hk' e => ?_
    subst e
    rw [hsl.etype] at hk'
    rcases hk' with h | h <;> cases h

end Go.Fw

set_option autoImplicit false
set_option linter.unusedVariables false
namespace Go.Fw
open Go.Proofs Go.RowKit

theorem wrap_wf (y : Int) : (Lit.int .i64 (IntKind.wrap .i64 y)).wf = true := by
  simp [Lit.wf, IntKind.wrap, IntKind.min, IntKind.max, IntKind.signed, IntKind.bits] <;> (try split) <;> omega
theorem key3 {n : Int} (h : (Lit.int .i64 n).wf = true) : keyOf Tryz.prog 3 (.int .i64 n) = some (.int .i64 n) := by
  simp [keyOf, Tryz.underlying3, mapKey, h]
theorem IMap.lookup {w : World} {m n : Nat} (h : IMap w m n) {k : Int} (hk : (Lit.int .i64 k).wf = true) : ∃ c, (Instr.lookup 179 (.map (some m)) (.int .i64 k) false).run Tryz.prog w = .ok (.int .i64 c) w := by
  obtain ⟨D, h⟩ := h
  obtain ⟨c, hr, _⟩ := h.lookup_int (Go.Maps.int_keyed Tryz.underlying3) Tryz.underlying179 Tryz.underlying3 (Tryz.zeroValue3 _) (key3 hk)
  exact ⟨c, hr⟩

theorem C210 {p B : Nat} {w : World} (h : PlanAt w p B) : Calls Tryz.prog 210 #[.pointer (some ⟨p, 0, none⟩)] w fun e w' => ∃ b, e = .returned (.bool b) ∧ PlanAt w' p B ∧ Keep (fun k => k = p) w w' := by
  refine ret_mono (V210_sound _ w (fun r w' => ∃ b, r = .bool b ∧ PlanAt w' p B ∧ Keep (fun k => k = p) w w') ?_) (by rintro _ _ ⟨b, rfl, h⟩; exact ⟨b, rfl, h⟩)
  obtain ⟨⟨m, n, c, hb, hm, hB⟩, hp⟩ := h
  unfold V210
  refine bsel_neg rfl ?_
  simp only [nilK_some]
  refine ⟨_, hb.add 1 rfl, stK_add hb (by simp) fun w1 hb1 hk1 => ?_⟩
  have hm1 : IMap w1 m n := hk1.imap hm (ne_of_etype hm.etype hb.etype (by simp))
  have hd := Keep.drawn w1
  refine ⟨_, hb1.drew.add 0 rfl, _, hb1.drew.add 1 rfl, ?_⟩
  obtain ⟨c1, hr⟩ := (hd.imap hm1 id).lookup (wrap_wf (c + 1))
  exact ⟨_, _, hr, _, rfl, ⟨⟨m, n, _, hb1.drew, hd.imap hm1 id, hB⟩, hp⟩, hk1.no hd⟩
theorem StAt.lt {w : World} {s B : Nat} {S : St} (h : StAt w s B S) : s < w.heap.size := by
  exact h.blk.lt
theorem StAt.etype {w : World} {s B : Nat} {S : St} (h : StAt w s B S) : Fw.etype w s = some 81 := by
  exact h.blk.etype
theorem PlanAt.etype {w : World} {p B : Nat} (h : PlanAt w p B) : Fw.etype w p = some 181 := by
  obtain ⟨⟨m, n, c, h1, _⟩, _⟩ := h
  exact h1.etype

theorem ty_one {B k : Nat} {e : TypeId} {ts : List TypeId} {w : World} (hB : B ≤ k) (he : Fw.etype w k = some e) (ht : e ∈ ts) : Ty B ts w k := ⟨hB, e, he, ht⟩

/-- A field of the Store's own. -/
theorem StAt.set {w w' : World} {s B : Nat} {S S' : St} (h : StAt w s B S) (hk : Keep (fun k => k = s) w w')
    (h1' : Blk w' s 81 S'.cells) (hv : S'.vals = S.vals) (ha : S'.a = S.a) (hp : S'.p = S.p) : StAt w' s B S' := by
  obtain ⟨h1, h2, h3, hB⟩ := h
  refine ⟨h1', ?_, ?_, hB⟩
  · rw [hv, ha]
    refine h2.keep hk (fun k _ he hks => ?_) fun k _ he hks => ?_
    · subst hks; rw [h1.etype] at he; cases he
    · subst hks; rw [h1.etype] at he; rcases he with he | he <;> cases he
  · rw [hp]
    refine h3.keep hk fun k _ he hks => ?_
    subst hks; rw [h1.etype] at he; rcases he with he | he <;> cases he

theorem C138 {s B : Nat} {S : St} {w : World} (h : StAt w s B S) : Calls Tryz.prog 138 #[.pointer (some ⟨s, 0, none⟩)] w fun e w' => e = .returned (.tuple #[]) ∧ ∃ d, StAt w' s B { S with due := d } ∧ Keep (Ty B [81, 181] w) w w' := by
  refine ret_mono (V138_sound _ w (fun r w' => r = .tuple #[] ∧ ∃ d, StAt w' s B { S with due := d } ∧ Keep (Ty B [81, 181] w) w w') ?_) (by rintro _ _ ⟨rfl, h⟩; exact ⟨rfl, h⟩)
  obtain ⟨hb, hsl, hp, hge⟩ := h
  unfold V138
  rw [nilK_some]
  refine ⟨_, hb.add 10 rfl, (C210 hp).mono ?_⟩
  rintro _ w1 ⟨t, rfl, hp1, hk1⟩
  have hb1 := hk1.blk hb (ne_of_etype hb.etype hp.etype (by decide))
  have hsl1 := hsl.keep hk1 (fun k _ he hk => by subst hk; rw [hp.etype] at he; cases he) fun k _ he hk => by subst hk; rw [hp.etype] at he; rcases he with he | he <;> cases he
  have hkk : Keep (Ty B [81, 181] w) w w1 := hk1.mono fun k _ e => by subst e; exact ty_one hp.ge hp.etype (by decide)
  refine ⟨_, rfl, bsel_split (fun ht => ?_) fun ht => ?_⟩
  · rw [nilK_some]
    refine stK_add hb1 (by simp [St.cells]) fun w2 hb2 hk2 => ⟨rfl, true, StAt.set (S := S) ⟨hb1, hsl1, hp1, hge⟩ hk2 hb2 rfl rfl rfl, ?_⟩
    exact hkk.trans hk2 fun k _ e => by subst e; exact ty_one hge hb.etype (by decide)
  · exact ⟨rfl, S.due, ⟨hb1, hsl1, hp1, hge⟩, hkk⟩

theorem C140 {s B : Nat} {S : St} {w : World} (h : StAt w s B S) (h1 : 0 ≤ S.last ∧ S.last < 1000000000000) (h2 : -1000000000000 < S.live ∧ S.live < 1000000000000) :
    Calls Tryz.prog 140 #[.pointer (some ⟨s, 0, none⟩)] w fun e w' => e = .returned (.agg #[.int .i64 (S.last + 1)]) ∧ ∃ d, StAt w' s B { S with due := d, last := S.last + 1, live := S.live + 1 } ∧ Keep (Ty B [81, 181] w) w w' := by
  refine ret_mono (V140_sound _ w (fun r w' => r = .agg #[.int .i64 (S.last + 1)] ∧ ∃ d, StAt w' s B { S with due := d, last := S.last + 1, live := S.live + 1 } ∧ Keep (Ty B [81, 181] w) w w') ?_) (by rintro _ _ ⟨rfl, h⟩; exact ⟨rfl, h⟩)
  have hlt := h.lt
  unfold V140
  refine newK_of fun b w1 hs1 hb1 hk1 => (C138 (h.no hk1)).mono ?_
  rintro _ w2 ⟨rfl, d, h', hk2⟩
  have hb2 := hk2.tblk hb1 (by decide)
  have hkk : Keep (Ty B [81, 181] w) w w2 := (Keep.of_no hk1).ty hk2
  obtain ⟨hb, hsl, hp, hge⟩ := h'
  refine ⟨_, rfl, ?_⟩
  simp only [nilK_some]
  refine ⟨_, hb.add 7 rfl, stK_add hb (by simp [St.cells]) fun w3 hb3 hk3 => ?_⟩
  have h3 := StAt.set (S := { S with due := d }) (S' := { S with due := d, last := S.last + 1 }) ⟨hb, hsl, hp, hge⟩ hk3 (by rw [wrap_i64 (by simp only; omega)] at hb3; exact hb3) rfl rfl rfl
  have hb2 := hk3.blk hb2 (by omega)
  have hs67 : Ty B [81, 181] w s := ty_one hge h.etype (by decide)
  replace hkk := hkk.trans hk3 fun k _ e => by subst e; exact hs67
  obtain ⟨hb, hsl, hp, hge⟩ := h3
  refine ⟨_, hb.add 8 rfl, stK_add hb (by simp [St.cells]) fun w4 hb4 hk4 => ?_⟩
  have h4 := StAt.set (S := { S with due := d, last := S.last + 1 }) (S' := { S with due := d, last := S.last + 1, live := S.live + 1 }) ⟨hb, hsl, hp, hge⟩ hk4 (by rw [wrap_i64 (by simp only; omega)] at hb4; exact hb4) rfl rfl rfl
  have hb2 := hk4.blk hb2 (by omega)
  replace hkk := hkk.trans hk4 fun k _ e => by subst e; exact hs67
  have h4' := h4
  obtain ⟨hb, hsl, hp, hge⟩ := h4
  refine ⟨_, hb.add 7 rfl, stK_add hb2 (by simp) fun w5 hb5 hk5 => ?_⟩
  refine ⟨_, hb5.cells0, rfl, d, ?_, hkk.news hk5 (by rintro k rfl; omega)⟩
  exact h4'.keep hk5 fun k _ e => by subst e; exact ⟨98, hb2.etype, by decide⟩

/-- The Store's row of values grows. -/
theorem StAt.add {s B : Nat} {S : St} {w : World} {x : Value} (h : StAt w s B S) (hx : plainV x = true) (hl : S.vals.length < 100000000000) (hB : B ≤ w.heap.size) :
    Calls Tryz.prog 38 #[.pointer (some ⟨S.a, 0, none⟩), x] w fun e w' => e = .returned (.int .i64 S.vals.length) ∧ StAt w' s B { S with vals := S.vals ++ [x] } ∧ Keep (Ty B [77, 4, 178] w) w w' := by
  obtain ⟨hb, hsl, hp, hge⟩ := h
  refine (C38 (fp := Ty B [77, 4, 178] w) hsl hx hl hB (ty_one hsl.ge hsl.etype (by decide)) fun k h1 _ h3 => ?_).mono ?_
  · rcases h3 with h3 | h3
    · exact ty_one h1 h3 (by decide)
    · exact ty_one h1 h3 (by decide)
  · rintro _ w' ⟨rfl, h1, hk⟩
    refine ⟨rfl, ⟨hk.tblk hb (by decide), h1, hp.keep hk fun k _ he => ?_, hge⟩, hk⟩
    rintro ⟨_, e, h2, h3⟩
    rw [h2] at he
    rcases he with he | he <;> cases he <;> exact absurd h3 (by decide)

theorem C86 {s B : Nat} {S : St} {w : World} {t : ByteArray} (h : StAt w s B S) (hl : S.vals.length < 100000000000) (hB : B ≤ w.heap.size) :
    Calls Tryz.prog 86 #[.pointer (some ⟨s, 0, none⟩), .string t] w fun e w' => e = .returned (.int .i64 S.vals.length) ∧ ∃ d, StAt w' s B { S with due := d, vals := S.vals ++ [.iface 160 (.agg #[.string t])] } ∧ Keep (Ty B storeTy w) w w' := by
  refine ret_mono (V86_sound _ t w (fun r w' => r = .int .i64 S.vals.length ∧ ∃ d, StAt w' s B { S with due := d, vals := S.vals ++ [.iface 160 (.agg #[.string t])] } ∧ Keep (Ty B storeTy w) w w') ?_) (by rintro _ _ ⟨rfl, h⟩; exact ⟨rfl, h⟩)
  unfold V86
  refine (C138 h).mono ?_
  rintro _ w1 ⟨rfl, d, h1, hk1⟩
  obtain ⟨hb, hsl, hp, hge⟩ := h1
  refine ⟨_, rfl, ?_⟩
  rw [nilK_some]
  refine ⟨_, hb.add 6 rfl, (StAt.add (S := { S with due := d }) (x := .iface 160 (.agg #[.string t])) ⟨hb, hsl, hp, hge⟩ rfl hl (by have := hk1.size; omega)).mono ?_⟩
  rintro _ w2 ⟨rfl, h2, hk2⟩
  exact ⟨_, rfl, rfl, d, h2, (hk1.ty_mono (Nat.le_refl _) (by decide)).ty (hk2.ty_mono (Nat.le_refl _) (by decide))⟩

theorem C87 {s B : Nat} {S : St} {w : World} {kind : Int} {ra : Option Addr} {rl rc : Nat} (h : StAt w s B S) (hl : S.vals.length < 100000000000) (hB : B ≤ w.heap.size) (h1 : 0 ≤ S.last ∧ S.last < 1000000000000) (h2 : -1000000000000 < S.live ∧ S.live < 1000000000000) :
    Calls Tryz.prog 87 #[.pointer (some ⟨s, 0, none⟩), .int .i64 kind, .slice ra rl rc] w fun e w' => e = .returned (.int .i64 S.vals.length) ∧ ∃ d r, w.heap.size ≤ r ∧ Blk w' r 100 [.int .i64 (S.last + 1), .slice ra rl rc, .int .i64 kind] ∧
      StAt w' s B { S with due := d, last := S.last + 1, live := S.live + 1, vals := S.vals ++ [.iface 94 (.pointer (some ⟨r, 0, none⟩))] } ∧ Keep (Ty B storeTy w) w w' := by
  refine ret_mono (V87_sound _ kind ra rl rc w (fun r w' => r = .int .i64 S.vals.length ∧ ∃ d r, w.heap.size ≤ r ∧ Blk w' r 100 [.int .i64 (S.last + 1), .slice ra rl rc, .int .i64 kind] ∧
      StAt w' s B { S with due := d, last := S.last + 1, live := S.live + 1, vals := S.vals ++ [.iface 94 (.pointer (some ⟨r, 0, none⟩))] } ∧ Keep (Ty B storeTy w) w w') ?_) (by rintro _ _ ⟨rfl, h⟩; exact ⟨rfl, h⟩)
  unfold V87
  have hd := Keep.drawn w
  have h' := h.no hd
  have h'' := h'
  obtain ⟨hb, hsl, hp, hge⟩ := h''
  simp only [nilK_some]
  refine ⟨_, hb.add 6 rfl, (C140 h' h1 h2).mono ?_⟩
  rintro _ w1 ⟨rfl, d, h3, hk1⟩
  have hb1 := h3.blk
  refine ⟨_, rfl, hb1.add 6 rfl, newK_of fun r w2 hs2 hbr hk2 => ⟨(hk2.nblk hb1).add 6 rfl, ?_⟩⟩
  have hk02 : Keep (Ty B storeTy w) w w2 := ((Keep.of_no hd).ty (hk1.ty_mono (Nat.le_refl _) (by decide))).no hk2
  refine (StAt.add (x := .iface 94 (.pointer (some ⟨r, 0, none⟩))) (S := { S with due := d, last := S.last + 1, live := S.live + 1 }) (h3.no hk2) rfl hl (by have := hk02.size; omega)).mono ?_
  rintro _ w3 ⟨rfl, h4, hk3⟩
  refine ⟨_, rfl, rfl, d, r, by have := hk1.size; simp at this; omega, hk3.tblk hbr (by decide), h4, hk02.ty (hk3.ty_mono (Nat.le_refl _) (by decide))⟩
end Go.Fw
