/- Part of a proof over the given program: texts of lemmas (conditions: none beyond each lemma as stated). -/
import Derived.Test.YtdmoefbfepeeaaaGreatDoorQ4
import Derived.RangeFuncRecord
set_option linter.unnecessarySimpa false
set_option linter.unusedVariables false
set_option linter.unusedSimpArgs false

set_option autoImplicit false
namespace Go.Fw
noncomputable def putL (ρ : Fr) (l : List (Nat × Value)) : Fr := List.rec (motive := fun _ => Fr → Fr) (fun ρ => ρ) (fun x _ ih ρ => ih (upd ρ x.1 x.2)) l ρ
def rndQ (l : Nat) (Rec : LoopState → Option Code → Obj) (K : Bool → World → Prop) (e : Exit) (_ : Fr) (w : World) : Prop := match e with
  | .normal => (∃ s p, w.heap[l]? = some (Rec s p)) ∧ K true (w.putObj l (Rec .ready none))
  | .ret => (∃ s p, w.heap[l]? = some (Rec s p)) ∧ K false (w.putObj l (Rec .done (some .ret)))
  | .exit id => (∃ s p, w.heap[l]? = some (Rec s p)) ∧ K false (w.putObj l (Rec .done (some (.exit id))))
  | _ => False
noncomputable def nlM (c : Code) : Nat :=
  Code.rec (motive := fun _ => Nat) 0 (fun _ _ _ => 0) (fun _ _ a b => a + b) (fun _ _ _ a b => a + b) (fun _ _ a => a) (fun _ a => a + 1) (fun _ _ _ _ a b => a + b + 1) (fun _ => 0) (fun _ a => a) (fun _ => 0) (fun _ => 0) 0 (fun _ => 0) c
noncomputable def rndV (P : Program) (n : Nat) (ann : Nat → Ann) (assign body : Code) (k : Nat) (l : Nat) (Rec : LoopState → Option Code → Obj) (K : Bool → World → Prop) (ρ : Fr) (w : World) : Prop :=
  wpC P n ann assign k (fun e ρ1 w1 => match e with
    | .normal => w1.heap[l]? = some (Rec .ready none) ∧ wpC P n ann body (k + nlM assign) (rndQ l Rec K) ρ1 (w1.putObj l (Rec .busy none))
    | _ => False) ρ w
noncomputable def exOf (c : Code) : List (Option Nat) :=
  Code.rec (motive := fun _ => List (Option Nat)) [] (fun _ _ _ => []) (fun _ _ a b => a ++ b) (fun _ _ _ a b => a ++ b) (fun _ _ a => a) (fun _ a => a) (fun _ _ _ _ a b => a ++ b) (fun id => [some id]) (fun _ a => a) (fun _ => []) (fun _ => []) [none] (fun _ => []) c
noncomputable def rngX (l d : Nat) (Rec : LoopState → Option Code → Obj) (ms : List Nat) (Q : List Nat → Exit → Fr → World → Prop) (ρ : Fr) (xs : List (Option Nat)) (w : World) : Prop :=
  List.rec (motive := fun _ => Prop) False (fun x _ ih => match x with
    | none => (w.heap[l]? = some (Rec .done (some .ret)) ∧ Q (d :: ms) .ret ρ (w.putObj l (Rec .exhausted (some .ret)))) ∨ ih
    | some id => (w.heap[l]? = some (Rec .done (some (.exit id))) ∧ Q (d :: ms) (.exit id) ρ (w.putObj l (Rec .exhausted (some (.exit id))))) ∨ ih) xs
noncomputable def rngE (l d : Nat) (Rec : LoopState → Option Code → Obj) (ms : List Nat) (Q : List Nat → Exit → Fr → World → Prop) (ρ : Fr) (xs : List (Option Nat)) (e : Ending) (w : World) : Prop :=
  (∃ v, e = .returned v) ∧ ((w.heap[l]? = some (Rec .ready none) ∧ Q (d :: ms) .normal ρ (w.putObj l (Rec .exhausted none))) ∨ rngX l d Rec ms Q ρ xs w)
def allTag (g : Tag) (K : Value → Prop) : Prop := match g with
  | .int k => ∀ n : Int, K (.int k n)
  | .bool => ∀ b : Bool, K (.bool b)
  | .str => ∀ b : ByteArray, K (.string b)
  | .ptr => ∀ b : Option Addr, K (.pointer b)
  | .slice => ∀ (a : Option Addr) (n c : Nat), K (.slice a n c)
  | .map => ∀ b : Option Nat, K (.map b)
  | .raw => ∀ b : Value, K b
theorem allTag_of {g : Tag} {K : Value → Prop} (h : ∀ v, K v) : allTag g K := by cases g <;> simp only [allTag] <;> intros <;> exact h _
def allTags (ts : List Tag) (K : List Value → Prop) : Prop := match ts with
  | [] => K []
  | g :: ts => allTag g fun v => allTags ts fun vs => K (v :: vs)
theorem allTags_of : ∀ {ts : List Tag} {K : List Value → Prop}, (∀ vs, K vs) → allTags ts K
  | [], _, h => h []
  | _ :: _, _, h => allTag_of fun _ => allTags_of fun _ => h _
def forT (ρ : Fr) (l : List (Nat × Shape)) (F : List Value → Fr → Prop) : Prop := match l with
  | [] => F [] ρ
  | (t, .one g) :: l => allTag g fun v => forT (upd ρ t v) l (fun vs => F (v :: vs))
  | (t, .agg ts) :: l => allTags ts fun cs => forT (upd ρ t (.agg cs.toArray)) l (fun vs => F (.agg cs.toArray :: vs))
theorem forT_of : ∀ (l : List (Nat × Shape)) (ρ : Fr) (F : List Value → Fr → Prop), (∀ vs, vs.length = l.length → F vs (putL ρ ((l.map (·.1)).zip vs))) → forT ρ l F
  | [], ρ, F, h => h [] rfl
  | (t, g) :: l, ρ, F, h => by
    have step : ∀ v, ∀ vs, vs.length = l.length → F (v :: vs) (putL (upd ρ t v) ((l.map (·.1)).zip vs)) := fun v vs hl => h (v :: vs) (by simp [hl])
    cases g with
    | one g => exact allTag_of fun v => forT_of l _ _ (fun vs hl => step _ vs hl)
    | agg ts => exact allTags_of fun cs => forT_of l _ _ (fun vs hl => step _ vs hl)
def sameL (a b : List Nat) : Bool := match a, b with
  | [], [] => true
  | x :: a, y :: b => match Nat.beq x y with | true => sameL a b | false => false
  | _, _ => false
theorem sameL_eq : ∀ {a b : List Nat}, sameL a b = true → a = b
  | [], [], _ => rfl
  | x :: a, y :: b, h => by
    simp only [sameL] at h
    split at h
    · rename_i hb
      rw [Nat.eq_of_beq_eq_true hb, sameL_eq h]
    · cases h
  | [], _ :: _, h => by cases h
  | _ :: _, [], h => by cases h
def CallG (P : Program) (fv : Value) (args : Array Value) (w : World) (R : Ending → World → Prop) : Prop := match fv with
  | .func (.func f) first cap => (callFunc f (first ++ args ++ cap)).run P w = .ok (.enter f (first ++ args ++ cap)) w ∧ Calls P f (first ++ args ++ cap) w R
  | _ => False
noncomputable def rngV (P : Program) (n : Nat) (ann : Nat → Ann) (sh : Nat → List (Nat × Shape)) (g : Operand) (ps : Array Tmp) (assign body : Code) (k : Nat) (ms : List Nat) (Q : List Nat → Exit → Fr → World → Prop) (ρ : Fr) (w : World) : Prop :=
  match sameL ((sh k).map (·.1)) ps.toList with
  | false => False
  | true => ∀ Rec : LoopState → Option Code → Obj, (∀ s p c e f, Rec s p ≠ .cells c e f) →
    (∀ (w' : World) (K : Bool → World → Prop), w'.heap[w.heap.size + 1]? = some (Rec .ready none) →
      forT ρ (sh k) fun vs ρ1 => rndV P n ann assign body (k + 1) (w.heap.size + 1) Rec K ρ1 w' → RoundK P (w.heap.size + 1) vs.toArray w' K) →
    CallG P (ev n ρ g) #[.func (.yield (w.heap.size + 1)) #[] #[]] ((w.alloc (.deferred (some []))).alloc (Rec .ready none)) (rngE (w.heap.size + 1) w.heap.size Rec ms Q ρ (exOf body))
noncomputable def wpM (P : Program) (n : Nat) (ann : Nat → Ann) (sh : Nat → List (Nat × Shape)) (c : Code) : Nat → List Nat → (List Nat → Exit → Fr → World → Prop) → Fr → World → Prop :=
  Code.rec (motive := fun _ => Nat → List Nat → (List Nat → Exit → Fr → World → Prop) → Fr → World → Prop)
    (fun _ ms Q ρ w => Q ms .normal ρ w)
    (fun _ ops draw _ ms Q ρ w => vcRegion P n ops draw (Q ms .normal) ρ w)
    (fun a _ iha ihb k ms Q ρ w => iha k ms (fun ms e ρ w => match e with | .normal => ihb (k + nlM a) ms Q ρ w | e => Q ms e ρ w) ρ w)
    (fun c a _ iha ihb k ms Q ρ w => match ev n ρ c with
      | .bool b => match c with
        | .tmp t => bsel b (iha k ms Q (upd ρ t (.bool true)) w) (ihb (k + nlM a) ms Q (upd ρ t (.bool false)) w)
        | _ => bsel b (iha k ms Q ρ w) (ihb (k + nlM a) ms Q ρ w)
      | _ => False)
    (fun id _ ih k ms Q ρ w => ih k ms (fun ms e ρ w => match e with | .exit id' => (match Nat.beq id' id with | true => Q ms .normal ρ w | false => Q ms (.exit id') ρ w) | e => Q ms e ρ w) ρ w)
    (fun b _ k ms Q ρ w => loopV (ann k) (asg b) (wpC P n ann b (k + 1)) (Q ms) ρ w)
    (fun g ps assign body _ _ k ms Q ρ w => rngV P n ann sh g ps assign body k ms Q ρ w)
    (fun id _ ms Q ρ w => Q ms (.exit id) ρ w)
    (fun _ ih k ms Q ρ w => ih k ms Q ρ w)
    (fun _ _ ms Q ρ w => Q ms .normal ρ w)
    (fun _ _ _ _ _ _ => False)
    (fun _ ms Q ρ w => Q ms .ret ρ w)
    (fun _ _ _ _ _ _ => False) c
def marksOf (ms : List Nat) : List Deferred := ms.map fun r => { target := .collected r, args := #[] }
def liftM (n : Nat) (Q : List Nat → Exit → Fr → World → Prop) (e : Exit) (a : Act) (w : World) : Prop :=
  ∃ ms, lift n (marksOf ms) (fun _ => none) (Q ms) e a w
theorem fence_in (l : Nat) : (fence none).inRound l = fence (some l) := rfl
theorem rep_putL {n : Nat} {a : Act} : ∀ (l : List (Nat × Value)) (tmps : Array Value) (ρ : Fr), Rep n { tmps := tmps, defers := a.defers } ρ →
    Rep n { tmps := l.foldl (fun tmps x => tmps.setIfInBounds x.1 x.2) tmps, defers := a.defers } (putL ρ l)
  | [], _, _, h => h
  | x :: l, tmps, ρ, h => by
    have := h.put (some x.1) x.2
    exact rep_putL (a := a) l _ _ this
theorem roundK_of {P : Program} (hP : Plain P) (hM : P.follows .mixedOrders = true) {n : Nat} {ann : Nat → Ann} {l : Nat} {r : Loop} {k : Nat} {ρ : Fr} {w : World} {vs : List Value} {K : Bool → World → Prop}
    (hs : r.state = .ready) (hw : w.heap[l]? = some (.loop r)) (hl : vs.length = r.params.toList.length) (hr : Rep n { tmps := r.tmps, defers := [] } ρ)
    (h : rndV P n ann r.assign r.body k l (fun s p => .loop { r with state := s, pending := p }) K (putL ρ (r.params.toList.zip vs)) w) (hp : r.pending = none) : RoundK P l vs.toArray w K := by
  have hrun := run_yield (P := P) (args := vs.toArray) hw (by simpa using hl)
  have e0 : ((r.params.zip vs.toArray).foldl (fun tmps (x : Tmp × Value) => tmps.setIfInBounds x.1 x.2) r.tmps) = (r.params.toList.zip vs).foldl (fun tmps x => tmps.setIfInBounds x.1 x.2) r.tmps := by
    rw [← Array.foldl_toList, Array.toList_zip]
  refine ⟨_, _, _, _, _, hrun, ?_⟩
  have hrep := rep_putL (a := { tmps := #[], defers := [] }) (r.params.toList.zip vs) r.tmps ρ hr
  have e1 : (r.params.zip vs.toArray).foldl (fun tmps x => match x with | (t, a) => tmps.setIfInBounds t a) r.tmps = (r.params.toList.zip vs).foldl (fun tmps x => tmps.setIfInBounds x.1 x.2) r.tmps := e0
  rw [e1]
  have hr0 : r = { r with state := .ready, pending := none } := by cases r; simp_all
  have h1 : RoundIn (fence none) 0 P l r.fn ((r.params.toList.zip vs).foldl (fun tmps x => tmps.setIfInBounds x.1 x.2) r.tmps) r.assign r.body w fun e w'' => ∃ b, e = .returned (.bool b) ∧ K b w'' := by
    refine roundIn_of_wpIn trivial ?_
    rw [fence_in]
    have hs1 := wpC_sound (rd := some l) (m := 0) (D := []) hP hM r.assign k (fun _ => none) _ _ w (fun _ _ => rfl) ⟨_, hrep, rfl, (fun t v hv => by cases hv), h⟩
    refine wpIn_mono hs1 fun e a w1 hq => ?_
    cases e with
    | normal =>
      obtain ⟨ρ1, hr1, hd1, _, hq1, hq2⟩ := hq
      simp only at hq1
      rw [← hr0] at hq1
      refine ⟨_, run_beginRound hq1 hs, ?_⟩
      have e2 : ({ r with state := .busy } : Loop) = { r with state := .busy, pending := none } := by cases r; simp_all
      rw [e2]
      have hs2 := wpC_sound (rd := some l) (m := 0) (D := []) hP hM r.body (k + nlM r.assign) (fun _ => none) _ _ _ (fun _ _ => rfl) ⟨ρ1, hr1, hd1, (fun t v hv => by cases hv), hq2⟩
      refine wpIn_mono hs2 fun e a w2 hq => ?_
      cases e with
      | normal =>
        obtain ⟨_, _, _, _, ⟨s, p, hh⟩, hK⟩ := hq
        exact ⟨_, _, run_endRound none hh, _, rfl, hK⟩
      | ret =>
        obtain ⟨_, _, _, _, ⟨s, p, hh⟩, hK⟩ := hq
        exact ⟨_, _, run_endRound (some .ret) hh, _, rfl, hK⟩
      | exit id =>
        obtain ⟨_, _, _, _, ⟨s, p, hh⟩, hK⟩ := hq
        exact ⟨_, _, run_endRound (some (.exit id)) hh, _, rfl, hK⟩
      | goto l => exact False.elim hq
      | panic c => exact False.elim hq
      | outgrown => exact False.elim hq
    | exit id => obtain ⟨_, _, _, _, hq⟩ := hq; exact hq
    | ret => obtain ⟨_, _, _, _, hq⟩ := hq; exact hq
    | goto l => exact False.elim hq
    | panic c => exact False.elim hq
    | outgrown => exact False.elim hq
  exact ⟨trivial, fun c cs _ => h1.2 c cs (room_wide _)⟩
def takeAll : List Nat → (World → Prop) → World → Prop
  | [], K, w => K w
  | r :: rs, K, w => w.heap[r]? = some (.deferred (some [])) ∧ takeAll rs K (w.putObj r (.deferred none))
theorem wpM_sound {P : Program} (hP : Plain P) (hM : P.follows .mixedOrders = true) {n : Nat} {ann : Nat → Ann} {sh : Nat → List (Nat × Shape)} {m : Nat} :
    ∀ (c : Code) (k : Nat) (ms : List Nat) (Q : List Nat → Exit → Fr → World → Prop) (a : Act) (w : World),
      Real n (marksOf ms) (fun _ => none) (wpM P n ann sh c k ms Q) a w → c.wpIn (fence none) m P (liftM n Q) a w := by
  have base : ∀ (c : Code) (k : Nat) (ms : List Nat) (Q : List Nat → Exit → Fr → World → Prop) (a : Act) (w : World),
      Real n (marksOf ms) (fun _ => none) (wpC P n ann c k (Q ms)) a w → c.wpIn (fence none) m P (liftM n Q) a w := fun c k ms Q a w h =>
    wpIn_mono (wpC_sound (rd := none) (m := m) hP hM c k (fun _ => none) _ a w (fun _ _ => rfl) h) fun e a w hq => ⟨ms, hq⟩
  intro c
  induction c with
  | skip => intro k ms Q a w h; exact base .skip k ms Q a w h
  | region id ops draw => intro k ms Q a w h; exact base (.region id ops draw) k ms Q a w h
  | loop b ih => intro k ms Q a w h; exact base (.loop b) k ms Q a w h
  | exit id => intro k ms Q a w h; exact base (.exit id) k ms Q a w h
  | scope b ih => intro k ms Q a w h; exact wpIn_scope (fun l a w hq => by obtain ⟨_, hq⟩ := hq; exact hq) (ih k ms Q a w h)
  | label l => intro k ms Q a w h; exact base (.label l) k ms Q a w h
  | goto l => intro k ms Q a w h; obtain ⟨_, _, _, _, h⟩ := h; exact h.elim
  | ret => intro k ms Q a w h; exact base .ret k ms Q a w h
  | refuse s => intro k ms Q a w h; obtain ⟨_, _, _, _, h⟩ := h; exact h.elim
  | seq x y ihx ihy =>
    intro k ms Q a w h
    refine wpIn_seq (wpIn_mono (ihx k ms _ a w h) fun e a' w' hq => ?_)
    obtain ⟨ms', hq⟩ := hq
    cases e with
    | normal => exact ihy _ ms' Q a' w' hq
    | exit id => exact ⟨ms', hq⟩
    | ret => exact ⟨ms', hq⟩
    | goto l => exact False.elim hq
    | panic c => exact False.elim hq
    | outgrown => exact False.elim hq
  | cond c x y ihx ihy =>
    intro k ms Q a w h
    obtain ⟨ρ, hr, hd, hF, h⟩ := h
    change (match ev n ρ c with
      | .bool b => match (generalizing := false) c with
        | .tmp t => bsel b (wpM P n ann sh x k ms Q (upd ρ t (.bool true)) w) (wpM P n ann sh y (k + nlM x) ms Q (upd ρ t (.bool false)) w)
        | _ => bsel b (wpM P n ann sh x k ms Q ρ w) (wpM P n ann sh y (k + nlM x) ms Q ρ w)
      | _ => False) at h
    split at h
    · rename_i b hb
      have hev : a.eval c = .bool b := by rw [hr.eval, hb]
      split at h
      · rename_i t
        have hpos : ∀ v, ev n ρ (.tmp t) = .bool v → Rep n a (upd ρ t (.bool v)) := by
          intro v hv
          simp only [ev] at hv
          split at hv
          · exact hr.set t _ hv
          · simp [undef] at hv
        cases b
        · exact wpIn_cond_false hev (ihy _ ms Q a w ⟨_, hpos _ hb, hd, hF, h⟩)
        · exact wpIn_cond_true hev (ihx _ ms Q a w ⟨_, hpos _ hb, hd, hF, h⟩)
      · cases b
        · exact wpIn_cond_false hev (ihy _ ms Q a w ⟨_, hr, hd, hF, h⟩)
        · exact wpIn_cond_true hev (ihx _ ms Q a w ⟨_, hr, hd, hF, h⟩)
    · exact h.elim
  | block id c ih =>
    intro k ms Q a w h
    refine wpIn_block (wpIn_mono (ih k ms _ a w h) fun e a' w' hq => ?_)
    obtain ⟨ms', hq⟩ := hq
    cases e with
    | normal => exact ⟨ms', hq⟩
    | exit id' =>
      obtain ⟨ρ, hr, hd, hF, hq⟩ := hq
      simp only at hq
      simp only [Exit.inBlock]
      split at hq
      · rename_i hb
        rw [if_pos (Nat.eq_of_beq_eq_true hb)]
        exact ⟨ms', ρ, hr, hd, hF, hq⟩
      · rename_i hb
        rw [if_neg (Nat.ne_of_beq_eq_false hb)]
        exact ⟨ms', ρ, hr, hd, hF, hq⟩
    | ret => exact ⟨ms', hq⟩
    | goto l => exact False.elim hq
    | panic c => exact False.elim hq
    | outgrown => exact False.elim hq
  | rangeFunc g ps assign body iha ihb =>
    intro k ms Q a w h
    obtain ⟨ρ, hr, hd, hF, h⟩ := h
    change rngV P n ann sh g ps assign body k ms Q ρ w at h
    unfold rngV at h
    split at h
    · exact h.elim
    rename_i hsame
    have hsame := sameL_eq hsame
    refine wpIn_rangeFunc fun fn _ => ?_
    let r : Loop := { state := .ready, pending := none, fn := fn, tmps := a.tmps, params := ps, assign := assign, body := body, defers := w.heap.size }
    have h2 := h (fun s p => .loop { r with state := s, pending := p }) (fun s p c e f hh => by cases hh) (fun w' K hw => forT_of _ _ _ fun vs hl hv => roundK_of hP hM (r := r) rfl hw
      (by
        have e : (sh k).length = ps.toList.length := by rw [← hsame, List.length_map]
        rw [← e]; exact hl) ⟨hr.size, hr.get⟩ (by rw [hsame] at hv; exact hv) rfl)
    have hentry := run_enterLoop_outer (P := P) (w := w) fn a.tmps ps assign body
    have hev : a.eval g = ev n ρ g := hr.eval g
    generalize hfv : ev n ρ g = fv at h2 hev
    unfold CallG at h2
    split at h2
    · rename_i f first cap
      obtain ⟨hcf, hcall⟩ := h2
      refine ⟨w.heap.size + 1, [{ target := .collected w.heap.size, args := #[] }], (w.alloc (.deferred (some []))).alloc (.loop { r with state := .ready, pending := none }), { target := .fn (.func f) cap, args := first ++ #[.func (.yield (w.heap.size + 1)) #[] #[]] },
        (w.alloc (.deferred (some []))).alloc (.loop { r with state := .ready, pending := none }), f, first ++ #[.func (.yield (w.heap.size + 1)) #[] #[]] ++ cap, (w.alloc (.deferred (some []))).alloc (.loop { r with state := .ready, pending := none }), hentry, ?_, ?_, ?_, ?_, ?_⟩
      · have hc : ∀ v, a.eval (.const v) = v := fun _ => rfl
        simp [resolve, hev, Deferred.ofValue, hc]
      · intro f' _; trivial
      · simp only [invoke]; exact hcf
      · intro hh; simp [fence, Fence.wide] at hh
      · generalize hR : rngE (w.heap.size + 1) w.heap.size (fun s p => Obj.loop { r with state := s, pending := p }) ms Q ρ (exOf body) = R at hcall
        have h1 : CallsIn Fence.wide (m - 1) P f (first ++ #[.func (.yield (w.heap.size + 1)) #[] #[]] ++ cap) ((w.alloc (.deferred (some []))).alloc (.loop { r with state := .ready, pending := none })) R := callsIn_wide.2 hcall
        have h2 : CallsIn (fence none) (m - 1) P f (first ++ #[.func (.yield (w.heap.size + 1)) #[] #[]] ++ cap) ((w.alloc (.deferred (some []))).alloc (.loop { r with state := .ready, pending := none })) R := h1
        refine CallsIn.mono h2 fun e w3 hq => ?_
        rw [← hR] at hq
        obtain ⟨⟨v, rfl⟩, hq⟩ := hq
        have hD : (marksOf [w.heap.size] ++ a.defers) = marksOf (w.heap.size :: ms) := by rw [hd]; rfl
        rcases hq with ⟨hh, hq⟩ | hq
        · refine ⟨none, _, run_endLoop hh (by simp), ?_⟩
          exact ⟨w.heap.size :: ms, ρ, ⟨hr.size, hr.get⟩, hD, hF, hq⟩
        · generalize exOf body = xs at hq
          induction xs with
          | nil => exact False.elim hq
          | cons x xs ihx =>
            cases x with
            | none =>
              rcases hq with ⟨hh, hq⟩ | hq
              · exact ⟨some .ret, _, run_endLoop hh (by simp), wpIn_ret ⟨w.heap.size :: ms, ρ, ⟨hr.size, hr.get⟩, hD, hF, hq⟩⟩
              · exact ihx hq
            | some id =>
              rcases hq with ⟨hh, hq⟩ | hq
              · exact ⟨some (.exit id), _, run_endLoop hh (by simp), wpIn_exit ⟨w.heap.size :: ms, ρ, ⟨hr.size, hr.get⟩, hD, hF, hq⟩⟩
              · exact ihx hq
    · exact h2.elim
def resM (P : Program) (n : Nat) (rs : List ResultVar) (Qr : Value → World → Prop) (ms : List Nat) (e : Exit) (ρ : Fr) (w : World) : Prop := match e with
  | .normal => takeAll ms (resV P n rs Qr ρ) w
  | .ret => takeAll ms (resV P n rs Qr ρ) w
  | _ => False
theorem leaves_of {P : Program} {F : Fence} {n m : Nat} {fn : Func} {tmps : Array Value} {R : Ending → World → Prop} {K : World → Prop} (hK : ∀ w, K w → LeavesInM F m P fn tmps R [] .returning w) :
    ∀ (ms : List Nat) (w : World), takeAll ms K w → LeavesInM F m P fn tmps R (marksOf ms) .returning w
  | [], w, h => hK w h
  | r :: rs, w, h => by
    obtain ⟨h1, h2⟩ := h
    exact ⟨by simp, .inl ⟨r, _, rfl, run_takeDeferred h1, leaves_of (n := n) hK rs _ h2⟩⟩
theorem calls_of_vcM {P : Program} (hP : Plain P) (hM : P.follows .mixedOrders = true) {f : FuncId} {fn : Func} {c : Code} {args : List Value} {w : World} {Q : Value → World → Prop} (ann : Nat → Ann) (sh : Nat → List (Nat × Shape))
    (hf : P.funcs[f]? = some fn) (hb : fn.body = some c) (hle : Nat.ble args.length fn.ntmps = true)
    (h : wpM P fn.ntmps ann sh c 0 [] (resM P fn.ntmps fn.results.toList Q) (argsF args) w) : Calls P f args.toArray w fun e w' => ∃ v, e = .returned v ∧ Q v w' := by
  have hle := Nat.le_of_ble_eq_true hle
  refine (callsIn_wide (n := 0)).1 ?_
  have key : CallsIn (fence none) 0 P f args.toArray w fun e w' => ∃ v, e = .returned v ∧ Q v w' := by
    refine callsIn_of_wp_marks hf hb trivial ?_
    have hrep : Rep fn.ntmps { tmps := args.toArray ++ Array.replicate (fn.ntmps - args.toArray.size) undef, defers := [] } (argsF args) := by
      refine ⟨by simp; omega, fun t ht => ?_⟩
      simp only [argsF, List.size_toArray]
      by_cases hlt : t < args.length
      · rw [Array.getElem?_append_left (by simpa using hlt)]
        simp [hlt]
      · rw [Array.getElem?_append_right (by simpa using hlt)]
        have : args[t]? = none := by simp; omega
        rw [this, Array.getElem?_replicate, if_pos (by simp only [List.size_toArray]; omega)]
    have hs := wpM_sound (m := 0) hP hM c 0 [] _ _ w ⟨_, hrep, rfl, (fun t v hv => by cases hv), h⟩
    refine wpIn_mono hs fun e a w' hq => ?_
    obtain ⟨ms, hq⟩ := hq
    have fin : ∀ {a : Act} {w' : World}, Real fn.ntmps (marksOf ms) (fun _ => none) (fun ρ w => takeAll ms (resV P fn.ntmps fn.results.toList Q ρ) w) a w' →
        LeavesInM (fence none) 0 P fn a.tmps (fun e w' => ∃ v, e = .returned v ∧ Q v w') a.defers .returning w' := by
      rintro a w' ⟨ρ, hr, hd, _, hq⟩
      rw [hd]
      refine leaves_of (n := 0) (fun w3 hK => ?_) ms w' hq
      obtain ⟨vs, hm, hl, hK⟩ := resL_run hr _ _ hK
      have hm' : (fn.results.mapM (fun (x : ResultVar) => (match x with | .tmp t => pure (a.tmps.getD t undef) | .cell ad t => do loadVar t (← asAddr (a.tmps.getD ad undef)) : Sem Value))).run P w3 = .ok vs.toArray w3 := by
        rw [Array.mapM_eq_mapM_toList]
        simp only [map_eq_pure_bind, Sem.run_bind, Result.andThen, Sem.run_pure]
        erw [hm]
      show LeavesIn (fence none) 0 P fn a.tmps _ [] .returning w3
      split at hK
      · rename_i v
        exact ⟨v, by unfold results; rw [Sem.run_bind]; erw [hm']; rfl, v, rfl, hK⟩
      · rename_i hne
        refine ⟨.tuple vs.toArray, ?_, _, rfl, hK⟩
        unfold results
        rw [Sem.run_bind]
        erw [hm']
        have hs : ¬ vs.toArray.size = 1 := by
          intro hc
          match vs, hc with
          | [v], _ => exact hne v rfl
        simp only [Result.andThen, dif_neg hs]
        rfl
    cases e with
    | normal => exact fin hq
    | ret => exact fin hq
    | exit id => obtain ⟨ρ, _, _, _, hq⟩ := hq; exact hq.elim
    | goto l => exact False.elim hq
    | panic c => exact False.elim hq
    | outgrown => exact False.elim hq
  exact key
end Go.Fw


set_option autoImplicit false
namespace Go.Fw
open Go.Proofs
theorem sound_ofM {f : FuncId} {fn : Func} {args : List Value} {w : World} {Q : Value → World → Prop} (hf : Tryz.prog.funcs[f]? = some fn) (ann : Nat → Ann) (sh : Nat → List (Nat × Shape)) (hle : Nat.ble args.length fn.ntmps = true)
    (h : match fn.body with | some c => wpM Tryz.prog fn.ntmps ann sh c 0 [] (resM Tryz.prog fn.ntmps fn.results.toList Q) (argsF args) w | none => False) :
    Calls Tryz.prog f args.toArray w fun e w' => ∃ v, e = .returned v ∧ Q v w' := by
  split at h
  · rename_i c hb; exact calls_of_vcM pPlain pMixed ann sh hf hb hle h
  · exact h.elim
end Go.Fw


set_option autoImplicit false
set_option linter.unusedVariables false
set_option maxRecDepth 100000
namespace Go.Fw
open Go.Proofs
def V128 (x1 : Option Addr) (x2 : Option Addr) (x3 : Nat) (x4 : Nat) (w : World) (Q : Value → World → Prop) : Prop :=
Calls Tryz.prog 120 #[.pointer x1] w fun e5 w6 => ∃ t7 : Value, e5 = .returned (t7) ∧
nilK x1 fun a8 =>
∃ t9 : Option Addr, ∃ t10 : Nat, ∃ t11 : Nat, w6.cell? (a8.add 1) = some (.slice t9 t10 t11) ∧
∃ w12 : World, ∃ t13 : Option Addr, ∃ t14 : Nat, ∃ t15 : Nat, (vcEff.bltV .append #[148, 148] 148 #[.slice t9 t10 t11, .slice x2 x3 x4]).run Tryz.prog w6 = .ok (.slice t13 t14 t15) w12 ∧
nilK x1 fun a16 =>
stK w12 (a16.add 1) (.slice t13 t14 t15) fun w17 =>
Q (.tuple #[.int .i64 (x3 : Int), .nilIface]) w17
def V128_ann : Nat → Ann := fun _ => ⟨[], []⟩
theorem V128_eq (x1 : Option Addr) (x2 : Option Addr) (x3 : Nat) (x4 : Nat) (w : World) (Q : Value → World → Prop) : (match Tryz.f128.body with | some c => wpC Tryz.prog Tryz.f128.ntmps V128_ann c 0 (resQ Tryz.prog Tryz.f128.ntmps Tryz.f128.results.toList Q) (argsF [.pointer x1, .slice x2 x3 x4]) w | none => False) = V128 x1 x2 x3 x4 w Q := by kernel_rfl
theorem V128_sound (x1 : Option Addr) (x2 : Option Addr) (x3 : Nat) (x4 : Nat) (w : World) (Q : Value → World → Prop) (h : V128 x1 x2 x3 x4 w Q) : Calls Tryz.prog 128 #[.pointer x1, .slice x2 x3 x4] w fun e w' => ∃ v, e = .returned v ∧ Q v w' :=
  sound_of Tryz.func128 V128_ann rfl ((V128_eq x1 x2 x3 x4 w Q).mpr h)
end Go.Fw


set_option autoImplicit false
set_option linter.unusedVariables false
set_option maxRecDepth 100000
namespace Go.Fw
open Go.Proofs
def V216  (w : World) (Q : Value → World → Prop) : Prop :=
∃ w1 : World, ∃ t2 : Option Nat, (Instr.makeMap 344 none).run Tryz.prog w = .ok (.map t2) w1 ∧
∃ w3 : World, (Instr.mapUpdate 344 (.map t2) (.int .i64 1) (.agg #[.func (.func 277) #[] #[], .func (.func 284) #[] #[]])).run Tryz.prog w1 = .ok () w3 ∧
∃ w4 : World, (Instr.mapUpdate 344 (.map t2) (.int .i64 2) (.agg #[.func (.func 279) #[] #[], .func (.func 285) #[] #[]])).run Tryz.prog w3 = .ok () w4 ∧
∃ w5 : World, (Instr.mapUpdate 344 (.map t2) (.int .i64 3) (.agg #[.func (.func 282) #[] #[], .func (.func 284) #[] #[]])).run Tryz.prog w4 = .ok () w5 ∧
∃ w6 : World, (Instr.mapUpdate 344 (.map t2) (.int .i64 4) (.agg #[.func (.func 277) #[] #[], .func (.func 285) #[] #[]])).run Tryz.prog w5 = .ok () w6 ∧
Q (.map t2) w6
def V216_ann : Nat → Ann := fun _ => ⟨[], []⟩
theorem V216_eq  (w : World) (Q : Value → World → Prop) : (match Tryz.f216.body with | some c => wpC Tryz.prog Tryz.f216.ntmps V216_ann c 0 (resQ Tryz.prog Tryz.f216.ntmps Tryz.f216.results.toList Q) (argsF []) w | none => False) = V216  w Q := by kernel_rfl
theorem V216_sound  (w : World) (Q : Value → World → Prop) (h : V216  w Q) : Calls Tryz.prog 216 #[] w fun e w' => ∃ v, e = .returned v ∧ Q v w' :=
  sound_of Tryz.func216 V216_ann rfl ((V216_eq  w Q).mpr h)
def V217 (x1 : Option Addr) (w : World) (Q : Value → World → Prop) : Prop :=
nilK x1 fun a2 =>
∃ t3 : Option Addr, w.cell? (a2.add 0) = some (.pointer t3) ∧
bsel (Option.isNone t3) (
Calls Tryz.prog 214 #[.pointer none] w fun e4 w5 => ∃ t6 : Option Addr, e4 = .returned (.pointer t6) ∧
nilK x1 fun a7 =>
stK w5 (a7.add 0) (.pointer t6) fun w8 =>
nilK x1 fun a13 =>
∃ t14 : Option Addr, w8.cell? (a13.add 0) = some (.pointer t14) ∧
Q (.pointer t14) w8) (
nilK x1 fun a15 =>
∃ t16 : Option Addr, w.cell? (a15.add 0) = some (.pointer t16) ∧
Q (.pointer t16) w)
def V217_ann : Nat → Ann := fun _ => ⟨[], []⟩
theorem V217_eq (x1 : Option Addr) (w : World) (Q : Value → World → Prop) : (match Tryz.f217.body with | some c => wpC Tryz.prog Tryz.f217.ntmps V217_ann c 0 (resQ Tryz.prog Tryz.f217.ntmps Tryz.f217.results.toList Q) (argsF [.pointer x1]) w | none => False) = V217 x1 w Q := by kernel_rfl
theorem V217_sound (x1 : Option Addr) (w : World) (Q : Value → World → Prop) (h : V217 x1 w Q) : Calls Tryz.prog 217 #[.pointer x1] w fun e w' => ∃ v, e = .returned v ∧ Q v w' :=
  sound_of Tryz.func217 V217_ann rfl ((V217_eq x1 w Q).mpr h)
def V278 (x1 : Int) (x2 : Bool) (x3 : Int) (x4 : Int) (x5 : Int) (x6 : Int) (w : World) (Q : Value → World → Prop) : Prop :=
newK w #[.bool x2, .int .i64 x3, .int .i64 x4, .int .i64 x5, .int .i64 x6] 295 fun a7 w8 =>
newK w8 #[.int .i64 0, .int .i64 0, .bool false, .int .i64 0, .int .i64 0] 272 fun a9 w10 =>
∃ t11 : Int, w10.cell? (a7.add 3) = some (.int .i64 t11) ∧
stK w10 (a9.add 0) (.int .i64 2) fun w12 =>
stK w12 (a9.add 1) (.int .i64 0) fun w13 =>
stK w13 (a9.add 2) (.bool true) fun w14 =>
stK w14 (a9.add 3) (.int .i64 t11) fun w15 =>
stK w15 (a9.add 4) (.int .i64 x1) fun w16 =>
∃ t17 : Int, ∃ t18 : Int, ∃ t19 : Bool, ∃ t20 : Int, ∃ t21 : Int, CellsAt w16 a9 [.int .i64 t17, .int .i64 t18, .bool t19, .int .i64 t20, .int .i64 t21] ∧
Q (.agg #[.int .i64 t17, .int .i64 t18, .bool t19, .int .i64 t20, .int .i64 t21]) w16
def V278_ann : Nat → Ann := fun _ => ⟨[], []⟩
theorem V278_eq (x1 : Int) (x2 : Bool) (x3 : Int) (x4 : Int) (x5 : Int) (x6 : Int) (w : World) (Q : Value → World → Prop) : (match Tryz.f278.body with | some c => wpC Tryz.prog Tryz.f278.ntmps V278_ann c 0 (resQ Tryz.prog Tryz.f278.ntmps Tryz.f278.results.toList Q) (argsF [.int .i64 x1, .agg #[.bool x2, .int .i64 x3, .int .i64 x4, .int .i64 x5, .int .i64 x6]]) w | none => False) = V278 x1 x2 x3 x4 x5 x6 w Q := by kernel_rfl
theorem V278_sound (x1 : Int) (x2 : Bool) (x3 : Int) (x4 : Int) (x5 : Int) (x6 : Int) (w : World) (Q : Value → World → Prop) (h : V278 x1 x2 x3 x4 x5 x6 w Q) : Calls Tryz.prog 278 #[.int .i64 x1, .agg #[.bool x2, .int .i64 x3, .int .i64 x4, .int .i64 x5, .int .i64 x6]] w fun e w' => ∃ v, e = .returned v ∧ Q v w' :=
  sound_of Tryz.func278 V278_ann rfl ((V278_eq x1 x2 x3 x4 x5 x6 w Q).mpr h)
def V279 (x1 : Option Addr) (x2 : Int) (x3 : Bool) (x4 : Int) (x5 : Int) (x6 : Int) (x7 : Int) (w : World) (Q : Value → World → Prop) : Prop :=
newK w #[.bool x3, .int .i64 x4, .int .i64 x5, .int .i64 x6, .int .i64 x7] 295 fun a8 w9 =>
newK w9 #[.int .i64 0, .int .i64 0, .bool false, .int .i64 0, .int .i64 0] 272 fun a10 w11 =>
nilK x1 fun a12 =>
∃ t13 : Option Addr, w11.drew.cell? (a12.add 1) = some (.pointer t13) ∧
nilK t13 fun a14 =>
∃ t15 : Option Addr, w11.drew.cell? (a14.add 0) = some (.pointer t15) ∧
nilK x1 fun a16 =>
∃ t17 : Int, w11.drew.cell? (a16.add 6) = some (.int .i64 t17) ∧
Calls Tryz.prog 280 #[.pointer t15, .int .i64 x2, .int .i64 t17] w11.drew fun e18 w19 => ∃ t20 : Int, e18 = .returned (.int .i64 t20) ∧
nilK x1 fun a21 =>
∃ t22 : Option Addr, w19.cell? (a21.add 1) = some (.pointer t22) ∧
Calls Tryz.prog 281 #[.pointer t22] w19 fun e23 w24 => ∃ t25 : Value, e23 = .returned (t25) ∧
∃ t26 : Bool, ∃ t27 : Int, ∃ t28 : Int, ∃ t29 : Int, ∃ t30 : Int, CellsAt w24 a8 [.bool t26, .int .i64 t27, .int .i64 t28, .int .i64 t29, .int .i64 t30] ∧
Calls Tryz.prog 278 #[.int .i64 x2, .agg #[.bool t26, .int .i64 t27, .int .i64 t28, .int .i64 t29, .int .i64 t30]] w24 fun e31 w32 => ∃ t33 : Int, ∃ t34 : Int, ∃ t35 : Bool, ∃ t36 : Int, ∃ t37 : Int, e31 = .returned (.agg #[.int .i64 t33, .int .i64 t34, .bool t35, .int .i64 t36, .int .i64 t37]) ∧
stK w32 (a10.add 0) (.int .i64 t33) fun w38 =>
stK w38 (a10.add 1) (.int .i64 t34) fun w39 =>
stK w39 (a10.add 2) (.bool t35) fun w40 =>
stK w40 (a10.add 3) (.int .i64 t36) fun w41 =>
stK w41 (a10.add 4) (.int .i64 t37) fun w42 =>
∃ t43 : Int, ∃ t44 : Int, ∃ t45 : Bool, ∃ t46 : Int, ∃ t47 : Int, CellsAt w42 a10 [.int .i64 t43, .int .i64 t44, .bool t45, .int .i64 t46, .int .i64 t47] ∧
Q (.agg #[.int .i64 t43, .int .i64 t44, .bool t45, .int .i64 t46, .int .i64 t47]) w42
def V279_ann : Nat → Ann := fun _ => ⟨[], []⟩
theorem V279_eq (x1 : Option Addr) (x2 : Int) (x3 : Bool) (x4 : Int) (x5 : Int) (x6 : Int) (x7 : Int) (w : World) (Q : Value → World → Prop) : (match Tryz.f279.body with | some c => wpC Tryz.prog Tryz.f279.ntmps V279_ann c 0 (resQ Tryz.prog Tryz.f279.ntmps Tryz.f279.results.toList Q) (argsF [.pointer x1, .int .i64 x2, .agg #[.bool x3, .int .i64 x4, .int .i64 x5, .int .i64 x6, .int .i64 x7]]) w | none => False) = V279 x1 x2 x3 x4 x5 x6 x7 w Q := by kernel_rfl
theorem V279_sound (x1 : Option Addr) (x2 : Int) (x3 : Bool) (x4 : Int) (x5 : Int) (x6 : Int) (x7 : Int) (w : World) (Q : Value → World → Prop) (h : V279 x1 x2 x3 x4 x5 x6 x7 w Q) : Calls Tryz.prog 279 #[.pointer x1, .int .i64 x2, .agg #[.bool x3, .int .i64 x4, .int .i64 x5, .int .i64 x6, .int .i64 x7]] w fun e w' => ∃ v, e = .returned v ∧ Q v w' :=
  sound_of Tryz.func279 V279_ann rfl ((V279_eq x1 x2 x3 x4 x5 x6 x7 w Q).mpr h)
def V281 (x1 : Option Addr) (w : World) (Q : Value → World → Prop) : Prop :=
nilK x1 fun a2 =>
∃ t3 : Int, w.cell? (a2.add 2) = some (.int .u64 t3) ∧
nilK x1 fun a4 =>
stK w (a4.add 2) (.int .u64 (IntKind.wrap .u64 (t3 + 1))) fun w5 =>
Q (.tuple #[]) w5
def V281_ann : Nat → Ann := fun _ => ⟨[], []⟩
theorem V281_eq (x1 : Option Addr) (w : World) (Q : Value → World → Prop) : (match Tryz.f281.body with | some c => wpC Tryz.prog Tryz.f281.ntmps V281_ann c 0 (resQ Tryz.prog Tryz.f281.ntmps Tryz.f281.results.toList Q) (argsF [.pointer x1]) w | none => False) = V281 x1 w Q := by kernel_rfl
theorem V281_sound (x1 : Option Addr) (w : World) (Q : Value → World → Prop) (h : V281 x1 w Q) : Calls Tryz.prog 281 #[.pointer x1] w fun e w' => ∃ v, e = .returned v ∧ Q v w' :=
  sound_of Tryz.func281 V281_ann rfl ((V281_eq x1 w Q).mpr h)
def V285 (x1 : Option Addr) (w : World) (Q : Value → World → Prop) : Prop :=
newK w #[.int .i64 0, .int .i64 0, .bool false, .int .i64 0, .int .i64 0] 272 fun a2 w3 =>
nilK x1 fun a4 =>
∃ t5 : Option Addr, w3.drew.cell? (a4.add 1) = some (.pointer t5) ∧
nilK x1 fun a6 =>
∃ t7 : Option Addr, w3.drew.cell? (a6.add 1) = some (.pointer t7) ∧
nilK t7 fun a8 =>
∃ t9 : Int, w3.drew.cell? (a8.add 1) = some (.int .i64 t9) ∧
Calls Tryz.prog 72 #[.pointer t5] w3.drew fun e10 w11 => ∃ t12 : Int, e10 = .returned (.int .i64 t12) ∧
(w11.cell? (a8.add 1) = some (.int .i64 t9)) ∧
(w11.cell? (a6.add 1) = some (.pointer t7)) ∧
bsel (decide (t12 ≥ t9)) (
stK w11 (a2.add 0) (.int .i64 3) fun w13 =>
stK w13 (a2.add 1) (.int .i64 0) fun w14 =>
stK w14 (a2.add 2) (.bool false) fun w15 =>
stK w15 (a2.add 3) (.int .i64 0) fun w16 =>
stK w16 (a2.add 4) (.int .i64 0) fun w17 =>
∃ t18 : Int, ∃ t19 : Int, ∃ t20 : Bool, ∃ t21 : Int, ∃ t22 : Int, CellsAt w17 a2 [.int .i64 t18, .int .i64 t19, .bool t20, .int .i64 t21, .int .i64 t22] ∧
Q (.agg #[.int .i64 t18, .int .i64 t19, .bool t20, .int .i64 t21, .int .i64 t22]) w17) (
nilK x1 fun a23 =>
∃ t24 : Option Addr, w11.drew.cell? (a23.add 1) = some (.pointer t24) ∧
nilK t24 fun a25 =>
∃ t26 : Option Addr, w11.drew.cell? (a25.add 0) = some (.pointer t26) ∧
nilK x1 fun a27 =>
∃ t28 : Int, w11.drew.cell? (a27.add 4) = some (.int .i64 t28) ∧
nilK x1 fun a29 =>
∃ t30 : Int, w11.drew.cell? (a29.add 5) = some (.int .i64 t30) ∧
nilK x1 fun a31 =>
∃ t32 : Int, w11.drew.cell? (a31.add 6) = some (.int .i64 t32) ∧
Calls Tryz.prog 286 #[.pointer t26, .int .i64 t28, .int .i64 t30, .int .i64 t32] w11.drew fun e33 w34 => ∃ t35 : Int, ∃ t36 : Int, e33 = .returned (.tuple #[.int .i64 t35, .int .i64 t36]) ∧
nilK x1 fun a37 =>
∃ t38 : Option Addr, w34.cell? (a37.add 1) = some (.pointer t38) ∧
Calls Tryz.prog 281 #[.pointer t38] w34 fun e39 w40 => ∃ t41 : Value, e39 = .returned (t41) ∧
nilK x1 fun a42 =>
∃ t43 : Int, w40.cell? (a42.add 6) = some (.int .i64 t43) ∧
stK w40 (a2.add 0) (.int .i64 2) fun w44 =>
stK w44 (a2.add 1) (.int .i64 0) fun w45 =>
stK w45 (a2.add 2) (.bool false) fun w46 =>
stK w46 (a2.add 3) (.int .i64 t43) fun w47 =>
stK w47 (a2.add 4) (.int .i64 t35) fun w48 =>
∃ t49 : Int, ∃ t50 : Int, ∃ t51 : Bool, ∃ t52 : Int, ∃ t53 : Int, CellsAt w48 a2 [.int .i64 t49, .int .i64 t50, .bool t51, .int .i64 t52, .int .i64 t53] ∧
Q (.agg #[.int .i64 t49, .int .i64 t50, .bool t51, .int .i64 t52, .int .i64 t53]) w48)
def V285_ann : Nat → Ann := fun _ => ⟨[], []⟩
theorem V285_eq (x1 : Option Addr) (w : World) (Q : Value → World → Prop) : (match Tryz.f285.body with | some c => wpC Tryz.prog Tryz.f285.ntmps V285_ann c 0 (resQ Tryz.prog Tryz.f285.ntmps Tryz.f285.results.toList Q) (argsF [.pointer x1]) w | none => False) = V285 x1 w Q := by kernel_rfl
theorem V285_sound (x1 : Option Addr) (w : World) (Q : Value → World → Prop) (h : V285 x1 w Q) : Calls Tryz.prog 285 #[.pointer x1] w fun e w' => ∃ v, e = .returned v ∧ Q v w' :=
  sound_of Tryz.func285 V285_ann rfl ((V285_eq x1 w Q).mpr h)
def V219J1 (Q : Value → World → Prop) (x50 : Addr) (w51 : World) : Prop :=
∃ t52 : Int, ∃ t53 : Int, ∃ t54 : Bool, ∃ t55 : Int, ∃ t56 : Int, CellsAt w51 x50 [.int .i64 t52, .int .i64 t53, .bool t54, .int .i64 t55, .int .i64 t56] ∧
Q (.agg #[.int .i64 t52, .int .i64 t53, .bool t54, .int .i64 t55, .int .i64 t56]) w51
def V219 (x1 : Option Addr) (x2 : Int) (w : World) (Q : Value → World → Prop) : Prop :=
newK w #[.int .i64 0, .int .i64 0, .bool false, .int .i64 0, .int .i64 0] 272 fun a3 w4 =>
nilK x1 fun a5 =>
∃ t6 : Option Addr, w4.cell? (a5.add 1) = some (.pointer t6) ∧
nilK t6 fun a7 =>
∃ t8 : Option Addr, w4.cell? (a7.add 0) = some (.pointer t8) ∧
Calls Tryz.prog 222 #[.pointer t8, .int .i64 x2] w4 fun e9 w10 => ∃ t11 : Bool, ∃ t12 : Int, ∃ t13 : Int, ∃ t14 : Int, ∃ t15 : Int, ∃ t16 : Int, e9 = .returned (.tuple #[.agg #[.bool t11, .int .i64 t12, .int .i64 t13, .int .i64 t14, .int .i64 t15], .int .i64 t16]) ∧
newK w10 #[.bool false, .int .i64 0, .int .i64 0, .int .i64 0, .int .i64 0] 295 fun a17 w18 =>
stK w18 (a17.add 0) (.bool t11) fun w19 =>
stK w19 (a17.add 1) (.int .i64 t12) fun w20 =>
stK w20 (a17.add 2) (.int .i64 t13) fun w21 =>
stK w21 (a17.add 3) (.int .i64 t14) fun w22 =>
stK w22 (a17.add 4) (.int .i64 t15) fun w23 =>
nilK x1 fun a24 =>
∃ t25 : Value, w23.drew.cell? ((a24.add 2).add 0) = some (t25) ∧
∃ t26 : Bool, ∃ t27 : Int, ∃ t28 : Int, ∃ t29 : Int, ∃ t30 : Int, CellsAt w23.drew a17 [.bool t26, .int .i64 t27, .int .i64 t28, .int .i64 t29, .int .i64 t30] ∧
CallV Tryz.prog t25 #[.pointer x1, .int .i64 x2, .agg #[.bool t26, .int .i64 t27, .int .i64 t28, .int .i64 t29, .int .i64 t30]] w23.drew fun e31 w32 => ∃ t33 : Int, ∃ t34 : Int, ∃ t35 : Bool, ∃ t36 : Int, ∃ t37 : Int, e31 = .returned (.agg #[.int .i64 t33, .int .i64 t34, .bool t35, .int .i64 t36, .int .i64 t37]) ∧
Calls Tryz.prog 221 #[.pointer x1, .agg #[.int .i64 t33, .int .i64 t34, .bool t35, .int .i64 t36, .int .i64 t37]] w32 fun e38 w39 => ∃ t40 : Int, ∃ t41 : Int, ∃ t42 : Bool, ∃ t43 : Int, ∃ t44 : Int, e38 = .returned (.agg #[.int .i64 t40, .int .i64 t41, .bool t42, .int .i64 t43, .int .i64 t44]) ∧
stK w39 (a3.add 0) (.int .i64 t40) fun w45 =>
stK w45 (a3.add 1) (.int .i64 t41) fun w46 =>
stK w46 (a3.add 2) (.bool t42) fun w47 =>
stK w47 (a3.add 3) (.int .i64 t43) fun w48 =>
stK w48 (a3.add 4) (.int .i64 t44) fun w49 =>
V219J1 Q a3 w49
def V219_ann : Nat → Ann := fun _ => ⟨[], []⟩
theorem V219_eq (x1 : Option Addr) (x2 : Int) (w : World) (Q : Value → World → Prop) : (match Tryz.f219.body with | some c => wpC Tryz.prog Tryz.f219.ntmps V219_ann c 0 (resQ Tryz.prog Tryz.f219.ntmps Tryz.f219.results.toList Q) (argsF [.pointer x1, .int .i64 x2]) w | none => False) = V219 x1 x2 w Q := by kernel_rfl
theorem V219_sound (x1 : Option Addr) (x2 : Int) (w : World) (Q : Value → World → Prop) (h : V219 x1 x2 w Q) : Calls Tryz.prog 219 #[.pointer x1, .int .i64 x2] w fun e w' => ∃ v, e = .returned v ∧ Q v w' :=
  sound_of Tryz.func219 V219_ann rfl ((V219_eq x1 x2 w Q).mpr h)
def V221J1 (Q : Value → World → Prop) (x24 : Addr) (x25 : Addr) (w26 : World) : Prop :=
∃ t27 : Int, ∃ t28 : Int, ∃ t29 : Bool, ∃ t30 : Int, ∃ t31 : Int, CellsAt w26 x24 [.int .i64 t27, .int .i64 t28, .bool t29, .int .i64 t30, .int .i64 t31] ∧
stK w26 (x25.add 0) (.int .i64 t27) fun w32 =>
stK w32 (x25.add 1) (.int .i64 t28) fun w33 =>
stK w33 (x25.add 2) (.bool t29) fun w34 =>
stK w34 (x25.add 3) (.int .i64 t30) fun w35 =>
stK w35 (x25.add 4) (.int .i64 t31) fun w36 =>
∃ t37 : Int, ∃ t38 : Int, ∃ t39 : Bool, ∃ t40 : Int, ∃ t41 : Int, CellsAt w36 x25 [.int .i64 t37, .int .i64 t38, .bool t39, .int .i64 t40, .int .i64 t41] ∧
Q (.agg #[.int .i64 t37, .int .i64 t38, .bool t39, .int .i64 t40, .int .i64 t41]) w36
def V221 (x1 : Option Addr) (x2 : Int) (x3 : Int) (x4 : Bool) (x5 : Int) (x6 : Int) (w : World) (Q : Value → World → Prop) : Prop :=
newK w #[.int .i64 x2, .int .i64 x3, .bool x4, .int .i64 x5, .int .i64 x6] 272 fun a7 w8 =>
newK w8 #[.int .i64 0, .int .i64 0, .bool false, .int .i64 0, .int .i64 0] 272 fun a9 w10 =>
∃ t11 : Int, ∃ t12 : Int, ∃ t13 : Bool, ∃ t14 : Int, ∃ t15 : Int, CellsAt w10.drew a7 [.int .i64 t11, .int .i64 t12, .bool t13, .int .i64 t14, .int .i64 t15] ∧
nilK x1 fun a16 =>
stK w10.drew (a16.add 7) (.int .i64 4) fun w17 =>
(CellsAt w17 a7 [.int .i64 t11, .int .i64 t12, .bool t13, .int .i64 t14, .int .i64 t15]) ∧
nilK x1 fun a18 =>
stK w17 ((a18.add 11).add 0) (.int .i64 t11) fun w19 =>
stK w19 ((a18.add 11).add 1) (.int .i64 t12) fun w20 =>
stK w20 ((a18.add 11).add 2) (.bool t13) fun w21 =>
stK w21 ((a18.add 11).add 3) (.int .i64 t14) fun w22 =>
stK w22 ((a18.add 11).add 4) (.int .i64 t15) fun w23 =>
V221J1 Q a7 a9 w23
def V221_ann : Nat → Ann := fun _ => ⟨[], []⟩
theorem V221_eq (x1 : Option Addr) (x2 : Int) (x3 : Int) (x4 : Bool) (x5 : Int) (x6 : Int) (w : World) (Q : Value → World → Prop) : (match Tryz.f221.body with | some c => wpC Tryz.prog Tryz.f221.ntmps V221_ann c 0 (resQ Tryz.prog Tryz.f221.ntmps Tryz.f221.results.toList Q) (argsF [.pointer x1, .agg #[.int .i64 x2, .int .i64 x3, .bool x4, .int .i64 x5, .int .i64 x6]]) w | none => False) = V221 x1 x2 x3 x4 x5 x6 w Q := by kernel_rfl
theorem V221_sound (x1 : Option Addr) (x2 : Int) (x3 : Int) (x4 : Bool) (x5 : Int) (x6 : Int) (w : World) (Q : Value → World → Prop) (h : V221 x1 x2 x3 x4 x5 x6 w Q) : Calls Tryz.prog 221 #[.pointer x1, .agg #[.int .i64 x2, .int .i64 x3, .bool x4, .int .i64 x5, .int .i64 x6]] w fun e w' => ∃ v, e = .returned v ∧ Q v w' :=
  sound_of Tryz.func221 V221_ann rfl ((V221_eq x1 x2 x3 x4 x5 x6 w Q).mpr h)
def V103J1 (Q : Value → World → Prop) (x15 : Int) (w16 : World) : Prop :=
Calls Tryz.prog 157 #[.int .i64 (-2)] w16 fun e17 w18 => ∃ t19 : Value, e17 = .returned (t19) ∧
Calls Tryz.prog 156 #[.int .u64 (IntKind.wrap .u64 x15), t19] w18 fun e20 w21 => ∃ t22 : Int, e20 = .returned (.int .i64 t22) ∧
Q (.int .i64 t22) w21
def V103 (x1 : Bool) (x2 : Option Addr) (x3 : Nat) (x4 : Nat) (w : World) (Q : Value → World → Prop) : Prop :=
newK w #[.bool x1, .slice x2 x3 x4] 40 fun a5 w6 =>
∃ t7 : Option Addr, ∃ t8 : Nat, ∃ t9 : Nat, w6.cell? (a5.add 1) = some (.slice t7 t8 t9) ∧
Calls Tryz.prog 155 #[.agg #[.bool false, .slice t7 t8 t9], .int .i64 2305843009213693951] w6 fun e10 w11 => ∃ t12 : Int, ∃ t13 : Int, e10 = .returned (.tuple #[.int .i64 t12, .int .i64 t13]) ∧
∃ t14 : Bool, w11.cell? (a5.add 0) = some (.bool t14) ∧
bsel t14 (
V103J1 Q (IntKind.wrap .i64 (0 - t12)) w11) (
V103J1 Q t12 w11)
def V103_ann : Nat → Ann := fun _ => ⟨[], []⟩
theorem V103_eq (x1 : Bool) (x2 : Option Addr) (x3 : Nat) (x4 : Nat) (w : World) (Q : Value → World → Prop) : (match Tryz.f103.body with | some c => wpC Tryz.prog Tryz.f103.ntmps V103_ann c 0 (resQ Tryz.prog Tryz.f103.ntmps Tryz.f103.results.toList Q) (argsF [.agg #[.bool x1, .slice x2 x3 x4]]) w | none => False) = V103 x1 x2 x3 x4 w Q := by kernel_rfl
theorem V103_sound (x1 : Bool) (x2 : Option Addr) (x3 : Nat) (x4 : Nat) (w : World) (Q : Value → World → Prop) (h : V103 x1 x2 x3 x4 w Q) : Calls Tryz.prog 103 #[.agg #[.bool x1, .slice x2 x3 x4]] w fun e w' => ∃ v, e = .returned v ∧ Q v w' :=
  sound_of Tryz.func103 V103_ann rfl ((V103_eq x1 x2 x3 x4 w Q).mpr h)
def V104 (x1 : ByteArray) (w : World) (Q : Value → World → Prop) : Prop :=
∃ (I2 : Int → Int → World → Prop) (μ3 : Int → Int → World → Nat), I2 14695981039346656037 0 w ∧ ∀ (j7 : Fr) (i4 : Int) (i5 : Int) (w6 : World), I2 i4 i5 w6 →
bsel (decide (i5 < (x1.size : Int))) (
sidxK x1 i5 fun c8 =>
(I2 (IntKind.wrap .u64 (bXor .u64 i4 (IntKind.wrap .u64 c8) * 1099511628211)) (IntKind.wrap .i64 (i5 + 1)) w6 ∧ μ3 (IntKind.wrap .u64 (bXor .u64 i4 (IntKind.wrap .u64 c8) * 1099511628211)) (IntKind.wrap .i64 (i5 + 1)) w6 < μ3 i4 i5 w6)) (
Calls Tryz.prog 157 #[.int .i64 (-2)] w6 fun e9 w10 => ∃ t11 : Value, e9 = .returned (t11) ∧
Calls Tryz.prog 156 #[.int .u64 i4, t11] w10 fun e12 w13 => ∃ t14 : Int, e12 = .returned (.int .i64 t14) ∧
Q (.int .i64 t14) w13)
def V104_ann : Nat → Ann := fun k => match k with | 0 => ⟨[0, 6], [(3, .int .u64), (7, .int .i64)]⟩ | _ => ⟨[], []⟩
theorem V104_eq (x1 : ByteArray) (w : World) (Q : Value → World → Prop) : (match Tryz.f104.body with | some c => wpC Tryz.prog Tryz.f104.ntmps V104_ann c 0 (resQ Tryz.prog Tryz.f104.ntmps Tryz.f104.results.toList Q) (argsF [.string x1]) w | none => False) = V104 x1 w Q := by kernel_rfl
theorem V104_sound (x1 : ByteArray) (w : World) (Q : Value → World → Prop) (h : V104 x1 w Q) : Calls Tryz.prog 104 #[.string x1] w fun e w' => ∃ v, e = .returned v ∧ Q v w' :=
  sound_of Tryz.func104 V104_ann rfl ((V104_eq x1 w Q).mpr h)
def V155J1 (Q : Value → World → Prop) (w27 : World) (x53 : Addr) (w54 : World) : Prop :=
∃ t55 : Int, w54.cell? x53 = some (.int .u64 t55) ∧
((w54.heap[w27.heap.size]? = some (.deferred (some []))) ∧ Q (.tuple #[.int .i64 (IntKind.wrap .i64 t55), .int .i64 0]) (w54.putObj w27.heap.size (.deferred none)))
def V155J2 (Q : Value → World → Prop) (w27 : World) (x46 : Addr) (x47 : Addr) (x48 : Bool) (w49 : World) : Prop :=
bsel x48 (
∃ t50 : Int, w49.cell? x46 = some (.int .i64 t50) ∧
∃ t51 : Int, w49.cell? x47 = some (.int .u64 t51) ∧
stK w49 x47 (.int .u64 (IntKind.wrap .u64 (IntKind.wrap .u64 t50 - t51))) fun w52 =>
V155J1 Q w27 x47 w52) (
V155J1 Q w27 x47 w49)
def V155J3 (Q : Value → World → Prop) (x11 : Addr) (x12 : Addr) (x13 : Bool) (w14 : World) : Prop :=
bsel x13 (
Q (.tuple #[.int .i64 0, .int .i64 1]) w14) (
newK w14 #[.int .u64 0] 44 fun a15 w16 =>
stK w16 a15 (.int .u64 0) fun w17 =>
∃ t18 : Option Addr, ∃ t19 : Nat, ∃ t20 : Nat, w17.cell? (x11.add 1) = some (.slice t18 t19 t20) ∧
Calls Tryz.prog 124 #[.slice t18 t19 t20] w17 fun e21 w22 => ∃ t23 : Option Addr, ∃ t24 : Nat, ∃ t25 : Nat, e21 = .returned (.slice t23 t24 t25) ∧
Calls Tryz.prog 126 #[.slice t23 t24 t25] w22 fun e26 w27 => ∃ t28 : Value, e26 = .returned (t28) ∧
∀ Rec29 : LoopState → Option Code → Obj, (∀ s p c e f, Rec29 s p ≠ .cells c e f) →
(∀ (w30 : World) (K31 : Bool → World → Prop), w30.heap[(w27.heap.size + 1)]? = some (Rec29 .ready none) → ∀ (y32 : Value) (y33 : Int), (
w30.heap[(w27.heap.size + 1)]? = some (Rec29 .ready none) ∧
∃ t34 : Int, (w30.putObj (w27.heap.size + 1) (Rec29 .busy none)).cell? a15 = some (.int .u64 t34) ∧
((0 : Int) ≤ 32) ∧
∃ t35 : Int, (w30.putObj (w27.heap.size + 1) (Rec29 .busy none)).cell? a15 = some (.int .u64 t35) ∧
((0 : Int) ≤ 32) ∧
∃ t36 : Int, (w30.putObj (w27.heap.size + 1) (Rec29 .busy none)).cell? x12 = some (.int .i64 t36) ∧
Calls Tryz.prog 223 #[.int .u64 (shr .u64 t34 32), .int .u64 (bOr .u64 (shl .u64 t35 32) (IntKind.wrap .u64 y33)), .int .u64 (IntKind.wrap .u64 t36)] (w30.putObj (w27.heap.size + 1) (Rec29 .busy none)) fun e37 w38 => ∃ t39 : Int, e37 = .returned (.int .u64 t39) ∧
stK w38 a15 (.int .u64 t39) fun w40 =>
((∃ s p, w40.heap[(w27.heap.size + 1)]? = some (Rec29 s p)) ∧ K31 true (w40.putObj (w27.heap.size + 1) (Rec29 .ready none)))) → RoundK Tryz.prog (w27.heap.size + 1) #[y32, .int .u32 y33] w30 K31) →
CallG Tryz.prog t28 #[.func (.yield (w27.heap.size + 1)) #[] #[]] ((w27.alloc (.deferred (some []))).alloc (Rec29 .ready none)) fun e41 w42 => (∃ v43, e41 = .returned v43) ∧ ((w42.heap[(w27.heap.size + 1)]? = some (Rec29 .ready none) ∧
∃ t44 : Bool, (w42.putObj (w27.heap.size + 1) (Rec29 .exhausted none)).cell? (x11.add 0) = some (.bool t44) ∧
bsel t44 (
∃ t45 : Int, (w42.putObj (w27.heap.size + 1) (Rec29 .exhausted none)).cell? a15 = some (.int .u64 t45) ∧
V155J2 Q w27 x12 a15 (decide (t45 > 0)) (w42.putObj (w27.heap.size + 1) (Rec29 .exhausted none))) (
V155J2 Q w27 x12 a15 false (w42.putObj (w27.heap.size + 1) (Rec29 .exhausted none)))) ∨ False))
def V155 (x1 : Bool) (x2 : Option Addr) (x3 : Nat) (x4 : Nat) (x5 : Int) (w : World) (Q : Value → World → Prop) : Prop :=
newK w #[.bool x1, .slice x2 x3 x4] 40 fun a6 w7 =>
newK w7 #[.int .i64 x5] 3 fun a8 w9 =>
∃ t10 : Int, w9.cell? a8 = some (.int .i64 t10) ∧
bsel (decide (t10 < 1)) (
V155J3 Q a6 a8 true w9) (
∃ t56 : Int, w9.cell? a8 = some (.int .i64 t56) ∧
V155J3 Q a6 a8 (decide (t56 > 4611686018427387904)) w9)
def V155_sh : Nat → List (Nat × Shape) := fun k => match k with | 0 => [(19, .one (.raw)), (20, .one (.int .u32))] | _ => []
def V155_ann : Nat → Ann := fun _ => ⟨[], []⟩
theorem V155_eq (x1 : Bool) (x2 : Option Addr) (x3 : Nat) (x4 : Nat) (x5 : Int) (w : World) (Q : Value → World → Prop) : (match Tryz.f155.body with | some c => wpM Tryz.prog Tryz.f155.ntmps V155_ann V155_sh c 0 [] (resM Tryz.prog Tryz.f155.ntmps Tryz.f155.results.toList Q) (argsF [.agg #[.bool x1, .slice x2 x3 x4], .int .i64 x5]) w | none => False) = V155 x1 x2 x3 x4 x5 w Q := by kernel_rfl
theorem V155_sound (x1 : Bool) (x2 : Option Addr) (x3 : Nat) (x4 : Nat) (x5 : Int) (w : World) (Q : Value → World → Prop) (h : V155 x1 x2 x3 x4 x5 w Q) : Calls Tryz.prog 155 #[.agg #[.bool x1, .slice x2 x3 x4], .int .i64 x5] w fun e w' => ∃ v, e = .returned v ∧ Q v w' :=
  sound_ofM Tryz.func155 V155_ann V155_sh rfl ((V155_eq x1 x2 x3 x4 x5 w Q).mpr h)
def V156 (x1 : Int) (x2 : Value) (w : World) (Q : Value → World → Prop) : Prop :=
bsel (IntKind.wrap .i64 x1 == (-1)) (
CallV Tryz.prog x2 #[] w fun e3 w4 => ∃ t5 : Int, e3 = .returned (.int .i64 t5) ∧
Q (.int .i64 t5) w4) (
Q (.int .i64 (IntKind.wrap .i64 x1)) w)
def V156_ann : Nat → Ann := fun _ => ⟨[], []⟩
theorem V156_eq (x1 : Int) (x2 : Value) (w : World) (Q : Value → World → Prop) : (match Tryz.f156.body with | some c => wpC Tryz.prog Tryz.f156.ntmps V156_ann c 0 (resQ Tryz.prog Tryz.f156.ntmps Tryz.f156.results.toList Q) (argsF [.int .u64 x1, x2]) w | none => False) = V156 x1 x2 w Q := by kernel_rfl
theorem V156_sound (x1 : Int) (x2 : Value) (w : World) (Q : Value → World → Prop) (h : V156 x1 x2 w Q) : Calls Tryz.prog 156 #[.int .u64 x1, x2] w fun e w' => ∃ v, e = .returned v ∧ Q v w' :=
  sound_of Tryz.func156 V156_ann rfl ((V156_eq x1 x2 w Q).mpr h)
def V157 (x1 : Int) (w : World) (Q : Value → World → Prop) : Prop :=
newK w #[.int .i64 x1] 3 fun a2 w3 =>
Q (.func (.func 224) #[] #[.pointer (some a2)]) w3
def V157_ann : Nat → Ann := fun _ => ⟨[], []⟩
theorem V157_eq (x1 : Int) (w : World) (Q : Value → World → Prop) : (match Tryz.f157.body with | some c => wpC Tryz.prog Tryz.f157.ntmps V157_ann c 0 (resQ Tryz.prog Tryz.f157.ntmps Tryz.f157.results.toList Q) (argsF [.int .i64 x1]) w | none => False) = V157 x1 w Q := by kernel_rfl
theorem V157_sound (x1 : Int) (w : World) (Q : Value → World → Prop) (h : V157 x1 w Q) : Calls Tryz.prog 157 #[.int .i64 x1] w fun e w' => ∃ v, e = .returned v ∧ Q v w' :=
  sound_of Tryz.func157 V157_ann rfl ((V157_eq x1 w Q).mpr h)
def V164 (x1 : Int) (w : World) (Q : Value → World → Prop) : Prop :=
Calls Tryz.prog 230 #[.int .u64 (IntKind.wrap .u64 x1), .int .i64 (-4)] w fun e2 w3 => ∃ t4 : Int, e2 = .returned (.int .u64 t4) ∧
Calls Tryz.prog 157 #[.int .i64 (-2)] w3 fun e5 w6 => ∃ t7 : Value, e5 = .returned (t7) ∧
Calls Tryz.prog 156 #[.int .u64 t4, t7] w6 fun e8 w9 => ∃ t10 : Int, e8 = .returned (.int .i64 t10) ∧
Q (.int .i64 t10) w9
def V164_ann : Nat → Ann := fun _ => ⟨[], []⟩
theorem V164_eq (x1 : Int) (w : World) (Q : Value → World → Prop) : (match Tryz.f164.body with | some c => wpC Tryz.prog Tryz.f164.ntmps V164_ann c 0 (resQ Tryz.prog Tryz.f164.ntmps Tryz.f164.results.toList Q) (argsF [.int .i64 x1]) w | none => False) = V164 x1 w Q := by kernel_rfl
theorem V164_sound (x1 : Int) (w : World) (Q : Value → World → Prop) (h : V164 x1 w Q) : Calls Tryz.prog 164 #[.int .i64 x1] w fun e w' => ∃ v, e = .returned v ∧ Q v w' :=
  sound_of Tryz.func164 V164_ann rfl ((V164_eq x1 w Q).mpr h)
def V224 (x1 : Addr) (w : World) (Q : Value → World → Prop) : Prop :=
∃ t2 : Int, w.cell? x1 = some (.int .i64 t2) ∧
Q (.int .i64 t2) w
def V224_ann : Nat → Ann := fun _ => ⟨[], []⟩
theorem V224_eq (x1 : Addr) (w : World) (Q : Value → World → Prop) : (match Tryz.f224.body with | some c => wpC Tryz.prog Tryz.f224.ntmps V224_ann c 0 (resQ Tryz.prog Tryz.f224.ntmps Tryz.f224.results.toList Q) (argsF [.pointer (some x1)]) w | none => False) = V224 x1 w Q := by kernel_rfl
theorem V224_sound (x1 : Addr) (w : World) (Q : Value → World → Prop) (h : V224 x1 w Q) : Calls Tryz.prog 224 #[.pointer (some x1)] w fun e w' => ∃ v, e = .returned v ∧ Q v w' :=
  sound_of Tryz.func224 V224_ann rfl ((V224_eq x1 w Q).mpr h)
def V230 (x1 : Int) (x2 : Int) (w : World) (Q : Value → World → Prop) : Prop :=
((0 : Int) ≤ bAnd .u64 (IntKind.wrap .u64 x2) 63) ∧
((0 : Int) ≤ IntKind.wrap .u64 (64 - bAnd .u64 (IntKind.wrap .u64 x2) 63)) ∧
Q (.int .u64 (bOr .u64 (shl .u64 x1 (bAnd .u64 (IntKind.wrap .u64 x2) 63)) (shr .u64 x1 (IntKind.wrap .u64 (64 - bAnd .u64 (IntKind.wrap .u64 x2) 63))))) w
def V230_ann : Nat → Ann := fun _ => ⟨[], []⟩
theorem V230_eq (x1 : Int) (x2 : Int) (w : World) (Q : Value → World → Prop) : (match Tryz.f230.body with | some c => wpC Tryz.prog Tryz.f230.ntmps V230_ann c 0 (resQ Tryz.prog Tryz.f230.ntmps Tryz.f230.results.toList Q) (argsF [.int .u64 x1, .int .i64 x2]) w | none => False) = V230 x1 x2 w Q := by kernel_rfl
theorem V230_sound (x1 : Int) (x2 : Int) (w : World) (Q : Value → World → Prop) (h : V230 x1 x2 w Q) : Calls Tryz.prog 230 #[.int .u64 x1, .int .i64 x2] w fun e w' => ∃ v, e = .returned v ∧ Q v w' :=
  sound_of Tryz.func230 V230_ann rfl ((V230_eq x1 x2 w Q).mpr h)
def V223 (x1 : Int) (x2 : Int) (x3 : Int) (w : World) (Q : Value → World → Prop) : Prop :=
((x3 : Int) ≠ 0) ∧
Calls Tryz.prog 294 #[.int .u64 (Int.tmod x1 x3), .int .u64 x2, .int .u64 x3] w fun e4 w5 => ∃ t6 : Int, ∃ t7 : Int, e4 = .returned (.tuple #[.int .u64 t6, .int .u64 t7]) ∧
Q (.int .u64 t7) w5
def V223_ann : Nat → Ann := fun _ => ⟨[], []⟩
theorem V223_eq (x1 : Int) (x2 : Int) (x3 : Int) (w : World) (Q : Value → World → Prop) : (match Tryz.f223.body with | some c => wpC Tryz.prog Tryz.f223.ntmps V223_ann c 0 (resQ Tryz.prog Tryz.f223.ntmps Tryz.f223.results.toList Q) (argsF [.int .u64 x1, .int .u64 x2, .int .u64 x3]) w | none => False) = V223 x1 x2 x3 w Q := by kernel_rfl
theorem V223_sound (x1 : Int) (x2 : Int) (x3 : Int) (w : World) (Q : Value → World → Prop) (h : V223 x1 x2 x3 w Q) : Calls Tryz.prog 223 #[.int .u64 x1, .int .u64 x2, .int .u64 x3] w fun e w' => ∃ v, e = .returned v ∧ Q v w' :=
  sound_of Tryz.func223 V223_ann rfl ((V223_eq x1 x2 x3 w Q).mpr h)
def V294J1 (Q : Value → World → Prop) (x60 : Int) (x61 : Int) (x62 : Int) (x63 : Int) (x64 : Int) (x65 : Int) (w66 : World) : Prop :=
((0 : Int) ≤ x61) ∧
Q (.tuple #[.int .u64 (IntKind.wrap .u64 (IntKind.wrap .u64 (x63 * 4294967296) + x65)), .int .u64 (shr .u64 (IntKind.wrap .u64 (IntKind.wrap .u64 (IntKind.wrap .u64 (x64 * 4294967296) + x62) - IntKind.wrap .u64 (x65 * x60))) x61)]) w66
def V294J2 (Q : Value → World → Prop) (I43 : Int → Int → World → Prop) (μ44 : Int → Int → World → Nat) (i45 : Int) (i46 : Int) (w47 : World) (x49 : Int) (x50 : Int) (x51 : Int) (x52 : Int) (x53 : Int) (x54 : Int) (x55 : Int) (x56 : Int) (x57 : Int) (x58 : Bool) (w59 : World) : Prop :=
bsel x58 (
bsel (decide (IntKind.wrap .u64 (x55 + x51) ≥ 4294967296)) (
V294J1 Q x49 x50 x53 x54 x56 (IntKind.wrap .u64 (x57 - 1)) w59) (
(I43 (IntKind.wrap .u64 (x55 + x51)) (IntKind.wrap .u64 (x57 - 1)) w59 ∧ μ44 (IntKind.wrap .u64 (x55 + x51)) (IntKind.wrap .u64 (x57 - 1)) w59 < μ44 i45 i46 w47))) (
V294J1 Q x49 x50 x53 x54 x56 x57 w59)
def V294J3 (Q : Value → World → Prop) (x34 : Int) (x35 : Int) (x36 : Int) (x37 : Int) (x38 : Int) (x39 : Int) (x40 : Int) (x41 : Int) (w42 : World) : Prop :=
((x36 : Int) ≠ 0) ∧
∃ (I43 : Int → Int → World → Prop) (μ44 : Int → Int → World → Nat), I43 (IntKind.wrap .u64 (IntKind.wrap .u64 (IntKind.wrap .u64 (IntKind.wrap .u64 (x38 * 4294967296) + x39) - IntKind.wrap .u64 (x41 * x34)) - IntKind.wrap .u64 (IntKind.wrap .u64 (Int.tdiv (IntKind.wrap .u64 (IntKind.wrap .u64 (IntKind.wrap .u64 (x38 * 4294967296) + x39) - IntKind.wrap .u64 (x41 * x34))) x36) * x36))) (IntKind.wrap .u64 (Int.tdiv (IntKind.wrap .u64 (IntKind.wrap .u64 (IntKind.wrap .u64 (x38 * 4294967296) + x39) - IntKind.wrap .u64 (x41 * x34))) x36)) w42 ∧ ∀ (j48 : Fr) (i45 : Int) (i46 : Int) (w47 : World), I43 i45 i46 w47 →
bsel (decide (i46 ≥ 4294967296)) (
V294J2 Q I43 μ44 i45 i46 w47 x34 x35 x36 x37 x40 x41 i45 (IntKind.wrap .u64 (IntKind.wrap .u64 (IntKind.wrap .u64 (x38 * 4294967296) + x39) - IntKind.wrap .u64 (x41 * x34))) i46 true w47) (
V294J2 Q I43 μ44 i45 i46 w47 x34 x35 x36 x37 x40 x41 i45 (IntKind.wrap .u64 (IntKind.wrap .u64 (IntKind.wrap .u64 (x38 * 4294967296) + x39) - IntKind.wrap .u64 (x41 * x34))) i46 (decide (IntKind.wrap .u64 (i46 * x37) > IntKind.wrap .u64 (IntKind.wrap .u64 (4294967296 * i45) + x40))) w47)
def V294J4 (Q : Value → World → Prop) (I17 : Int → Int → World → Prop) (μ18 : Int → Int → World → Nat) (i19 : Int) (i20 : Int) (w21 : World) (x23 : Int) (x24 : Int) (x25 : Int) (x26 : Int) (x27 : Int) (x28 : Int) (x29 : Int) (x30 : Int) (x31 : Int) (x32 : Bool) (w33 : World) : Prop :=
bsel x32 (
bsel (decide (IntKind.wrap .u64 (x31 + x25) ≥ 4294967296)) (
V294J3 Q x23 x24 x25 x26 x27 x28 x29 (IntKind.wrap .u64 (x30 - 1)) w33) (
(I17 (IntKind.wrap .u64 (x30 - 1)) (IntKind.wrap .u64 (x31 + x25)) w33 ∧ μ18 (IntKind.wrap .u64 (x30 - 1)) (IntKind.wrap .u64 (x31 + x25)) w33 < μ18 i19 i20 w21))) (
V294J3 Q x23 x24 x25 x26 x27 x28 x29 x30 w33)
def V294J5 (Q : Value → World → Prop) (x10 : Int) (x11 : Int) (x12 : Int) (w13 : World) : Prop :=
bsel (x10 == 0) (
((x12 : Int) ≠ 0) ∧
((x12 : Int) ≠ 0) ∧
Q (.tuple #[.int .u64 (IntKind.wrap .u64 (Int.tdiv x11 x12)), .int .u64 (Int.tmod x11 x12)]) w13.drew) (
Calls Tryz.prog 337 #[.int .u64 x12] w13 fun e14 w15 => ∃ t16 : Int, e14 = .returned (.int .i64 t16) ∧
((0 : Int) ≤ IntKind.wrap .u64 t16) ∧
((0 : Int) ≤ 32) ∧
((0 : Int) ≤ IntKind.wrap .u64 t16) ∧
((0 : Int) ≤ IntKind.wrap .u64 (64 - IntKind.wrap .u64 t16)) ∧
((0 : Int) ≤ IntKind.wrap .u64 t16) ∧
((0 : Int) ≤ 32) ∧
((shr .u64 (shl .u64 x12 (IntKind.wrap .u64 t16)) 32 : Int) ≠ 0) ∧
∃ (I17 : Int → Int → World → Prop) (μ18 : Int → Int → World → Nat), I17 (IntKind.wrap .u64 (Int.tdiv (bOr .u64 (shl .u64 x10 (IntKind.wrap .u64 t16)) (shr .u64 x11 (IntKind.wrap .u64 (64 - IntKind.wrap .u64 t16)))) (shr .u64 (shl .u64 x12 (IntKind.wrap .u64 t16)) 32))) (IntKind.wrap .u64 (bOr .u64 (shl .u64 x10 (IntKind.wrap .u64 t16)) (shr .u64 x11 (IntKind.wrap .u64 (64 - IntKind.wrap .u64 t16))) - IntKind.wrap .u64 (IntKind.wrap .u64 (Int.tdiv (bOr .u64 (shl .u64 x10 (IntKind.wrap .u64 t16)) (shr .u64 x11 (IntKind.wrap .u64 (64 - IntKind.wrap .u64 t16)))) (shr .u64 (shl .u64 x12 (IntKind.wrap .u64 t16)) 32)) * shr .u64 (shl .u64 x12 (IntKind.wrap .u64 t16)) 32))) w15 ∧ ∀ (j22 : Fr) (i19 : Int) (i20 : Int) (w21 : World), I17 i19 i20 w21 →
bsel (decide (i19 ≥ 4294967296)) (
V294J4 Q I17 μ18 i19 i20 w21 (shl .u64 x12 (IntKind.wrap .u64 t16)) (IntKind.wrap .u64 t16) (shr .u64 (shl .u64 x12 (IntKind.wrap .u64 t16)) 32) (bAnd .u64 (shl .u64 x12 (IntKind.wrap .u64 t16)) 4294967295) (bOr .u64 (shl .u64 x10 (IntKind.wrap .u64 t16)) (shr .u64 x11 (IntKind.wrap .u64 (64 - IntKind.wrap .u64 t16)))) (shr .u64 (shl .u64 x11 (IntKind.wrap .u64 t16)) 32) (bAnd .u64 (shl .u64 x11 (IntKind.wrap .u64 t16)) 4294967295) i19 i20 true w21) (
V294J4 Q I17 μ18 i19 i20 w21 (shl .u64 x12 (IntKind.wrap .u64 t16)) (IntKind.wrap .u64 t16) (shr .u64 (shl .u64 x12 (IntKind.wrap .u64 t16)) 32) (bAnd .u64 (shl .u64 x12 (IntKind.wrap .u64 t16)) 4294967295) (bOr .u64 (shl .u64 x10 (IntKind.wrap .u64 t16)) (shr .u64 x11 (IntKind.wrap .u64 (64 - IntKind.wrap .u64 t16)))) (shr .u64 (shl .u64 x11 (IntKind.wrap .u64 t16)) 32) (bAnd .u64 (shl .u64 x11 (IntKind.wrap .u64 t16)) 4294967295) i19 i20 (decide (IntKind.wrap .u64 (i19 * bAnd .u64 (shl .u64 x12 (IntKind.wrap .u64 t16)) 4294967295) > IntKind.wrap .u64 (IntKind.wrap .u64 (4294967296 * i20) + shr .u64 (shl .u64 x11 (IntKind.wrap .u64 t16)) 32))) w21))
def V294J6 (Q : Value → World → Prop) (x5 : Int) (x6 : Int) (x7 : Int) (w8 : World) : Prop :=
bsel (decide (x7 ≤ x5)) (
∃ t9 : Value, w8.cell? ⟨0, 0, none⟩ = some (t9) ∧
False) (
V294J5 Q x5 x6 x7 w8)
def V294 (x1 : Int) (x2 : Int) (x3 : Int) (w : World) (Q : Value → World → Prop) : Prop :=
bsel (x3 == 0) (
∃ t4 : Value, w.cell? ⟨4, 0, none⟩ = some (t4) ∧
False) (
V294J6 Q x1 x2 x3 w)
def V294_ann : Nat → Ann := fun k => match k with | 0 => ⟨[2, 8, 9, 10, 11, 13, 14], [(15, .int .u64), (16, .int .u64)]⟩ | 1 => ⟨[2, 8, 9, 10, 14, 15, 17], [(16, .int .u64), (18, .int .u64)]⟩ | _ => ⟨[], []⟩
theorem V294_eq (x1 : Int) (x2 : Int) (x3 : Int) (w : World) (Q : Value → World → Prop) : (match Tryz.f294.body with | some c => wpC Tryz.prog Tryz.f294.ntmps V294_ann c 0 (resQ Tryz.prog Tryz.f294.ntmps Tryz.f294.results.toList Q) (argsF [.int .u64 x1, .int .u64 x2, .int .u64 x3]) w | none => False) = V294 x1 x2 x3 w Q := by kernel_rfl
theorem V294_sound (x1 : Int) (x2 : Int) (x3 : Int) (w : World) (Q : Value → World → Prop) (h : V294 x1 x2 x3 w Q) : Calls Tryz.prog 294 #[.int .u64 x1, .int .u64 x2, .int .u64 x3] w fun e w' => ∃ v, e = .returned v ∧ Q v w' :=
  sound_of Tryz.func294 V294_ann rfl ((V294_eq x1 x2 x3 w Q).mpr h)
end Go.Fw

