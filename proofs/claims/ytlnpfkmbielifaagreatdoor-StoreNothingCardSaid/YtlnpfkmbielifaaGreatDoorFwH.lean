/- Part of a proof over the given program: a text of lemmas (conditions: none beyond each lemma as stated). -/
import Derived.Test.YtlnpfkmbielifaaGreatDoorFwG
set_option linter.unnecessarySimpa false
set_option linter.unusedVariables false
set_option linter.unusedSimpArgs false
set_option autoImplicit false
namespace Go.Fw

/-! Code. -/
def TyOf (g : Tag) : Type := match g with
  | .int _ => Int
  | .bool => Bool
  | .str => ByteArray
  | .ptr => Option Addr
  | .slice => Option Addr × Nat × Nat
  | .map => Option Nat
  | .raw => Value

/-- Functions of a list of typed variables. -/
def CurT (X : Type) : List (Nat × Tag) → Type
  | [] => X
  | (_, .int _) :: l => Int → CurT X l
  | (_, .bool) :: l => Bool → CurT X l
  | (_, .str) :: l => ByteArray → CurT X l
  | (_, .ptr) :: l => Option Addr → CurT X l
  | (_, .slice) :: l => Option Addr → Nat → Nat → CurT X l
  | (_, .map) :: l => Option Nat → CurT X l
  | (_, .raw) :: l => Value → CurT X l

/-- What a frame's variables are, handed to f and g. -/
def unT {X Y : Type} (ρ : Fr) : (l : List (Nat × Tag)) → CurT X l → CurT Y l → (X → Y → Prop) → Prop
  | [], f, g, K => K f g
  | (t, .int k) :: l, f, g, K => match ρ t with | .int k' n => (match decide (k' = k) with | true => unT ρ l (f n) (g n) K | false => False) | _ => False
  | (t, .bool) :: l, f, g, K => match ρ t with | .bool b => unT ρ l (f b) (g b) K | _ => False
  | (t, .str) :: l, f, g, K => match ρ t with | .string b => unT ρ l (f b) (g b) K | _ => False
  | (t, .ptr) :: l, f, g, K => match ρ t with | .pointer b => unT ρ l (f b) (g b) K | _ => False
  | (t, .slice) :: l, f, g, K => match ρ t with | .slice a n c => unT ρ l (f a n c) (g a n c) K | _ => False
  | (t, .map) :: l, f, g, K => match ρ t with | .map b => unT ρ l (f b) (g b) K | _ => False
  | (t, .raw) :: l, f, g, K => unT ρ l (f (ρ t)) (g (ρ t)) K

/-- For all values of the variables. -/
def allT {X Y : Type} : (l : List (Nat × Tag)) → Fr → CurT X l → CurT Y l → (Fr → X → Y → Prop) → Prop
  | [], ρ, f, g, K => K ρ f g
  | (t, .int k) :: l, ρ, f, g, K => ∀ n : Int, allT l (upd ρ t (.int k n)) (f n) (g n) K
  | (t, .bool) :: l, ρ, f, g, K => ∀ b : Bool, allT l (upd ρ t (.bool b)) (f b) (g b) K
  | (t, .str) :: l, ρ, f, g, K => ∀ b : ByteArray, allT l (upd ρ t (.string b)) (f b) (g b) K
  | (t, .ptr) :: l, ρ, f, g, K => ∀ b : Option Addr, allT l (upd ρ t (.pointer b)) (f b) (g b) K
  | (t, .slice) :: l, ρ, f, g, K => ∀ (a : Option Addr) (n c : Nat), allT l (upd ρ t (.slice a n c)) (f a n c) (g a n c) K
  | (t, .map) :: l, ρ, f, g, K => ∀ b : Option Nat, allT l (upd ρ t (.map b)) (f b) (g b) K
  | (t, .raw) :: l, ρ, f, g, K => ∀ b : Value, allT l (upd ρ t b) (f b) (g b) K

/-- The variables that a loop keeps: from ρ; all others from j. -/
noncomputable def fixF (fx : List Nat) (ρ j : Fr) : Fr := List.rec (motive := fun _ => Fr) j (fun t _ ih => upd ih t (ρ t)) fx

def asg (c : Code) : List Nat := match c with
  | .region _ ops _ => ops.toList.filterMap (·.dst)
  | .seq a b => asg a ++ asg b
  | .cond _ a b => asg a ++ asg b
  | .block _ a => asg a
  | .loop a => asg a
  | .scope a => asg a
  | .rangeFunc _ ps a b => ps.toList ++ asg a ++ asg b
  | _ => []

def dis (fx : List Nat) (as : List Nat) : Bool := fx.all fun t => as.all fun u => !Nat.beq t u

/-- What a loop keeps and what it changes. -/
structure Ann where
  fx : List Nat
  st : List (Nat × Tag)

noncomputable def loopV (an : Ann) (as : List Nat) (B : (Exit → Fr → World → Prop) → Fr → World → Prop) (Q : Exit → Fr → World → Prop) (ρ : Fr) (w : World) : Prop :=
  match dis an.fx as with
  | false => False
  | true => ∃ (I : CurT (World → Prop) an.st) (μ : CurT (World → Nat) an.st), unT ρ an.st I μ (fun i _ => i w) ∧
      ∀ j : Fr, allT an.st (fixF an.fx ρ j) I μ fun ρ1 i m => ∀ w, i w → B (fun e ρ' w' => match e with
        | .normal => unT ρ' an.st I μ fun i' m' => i' w' ∧ m' w' < m w
        | e => Q e ρ' w') ρ1 w

/-- The VC of a code; the annotations of its loops in the order of the text. -/
noncomputable def wpC (P : Program) (n : Nat) (ann : Nat → Ann) (c : Code) : Nat → (Exit → Fr → World → Prop) → Fr → World → Prop :=
  Code.rec (motive := fun _ => Nat → (Exit → Fr → World → Prop) → Fr → World → Prop)
    (fun _ Q ρ w => Q .normal ρ w)
    (fun _ ops draw _ Q ρ w => vcRegion P n ops draw (Q .normal) ρ w)
    (fun a _ iha ihb k Q ρ w => iha k (fun e ρ w => match e with | .normal => ihb (k + (nl a)) Q ρ w | e => Q e ρ w) ρ w)
    (fun c a _ iha ihb k Q ρ w => match ev n ρ c with
      | .bool b => match c with
        | .tmp t => bsel b (iha k Q (upd ρ t (.bool true)) w) (ihb (k + nl a) Q (upd ρ t (.bool false)) w)
        | _ => bsel b (iha k Q ρ w) (ihb (k + nl a) Q ρ w)
      | _ => False)
    (fun id _ ih k Q ρ w => ih k (fun e ρ w => match e with | .exit id' => (match Nat.beq id' id with | true => Q .normal ρ w | false => Q (.exit id') ρ w) | e => Q e ρ w) ρ w)
    (fun b ih k Q ρ w => loopV (ann k) (asg b) (ih (k + 1)) Q ρ w)
    (fun _ _ _ _ _ _ _ _ _ _ => False)
    (fun id _ Q ρ w => Q (.exit id) ρ w)
    (fun _ ih k Q ρ w => ih k Q ρ w)
    (fun _ _ Q ρ w => Q .normal ρ w)
    (fun _ _ _ _ _ => False)
    (fun _ Q ρ w => Q .ret ρ w)
    (fun _ _ _ _ _ => False) c
where
  nl (c : Code) : Nat := match c with
    | .seq a b => nl a + nl b
    | .cond _ a b => nl a + nl b
    | .block _ a => nl a
    | .loop a => nl a + 1
    | .scope a => nl a
    | _ => 0

/-! Soundness. -/
theorem rep_upd_self {n : Nat} {a : Act} {ρ : Fr} {t : Nat} {v : Value} (hr : Rep n a ρ) (h : ρ t = v) : Rep n a (upd ρ t v) := hr.set t v h

theorem unT_allT {X Y : Type} {n : Nat} {a : Act} {ρ : Fr} (hr : Rep n a ρ) {K : X → Y → Prop} {K' : Fr → X → Y → Prop} :
    ∀ (l : List (Nat × Tag)) (f : CurT X l) (g : CurT Y l) (ρ0 : Fr), (∀ t, t < n → (∀ p ∈ l, p.1 ≠ t) → ρ0 t = ρ t) → unT ρ l f g K → allT l ρ0 f g K' →
      ∃ (ρ1 : Fr) (x : X) (y : Y), Rep n a ρ1 ∧ K x y ∧ K' ρ1 x y
  | [], f, g, ρ0, h0, hK, hK' => ⟨ρ0, f, g, ⟨hr.size, fun t ht => by rw [hr.get t ht, h0 t ht (fun p hp => by cases hp)]⟩, hK, hK'⟩
  | (t, tg) :: l, f, g, ρ0, h0, hK, hK' => by
    have step : ∀ v, ρ t = v → ∀ u, u < n → (∀ p ∈ l, p.1 ≠ u) → upd ρ0 t v u = ρ u := by
      intro v hv u hu hp
      by_cases hut : u = t
      · subst hut; rw [upd_same, hv]
      · rw [upd_ne _ _ hut]
        exact h0 u hu fun p hp' => by
          rcases List.mem_cons.1 hp' with rfl | hp'
          · exact fun h => hut h.symm
          · exact hp p hp'
    cases tg with
    | int k =>
      simp only [unT] at hK
      split at hK
      · rename_i k' m hv
        split at hK
        · rename_i hk
          have hk := of_decide_eq_true hk
          subst hk
          exact unT_allT hr l (f m) (g m) (upd ρ0 t (.int k' m)) (step _ hv) hK (hK' m)
        · exact hK.elim
      · exact hK.elim
    | bool =>
      simp only [unT] at hK
      split at hK
      · rename_i b hv; exact unT_allT hr l (f b) (g b) _ (step _ hv) hK (hK' b)
      · exact hK.elim
    | str =>
      simp only [unT] at hK
      split at hK
      · rename_i b hv; exact unT_allT hr l (f b) (g b) _ (step _ hv) hK (hK' b)
      · exact hK.elim
    | ptr =>
      simp only [unT] at hK
      split at hK
      · rename_i b hv; exact unT_allT hr l (f b) (g b) _ (step _ hv) hK (hK' b)
      · exact hK.elim
    | slice =>
      simp only [unT] at hK
      split at hK
      · rename_i x y z hv; exact unT_allT hr l (f x y z) (g x y z) _ (step _ hv) hK (hK' x y z)
      · exact hK.elim
    | map =>
      simp only [unT] at hK
      split at hK
      · rename_i b hv; exact unT_allT hr l (f b) (g b) _ (step _ hv) hK (hK' b)
      · exact hK.elim
    | raw =>
      simp only [unT] at hK
      exact unT_allT hr l (f (ρ t)) (g (ρ t)) _ (step _ rfl) hK (hK' (ρ t))

theorem wpIn_loopN {F : Fence} {n : Nat} {P : Program} {Q : Exit → Act → World → Prop} {c : Code} (I : Nat → Act → World → Prop) {a : Act} {w : World} {k0 : Nat} (h₀ : I k0 a w)
    (round : ∀ k a w, I k a w → c.wpIn F n P (Exit.then (fun a' w' => ∃ k', k' < k ∧ I k' a' w') Q) a w) : (Code.loop c).wpIn F n P Q a w := by
  intro b k cs hro hb hr
  have key : ∀ j a w, I j a w →
      ∃ e a' w', Q e a' w' ∧ ArrivesIn (Machine.fenced P F) P (lone (b.atR a (.code c :: .inLoop c :: k)) cs w) b k cs e a' w' := by
    intro j
    induction j using Nat.strongRecOn with
    | _ j ih =>
      intro a w hI
      obtain ⟨e, a₁, w₁, hq, harr⟩ := round j a w hI b (.inLoop c :: k) cs hro hb hr
      cases e with
      | normal =>
        obtain ⟨k', hlt, hI₁⟩ := hq
        obtain ⟨e₂, a₂, w₂, hq₂, harr₂⟩ := ih k' hlt a₁ w₁ hI₁
        exact ⟨e₂, a₂, w₂, hq₂, .of_steps (StepsIn.trans harr (.one (fenced_calm hb hr rfl) stepR_inLoop)) harr₂⟩
      | exit id => exact ⟨_, a₁, w₁, hq, .pass (x := .inLoop c) rfl (fun _ _ => .inl (by simp)) harr⟩
      | goto l => exact ⟨_, a₁, w₁, hq, .pass (x := .inLoop c) rfl (fun _ _ => .inl (by simp)) harr⟩
      | ret => exact ⟨_, a₁, w₁, hq, .pass (x := .inLoop c) rfl (fun _ _ => .inl (by simp)) harr⟩
      | panic ch => exact ⟨_, a₁, w₁, hq, .pass (x := .inLoop c) rfl (fun _ _ => .inl (by simp)) harr⟩
      | outgrown => exact ⟨_, a₁, w₁, hq, .pass (x := .inLoop c) rfl (fun _ _ => .inl (by simp)) harr⟩
  obtain ⟨e, a', w', hq, harr⟩ := key _ a w h₀
  exact ⟨e, a', w', hq, .of_steps (.one (fenced_calm hb hr rfl) stepR_loop) harr⟩

theorem stepR_scope' {P : Program} {b : Frame} {a : Act} {k : List Item} {cs : List Frame} {w : World} {c : Code} :
    step P (lone (b.atR a (.code (.scope c) :: k)) cs w) = .next (lone (b.atR a (.code c :: .inScope c :: k)) cs w) :=
  step_lone_go (by simp [stepG, stepG.exec, Frame.atR])
theorem stepR_inScope' {P : Program} {b : Frame} {a : Act} {k : List Item} {cs : List Frame} {w : World} {c : Code} :
    step P (lone (b.atR a (.inScope c :: k)) cs w) = .next (lone (b.atR a k) cs w) :=
  step_lone_go (by simp [stepG, stepG.exec, Frame.atR])

theorem wpIn_scope {F : Fence} {n : Nat} {P : Program} {Q : Exit → Act → World → Prop} {c : Code} {a : Act} {w : World} (hg : ∀ l a w, ¬ Q (.goto l) a w) (h : c.wpIn F n P Q a w) :
    (Code.scope c).wpIn F n P Q a w := by
  intro b k cs hro hb hr
  have h0 : (lone (b.atR a (.code (.scope c) :: k)) cs w).fenced P F := fenced_calm hb hr rfl
  obtain ⟨e, a₁, w₁, hq, harr⟩ := h b (.inScope c :: k) cs hro hb hr
  cases e with
  | normal => exact ⟨.normal, a₁, w₁, hq, .head h0 stepR_scope' (StepsIn.trans harr (.one (fenced_calm hb hr rfl) stepR_inScope'))⟩
  | exit id =>
    have hx : exitTo id (.inScope c :: k) = exitTo id k := by simp [exitTo]
    exact ⟨_, a₁, w₁, hq, fun k' hk => .head h0 stepR_scope' (harr.1 k' (by rw [hx]; exact hk)),
      fun hr' hk => let ⟨k₁, h1, h2⟩ := harr.2 hr' (by rw [hx]; exact hk); ⟨k₁, h1, .head h0 stepR_scope' h2⟩⟩
  | goto l => exact absurd hq (hg _ _ _)
  | ret => exact ⟨_, a₁, w₁, hq, .of_steps (.one h0 stepR_scope') harr⟩
  | panic ch => exact ⟨_, a₁, w₁, hq, .of_steps (.one h0 stepR_scope') harr⟩
  | outgrown => exact ⟨_, a₁, w₁, hq, .of_steps (.one h0 stepR_scope') harr⟩

/-- A VC's exits, over the real states. -/
def lift (n : Nat) (D : List Deferred) (Fx : Nat → Option Value) (Q : Exit → Fr → World → Prop) : Exit → Act → World → Prop
  | .panic _, _, _ => False
  | .outgrown, _, _ => False
  | .goto _, _, _ => False
  | e, a, w => Real n D Fx (Q e) a w

theorem lift_of {n : Nat} {D : List Deferred} {Fx : Nat → Option Value} {Q : Exit → Fr → World → Prop} {e : Exit} {a : Act} {w : World} (he : e = .normal ∨ e = .ret ∨ ∃ id, e = .exit id)
    (h : Real n D Fx (Q e) a w) : lift n D Fx Q e a w := by
  rcases he with rfl | rfl | ⟨id, rfl⟩ <;> exact h

theorem fixF_get {ρ j : Fr} : ∀ {fx : List Nat} {t : Nat}, fixF fx ρ j t = if t ∈ fx then ρ t else j t
  | [], t => by simp [fixF]
  | u :: fx, t => by
    change upd (fixF fx ρ j) u (ρ u) t = _
    by_cases h : t = u
    · subst h; rw [upd_same]; simp
    · rw [upd_ne _ _ h, fixF_get]; simp [h]

theorem dis_spec {fx as : List Nat} (h : dis fx as = true) {t : Nat} (ht : t ∈ fx) : t ∉ as := by
  intro hm
  have := List.all_eq_true.1 (List.all_eq_true.1 h t ht) t hm
  simp at this

theorem wpC_sound {P : Program} (hP : Plain P) (hM : P.follows .mixedOrders = true) {n : Nat} {ann : Nat → Ann} {rd : Option Nat} {m : Nat} {D : List Deferred} :
    ∀ (c : Code) (k : Nat) (Fx : Nat → Option Value) (Q : Exit → Fr → World → Prop) (a : Act) (w : World), (∀ t ∈ asg c, Fx t = none) →
      Real n D Fx (wpC P n ann c k Q) a w → c.wpIn (fence rd) m P (lift n D Fx Q) a w := by
  intro c
  induction c with
  | skip => intro k Fx Q a w hx h; exact wpIn_skip h
  | region id ops draw =>
    intro k Fx Q a w hx h
    refine vcRegion_sound (D := D) (Fx := Fx) (K := Q .normal) hP hM (fun c a w h => h) (fun a w h => h) (fun j o ho t ht => hx t ?_) h
    simp only [asg, List.mem_filterMap]
    exact ⟨o, by rw [Array.mem_toList_iff]; exact Array.mem_of_getElem? ho, ht⟩
  | seq x y ihx ihy =>
    intro k Fx Q a w hx h
    have hxx : ∀ t ∈ asg x, Fx t = none := fun t ht => hx t (by simp [asg, ht])
    have hxy : ∀ t ∈ asg y, Fx t = none := fun t ht => hx t (by simp [asg, ht])
    refine wpIn_seq (wpIn_mono (ihx k Fx _ a w hxx h) fun e a' w' hq => ?_)
    cases e with
    | normal => exact ihy _ Fx Q a' w' hxy hq
    | exit id => exact hq
    | ret => exact hq
    | goto l => exact hq
    | panic c => exact hq
    | outgrown => exact hq
  | cond c x y ihx ihy =>
    intro k Fx Q a w hx h
    have hxx : ∀ t ∈ asg x, Fx t = none := fun t ht => hx t (by simp [asg, ht])
    have hxy : ∀ t ∈ asg y, Fx t = none := fun t ht => hx t (by simp [asg, ht])
    obtain ⟨ρ, hr, hd, hF, h⟩ := h
    change (match ev n ρ c with
      | .bool b => match (generalizing := false) c with
        | .tmp t => bsel b (wpC P n ann x k Q (upd ρ t (.bool true)) w) (wpC P n ann y (k + wpC.nl x) Q (upd ρ t (.bool false)) w)
        | _ => bsel b (wpC P n ann x k Q ρ w) (wpC P n ann y (k + wpC.nl x) Q ρ w)
      | _ => False) at h
    split at h
    · rename_i b hb
      have hev : a.eval c = .bool b := by rw [hr.eval, hb]
      split at h
      · rename_i t
        have hpos : ∀ v, ev n ρ (.tmp t) = .bool v → Rep n a (upd ρ t (.bool v)) := by
          intro v hv
          simp only [ev] at hv
          split at hv
          · exact hr.set t _ hv
          · simp [undef] at hv
        cases b
        · exact wpIn_cond_false hev (ihy _ Fx Q a w hxy ⟨_, hpos _ hb, hd, hF, h⟩)
        · exact wpIn_cond_true hev (ihx _ Fx Q a w hxx ⟨_, hpos _ hb, hd, hF, h⟩)
      · cases b
        · exact wpIn_cond_false hev (ihy _ Fx Q a w hxy ⟨_, hr, hd, hF, h⟩)
        · exact wpIn_cond_true hev (ihx _ Fx Q a w hxx ⟨_, hr, hd, hF, h⟩)
    · exact h.elim
  | block id c ih =>
    intro k Fx Q a w hx h
    refine wpIn_block (wpIn_mono (ih k Fx _ a w hx h) fun e a' w' hq => ?_)
    cases e with
    | normal => exact hq
    | exit id' =>
      obtain ⟨ρ, hr, hd, hF, hq⟩ := hq
      simp only at hq
      simp only [Exit.inBlock]
      split at hq
      · rename_i hb
        rw [if_pos (Nat.eq_of_beq_eq_true hb)]
        exact ⟨ρ, hr, hd, hF, hq⟩
      · rename_i hb
        rw [if_neg (Nat.ne_of_beq_eq_false hb)]
        exact ⟨ρ, hr, hd, hF, hq⟩
    | ret => exact hq
    | goto l => exact hq
    | panic c => exact hq
    | outgrown => exact hq
  | loop b ih =>
    intro k Fx Q a w hx h
    obtain ⟨ρ, hr, hd, hF, h⟩ := h
    change loopV (ann k) (asg b) (wpC P n ann b (k + 1)) Q ρ w at h
    unfold loopV at h
    split at h
    · exact h.elim
    · rename_i hdis
      obtain ⟨I, μ, h0, hall⟩ := h
      generalize han : ann k = an at *
      let Fx2 : Nat → Option Value := fun t => if t ∈ an.fx ∧ t < n then some (ρ t) else Fx t
      have hFx2 : ∀ t ∈ asg b, Fx2 t = none := by
        intro t ht
        have : t ∉ an.fx := fun hm => dis_spec hdis hm ht
        simp only [Fx2, this, false_and, if_false]
        exact hx t ht
      have hF2 : ∀ t v, Fx2 t = some v → a.tmps[t]? = some v := by
        intro t v hv
        simp only [Fx2] at hv
        split at hv
        · rename_i hc
          cases hv
          exact hr.get t hc.2
        · exact hF t v hv
      obtain ⟨ρ1, i, m1, hr1, hi, hB⟩ := unT_allT hr an.st I μ (fixF an.fx ρ ρ) (fun t ht _ => by rw [fixF_get]; split <;> rfl) h0 (hall ρ)
      refine wpIn_loopN (fun k0 a w => ∃ (ρ1 : Fr) (i : World → Prop) (μ1 : World → Nat), Rep n a ρ1 ∧ a.defers = D ∧ (∀ t v, Fx2 t = some v → a.tmps[t]? = some v) ∧ i w ∧ μ1 w = k0 ∧
          ∀ w, i w → wpC P n ann b (k + 1) (fun e ρ' w' => match e with
            | .normal => unT ρ' an.st I μ fun i' m' => i' w' ∧ m' w' < μ1 w
            | e => Q e ρ' w') ρ1 w) (k0 := m1 w) ⟨ρ1, i, m1, hr1, hd, hF2, hi, rfl, hB⟩ ?round
      case round =>
        rintro k0 a1 w1 ⟨ρ1, i, m1, hr1, hd1, hF1, hi, rfl, hB⟩
        refine wpIn_mono (ih (k + 1) Fx2 _ a1 w1 hFx2 ⟨ρ1, hr1, hd1, hF1, hB w1 hi⟩) fun e a' w' hq => ?_
        have weak : ∀ {K : Fr → World → Prop}, Real n D Fx2 K a' w' → Real n D Fx K a' w' := by
          rintro K ⟨ρ', hr', hd', hF', hK⟩
          refine ⟨ρ', hr', hd', fun t v hv => ?_, hK⟩
          by_cases hc : t ∈ an.fx ∧ t < n
          · have e1 := hF' t (ρ t) (by simp only [Fx2, if_pos hc])
            have e2 := hF t v hv
            rw [hr.get t hc.2] at e2
            rw [e1]; exact e2
          · exact hF' t v (by simp only [Fx2, if_neg hc]; exact hv)
        cases e with
        | normal =>
          obtain ⟨ρ', hr', hd', hF', hq⟩ := hq
          obtain ⟨ρ2, i2, m2, hr2, ⟨hi2, hlt⟩, hB2⟩ := unT_allT hr' an.st I μ (fixF an.fx ρ ρ') (fun t ht _ => by
            rw [fixF_get]
            split
            · rename_i hm
              have e1 := hF' t (ρ t) (by simp only [Fx2, if_pos (And.intro hm ht)])
              rw [hr'.get t ht] at e1
              injection e1 with e1
              exact e1.symm
            · rfl) hq (hall ρ')
          exact ⟨m2 w', hlt, ρ2, i2, m2, hr2, hd', hF', hi2, rfl, hB2⟩
        | exit id => exact weak hq
        | ret => exact weak hq
        | goto l => exact hq
        | panic c => exact hq
        | outgrown => exact hq
  | rangeFunc f ps as body iha ihb =>
    intro k Fx Q a w hx h
    obtain ⟨ρ, hr, hd, hF, h⟩ := h
    exact h.elim
  | exit id => intro k Fx Q a w hx h; exact wpIn_exit h
  | scope c ih =>
    intro k Fx Q a w hx h
    exact wpIn_scope (fun l a w h => h) (ih k Fx Q a w hx h)
  | label l => intro k Fx Q a w hx h; exact wpIn_label h
  | goto l =>
    intro k Fx Q a w hx h
    obtain ⟨ρ, hr, hd, hF, h⟩ := h
    exact h.elim
  | ret => intro k Fx Q a w hx h; exact wpIn_ret h
  | refuse why =>
    intro k Fx Q a w hx h
    obtain ⟨ρ, hr, hd, hF, h⟩ := h
    exact h.elim

end Go.Fw
