/- Part of a proof over the given program: a text of lemmas (conditions: none beyond each lemma as stated). -/
import Derived.Test.YtlnpfkmbielifaaGreatDoorFwD
set_option linter.unnecessarySimpa false
set_option linter.unusedVariables false
set_option linter.unusedSimpArgs false
set_option autoImplicit false
namespace Go.Fw

noncomputable def vcOp (P : Program) (n : Nat) (ρ : Fr) (o : Oper) (w : World) (K : Value → World → Prop) : Prop := match isPure P o.op with
  | true => vcPure P n ρ o fun v => K v w
  | false => vcEff P n ρ o w K

def guardV (n : Nat) (ops : Array Oper) (o : Oper) (ρ : Fr) (yes no : Fr → Prop) : Prop := match o.guard with
  | none => yes ρ
  | some (j, want) => match ops[j]? with
    | none => no ρ
    | some oj => match oj.dst with
      | none => no ρ
      | some d => match Nat.blt d n with
        | false => no ρ
        | true => match ρ d with
          | .bool b => match want with
            | true => bsel b (yes (upd ρ d (.bool true))) (no (upd ρ d (.bool false)))
            | false => bsel b (no (upd ρ d (.bool true))) (yes (upd ρ d (.bool false)))
          | _ => no ρ

section
variable {P : Program} {n : Nat} {ρ : Fr} {o : Oper}

theorem isPure_noDefer {x : Op} (h : isPure P x = true) (c : Call) : x ≠ .defer c := by rintro rfl; simp [isPure] at h
theorem vcEff_noDefer {w : World} {K : Value → World → Prop} (h : vcEff P n ρ o w K) (c : Call) : o.op ≠ .defer c := by
  intro hc; simp only [vcEff, hc] at h

theorem vcOp_upon (hP : Plain P) {w : World} {K : Value → World → Prop} (h : vcOp P n ρ o w K) : Upon P o (ev n ρ) w K ∧ ∀ c, o.op ≠ .defer c := by
  unfold vcOp at h
  split at h
  · rename_i hp
    obtain ⟨v, hg, hK⟩ := vcPure_gives hp h
    exact ⟨.inl ⟨v, w, hg w, hK⟩, isPure_noDefer hp⟩
  · exact ⟨vcEff_upon hP h, vcEff_noDefer h⟩

theorem yielded_bool {ops : Array Oper} {a : Act} {j : Nat} {oj : Oper} {d : Nat} {v : Value} (hj : ops[j]? = some oj) (hd : oj.dst = some d) (hv : a.tmps[d]? = some v) :
    yielded ops a.tmps j = match v with | .bool b => some b | _ => none := by
  unfold yielded
  simp only [hj, Option.bind_some, hd, hv]
  cases v <;> rfl

theorem guardV_of {ops : Array Oper} {a : Act} {yes no : Fr → Prop} (hr : Rep n a ρ) (h : guardV n ops o ρ yes no) :
    (Region.wanted o (yielded ops a.tmps) = true ∧ ∃ ρ', Rep n a ρ' ∧ yes ρ') ∨ (Region.wanted o (yielded ops a.tmps) = false ∧ ∃ ρ', Rep n a ρ' ∧ no ρ') := by
  unfold guardV at h
  unfold Region.wanted
  split at h
  · rename_i hg; exact .inl ⟨by simp [hg], ρ, hr, h⟩
  · rename_i j want hg
    simp only [hg]
    split at h
    · rename_i hj
      exact .inr ⟨by simp [yielded, hj], ρ, hr, h⟩
    · rename_i oj hj
      split at h
      · rename_i hd
        exact .inr ⟨by simp [yielded, hj, hd], ρ, hr, h⟩
      · rename_i d hd
        split at h
        · rename_i hlt
          have hge : n ≤ d := by
            rcases Nat.lt_or_ge d n with h' | h'
            · rw [show Nat.blt d n = true from by simpa [Nat.blt_eq] using h'] at hlt; cases hlt
            · exact h'
          have hno : a.tmps[d]? = none := by simp [hr.size, hge]
          exact .inr ⟨by simp [yielded, hj, hd, hno], ρ, hr, h⟩
        · rename_i hlt
          have hlt : d < n := by simpa [Nat.blt_eq] using hlt
          have hget := hr.get d hlt
          split at h
          · rename_i b hb
            rw [hb] at hget
            rw [yielded_bool hj hd hget]
            split at h <;> cases b
            · exact .inr ⟨rfl, _, hr.set d _ hb, h⟩
            · exact .inl ⟨rfl, _, hr.set d _ hb, h⟩
            · exact .inl ⟨rfl, _, hr.set d _ hb, h⟩
            · exact .inr ⟨rfl, _, hr.set d _ hb, h⟩
          · rename_i hnb
            rw [yielded_bool hj hd hget]
            refine .inr ⟨?_, ρ, hr, h⟩
            generalize ρ d = v at *
            cases v <;> first | rfl | exact absurd rfl (hnb _)

end

/-- A region in the order of its text. -/
noncomputable def vcList (P : Program) (n : Nat) (ops : Array Oper) (l : List Oper) (K : Fr → World → Prop) : Fr → World → Prop :=
  List.rec (motive := fun _ => Fr → World → Prop) K
    (fun o _ ih ρ w => guardV n ops o ρ (fun ρ => vcOp P n ρ o w fun v w' => ih (updO ρ o.dst v) w') (fun ρ => ih (updO ρ o.dst undef) w)) l

/-- The real state behind a VC's frame. -/
def Real (n : Nat) (D : List Deferred) (Fx : Nat → Option Value) (K : Fr → World → Prop) (a : Act) (w : World) : Prop :=
  ∃ ρ, Rep n a ρ ∧ a.defers = D ∧ (∀ t v, Fx t = some v → a.tmps[t]? = some v) ∧ K ρ w

theorem fx_put {Fx : Nat → Option Value} {a : Act} (h : ∀ t v, Fx t = some v → a.tmps[t]? = some v) {d : Option Tmp} (hd : ∀ t, d = some t → Fx t = none) (u : Value) :
    ∀ t v, Fx t = some v → (a.put d u).tmps[t]? = some v := by
  intro t v hv
  cases d with
  | none => exact h t v hv
  | some d =>
    have hne : d ≠ t := fun hc => by
      have := hd d rfl
      rw [hc, hv] at this; cases this
    simp only [Act.put]
    rw [Array.getElem?_setIfInBounds_ne hne]
    exact h t v hv

theorem put_defers' (a : Act) (d : Option Tmp) (v : Value) : (a.put d v).defers = a.defers := by cases d <;> rfl

section
variable {P : Program} {n : Nat} {ops : Array Oper} {rd : Option Nat} {m : Nat} {Q : Exit → Act → World → Prop} {K : Fr → World → Prop} {D : List Deferred} {Fx : Nat → Option Value}

theorem vcList_sound (hP : Plain P) (hQ : ∀ a w, Real n D Fx K a w → Q .normal a w) : ∀ (l : List Oper) (k : Nat), (∀ j, l[j]? = ops[k + j]?) → (∀ o ∈ l, ∀ t, o.dst = some t → Fx t = none) → ∀ (a : Act) (w : World),
    Real n D Fx (vcList P n ops l K) a w → wpOpsIn (fence rd) m P ops Q (List.range' k l.length) a w
  | [], k, _, _, a, w, h => by
    obtain ⟨ρ, hr, hd, hF, h⟩ := h
    exact hQ a w ⟨ρ, hr, hd, hF, h⟩
  | o :: l, k, hl, hx, a, w, h => by
    obtain ⟨ρ, hr, hd, hF, h⟩ := h
    have hxo := hx o List.mem_cons_self
    change guardV n ops o ρ (fun ρ => vcOp P n ρ o w fun v w' => vcList P n ops l K (updO ρ o.dst v) w') (fun ρ => vcList P n ops l K (updO ρ o.dst undef) w) at h
    have h0 : ops[k]? = some o := by simpa using (hl 0).symm
    have hl' : ∀ j, l[j]? = ops[k + 1 + j]? := fun j => by have := hl (j + 1); simpa [Nat.add_assoc, Nat.add_comm 1 j] using this
    have ih := vcList_sound hP hQ l (k + 1) hl' (fun o ho => hx o (List.mem_cons_of_mem _ ho))
    simp only [List.length_cons, List.range'_succ, wpOpsIn, h0]
    rcases guardV_of hr h with ⟨hw, ρ', hr', h⟩ | ⟨hw, ρ', hr', h⟩
    · rw [if_pos hw]
      obtain ⟨hu, hnd⟩ := vcOp_upon hP h
      rw [← hr'.evalF] at hu
      exact Upon.wpIn hnd (hu.mono fun v w' hK => ih _ _ ⟨_, hr'.put _ _, by rw [put_defers']; exact hd, fx_put hF hxo _, hK⟩)
    · rw [if_neg (by simp [hw])]
      exact ⟨fun _ _ => trivial, ih _ _ ⟨_, hr'.put _ _, by rw [put_defers']; exact hd, fx_put hF hxo _, h⟩⟩
end
end Go.Fw
