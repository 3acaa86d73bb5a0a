/- Part of a proof over the given program: a text of lemmas (conditions: none beyond each lemma as stated). -/
import Derived.Test.YtlnpfkmbielifaaGreatDoorFwE
set_option linter.unnecessarySimpa false
set_option linter.unusedVariables false
set_option linter.unusedSimpArgs false
set_option autoImplicit false
namespace Go.Fw

/-! Regions that draw their order. -/
def bfMask (o : Oper) (acc : List Nat) : Nat := o.after.toList.foldl (fun s e => match Region.binds .any e with | true => s ||| 2 ^ e.on ||| acc.getD e.on 0 | false => s) 0
noncomputable def bfs (l : List Oper) : List Nat → List Nat :=
  List.rec (motive := fun _ => List Nat → List Nat) (fun acc => acc) (fun o _ ih acc => ih (acc ++ [bfMask o acc])) l
noncomputable def bfOf (ops : Array Oper) : List Nat := bfs ops.toList []

def Yields1 (P : Program) (ops : Array Oper) (φ : World → Prop) (o : Oper) (v : Value) (a : Act) : Prop :=
  (Region.wanted o (yielded ops a.tmps) = true ∧ (∀ c, o.op ≠ .defer c) ∧ ∀ w, φ w → (execOp a.eval o).run P w = .ok (.value v) w) ∨
  (Region.wanted o (yielded ops a.tmps) = false ∧ v = undef)

abbrev Checks := List (Nat × (World → Prop))

section
variable (P : Program) (rd : Option Nat) (m : Nat) (ops : Array Oper) (bf : Nat → Nat) (Q : Exit → Act → World → Prop)

def wpAnyR : Nat → Checks → Array Bool → Act → World → Prop
  | 0, _, listed, a, w => Region.ready .any ops listed = [] ∧ Q .normal a w
  | fuel + 1, R, listed, a, w =>
    (Region.ready .any ops listed = [] → Q .normal a w) ∧
    ∀ i ∈ Region.ready .any ops listed, wpOpIn (fence rd) m P ops Q i (fun a' w' =>
      (∀ r ∈ R, (bf i).testBit r.1 = false → r.2 w') ∧ wpAnyR fuel (R.filter fun r => !(bf i).testBit r.1) (listed.setIfInBounds i true) a' w') a w
end

section
variable {P : Program} {rd : Option Nat} {m : Nat} {ops : Array Oper} {bf : Nat → Nat} {Q : Exit → Act → World → Prop}

theorem wpAnyR_any : ∀ (fuel : Nat) (R : Checks) (listed : Array Bool) (a : Act) (w : World), wpAnyR P rd m ops bf Q fuel R listed a w → wpAnyIn (fence rd) m P .any ops Q fuel listed a w
  | 0, _, _, _, _, h => h
  | fuel + 1, _, _, _, _, h => ⟨h.1, fun i hi => wpOpIn_mono (fun a' w' h' => wpAnyR_any fuel _ _ a' w' h'.2) (h.2 i hi)⟩

theorem wpAnyR_sub : ∀ (fuel : Nat) (R R' : Checks) (listed : Array Bool) (a : Act) (w : World), (∀ r ∈ R', (∀ w, r.2 w) ∨ r ∈ R) → wpAnyR P rd m ops bf Q fuel R listed a w → wpAnyR P rd m ops bf Q fuel R' listed a w
  | 0, _, _, _, _, _, _, h => h
  | fuel + 1, R, R', listed, a, w, hs, h => ⟨h.1, fun i hi => wpOpIn_mono (fun a' w' h' => ⟨fun r hr hb => (hs r hr).elim (fun ht => ht w') fun hm => h'.1 r hm hb,
      wpAnyR_sub fuel _ _ _ _ _ (fun r hr => by
        rw [List.mem_filter] at hr
        exact (hs r hr.1).imp id fun hm => List.mem_filter.2 ⟨hm, hr.2⟩) h'.2⟩) (h.2 i hi)⟩

theorem Yields1.of_same {φ : World → Prop} {o : Oper} {v : Value} {a a' : Act} (hy : Yields1 P ops φ o v a) (he : execOp a'.eval o = execOp a.eval o)
    (hw : Region.wanted o (yielded ops a'.tmps) = Region.wanted o (yielded ops a.tmps)) : Yields1 P ops φ o v a' := by
  unfold Yields1 at *
  rw [he, hw]
  exact hy

theorem Yields1.wpOp {φ : World → Prop} {i : Nat} {o : Oper} {v : Value} {a : Act} (hi : ops[i]? = some o) (hy : Yields1 P ops φ o v a)
    {K : Act → World → Prop} {w : World} (hφ : φ w) (h : K (a.put o.dst v) w) : wpOpIn (fence rd) m P ops Q i K a w := by
  unfold Go.wpOpIn
  simp only [hi]
  rcases hy with ⟨hw, hnd, hv⟩ | ⟨hw, rfl⟩
  · rw [if_pos hw]
    refine ⟨fun _ _ => trivial, ?_⟩
    have hF : (fence rd).round = rd := rfl
    rw [hF, Oper.semAt_eq rd a.eval o hnd, hv w hφ]
    exact h
  · rw [if_neg (by simp [hw])]
    exact ⟨fun _ _ => trivial, h⟩

/-- Another operation, apart from the one that is taken. -/
theorem wpOp_putR {φ : World → Prop} {j : Nat} {oi oj : Oper} {v : Value} (hj : ops[j]? = some oj) (hap : oi.apart ops oj = true)
    (hsi : ∀ cs b, oi.op ≠ .select cs b) (hsj : ∀ cs b, oj.op ≠ .select cs b) (hdj : ∀ c, oj.op ≠ .defer c)
    (hQ : ∀ c a w, Q (.panic c) (a.put oi.dst v) w → Q (.panic c) a w) {K : Act → World → Prop} {a : Act} {w : World}
    (hy : Yields1 P ops φ oi v a) (h : wpOpIn (fence rd) m P ops Q j K (a.put oi.dst v) w) :
    wpOpIn (fence rd) m P ops Q j (fun a' w' => Yields1 P ops φ oi v a' ∧ K (a'.put oi.dst v) w') a w := by
  obtain ⟨h1, h2, h3⟩ := Oper.apart_spec hap
  have keep : ∀ (a : Act), Yields1 P ops φ oi v a → ∀ u, Yields1 P ops φ oi v (a.put oj.dst u) := fun a hy u =>
    hy.of_same (execOp_put oi hsi a oj.dst u h3) (wanted_put oi a oj.dst u h3)
  have keepD : ∀ d, Yields1 P ops φ oi v { a with defers := d :: a.defers } := fun d => hy.of_same rfl rfl
  unfold wpOpIn at *
  simp only [hj] at *
  rw [wanted_put oj a oi.dst v h1] at h
  split
  · rename_i hw
    rw [if_pos hw] at h
    refine ⟨fun _ _ => trivial, ?_⟩
    have h := h.2
    have hF : (fence rd).round = rd := rfl
    rw [hF, Oper.semAt_eq rd _ oj hdj] at h ⊢
    rw [execOp_put oj hsj a oi.dst v h1] at h
    generalize (execOp a.eval oj).run P w = r at *
    cases r with
    | ok x w' =>
      cases x <;> simp only [Oper.uponIn] at h ⊢
      case value u => exact ⟨keep a hy u, by rw [← Act.put_comm a v u h2]; exact h⟩
      case skip => exact ⟨keep a hy _, by rw [← Act.put_comm a v undef h2]; exact h⟩
      case defer d =>
        refine ⟨keep _ (keepD d) _, ?_⟩
        rw [← Act.put_comm _ v undef h2, ← Act.put_defers]
        exact h
      case enter f args =>
        refine ⟨h.1, CallsIn.mono h.2 fun e w'' he => ?_⟩
        cases e with
        | returned u => exact ⟨keep a hy u, by rw [← Act.put_comm a v u h2]; exact he⟩
        | panicked c => exact hQ _ _ _ he
        | outgrown => exact he
      case row row args => exact ⟨h.1, RowsIn.mono h.2 fun u w'' he => ⟨keep a hy u, by rw [← Act.put_comm a v u h2]; exact he⟩⟩
      case round l f tmps as body =>
        refine ⟨h.1, RoundIn.mono h.2 fun e w'' he => ?_⟩
        cases e with
        | returned u => exact ⟨keep a hy u, by rw [← Act.put_comm a v u h2]; exact he⟩
        | panicked c => exact hQ _ _ _ he
        | outgrown => exact he
    | halt x w' =>
      cases x <;> simp only [Oper.uponIn] at h ⊢
      case panic u => exact hQ _ _ _ h
  · rename_i hw
    rw [if_neg hw] at h
    exact ⟨fun _ _ => trivial, keep a hy _, by rw [← Act.put_comm a v undef h2]; exact h.2⟩

def Closed (bf : Nat → Nat) (listed : Array Bool) : Prop := ∀ j, listed.getD j false = true → ∀ k, (bf j).testBit k = true → listed.getD k false = true
def Before (ops : Array Oper) (bf : Nat → Nat) : Prop := ∀ j o, ops[j]? = some o → ∀ k, (bf j).testBit k = true → ∃ e ∈ o.after, Region.binds .any e = true ∧ (e.on = k ∨ (bf e.on).testBit k = true)

theorem ready_before {listed : Array Bool} (hB : Before ops bf) (hC : Closed bf listed) {j : Nat} (hj : j ∈ Region.ready .any ops listed) (k : Nat) (hk : (bf j).testBit k = true) :
    listed.getD k false = true := by
  obtain ⟨_, o, ho, hall⟩ := mem_ready.1 hj
  obtain ⟨e, he, hb, hor⟩ := hB j o ho k hk
  have h1 := hall e he hb
  rcases hor with rfl | h2
  · exact h1
  · exact hC _ h1 _ h2

theorem Closed.set {listed : Array Bool} (hB : Before ops bf) (hC : Closed bf listed) {i : Nat} (hi : i ∈ Region.ready .any ops listed) : Closed bf (listed.setIfInBounds i true) := by
  intro j hj k hk
  by_cases hji : j = i
  · subst hji
    exact getD_set_true (ready_before hB hC hi k hk)
  · rw [getD_set_ne false (Ne.symm hji)] at hj
    exact getD_set_true (hC j hj k hk)

theorem listed_false {listed : Array Bool} {i : Nat} (h : listed.getD i true = false) : listed.getD i false = false := by
  rcases Nat.lt_or_ge i listed.size with h' | h'
  · simp [h'] at h ⊢; exact h
  · simp [Array.getElem?_eq_none h'] at h

theorem wpAnyR_take {i : Nat} {oi : Oper} {v : Value} {φ : World → Prop} (hi : ops[i]? = some oi) (hB : Before ops bf)
    (hsel : ∀ (j : Nat) (o : Oper), ops[j]? = some o → (∀ cs b, o.op ≠ .select cs b) ∧ ∀ c, o.op ≠ .defer c)
    (hQ : ∀ c a w, Q (.panic c) (a.put oi.dst v) w → Q (.panic c) a w) :
    ∀ (fuel : Nat) (listed : Array Bool) (R : Checks) (a : Act) (w : World), Closed bf listed →
      (∀ j oj, ops[j]? = some oj → j ≠ i → listed.getD j true = false → (bf j).testBit i = true ∨ oi.apart ops oj = true) →
      i ∈ Region.ready .any ops listed → Yields1 P ops φ oi v a → φ w → (∀ r ∈ R, r.2 w) →
      wpAnyR P rd m ops bf Q fuel ((i, φ) :: R) (listed.setIfInBounds i true) (a.put oi.dst v) w → wpAnyR P rd m ops bf Q (fuel + 1) R listed a w := by
  intro fuel
  induction fuel with
  | zero =>
    intro listed R a w hC _ hr hy hφ hR H
    refine ⟨fun h => (by rw [h] at hr; cases hr), fun j hj => ?_⟩
    by_cases hji : j = i
    · subst hji; exact hy.wpOp hi hφ ⟨fun r hr _ => hR r hr, H⟩
    · have := ready_mono hj hji
      rw [H.1] at this
      cases this
  | succ fuel ih =>
    intro listed R a w hC hfree hr hy hφ hR H
    refine ⟨fun h => (by rw [h] at hr; cases hr), fun j hj => ?_⟩
    by_cases hji : j = i
    · subst hji
      refine hy.wpOp hi hφ ⟨fun r hr _ => hR r hr, wpAnyR_sub _ _ _ _ _ _ (fun r hr => .inr ?_) H⟩
      exact List.mem_cons_of_mem _ (List.mem_filter.1 hr).1
    · have h1 := H.2 j (ready_mono hj hji)
      obtain ⟨hjun, oj, hoj, hall⟩ := mem_ready.1 hj
      have hnot : (bf j).testBit i = false := by
        cases hb : (bf j).testBit i with
        | false => rfl
        | true =>
          have h2 := ready_before hB hC hj i hb
          rw [listed_false (mem_ready.1 hr).1] at h2
          cases h2
      have hap := (hfree j oj hoj hji hjun).resolve_left (by simp [hnot])
      have h2 := wpOp_putR hoj hap (hsel i oi hi).1 (hsel j oj hoj).1 (hsel j oj hoj).2 hQ hy h1
      have hfree' : ∀ k ok, ops[k]? = some ok → k ≠ i → (listed.setIfInBounds j true).getD k true = false → (bf k).testBit i = true ∨ oi.apart ops ok = true := fun k ok hk hki hun => by
        refine hfree k ok hk hki ?_
        by_cases hjk : j = k
        · subst hjk; exact hjun
        · rw [getD_set_ne true hjk] at hun; exact hun
      refine wpOpIn_mono (fun a' w' h3 => ?_) h2
      obtain ⟨hy', hck, hrest⟩ := h3
      have hφ' : φ w' := hck (i, φ) List.mem_cons_self hnot
      have hR' : ∀ r ∈ R, (bf j).testBit r.1 = false → r.2 w' := fun r hr hb => hck r (List.mem_cons_of_mem _ hr) hb
      refine ⟨hR', ih (listed.setIfInBounds j true) _ a' w' (hC.set hB hj) hfree' (ready_mono hr (Ne.symm hji)) hy' hφ' (fun r hr => ?_) ?_⟩
      · rw [List.mem_filter] at hr
        exact hR' r hr.1 (by simpa using hr.2)
      · rw [Array.setIfInBounds_comm _ _ hji]
        rw [List.filter_cons_of_pos (by simp [hnot])] at hrest
        exact hrest
end
end Go.Fw
