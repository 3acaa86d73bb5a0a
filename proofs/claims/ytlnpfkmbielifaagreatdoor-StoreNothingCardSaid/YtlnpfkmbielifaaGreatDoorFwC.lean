/- Part of a proof over the given program: a text of lemmas (conditions: none beyond each lemma as stated). -/
import Derived.Test.YtlnpfkmbielifaaGreatDoorFwB
set_option linter.unnecessarySimpa false
set_option linter.unusedVariables false
set_option linter.unusedSimpArgs false
set_option autoImplicit false
namespace Go.Fw

section
variable {P : Program} {n : Nat} {ρ : Fr} {o : Oper} {K : Value → Prop}

theorem gives_of {s : Sem Value} {v : Value} (he : execOp (ev n ρ) o = (do pure (Next.value (← s)))) (h : ∀ w, s.run P w = .ok v w) : Gives P n ρ o v :=
  fun w => by rw [he]; exact run_v (h w)

theorem sliceBounds_run {isS : Bool} {len cap : Nat} {lo hi : Option Value} {l h : Int} {w : World}
    (hlo : (lo = none ∧ l = 0) ∨ ∃ k, lo = some (.int k l)) (hhi : (hi = none ∧ h = len) ∨ ∃ k, hi = some (.int k h)) (hb : 0 ≤ l ∧ l ≤ h ∧ h ≤ cap) :
    (Instr.sliceBounds isS len cap lo hi none).run P w = .ok (l.toNat, h.toNat, cap) w := by
  obtain ⟨h0, h1, h2⟩ := hb
  rcases hlo with ⟨rfl, rfl⟩ | ⟨k, rfl⟩ <;> rcases hhi with ⟨rfl, rfl⟩ | ⟨k', rfl⟩
  · simp [Instr.sliceBounds]
  · simp [Instr.sliceBounds, Instr.sliceBound, asIntOf, h1, h2, Result.andThen]
  · simp [Instr.sliceBounds, Instr.sliceBound, asIntOf, h0, h1, Result.andThen]
  · simp [Instr.sliceBounds, Instr.sliceBound, asIntOf, h0, h1, h2, Result.andThen, show (0:Int) ≤ h by omega, show l ≤ max h 0 by omega]

theorem optEv_of {x : Option Operand} {d : Int} {K : Int → Prop} (h : optEv n ρ x d K) : ∃ i, ((x.map (ev n ρ) = none ∧ i = d) ∨ ∃ k, x.map (ev n ρ) = some (.int k i)) ∧ K i := by
  cases x with
  | none => exact ⟨d, .inl ⟨rfl, rfl⟩, h⟩
  | some o =>
    simp only [optEv] at h
    split at h
    · rename_i k i hi; exact ⟨i, .inr ⟨k, by simp [hi]⟩, h⟩
    · exact h.elim

theorem szK_of {t : TypeId} {K : Nat → Prop} (h : szK P t K) : ∃ i, P.info? t = some i ∧ K i.size := by
  unfold szK at h
  split at h
  · exact ⟨_, by assumption, h⟩
  · exact h.elim

theorem mapM_run {w : World} : ∀ (l : List Field), l.all (fun f => (P.info? f.type).isSome) = true →
    (l.mapM (fun f => do pure (f.offset, ← sizeOf f.type) : Field → Sem (Nat × Nat))).run P w = .ok (l.map fun f => (f.offset, P.cellsOf f.type)) w
  | [], _ => rfl
  | f :: l, h => by
    simp only [List.all_cons, Bool.and_eq_true] at h
    obtain ⟨i, hi⟩ := Option.isSome_iff_exists.1 h.1
    rw [List.mapM_cons, Sem.run_bind, Sem.run_bind, run_sizeOf w hi]
    simp only [Result.andThen, Sem.run_pure]
    rw [Sem.run_bind, mapM_run l h.2]
    simp

theorem mapMA_run {w : World} (fs : Array Field) (h : fs.toList.all (fun f => (P.info? f.type).isSome) = true) :
    (fs.mapM (fun f => do pure (f.offset, ← sizeOf f.type) : Field → Sem (Nat × Nat))).run P w = .ok (fs.map fun f => (f.offset, P.cellsOf f.type)) w := by
  rw [Array.mapM_eq_mapM_toList]
  simp only [map_eq_pure_bind, Sem.run_bind]
  rw [mapM_run fs.toList h]
  simp only [Result.andThen, Sem.run_pure]
  congr 1
  apply Array.ext'
  simp

theorem divK_of {vx vy : Value} {K : IntKind → Int → Int → Prop} (h : divK vx vy K) : ∃ k a b, vx = .int k a ∧ vy = .int k b ∧ b ≠ 0 ∧ K k a b := by
  unfold divK at h
  split at h
  · split at h
    · split at h
      · rename_i hk
        have hk := of_decide_eq_true hk
        subst hk
        exact ⟨_, _, _, rfl, rfl, h⟩
      · exact h.elim
    · exact h.elim
  · exact h.elim
theorem shK_of {vx vy : Value} {K : IntKind → Int → Int → Prop} (h : shK vx vy K) : ∃ k a k' b, vx = .int k a ∧ vy = .int k' b ∧ 0 ≤ b ∧ K k a b := by
  unfold shK at h
  split at h
  · split at h
    · exact ⟨_, _, _, _, rfl, rfl, h⟩
    · exact h.elim
  · exact h.elim
theorem catK_of {vx vy : Value} {K : ByteArray → Prop} (h : catK vx vy K) : ∃ a b, vx = .string a ∧ vy = .string b ∧ ((a.size + b.size : Nat) : Int) ≤ 9223372036854775807 ∧ K (a ++ b) := by
  unfold catK at h
  split at h
  · split at h
    · exact ⟨_, _, rfl, rfl, h⟩
    · exact h.elim
  · exact h.elim

theorem vcPure_gives (hp : isPure P o.op = true) (h : vcPure P n ρ o K) : ∃ v, Gives P n ρ o v ∧ K v := by
  cases ho : o.op <;> simp only [ho, isPure, Bool.false_eq_true] at hp <;> simp only [vcPure, ho] at h
  case move x => exact ⟨_, fun w => by simp [execOp, ho], h⟩
  case assign x => exact ⟨_, fun w => by simp [execOp, ho], h⟩
  case pick c a b =>
    split at h
    · rename_i x hx
      cases x
      · exact ⟨_, gives_of (s := pure (ev n ρ b)) (by simp [execOp, ho, hx, asBool]) (fun w => rfl), h⟩
      · exact ⟨_, gives_of (s := pure (ev n ρ a)) (by simp [execOp, ho, hx, asBool]) (fun w => rfl), h⟩
    · exact h.elim
  case nilCheck x =>
    unfold nilV at h
    split at h
    · rename_i p hx
      obtain ⟨a, rfl, h⟩ := nilK_of h
      exact ⟨_, fun w => by simp [execOp, ho, hx], h⟩
    · rename_i hx; exact ⟨_, fun w => by simp [execOp, ho, hx], h⟩
    · rename_i hx; exact ⟨_, fun w => by simp [execOp, ho, hx], h⟩
    · exact h.elim
  case binOp op t x y yt =>
    split at h
    · obtain ⟨v, hv, hK⟩ := eqK_gives (.inl rfl) h
      exact ⟨v, gives_of (by simp only [execOp, ho]; rfl) hv, hK⟩
    · obtain ⟨v, hv, hK⟩ := eqK_gives (.inr rfl) h
      exact ⟨v, gives_of (by simp only [execOp, ho]; rfl) hv, hK⟩
    · obtain ⟨k, a, b, hx, hy, hb, hK⟩ := divK_of h
      exact ⟨_, gives_of (by simp only [execOp, ho]; rfl) (fun w => by simp [eqGuard, hx, hy, binOp, Op.intDiv, hb]), hK⟩
    · obtain ⟨k, a, b, hx, hy, hb, hK⟩ := divK_of h
      exact ⟨_, gives_of (by simp only [execOp, ho]; rfl) (fun w => by simp [eqGuard, hx, hy, binOp, Op.intDiv, hb]), hK⟩
    · obtain ⟨k, a, k', b, hx, hy, hb, hK⟩ := shK_of h
      exact ⟨_, gives_of (by simp only [execOp, ho]; rfl) (fun w => by simp [eqGuard, hx, hy, binOp, Op.shift, show ¬ b < 0 by omega]), hK⟩
    · obtain ⟨k, a, k', b, hx, hy, hb, hK⟩ := shK_of h
      exact ⟨_, gives_of (by simp only [execOp, ho]; rfl) (fun w => by simp [eqGuard, hx, hy, binOp, Op.shift, show ¬ b < 0 by omega]), hK⟩
    · split at h
      · obtain ⟨a, b, hx, hy, hb, hK⟩ := catK_of h
        have hb' : ¬ ((a.size + b.size : Nat) : Int) > IntKind.i64.max := by
          have : IntKind.i64.max = 9223372036854775807 := by decide
          omega
        exact ⟨_, gives_of (by simp only [execOp, ho]; rfl) (fun w => by simp only [eqGuard, hx, hy, binOp, Op.stringOp, if_neg hb']; simp), hK⟩
      · exact pvK_gives h
    · exact pvK_gives h
  case unOp => exact pvK_gives h
  case convert => exact pvK_gives h
  case makeInterface => exact pvK_gives h
  case makeFunc => exact pvK_gives h
  case fieldAddr => exact pvK_gives h
  case field => exact pvK_gives h
  case extract => exact pvK_gives h
  case typeAssert =>
    obtain ⟨v, hv, hK⟩ := opP_gives h
    exact ⟨v, gives_of (by simp only [execOp, ho]) hv, hK⟩
  case indexAddr t x i =>
    split at h
    · rename_i e hu
      split at h
      · rename_i base len cap hx
        split at h
        · rename_i k i' hi
          obtain ⟨ie, hie, a, rfl, hb, hK⟩ := szK_of h
          refine ⟨_, gives_of (by simp only [execOp, ho]; rfl) (fun w => ?_), hK⟩
          simp [Instr.indexAt, hx, hi, asIntOf, run_underlying hu, hb, sizeOf, run_typeInfo w hie]
        · exact h.elim
      · exact h.elim
    · rename_i len e hu
      split at h
      · rename_i a hx
        split at h
        · rename_i k i' hi
          obtain ⟨ie, hie, hb, hK⟩ := szK_of h
          refine ⟨_, gives_of (by simp only [execOp, ho]; rfl) (fun w => ?_), hK⟩
          simp [Instr.indexAt, hx, hi, asIntOf, run_underlying hu, hb, sizeOf, run_typeInfo w hie, Instr.sureAddr]
        · exact h.elim
      · exact h.elim
    · exact h.elim
  case index t x i =>
    split at h
    · rename_i hu
      split at h
      · rename_i s hx
        split at h
        · rename_i k i' hi
          obtain ⟨b, ⟨h0, hb⟩, hK⟩ := h
          refine ⟨_, gives_of (by simp only [execOp, ho]; rfl) (fun w => ?_), hK⟩
          simp [Instr.index, hx, hi, asIntOf, run_underlying hu, h0, hb]
        · exact h.elim
      · exact h.elim
    · exact pvK_gives h
  case slice t x lo hi mx =>
    split at h
    · rename_i e hu
      split at h
      · rename_i a len cap hx
        split at h
        · obtain ⟨l, hl, h⟩ := optEv_of h
          obtain ⟨r, hr, h⟩ := optEv_of h
          obtain ⟨ie, hie, hb, hK⟩ := szK_of h
          refine ⟨_, gives_of (by simp only [execOp, ho]; rfl) (fun w => ?_), hK⟩
          have hsb := sliceBounds_run (P := P) (isS := true) (len := len) (cap := cap) (w := w) hl hr hb
          obtain ⟨h0, h1, h2⟩ := hb
          have e1 : (cap = l.toNat) = ((cap : Int) = l) := propext ⟨fun h => by omega, fun h => by omega⟩
          simp [Instr.sliceAt, Instr.slice, hx, run_underlying hu, hsb, sizeOf, run_typeInfo w hie, e1]
        · obtain ⟨v, hv, hK⟩ := opP_gives h
          exact ⟨v, gives_of (by simp only [execOp, ho]) hv, hK⟩
      · exact h.elim
    · rename_i hu
      split at h
      · rename_i s hx
        split at h
        · obtain ⟨l, hl, h⟩ := optEv_of h
          obtain ⟨r, hr, h⟩ := optEv_of h
          obtain ⟨hb, hK⟩ := h
          refine ⟨_, gives_of (by simp only [execOp, ho]; rfl) (fun w => ?_), hK⟩
          have hsb := sliceBounds_run (P := P) (isS := false) (len := s.size) (cap := s.size) (w := w) hl hr hb
          simp [Instr.sliceAt, Instr.slice, hx, run_underlying hu, hsb]
        · exact h.elim
      · exact h.elim
    · obtain ⟨v, hv, hK⟩ := opP_gives h
      exact ⟨v, gives_of (by simp only [execOp, ho]) hv, hK⟩
  case build t parts =>
    unfold buildK at h
    split at h
    · rename_i i hi
      split at h
      · rename_i z hz
        split at h
        · rename_i fs hu
          split at h
          · exact h.elim
          · rename_i hall
            obtain ⟨cs, hf, hK⟩ := fill_of P (fun j => (fs.map fun f => (f.offset, P.cellsOf f.type))[j]?) _ (fun j => by
              rw [Array.getElem?_map]
              cases fs[j]? <;> rfl) _ _ _ h
            refine ⟨_, gives_of (by simp only [execOp, ho]; rfl) (fun w => ?_), hK⟩
            have hp : (parts.map fun p => (p.1, ev n ρ p.2)).toList = parts.toList.map fun p => (p.1, ev n ρ p.2) := by simp
            simp only [Instr.build, zeroValue, Sem.run_bind, run_typeInfo w hi, Result.andThen, hz, Sem.run_pure, run_underlying hu, mapMA_run fs hall, hp]
            simp only [Array.toArray_toList] at hf
            rw [hf]
            rfl
        · rename_i len e hu
          obtain ⟨ie, hie, h⟩ := szK_of h
          obtain ⟨cs, hf, hK⟩ := fill_of P (fun j => some (j * ie.size, ie.size)) _ (fun j => rfl) _ _ _ h
          refine ⟨_, gives_of (by simp only [execOp, ho]; rfl) (fun w => ?_), hK⟩
          have hp : (parts.map fun p => (p.1, ev n ρ p.2)).toList = parts.toList.map fun p => (p.1, ev n ρ p.2) := by simp
          simp only [Instr.build, zeroValue, Sem.run_bind, run_typeInfo w hi, Result.andThen, hz, Sem.run_pure, run_underlying hu, sizeOf, run_typeInfo w hie, hp]
          simp only [Array.toArray_toList] at hf
          rw [hf]
          rfl
        · exact h.elim
      · exact h.elim
    · exact h.elim
  case call c =>
    split at h
    · rename_i hc
      split at h
      · rename_i t ts hat
        split at h
        · rename_i x xs hxs
          have hat' : c.argTypes[0]? = some t := by rw [← Array.getElem?_toList, hat]; rfl
          have hx' : (c.args.map (ev n ρ))[0]? = some (ev n ρ x) := by rw [Array.getElem?_map, ← Array.getElem?_toList, hxs]; rfl
          unfold lenK at h
          split at h
          · rename_i hu
            split at h
            · rename_i s hs
              exact ⟨_, fun w => by simp [execOp, ho, resolve, hc, invoke, builtin, Builtin.len_, hat', hx', hs, run_underlying hu, goInt], h⟩
            · exact h.elim
          · rename_i e hu
            split at h
            · rename_i s hs
              exact ⟨_, fun w => by simp [execOp, ho, resolve, hc, invoke, builtin, Builtin.len_, hat', hx', hs, run_underlying hu, goInt], h⟩
            · exact h.elim
          · exact h.elim
        · exact h.elim
      · exact h.elim
    · rename_i hc
      split at h
      · rename_i t ts hat
        split at h
        · rename_i x xs hxs
          have hat' : c.argTypes[0]? = some t := by rw [← Array.getElem?_toList, hat]; rfl
          have hx' : (c.args.map (ev n ρ))[0]? = some (ev n ρ x) := by rw [Array.getElem?_map, ← Array.getElem?_toList, hxs]; rfl
          unfold capK at h
          split at h
          · rename_i e hu
            split at h
            · rename_i s hs
              exact ⟨_, fun w => by simp [execOp, ho, resolve, hc, invoke, builtin, Builtin.cap_, hat', hx', hs, run_underlying hu, goInt], h⟩
            · exact h.elim
          · exact h.elim
        · exact h.elim
      · exact h.elim
    · exact h.elim
end
end Go.Fw
