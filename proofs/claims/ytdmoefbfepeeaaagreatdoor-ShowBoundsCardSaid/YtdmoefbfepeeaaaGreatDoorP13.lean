/- Part of a proof over the given program: texts of lemmas (conditions: none beyond each lemma as stated). -/
import Derived.Test.YtdmoefbfepeeaaaGreatDoorP12
import Derived.Laws.Strings
set_option linter.unnecessarySimpa false
set_option linter.unusedVariables false
set_option linter.unusedSimpArgs false

set_option autoImplicit false
set_option linter.unusedVariables false
namespace Go.Fw
open Go.Proofs Go.RowKit

theorem nilA94 (x : TypeId) : ∀ w : World, (Instr.typeAssert .nilIface x 94 true).run Tryz.prog w = .ok (.tuple #[.pointer none, .bool false]) w := ta_nil Tryz.underlying94 rfl Tryz.zeroValue94 x
theorem yesA94 (x : TypeId) (v : Value) : ∀ w : World, (Instr.typeAssert (.iface 94 v) x 94 true).run Tryz.prog w = .ok (.tuple #[v, .bool true]) w := ta_yes Tryz.underlying94 rfl x v
theorem nilA111 (x : TypeId) : ∀ w : World, (Instr.typeAssert .nilIface x 111 true).run Tryz.prog w = .ok (.tuple #[.pointer none, .bool false]) w := ta_nil Tryz.underlying111 rfl Tryz.zeroValue111 x
theorem nilA162 (x : TypeId) : ∀ w : World, (Instr.typeAssert .nilIface x 162 true).run Tryz.prog w = .ok (.tuple #[.pointer none, .bool false]) w := ta_nil Tryz.underlying162 rfl Tryz.zeroValue162 x
theorem nilA163 (x : TypeId) : ∀ w : World, (Instr.typeAssert .nilIface x 163 true).run Tryz.prog w = .ok (.tuple #[.pointer none, .bool false]) w := ta_nil Tryz.underlying163 rfl Tryz.zeroValue163 x
theorem nilA284 (x : TypeId) : ∀ w : World, (Instr.typeAssert .nilIface x 284 true).run Tryz.prog w = .ok (.tuple #[.pointer none, .bool false]) w := ta_nil Tryz.underlying284 rfl Tryz.zeroValue284 x
theorem nilA105 (x : TypeId) : ∀ w : World, (Instr.typeAssert .nilIface x 105 true).run Tryz.prog w = .ok (.tuple #[.agg #[.int .i64 0, .string ⟨#[]⟩], .bool false]) w := ta_nil Tryz.underlying105 rfl Tryz.zeroValue105 x
theorem nilA285 (x : TypeId) : ∀ w : World, (Instr.typeAssert .nilIface x 285 true).run Tryz.prog w = .ok (.tuple #[.pointer none, .bool false]) w := ta_nil Tryz.underlying285 rfl Tryz.zeroValue285 x
theorem nilA190 (x : TypeId) : ∀ w : World, (Instr.typeAssert .nilIface x 190 true).run Tryz.prog w = .ok (.tuple #[.pointer none, .bool false]) w := ta_nil Tryz.underlying190 rfl Tryz.zeroValue190 x
theorem nilA310 (x : TypeId) : ∀ w : World, (Instr.typeAssert .nilIface x 310 true).run Tryz.prog w = .ok (.tuple #[.pointer none, .bool false]) w := ta_nil Tryz.underlying310 rfl Tryz.zeroValue310 x

/-- slices.Contains. -/
theorem C258 {w : World} {base : Nat} {ov : Value} {op : List Nat} (h : w.ownsRow base 3 1 ov op.length (op.map fun (x : Nat) => Value.int .i64 x)) (hl : op.length ≤ 1000) (v : Nat) :
    Calls Tryz.prog 258 #[ov, .int .i64 v] w fun e w' => e = .returned (.bool (decide (v ∈ op))) ∧ w' = w := by
  obtain ⟨a, c, rfl⟩ : ∃ a c, ov = .slice a op.length c := by
    rcases h.2 with ⟨h1, h2⟩ | ⟨g, cap, cur, h1, _⟩
    · exact ⟨_, _, by rw [h1, h2]⟩
    · exact ⟨_, _, h1⟩
  refine ret_mono (V258_sound a op.length c v w (fun r w' => r = .bool (decide (v ∈ op)) ∧ w' = w) ?_) (by rintro _ _ ⟨rfl, h⟩; exact ⟨rfl, h⟩)
  unfold V258
  refine (V314_sound a op.length c v w (fun r w' => (∃ i : Int, r = .int .i64 i ∧ (decide (i ≥ 0)) = decide (v ∈ op)) ∧ w' = w) ?_).mono ?_
  · unfold V314
    refine ⟨fun i w' => 0 ≤ i ∧ i ≤ op.length ∧ v ∉ op.take i.toNat ∧ w' = w, fun i _ => (op.length - i).toNat, ⟨by omega, by omega, by simp, rfl⟩, ?_⟩
    rintro j i w1 ⟨hi, hle, hn, rfl⟩
    refine bsel_split (fun hlt => ?_) fun hge => ?_
    · simp at hlt
      obtain ⟨n, rfl⟩ := Int.eq_ofNat_of_zero_le hi
      have hn' : n < op.length := by omega
      obtain ⟨g, cap, hv, _, hc⟩ := row_cell h (i := n) (x := .int .i64 op[n]) (by simp [hn'])
      cases hv
      refine idxK_of (by omega) ⟨op[n], by simpa using hc, bsel_split (fun he => ?_) fun he => ?_⟩
      · refine ⟨⟨_, rfl, ?_⟩, rfl⟩
        have hm : v ∈ op := by
          have : (v : Int) = op[n] := by simpa using he
          have : v = op[n] := by omega
          rw [this]; exact List.getElem_mem hn'
        simp [hm]
      · rw [wrap_i64 (by omega)]
        refine ⟨⟨by omega, by omega, ?_, rfl⟩, by simp only; omega⟩
        rw [show ((n : Int) + 1).toNat = n + 1 by omega, List.take_succ_eq_append_getElem hn', List.mem_append]
        rintro (hm | hm)
        · exact hn (by simpa using hm)
        · simp at hm
          simp at he
          omega
    · simp at hge
      refine ⟨⟨-1, rfl, ?_⟩, rfl⟩
      have : v ∉ op := by rwa [List.take_of_length_le (by omega)] at hn
      simp [this]
  · rintro _ w' ⟨_, rfl, ⟨i, rfl, he⟩, rfl⟩
    exact ⟨_, rfl, by rw [he], rfl⟩

theorem tellL_on {F : Nat → Out → Out} {first : Bool} {k : Nat} {ks : List Nat} {o : Out} (h : o.2 = true) : tellL F first (k :: ks) o = tellL F false ks (F k (if first then o else emit [44, 32] o)) := by
  conv => lhs; unfold tellL
  rw [h]
theorem tellL_off {F : Nat → Out → Out} {first : Bool} {ks : List Nat} {o : Out} (h : o.2 = false) : tellL F first ks o = o := by
  cases ks with
  | nil => rfl
  | cons k ks => unfold tellL; rw [h]

section
variable {N b l p : Nat} {Rec : LoopState → Option Code → Obj} {w0 : World} {s : Option Addr}

/-- A piece in a row of its own is said. -/
theorem say1 (hY : Yld N b l Rec) {op : List Nat} {o : Out} {w : World} {y : ByteArray} (h : PSt N b l p Rec w0 s op o w) (hy : y.size ≤ 10000000000000) {R : Ending → World → Prop}
    (hR : ∀ w', PSt N b l p Rec w0 s op (emit (bs y) o) w' → Keep (Pfp N b l p w) w w' → R (.returned (.tuple #[])) w') :
    newK w #[.string y] 9 fun a w1 => Calls Tryz.prog 199 #[.pointer (some ⟨p, 0, none⟩), .slice (some a) 1 1] w1 R := by
  refine newK_of fun a w1 ha hb hk => ?_
  refine (C199 hY (h.no hk) (h.mine hY hb (by omega) (by decide) (by decide)) hy).mono ?_
  rintro _ w2 ⟨rfl, h2, hk2⟩
  exact hR w2 h2 ((Keep.of_no hk).pfp hk2)

/-- What tells a value: what 'tell' must do. -/
def Tells (N b l p : Nat) (Rec : LoopState → Option Code → Obj) (w0 : World) (s : Option Addr) (op : List Nat) (D : Nat → Prop) (F : Nat → Out → Out) : Prop :=
  ∀ (v : Nat) (o : Out) (w : World), D v → PSt N b l p Rec w0 s op o w → Calls Tryz.prog 119 #[.pointer (some ⟨p, 0, none⟩), .int .i64 v] w fun e w' => e = .returned (.tuple #[]) ∧ PSt N b l p Rec w0 s op (F v o) w' ∧ Keep (Pfp N b l p w) w w'

theorem callFunc119 (x y : Value) (w : World) : (callFunc 119 #[x, y]).run Tryz.prog w = .ok (.enter 119 #[x, y]) w := by kernel_rfl
theorem callFunc192 (x y : Value) (w : World) : (callFunc 192 #[x, y]).run Tryz.prog w = .ok (.enter 192 #[x, y]) w := by kernel_rfl

/-- list. -/
theorem C259 (hY : Yld N b l Rec) {op : List Nat} {D : Nat → Prop} {F : Nat → Out → Out} (hT : Tells N b l p Rec w0 s op D F) {o : Out} {w : World} {ga : Option Addr} {c : Nat} {kids : List Nat} (h : PSt N b l p Rec w0 s op o w)
    (hk : ∀ j k, kids[j]? = some k → ∃ q, ga = some q ∧ w0.cell? (q.add j) = some (.int .i64 (k : Nat))) (hD : ∀ k ∈ kids, D k) (hl : kids.length < 1000000000000) :
    Calls Tryz.prog 259 #[.pointer (some ⟨p, 0, none⟩), .slice ga kids.length c, .func (.func 119) #[.pointer (some ⟨p, 0, none⟩)] #[]] w fun e w' => e = .returned (.tuple #[]) ∧ PSt N b l p Rec w0 s op (tellL F true kids o) w' ∧ Keep (Pfp N b l p w) w w' := by
  refine ret_mono (V259_sound _ ga kids.length c _ w (fun r w' => r = .tuple #[] ∧ PSt N b l p Rec w0 s op (tellL F true kids o) w' ∧ Keep (Pfp N b l p w) w w') ?_) (by rintro _ _ ⟨rfl, h⟩; exact ⟨rfl, h⟩)
  unfold V259
  refine ⟨fun i w' => 0 ≤ i ∧ i ≤ kids.length ∧ ∃ o', PSt N b l p Rec w0 s op o' w' ∧ Keep (Pfp N b l p w) w w' ∧ tellL F true kids o = tellL F (decide (i = 0)) (kids.drop i.toNat) o', fun i _ => (kids.length - i).toNat, ⟨by omega, by omega, o, h, Keep.refl _ _, by simp⟩, ?_⟩
  rintro j i w1 ⟨hi, hle, o', h1, hk1, he⟩
  refine bsel_split (fun hlt => ?_) fun hge => ?_
  · simp at hlt
    obtain ⟨n, rfl⟩ := Int.eq_ofNat_of_zero_le hi
    have hn : n < kids.length := by omega
    obtain ⟨q, rfl, hc⟩ := hk n kids[n] (List.getElem?_eq_getElem hn)
    simp only [Int.toNat_natCast] at he
    rw [List.drop_eq_getElem_cons hn] at he
    refine idxK_of hn ⟨kids[n], by rw [Nat.mul_one]; exact h1.keep.cell hc id, ?_⟩
    rw [nilK_some]
    obtain ⟨ov, hp, hrow⟩ := h1.ex
    refine ⟨o'.2, hp.add 3 rfl, bsel_split (fun ho => ?_) fun ho => ?_⟩
    · refine ⟨rfl, ?_, hk1⟩
      have ho : o'.2 = false := by simpa using ho
      rw [he, tellL_off ho]
      exact h1
    · have ho : o'.2 = true := by simpa using ho
      rw [tellL_on ho] at he
      have hgo : ∀ (o2 : Out) (w2 : World), PSt N b l p Rec w0 s op o2 w2 → Keep (Pfp N b l p w) w w2 → o2 = (if decide ((n : Int) = 0) = true then o' else emit [44, 32] o') →
          CallV Tryz.prog (.func (.func 119) #[.pointer (some ⟨p, 0, none⟩)] #[]) #[.int .i64 (kids[n] : Nat)] w2 fun e29 w30 => ∃ t31 : Value, e29 = .returned (t31) ∧
            ((0 ≤ IntKind.wrap .i64 ((n : Int) + 1) ∧ IntKind.wrap .i64 ((n : Int) + 1) ≤ kids.length ∧ ∃ o', PSt N b l p Rec w0 s op o' w30 ∧ Keep (Pfp N b l p w) w w30 ∧ tellL F true kids o = tellL F (decide (IntKind.wrap .i64 ((n : Int) + 1) = 0)) (kids.drop (IntKind.wrap .i64 ((n : Int) + 1)).toNat) o') ∧
             (kids.length - IntKind.wrap .i64 ((n : Int) + 1)).toNat < ((kids.length : Int) - (n : Int)).toNat) := by
        intro o2 w2 h2 hk2 ho2
        refine ⟨callFunc119 _ _ _, (hT kids[n] o2 w2 (hD _ (List.getElem_mem hn)) h2).mono ?_⟩
        rintro _ w3 ⟨rfl, h3, hk3⟩
        refine ⟨_, rfl, ?_⟩
        rw [wrap_i64 (by omega)]
        refine ⟨⟨by omega, by omega, _, h3, hk2.pfp hk3, ?_⟩, by omega⟩
        rw [he, ← ho2, show decide ((n : Int) + 1 = 0) = false by simp; omega, show ((n : Int) + 1).toNat = n + 1 by omega]
      refine bsel_split (fun hp0 => ?_) fun hp0 => ?_
      · refine say1 hY h1 (y := ⟨#[44, 32]⟩) (by decide) fun w2 h2 hk2 => ⟨_, rfl, ?_⟩
        unfold V259J1
        exact hgo _ w2 h2 (hk1.pfp hk2) (by rw [if_neg (by simp at hp0 ⊢; omega)]; rfl)
      · unfold V259J1
        exact hgo _ w1 h1 hk1 (by rw [if_pos (by simp at hp0 ⊢; omega)])
  · simp at hge
    refine ⟨rfl, ?_, hk1⟩
    rw [he, List.drop_of_length_le (by omega)]
    exact h1

theorem CallV_mono {P : Program} {f : FuncId} {fs cs args : Array Value} {x : Value} {w : World} {R R' : Ending → World → Prop} (hx : x = .func (.func f) fs cs) (h : CallV P x args w R) (hR : ∀ e w', R e w' → R' e w') : CallV P x args w R' := by
  subst hx
  exact ⟨h.1, h.2.mono hR⟩

/-- within. -/
theorem C191 (hY : Yld N b l Rec) {op : List Nat} {o : Out} {w : World} (v : Nat) {fx : FuncId} {fs cs : Array Value} {x : Value} (hx : x = .func (.func fx) fs cs) {F : Out → Out} (h : PSt N b l p Rec w0 s op o w) (hop : op.length ≤ 20)
    (hT : v ∉ op → op.length < 20 → ∀ w1, PSt N b l p Rec w0 s (op ++ [v]) o w1 → Keep (Pfp N b l p w) w w1 → CallV Tryz.prog x #[] w1 fun e w' => (∃ t, e = .returned t) ∧ PSt N b l p Rec w0 s (op ++ [v]) (F o) w' ∧ Keep (Pfp N b l p w1) w1 w') :
    Calls Tryz.prog 191 #[.pointer (some ⟨p, 0, none⟩), .int .i64 v, x] w fun e w' => e = .returned (.tuple #[]) ∧ PSt N b l p Rec w0 s op (if v ∈ op ∨ 20 ≤ op.length then emit dots o else F o) w' ∧ Keep (Pfp N b l p w) w w' := by
  refine ret_mono (V191_sound _ v x w (fun r w' => r = .tuple #[] ∧ PSt N b l p Rec w0 s op (if v ∈ op ∨ 20 ≤ op.length then emit dots o else F o) w' ∧ Keep (Pfp N b l p w) w w') ?_) (by rintro _ _ ⟨rfl, h⟩; exact ⟨rfl, h⟩)
  obtain ⟨ov, hp, hrow⟩ := h.ex
  obtain ⟨a, c, rfl⟩ : ∃ a c, ov = .slice a op.length c := by
    rcases hrow.2 with ⟨h1, h2⟩ | ⟨g, cap, cur, h1, _⟩
    · exact ⟨_, _, by rw [h1, h2]⟩
    · exact ⟨_, _, h1⟩
  have hdots : (v ∈ op ∨ 20 ≤ op.length) → V191J1 (fun r w' => r = .tuple #[] ∧ PSt N b l p Rec w0 s op (if v ∈ op ∨ 20 ≤ op.length then emit dots o else F o) w' ∧ Keep (Pfp N b l p w) w w') (some ⟨p, 0, none⟩) v x true w := by
    intro hc
    unfold V191J1
    refine bsel_pos rfl (say1 hY h (y := ⟨#[46, 46, 46]⟩) (by decide) fun w2 h2 hk2 => ⟨_, rfl, rfl, ?_, hk2⟩)
    rw [if_pos hc]
    exact h2
  unfold V191
  rw [nilK_some]
  refine ⟨_, _, _, hp.add 2 rfl, (C258 hrow (by omega) v).mono ?_⟩
  rintro _ w1 ⟨rfl, rfl⟩
  refine ⟨_, rfl, bsel_split (fun hc => hdots (.inl (by simpa using hc))) fun hc => ?_⟩
  have hc : v ∉ op := by simpa using hc
  rw [nilK_some]
  refine ⟨_, _, _, hp.add 2 rfl, ?_⟩
  by_cases hd : 20 ≤ op.length
  · rw [show decide ((op.length : Int) ≥ 20) = true by simp; omega]
    exact hdots (.inr hd)
  rw [show decide ((op.length : Int) ≥ 20) = false by simp; omega]
  have hne : ¬ (v ∈ op ∨ 20 ≤ op.length) := fun hh => hh.elim hc hd
  rw [if_neg hne]
  unfold V191J1
  refine bsel_neg rfl ?_
  simp only [nilK_some]
  refine ⟨_, _, _, hp.add 2 rfl, newK_of fun a2 w2 ha2 hb2 hk2 => ?_⟩
  have hold := h.old
  refine appendRow rowInts (hk2.nrow hrow) hb2 rfl (by omega) (by have := h.keep.size; have := hk2.size; omega) fun g cap w3 hrow3 hk3 hat => ?_
  have hp2 := hk2.nblk hp
  have hp3 := hk3.blk hp2 fun e => ownsRow_ne (hk2.nrow hrow) hp2 (by decide) e
  refine stK_add hp3 (by simp) fun w4 hp4 hk4 => ?_
  have hk24 : Keep (Pfp N b l p w1) w1 w4 := by
    refine ((Keep.of_no hk2).trans (fp' := fun k => (Value.slice a op.length c).ownBlock = some k) hk3 fun k hk hg => ?_).trans hk4 fun k _ e => .inr (.inl e)
    exact .inr (.inr (.inr ⟨(hrow.lt k hg).1, .inr (ownsRow_etype hrow hg)⟩))
  have hrow4 := hk4.row hrow3 fun g' hg' e => ownsRow_ne hrow3 hp3 (by decide) (e ▸ hg')
  have hy4 : YSt N b l Rec o w4 := by
    refine ((h.y.keep hk2 id fun _ _ h => h.elim).keep hk3 (fun e => ?_) fun k _ e => ?_).keep hk4 (fun e => ?_) fun k _ e => ?_
    · have h1 := ownsRow_etype hrow e
      rw [h.y.etl hY.nc] at h1; cases h1
    · rw [ownsRow_etype (hk2.nrow hrow) e]; exact ⟨by decide, by decide⟩
    · have h1 := h.y.etl hY.nc
      rw [e, hp.etype] at h1; cases h1
    · subst e; rw [hp3.etype]; exact ⟨by decide, by decide⟩
  have hp4' : PSt N b l p Rec w0 s (op ++ [v]) o w4 := by
    refine ⟨((h.keep.no hk2).news hk3 fun k e => ?_).news hk4 fun k e => ?_, hy4, ⟨_, hp4, ?_⟩, hold⟩
    · have := (hrow.lt k e).1; omega
    · omega
    · simpa using hrow4
  refine CallV_mono hx (hT hc (by omega) w4 hp4' hk24) ?_
  rintro _ w5 ⟨⟨t, rfl⟩, h5, hk5⟩
  refine ⟨_, rfl, ?_⟩
  obtain ⟨ov5, hp5, hrow5⟩ := h5.ex
  obtain ⟨g5, cap5, rfl, _, _⟩ := row_cell hrow5 (i := op.length) (x := .int .i64 v) (by simp)
  refine ⟨_, _, _, hp5.drew.add 2 rfl, _, _, _, hp5.drew.add 2 rfl, ?_⟩
  have hlen : (op ++ [v]).length = op.length + 1 := by simp
  rw [hlen, wrap_i64 (by omega)]
  have hcap : op.length + 1 ≤ cap5 := by
    rcases hrow5.2 with ⟨h1, _⟩ | ⟨g, cap, cur, h1, _, _, h2, _⟩
    · cases h1
    · cases h1; omega
  refine ⟨⟨by omega, by omega, by omega⟩, ?_⟩
  have e1 : (if (cap5 : Int) = 0 then (some (⟨g5, 0, none⟩ : Addr)) else (some (⟨g5, 0, none⟩ : Addr)).map (·.add ((0 : Int).toNat * 1))) = some ⟨g5, 0, none⟩ := by
    rw [if_neg (by omega)]; simp
  rw [e1]
  have e2 : (((op.length + 1 : Nat) : Int) - 1).toNat - (0 : Int).toNat = op.length := by omega
  have e3 : cap5 - (0 : Int).toNat = cap5 := by simp
  rw [e2, e3]
  refine stK_add hp5.drew (by simp) fun w6 hp6 hk6 => ⟨trivial, ⟨?_, ?_, ⟨_, hp6, ?_⟩, hold⟩, ?_⟩
  · exact (h5.keep.drew).news hk6 (by rintro k rfl; omega)
  · refine (h5.y.keep (Keep.drawn w5) id fun _ _ h => h.elim).keep hk6 (fun e => ?_) fun k _ e => ?_
    · have h1 := h5.y.etl hY.nc
      rw [e, hp5.etype] at h1; cases h1
    · subst e; rw [hp5.drew.etype]; exact ⟨by decide, by decide⟩
  · have hr := hrow5
    rw [hlen, List.map_append] at hr
    have hr2 := ownsRow_pop (by simp) hr
    exact hk6.row ((Keep.drawn w5).nrow hr2) fun g' hg' e => by
      have := ownsRow_ne hrow5 hp5 (by decide)
      exact this (e ▸ hg')
  · refine (hk24.pfp hk5).pfp ?_
    exact (Keep.of_no (Keep.drawn w5)).trans hk6 fun k _ e => .inr (.inl e)

/-- A store's rows and what is plain, as far as they are told. -/
structure Gr (w0 : World) (s : Option Addr) (D : Nat → Prop) (G : Nat → SV) : Prop where
  leaf : ∀ v t, D v → G v = .leaf t → t ≠ [] ∧ t.length ≤ 10000000000000 ∧ (∀ w, Keep No w0 w → Calls Tryz.prog 48 #[.pointer s, .int .i64 v] w fun e w' => e = .returned .nilIface ∧ Keep No w w') ∧
    ∀ w, Keep No w0 w → Calls Tryz.prog 34 #[.pointer s, .int .i64 v] w fun e w' => e = .returned (.string ⟨t.toArray⟩) ∧ Keep No w w'
  row : ∀ v tup kids, D v → G v = .row tup kids → kids.length < 1000000000000 ∧ (∀ k ∈ kids, D k) ∧ ∃ r num ga c, Blk w0 r 100 [num, .slice ga kids.length c, .int .i64 (if tup then 5 else 6)] ∧
    (∀ j k, kids[j]? = some k → ∃ q, ga = some q ∧ w0.cell? (q.add j) = some (.int .i64 (k : Nat))) ∧
    ∀ w, Keep No w0 w → Calls Tryz.prog 48 #[.pointer s, .int .i64 v] w fun e w' => e = .returned (.iface 94 (.pointer (some ⟨r, 0, none⟩))) ∧ Keep No w w'

/-- row. -/
theorem C193 (hY : Yld N b l Rec) {op : List Nat} {D : Nat → Prop} {F : Nat → Out → Out} (hT : Tells N b l p Rec w0 s op D F) {o : Out} {w : World} {r : Nat} {num : Value} {ga : Option Addr} {c : Nat} {kids : List Nat} {tup : Bool}
    (h : PSt N b l p Rec w0 s op o w) (hr : Blk w0 r 100 [num, .slice ga kids.length c, .int .i64 (if tup then 5 else 6)])
    (hk : ∀ j k, kids[j]? = some k → ∃ q, ga = some q ∧ w0.cell? (q.add j) = some (.int .i64 (k : Nat))) (hD : ∀ k ∈ kids, D k) (hl : kids.length < 1000000000000) :
    Calls Tryz.prog 193 #[.pointer (some ⟨p, 0, none⟩), .pointer (some ⟨r, 0, none⟩)] w fun e w' => e = .returned (.tuple #[]) ∧ PSt N b l p Rec w0 s op (emit (shuts tup kids.length) (tellL F true kids (emit (opens tup) o))) w' ∧ Keep (Pfp N b l p w) w w' := by
  refine ret_mono (V193_sound _ _ w (fun r w' => r = .tuple #[] ∧ PSt N b l p Rec w0 s op (emit (shuts tup kids.length) (tellL F true kids (emit (opens tup) o))) w' ∧ Keep (Pfp N b l p w) w w') ?_) (by rintro _ _ ⟨rfl, h⟩; exact ⟨rfl, h⟩)
  have hr' := h.keep.nblk hr
  have hgo : ∀ ob sb : ByteArray, bs ob = opens tup → bs sb = shuts tup kids.length → ob.size ≤ 10 → sb.size ≤ 10 → V193J1 (fun r w' => r = .tuple #[] ∧ PSt N b l p Rec w0 s op (emit (shuts tup kids.length) (tellL F true kids (emit (opens tup) o))) w' ∧ Keep (Pfp N b l p w) w w') (some ⟨p, 0, none⟩) (some ⟨r, 0, none⟩) ob sb w := by
    intro ob sb ho hs hos hss
    unfold V193J1
    refine say1 hY h (y := ob) (by omega) fun w2 h2 hk2 => ⟨_, rfl, ?_⟩
    rw [ho] at h2
    have hr2 := h2.keep.nblk hr
    rw [nilK_some]
    refine ⟨_, _, _, hr2.add 1 rfl, (C259 hY hT h2 hk hD hl).mono ?_⟩
    rintro _ w3 ⟨rfl, h3, hk3⟩
    refine ⟨_, rfl, say1 hY h3 (y := sb) (by omega) fun w4 h4 hk4 => ⟨_, rfl, rfl, ?_, (hk2.pfp hk3).pfp hk4⟩⟩
    rw [hs] at h4
    exact h4
  unfold V193
  refine (V158_sound _ w (fun v w' => v = .int .i64 (if tup then 5 else 6) ∧ w' = w) ?_).mono ?_
  · unfold V158
    rw [nilK_some]
    exact ⟨_, hr'.add 2 rfl, rfl, rfl⟩
  · rintro _ w1 ⟨_, rfl, rfl, rfl⟩
    refine ⟨_, rfl, ?_⟩
    cases tup
    · exact bsel_neg (by decide) (hgo _ _ rfl rfl (by decide) (by decide))
    · refine bsel_pos (by decide) ?_
      rw [nilK_some]
      refine ⟨_, _, _, hr'.add 1 rfl, bsel_split (fun h1 => ?_) fun h1 => ?_⟩
      · have h1 : kids.length = 1 := by
          have : (kids.length : Int) = 1 := by simpa using h1
          omega
        unfold V193J2
        exact hgo _ _ rfl (by simp only [shuts, h1, if_true]; rfl) (by decide) (by decide)
      · have h1 : ¬ kids.length = 1 := by
          have : ¬ (kids.length : Int) = 1 := by simpa using h1
          omega
        unfold V193J2
        exact hgo _ _ rfl (by simp only [shuts, if_neg h1, if_true]; rfl) (by decide) (by decide)

theorem tellV_off {G : Nat → SV} {f : Nat} {op : List Nat} {v : Nat} {o : Out} (h : o.2 = false) : tellV G f op v o = o := by
  unfold tellV; rw [h]
theorem tellV_row {G : Nat → SV} {f : Nat} {op : List Nat} {v : Nat} {o : Out} {tup : Bool} {kids : List Nat} (h : o.2 = true) (hg : G v = .row tup kids) (hf : f + op.length = 20) :
    tellV G f op v o = if v ∈ op ∨ 20 ≤ op.length then emit dots o else emit (shuts tup kids.length) (tellL (fun k o => tellV G (f - 1) (op ++ [v]) k o) true kids (emit (opens tup) o)) := by
  conv => lhs; unfold tellV
  rw [h]
  simp only [hg]
  cases f with
  | zero => rw [if_pos (.inr (by omega))]
  | succ f =>
    by_cases hv : v ∈ op
    · simp [hv]
    · have h20 : ¬ 20 ≤ op.length := by omega
      simp [hv, h20]

/-- value: one level. -/
theorem C119_step (hY : Yld N b l Rec) {D : Nat → Prop} {G : Nat → SV} (hG : Gr w0 s D G) (f : Nat) (op : List Nat) (hop : f + op.length = 20)
    (ih : op.length < 20 → ∀ v, Tells N b l p Rec w0 s (op ++ [v]) D (fun u o => tellV G (f - 1) (op ++ [v]) u o)) : Tells N b l p Rec w0 s op D (fun v o => tellV G f op v o) := by
  intro v o w hDv h
  refine ret_mono (V119_sound _ v w (fun r w' => r = .tuple #[] ∧ PSt N b l p Rec w0 s op (tellV G f op v o) w' ∧ Keep (Pfp N b l p w) w w') ?_) (by rintro _ _ ⟨rfl, h⟩; exact ⟨rfl, h⟩)
  unfold V119
  refine newK_of fun a w1 ha hb hk1 => ?_
  have h1 := h.no hk1
  have hm1 := h.mine hY hb (by omega) (by decide) (by decide)
  obtain ⟨ov, hp1, hrow1⟩ := h1.ex
  refine ⟨_, by simpa using hb.cell (o := 0) rfl, ?_⟩
  rw [nilK_some]
  refine ⟨o.2, hp1.add 3 rfl, bsel_split (fun ho => ?_) fun ho => ?_⟩
  · have ho : o.2 = false := by simpa using ho
    refine ⟨rfl, ?_, Keep.of_no hk1⟩
    rw [tellV_off ho]
    exact h1
  have ho : o.2 = true := by simpa using ho
  refine ⟨_, by simpa using hb.cell (o := 0) rfl, ?_⟩
  rw [nilK_some]
  refine ⟨_, hp1.add 0 rfl, ?_⟩
  cases hg : G v with
  | leaf t =>
    obtain ⟨ht0, htl, hobj, htag⟩ := hG.leaf v t hDv hg
    refine (hobj w1 h1.keep).mono ?_
    rintro _ w2 ⟨rfl, hk2⟩
    have h2 := h1.no hk2
    have hb2 := hk2.nblk hb
    obtain ⟨ov2, hp2, _⟩ := h2.ex
    refine ⟨_, rfl, _, _, nilA94 _, bsel_neg rfl ⟨_, _, nilA111 _, bsel_neg rfl ⟨_, _, nilA162 _, bsel_neg rfl ⟨_, _, nilA163 _, bsel_neg rfl ⟨_, _, nilA284 _, bsel_neg rfl ⟨_, _, _, nilA105 _, bsel_neg rfl ⟨_, _, nilA285 _, bsel_neg rfl ⟨_, _, nilA190 _, bsel_neg rfl ⟨_, _, nilA310 _, bsel_neg rfl ?_⟩⟩⟩⟩⟩⟩⟩⟩⟩
    rw [eqNilI_nil]
    refine bsel_pos rfl ⟨_, by simpa using hb2.cell (o := 0) rfl, ?_⟩
    rw [nilK_some]
    refine ⟨_, hp2.add 0 rfl, (htag w2 h2.keep).mono ?_⟩
    rintro _ w3 ⟨rfl, hk3⟩
    have h3 := h2.no hk3
    refine ⟨_, rfl, bsel_pos (by
      cases t with
      | nil => exact absurd rfl ht0
      | cons x l => rw [ByteArray.toList_eq, ByteArray.toList_eq]; simp) ⟨_, by simpa using (hk3.nblk hb2).cell (o := 0) rfl, ?_⟩⟩
    refine say1 hY h3 (y := ⟨t.toArray⟩) (by show t.toArray.size ≤ _; simpa using htl) fun w4 h4 hk4 => ⟨_, rfl, rfl, ?_, (Keep.of_no ((hk1.no hk2).no hk3)).pfp hk4⟩
    rw [tellV_leaf hg]
    simpa [bs] using h4
  | row tup kids =>
    obtain ⟨hkl, hkD, r, num, ga, c, hr, hkids, hobj⟩ := hG.row v tup kids hDv hg
    refine (hobj w1 h1.keep).mono ?_
    rintro _ w2 ⟨rfl, hk2⟩
    have h2 := h1.no hk2
    have hb2 := hk2.nblk hb
    have hm2 := hm1.no hk2
    refine ⟨_, rfl, _, _, yesA94 _ _, bsel_pos rfl (newK_of fun a3 w3 ha3 hb3 hk3 => ?_)⟩
    have h3 := h2.no hk3
    have hm3 := hm2.no hk3
    refine stK_of hb3 (by simp) fun w4 hb4 hk4 => ?_
    have hsz := h.keep.size
    have h4 : PSt N b l p Rec w0 s op o w4 := by
      obtain ⟨q1, q2, ⟨ov, q3, q4⟩, q5⟩ := h3
      have hsz2 := h2.keep.size
      refine ⟨q1.news hk4 (by rintro k rfl; omega), q2.keep hk4 (fun e => ?_) (fun k _ e => ?_), ⟨ov, hk4.blk q3 fun e => ?_, hk4.row q4 fun g hg e => ?_⟩, q5⟩
      · have := h2.y.lt; omega
      · subst e; rw [hb3.etype]; exact ⟨by decide, by decide⟩
      · obtain ⟨_, q, _⟩ := h2.ex; have := q.lt; omega
      · have h5 := ownsRow_etype q4 hg
        subst e
        rw [hb3.etype] at h5; cases h5
    have hk24 : Keep (Pfp N b l p w) w w4 := by
      refine (Keep.of_no ((hk1.no hk2).no hk3)).trans (fp' := fun k => k = a3) hk4 fun k hk e => ?_
      have := (hk1.no hk2).size; omega
    have hm4 : Mine b l p w4 a 229 [.pointer (some ⟨p, 0, none⟩)] := ⟨hk4.blk hm3.blk fun e => by have := hm2.blk.lt; omega, hm3.ne⟩
    have hm4' : Mine b l p w4 a3 94 [.pointer (some ⟨r, 0, none⟩)] := h2.mine hY (by simpa using hb4) (by omega) (by decide) (by decide)
    refine ⟨_, by simpa using hm4.blk.cell (o := 0) rfl, ?_⟩
    refine (C191 hY v rfl (F := fun o => emit (shuts tup kids.length) (tellL (fun k o => tellV G (f - 1) (op ++ [v]) k o) true kids (emit (opens tup) o))) h4 (by omega) fun hv hlt w5 h5 hk5 => ?_).mono ?_
    · refine ⟨callFunc192 _ _ _, (V192_sound ⟨a, 0, none⟩ ⟨a3, 0, none⟩ w5 (fun _ w' => PSt N b l p Rec w0 s (op ++ [v]) (emit (shuts tup kids.length) (tellL (fun k o => tellV G (f - 1) (op ++ [v]) k o) true kids (emit (opens tup) o))) w' ∧ Keep (Pfp N b l p w5) w5 w') ?_).mono ?_⟩
      · unfold V192
        refine ⟨_, by simpa using (hm4.keep hk5).blk.cell (o := 0) rfl, _, by simpa using (hm4'.keep hk5).blk.cell (o := 0) rfl, ?_⟩
        refine (C193 hY (ih hlt v) h5 hr hkids hkD hkl).mono ?_
        rintro _ w6 ⟨rfl, h6, hk6⟩
        exact ⟨_, rfl, h6, hk6⟩
      · rintro _ w6 ⟨t, rfl, h6, hk6⟩
        exact ⟨⟨_, rfl⟩, h6, hk6⟩
    · rintro _ w6 ⟨rfl, h6, hk6⟩
      refine ⟨_, rfl, rfl, ?_, hk24.pfp hk6⟩
      rw [tellV_row ho hg hop]
      exact h6

/-- value. -/
theorem C119 (hY : Yld N b l Rec) {D : Nat → Prop} {G : Nat → SV} (hG : Gr w0 s D G) : ∀ (f : Nat) (op : List Nat), f + op.length = 20 → Tells N b l p Rec w0 s op D (fun v o => tellV G f op v o)
  | 0, op, hop => C119_step hY hG 0 op hop fun hlt => by omega
  | f + 1, op, hop => C119_step hY hG (f + 1) op hop fun _ v => C119 hY hG f (op ++ [v]) (by simp; omega)
end
end Go.Fw

set_option autoImplicit false
set_option linter.unusedVariables false
namespace Go.Fw
open Go.Proofs Go.RowKit

theorem Keep.put {w : World} {l : Nat} {x : Obj} : Keep (fun k => k = l) w (w.putObj l x) := by
  refine ⟨rfl, rfl, rfl, by simp [World.putObj], fun k hk hn => ?_⟩
  simp only [World.putObj]
  rw [Array.getElem?_setIfInBounds_ne (fun e => hn e.symm)]
theorem put_get {w : World} {l : Nat} {x : Obj} (h : l < w.heap.size) : (w.putObj l x).heap[l]? = some x := by
  simp [World.putObj, h]

/-- Builder.Len. -/
theorem C68 {w : World} {b B : Nat} {l : List UInt8} (h : BufAt w b B l) : Calls Tryz.prog 68 #[.pointer (some ⟨b, 0, none⟩)] w fun e w' => e = .returned (.int .i64 l.length) ∧ w' = w := by
  refine ret_mono (V68_sound _ w (fun r w' => r = .int .i64 l.length ∧ w' = w) ?_) (by rintro _ _ ⟨rfl, h⟩; exact ⟨rfl, h⟩)
  obtain ⟨⟨p, v, h1, h2, h3⟩, hge⟩ := h
  obtain ⟨a, c, rfl⟩ : ∃ a c, v = .slice a l.length c := by
    rcases h3.2 with ⟨h1, h2⟩ | ⟨g, cap, cur, h1, _⟩
    · exact ⟨_, _, by rw [h1, h2]⟩
    · exact ⟨_, _, h1⟩
  unfold V68
  rw [nilK_some]
  exact ⟨_, _, _, h2.add 1 rfl, rfl, rfl⟩

section
variable {w0 : World} {s : Option Addr}

theorem callFunc118 (x y z : Value) (w : World) : (callFunc 118 #[x, y, z]).run Tryz.prog w = .ok (.enter 118 #[x, y, z]) w := by kernel_rfl

/-- The function behind the pieces. -/
theorem C118 {N b l : Nat} {Rec : LoopState → Option Code → Obj} (hY : Yld N b l Rec) {D : Nat → Prop} {G : Nat → SV} (hG : Gr w0 s D G) (hN : N = w0.heap.size) (hb : N ≤ b) {w : World} (hk : Keep No w0 w) (hy : YSt N b l Rec ([], true) w) {a3 a5 v : Nat}
    (h3 : Blk w a3 25 [.pointer s]) (h5 : Blk w a5 3 [.int .i64 v]) (hD : D v) :
    Calls Tryz.prog 118 #[.func (.yield l) #[] #[], .pointer (some ⟨a3, 0, none⟩), .pointer (some ⟨a5, 0, none⟩)] w fun e w' => e = .returned (.tuple #[]) ∧ ∃ p, PSt N b l p Rec w0 s [] (tellV G 20 [] v ([], true)) w' ∧ w.heap.size ≤ p ∧ Keep (Pfp N b l p w) w w' := by
  refine ret_mono (V118_sound _ ⟨a3, 0, none⟩ ⟨a5, 0, none⟩ w (fun r w' => r = .tuple #[] ∧ ∃ p, PSt N b l p Rec w0 s [] (tellV G 20 [] v ([], true)) w' ∧ w.heap.size ≤ p ∧ Keep (Pfp N b l p w) w w') ?_) (by rintro _ _ ⟨rfl, h⟩; exact ⟨rfl, h⟩)
  unfold V118
  refine ⟨_, h3.cell rfl, plK_of rfl (newK_of fun p w1 hp hbp hk1 => ⟨_, (hk1.nblk h5).cell rfl, ?_⟩)⟩
  have hsz := hk.size
  have hP : PSt N b l p Rec w0 s [] ([], true) w1 := ⟨hk.no hk1, hy.keep hk1 id fun _ _ h => h.elim, ⟨_, hbp, World.ownsRow_nil _ _ _ _⟩, by omega, hb, hN⟩
  refine (C119 hY hG 20 [] rfl v _ w1 hD hP).mono ?_
  rintro _ w2 ⟨rfl, h2, hk2⟩
  exact ⟨_, rfl, rfl, p, h2, by omega, (Keep.of_no hk1).pfp hk2⟩

/-- Text, by pieces. -/
theorem text_pieces {D : Nat → Prop} {G : Nat → SV} (hG : Gr w0 s D G) {w : World} (hk : Keep No w0 w) {v : Nat} (hD : D v) (hleaf : ∀ u t, D u → G u = .leaf t → t.length ≤ 1000) (x : ByteArray) :
    V32J2 (fun r w' => r = .string ⟨(tellV G 20 [] v ([], true)).1.toArray⟩ ∧ Keep No w0 w') s v x false w := by
  unfold V32J2
  refine bsel_neg rfl (newK_of fun b w1 hb hbb hk1 => ?_)
  refine (V67_sound s v w1 (fun r w' => ∃ a3 a5, r = .func (.func 118) #[] #[.pointer (some ⟨a3, 0, none⟩), .pointer (some ⟨a5, 0, none⟩)] ∧ Blk w' a3 25 [.pointer s] ∧ Blk w' a5 3 [.int .i64 v] ∧ Keep No w1 w') ?_).mono ?_
  · unfold V67
    exact newK_of fun a3 w2 _ h3 hk2 => newK_of fun a5 w3 _ h5 hk3 => ⟨a3, a5, rfl, hk3.nblk h3, h5, hk2.no hk3⟩
  rintro _ w2 ⟨_, rfl, a3, a5, rfl, h3, h5, hk2⟩
  refine ⟨_, rfl, ?_⟩
  intro Rec hnc hround
  have hN := hk.size
  have hk02 := (hk.no hk1).no hk2
  have hb0 := bufAt_new hbb (B := w0.heap.size) (by omega)
  have hsz2 := hk02.size
  have hY : Yld w0.heap.size b (w2.heap.size + 1) Rec := by
    refine ⟨hnc, by omega, ?_⟩
    intro w3 o y K ho hys hNw hst hK
    have hl := hst.lt
    have hls : w3.heap[w2.heap.size + 1]? = some (Rec .ready none) := by have := hst.st; rwa [ho] at this
    refine hround w3 K hls y ⟨hls, ?_⟩
    have hkp := Keep.put (w := w3) (l := w2.heap.size + 1) (x := Rec .busy none)
    have hbu := hst.buf.keep hkp fun k _ e => by subst e; rw [hst.etl hnc]; exact ⟨by decide, by decide⟩
    have hlen := hst.len
    rw [ho] at hlen
    simp only [if_true, Nat.add_zero] at hlen
    have hfin : ∀ (w4 : World) (z : List UInt8) (t : Bool) (st : LoopState) (pd : Option Code), BufAt w4 b w0.heap.size z → Keep (Bfp b w0.heap.size (w3.putObj (w2.heap.size + 1) (Rec .busy none))) (w3.putObj (w2.heap.size + 1) (Rec .busy none)) w4 →
        (if t then Rec .ready none else Rec .done (some (.exit 0))) = Rec st pd → emit (bs y) o = (z, t) → z.length ≤ 10000000004096 + (if t then 0 else 3) →
        (∃ s p, w4.heap[w2.heap.size + 1]? = some (Rec s p)) ∧ K t (w4.putObj (w2.heap.size + 1) (Rec st pd)) := by
      intro w4 z t st pd hb4 hk4 hrec he hzl
      have hnl : ¬ Bfp b w0.heap.size (w3.putObj (w2.heap.size + 1) (Rec .busy none)) (w2.heap.size + 1) := by
        have e0 : etype (w3.putObj (w2.heap.size + 1) (Rec .busy none)) (w2.heap.size + 1) = none := by
          unfold etype
          rw [put_get hl]
          cases hc : Rec .busy none <;> first | rfl | exact absurd hc (hnc _ _ _ _ _)
        rintro (e | ⟨_, e⟩)
        · have := hbu.etype; rw [← e, e0] at this; cases this
        · rw [e0] at e; cases e
      have hl4 : w4.heap[w2.heap.size + 1]? = some (Rec .busy none) := by
        rw [hk4.block _ (by simpa [World.putObj] using hl) hnl, put_get hl]
      have hk5 := Keep.put (w := w4) (l := w2.heap.size + 1) (x := Rec st pd)
      have hne4 : etype w4 (w2.heap.size + 1) = none := by
        unfold etype
        rw [hl4]
        cases hc : Rec .busy none <;> first | rfl | exact absurd hc (hnc _ _ _ _ _)
      refine ⟨⟨_, _, hl4⟩, ?_⟩
      have := hK (w4.putObj (w2.heap.size + 1) (Rec st pd)) ?_ ?_
      · rw [he] at this; exact this
      · rw [he]
        refine ⟨hb4.keep hk5 fun k _ e => by subst e; rw [hne4]; exact ⟨by decide, by decide⟩, ?_, hzl⟩
        rw [put_get (Array.getElem?_eq_some_iff.1 hl4).1, ← hrec]
      · refine ((hkp.mono (fp' := Yfp w0.heap.size b (w2.heap.size + 1) w3) fun k _ e => .inl e).trans hk4 fun k hk e => ?_).trans hk5 fun k _ e => .inl e
        rcases e with e | ⟨e1, e2⟩
        · exact .inr (.inl e)
        · by_cases hkl : k = w2.heap.size + 1
          · exact .inl hkl
          · refine .inr (.inr ⟨e1, ?_⟩)
            unfold etype at e2 ⊢
            rw [← hkp.block k hk hkl]
            exact e2
    refine (C68 hbu).mono ?_
    rintro _ w4 ⟨rfl, rfl⟩
    refine ⟨_, rfl, bsel_split (fun hc => ?_) fun hc => ?_⟩
    · refine (C69 ⟨#[46, 46, 46]⟩ hbu (by
        have : (⟨#[46, 46, 46]⟩ : ByteArray).size = 3 := rfl
        omega) (by simpa [World.putObj] using hNw)).mono ?_
      rintro _ w5 ⟨rfl, hb5, hk5⟩
      refine ⟨_, _, rfl, hfin w5 (o.1 ++ dots) false .done (some (.exit 0)) hb5 hk5 rfl ?_ (by simp [dots]; omega)⟩
      unfold emit
      rw [ho]
      simp only
      rw [if_pos (by simp at hc; omega)]
    · have hc : o.1.length < 4096 := by simp at hc; omega
      refine (C69 y hbu (by omega) (by simpa [World.putObj] using hNw)).mono ?_
      rintro _ w5 ⟨rfl, hb5, hk5⟩
      refine ⟨_, _, rfl, hfin w5 (o.1 ++ bs y) true .ready none hb5 hk5 rfl ?_ (by simp [bs_len]; omega)⟩
      unfold emit
      rw [ho]
      simp only
      rw [if_neg (by omega)]
  -- the world in which the pieces are told
  generalize hw3 : (w2.alloc (.deferred (some []))).alloc (Rec .ready none) = w3
  have hkd : Keep No w2 w3 := by subst hw3; exact (Keep.fresh w2 _).no (Keep.fresh _ _)
  have hsz3 : w3.heap.size = w2.heap.size + 2 := by subst hw3; simp
  have hl3 : w3.heap[w2.heap.size + 1]? = some (Rec .ready none) := by
    subst hw3
    rw [heap_alloc, if_pos (by simp)]
  have hd3 : w3.heap[w2.heap.size]? = some (.deferred (some [])) := by
    subst hw3
    rw [heap_alloc, if_neg (by simp), heap_alloc, if_pos rfl]
  have hb3 := (hb0.no hk2).no hkd
  have hbge : w0.heap.size ≤ b := by omega
  have hst3 : YSt w0.heap.size b (w2.heap.size + 1) Rec ([], true) w3 := ⟨hb3, by rw [hl3]; rfl, by simp⟩
  refine ⟨callFunc118 _ _ _ _, ?_⟩
  refine (C118 hY hG rfl hbge (hk02.no hkd) hst3 (hkd.nblk h3) (hkd.nblk h5) hD).mono ?_
  rintro _ w4 ⟨rfl, p, h4, hp, hk4⟩
  refine ⟨⟨_, rfl⟩, ?_⟩
  have hst4 := h4.y.st
  have hl4 := h4.y.lt
  have hbd : w2.heap.size ≠ b := by
    intro e
    have := hb3.etype
    unfold etype at this
    rw [← e, hd3] at this; cases this
  have hd4 : w4.heap[w2.heap.size]? = some (.deferred (some [])) := by
    rw [hk4.block _ (by omega) ?_, hd3]
    rintro (e | e | e | ⟨_, e⟩)
    · omega
    · omega
    · exact hbd e
    · unfold etype at e
      rw [hd3] at e
      rcases e with e | e <;> cases e
  have hend : ∀ (x : Obj), (∀ c e f, x ≠ .cells c e f) → V32J1 (fun r w' => r = .string ⟨(tellV G 20 [] v ([], true)).1.toArray⟩ ∧ Keep No w0 w') w2 ⟨b, 0, none⟩ (w4.putObj (w2.heap.size + 1) x) := by
    intro x hx
    unfold V32J1
    have hkp := Keep.put (w := w4) (l := w2.heap.size + 1) (x := x)
    have hb4 := h4.y.buf.keep hkp fun k _ e => by subst e; rw [h4.y.etl hnc]; exact ⟨by decide, by decide⟩
    have hsz4 := h4.keep.size
    refine (C70 hb4 (by simpa [World.putObj] using hsz4)).mono ?_
    rintro _ w5 ⟨rfl, hk5⟩
    have hdp : (w4.putObj (w2.heap.size + 1) x).heap[w2.heap.size]? = some (.deferred (some [])) := by
      rw [hkp.block _ (Array.getElem?_eq_some_iff.1 hd4).1 (by omega), hd4]
    have hd5 : w5.heap[w2.heap.size]? = some (.deferred (some [])) := by
      rw [hk5.block _ (Array.getElem?_eq_some_iff.1 hdp).1 ?_, hdp]
      rintro (e | ⟨_, e⟩)
      · exact hbd e
      · unfold etype at e
        rw [hdp] at e; cases e
    refine ⟨_, rfl, hd5, rfl, ?_⟩
    refine ((h4.keep.news hkp (by rintro k rfl; omega)).news hk5 fun k e => ?_).news (Keep.put (w := w5) (l := w2.heap.size) (x := .deferred none)) (by rintro k rfl; omega)
    rcases e with e | ⟨e, _⟩
    · omega
    · omega
  cases ho : (tellV G 20 [] v ([], true)).2
  · rw [ho] at hst4
    exact .inr (.inl ⟨hst4, hend _ (fun c e f => hnc _ _ _ _ _)⟩)
  · rw [ho] at hst4
    exact .inl ⟨hst4, hend _ (fun c e f => hnc _ _ _ _ _)⟩

/-- Text of what is no str, or not plain. -/
theorem C32 {D : Nat → Prop} {G : Nat → SV} (hG : Gr w0 s D G) {v : Nat} (hD : D v) (hleaf : ∀ u t, D u → G u = .leaf t → t.length ≤ 1000)
    (hT : Calls Tryz.prog 44 #[.pointer s, .int .i64 v] w0 fun e w' => ∃ t b, e = .returned (.tuple #[.string t, .bool b]) ∧ Keep No w0 w') :
    Calls Tryz.prog 32 #[.pointer s, .int .i64 v, .bool false] w0 fun e w' => e = .returned (.string ⟨(tellV G 20 [] v ([], true)).1.toArray⟩) ∧ Keep No w0 w' := by
  refine ret_mono (V32_sound s v false w0 (fun r w' => r = .string ⟨(tellV G 20 [] v ([], true)).1.toArray⟩ ∧ Keep No w0 w') ?_) (by rintro _ _ ⟨rfl, h⟩; exact ⟨rfl, h⟩)
  unfold V32
  refine hT.mono ?_
  rintro _ w1 ⟨t, b, rfl, hk⟩
  exact ⟨_, _, rfl, bsel_split (fun _ => text_pieces hG hk hD hleaf t) fun _ => text_pieces hG hk hD hleaf t⟩
/-- Text of a str, plain. -/
theorem C32_plain {v : Int} {t : ByteArray} (hT : Calls Tryz.prog 44 #[.pointer s, .int .i64 v] w0 fun e w' => e = .returned (.tuple #[.string t, .bool true]) ∧ Keep No w0 w') :
    Calls Tryz.prog 32 #[.pointer s, .int .i64 v, .bool true] w0 fun e w' => e = .returned (.string t) ∧ Keep No w0 w' := by
  refine ret_mono (V32_sound s v true w0 (fun r w' => r = .string t ∧ Keep No w0 w') ?_) (by rintro _ _ ⟨rfl, h⟩; exact ⟨rfl, h⟩)
  unfold V32
  refine hT.mono ?_
  rintro _ w1 ⟨rfl, hk⟩
  refine ⟨_, _, rfl, bsel_pos rfl ?_⟩
  unfold V32J2
  exact bsel_pos rfl ⟨rfl, hk⟩
end
end Go.Fw

set_option autoImplicit false
set_option linter.unusedVariables false
namespace Go.Fw
open Go.Proofs Go.RowKit

/-! What show asks of a Store's values. -/
theorem numbered85 (w : World) : (callMethod (.iface 85 (.agg #[])) "lexicon/store.numbered" #[]).run Tryz.prog w = .ok (.enter 397 (#[.agg #[]] ++ #[])) w := by kernel_rfl
theorem numbered160 (t : ByteArray) (w : World) : (callMethod (.iface 160 (.agg #[.string t])) "lexicon/store.numbered" #[]).run Tryz.prog w = .ok (.enter 397 (#[.agg #[]] ++ #[])) w := by kernel_rfl
theorem kind85 (w : World) : (callMethod (.iface 85 (.agg #[])) "Kind" #[]).run Tryz.prog w = .ok (.enter 398 (#[.agg #[]] ++ #[])) w := by kernel_rfl
theorem kind160 (t : ByteArray) (w : World) : (callMethod (.iface 160 (.agg #[.string t])) "Kind" #[]).run Tryz.prog w = .ok (.enter 409 (#[.agg #[.string t]] ++ #[])) w := by kernel_rfl

theorem C397 (w : World) : Calls Tryz.prog 397 #[.agg #[]] w fun e w' => e = .returned (.int .i64 0) ∧ Keep No w w' := by
  refine ret_mono (V397_sound w (fun r w' => r = .int .i64 0 ∧ Keep No w w') ?_) (by rintro _ _ ⟨rfl, h⟩; exact ⟨rfl, h⟩)
  unfold V397
  exact newK_of fun b w1 _ _ hk => ⟨rfl, hk⟩
theorem C398 (w : World) : Calls Tryz.prog 398 #[.agg #[]] w fun e w' => e = .returned (.int .i64 1) ∧ Keep No w w' := by
  refine ret_mono (V398_sound w (fun r w' => r = .int .i64 1 ∧ Keep No w w') ?_) (by rintro _ _ ⟨rfl, h⟩; exact ⟨rfl, h⟩)
  unfold V398
  exact newK_of fun b w1 _ _ hk => ⟨rfl, hk⟩
theorem C409 (t : ByteArray) (w : World) : Calls Tryz.prog 409 #[.agg #[.string t]] w fun e w' => e = .returned (.int .i64 4) ∧ Keep No w w' := by
  refine ret_mono (V409_sound t w (fun r w' => r = .int .i64 4 ∧ Keep No w w') ?_) (by rintro _ _ ⟨rfl, h⟩; exact ⟨rfl, h⟩)
  unfold V409
  exact newK_of fun b w1 _ _ hk => ⟨rfl, hk⟩

section
variable {w : World} {s B : Nat} {S : St} {i : Nat}
/-- Object of a row: the row. -/
theorem C48_row (h : StAt w s B S) {r : Nat} (hx : S.vals[i]? = some (.iface 94 (.pointer (some ⟨r, 0, none⟩)))) {n : Int} {rest : List Value} (hr : Blk w r 100 (.int .i64 n :: rest)) (hn : n ≠ 0) :
    Calls Tryz.prog 48 #[.pointer (some ⟨s, 0, none⟩), .int .i64 i] w fun e w' => e = .returned (.iface 94 (.pointer (some ⟨r, 0, none⟩))) ∧ Keep No w w' := by
  refine ret_mono (V48_sound _ _ w (fun v w' => v = .iface 94 (.pointer (some ⟨r, 0, none⟩)) ∧ Keep No w w') ?_) (by rintro _ _ ⟨rfl, h⟩; exact ⟨rfl, h⟩)
  unfold V48
  refine (C41_in h hx).mono ?_
  rintro _ w1 ⟨rfl, rfl⟩
  refine ⟨_, rfl, ?_⟩
  rw [eqNilI_iface]
  refine bsel_neg rfl (inv_numbered80 (hr.cell rfl) fun w2 hk2 => ⟨_, rfl, bsel_neg (by simpa using hn) ⟨rfl, hk2⟩⟩)
/-- Object of None, of a str: none. -/
theorem C48_none (h : StAt w s B S) (hx : S.vals[i]? = some (.iface 85 (.agg #[]))) :
    Calls Tryz.prog 48 #[.pointer (some ⟨s, 0, none⟩), .int .i64 i] w fun e w' => e = .returned .nilIface ∧ Keep No w w' := by
  refine ret_mono (V48_sound _ _ w (fun v w' => v = .nilIface ∧ Keep No w w') ?_) (by rintro _ _ ⟨rfl, h⟩; exact ⟨rfl, h⟩)
  unfold V48
  refine (C41_in h hx).mono ?_
  rintro _ w1 ⟨rfl, rfl⟩
  refine ⟨_, rfl, ?_⟩
  rw [eqNilI_iface]
  refine bsel_neg rfl ⟨397, .agg #[], numbered85 _, (C397 _).mono ?_⟩
  rintro _ w2 ⟨rfl, hk2⟩
  refine ⟨_, rfl, bsel_pos rfl ⟨398, .agg #[], kind85 _, (C398 _).mono ?_⟩⟩
  rintro _ w3 ⟨rfl, hk3⟩
  exact ⟨_, rfl, bsel_pos rfl ⟨rfl, hk2.no hk3⟩⟩
theorem C48_str (h : StAt w s B S) {t : ByteArray} (hx : S.vals[i]? = some (.iface 160 (.agg #[.string t]))) :
    Calls Tryz.prog 48 #[.pointer (some ⟨s, 0, none⟩), .int .i64 i] w fun e w' => e = .returned .nilIface ∧ Keep No w w' := by
  refine ret_mono (V48_sound _ _ w (fun v w' => v = .nilIface ∧ Keep No w w') ?_) (by rintro _ _ ⟨rfl, h⟩; exact ⟨rfl, h⟩)
  unfold V48
  refine (C41_in h hx).mono ?_
  rintro _ w1 ⟨rfl, rfl⟩
  refine ⟨_, rfl, ?_⟩
  rw [eqNilI_iface]
  refine bsel_neg rfl ⟨397, .agg #[], numbered160 _ _, (C397 _).mono ?_⟩
  rintro _ w2 ⟨rfl, hk2⟩
  refine ⟨_, rfl, bsel_pos rfl ⟨409, .agg #[.string t], kind160 _ _, (C409 _ _).mono ?_⟩⟩
  rintro _ w3 ⟨rfl, hk3⟩
  exact ⟨_, rfl, bsel_pos rfl ⟨rfl, hk2.no hk3⟩⟩
/-- Tag of None. -/
theorem C34_None (h : StAt w s B S) (hx : S.vals[i]? = some (.iface 85 (.agg #[]))) :
    Calls Tryz.prog 34 #[.pointer (some ⟨s, 0, none⟩), .int .i64 i] w fun e w' => e = .returned (.string ⟨#[78, 111, 110, 101]⟩) ∧ Keep No w w' := by
  refine ret_mono (V34_sound _ _ w (fun r w' => r = .string ⟨#[78, 111, 110, 101]⟩ ∧ Keep No w w') ?_) (by rintro _ _ ⟨rfl, h⟩; exact ⟨rfl, h⟩)
  unfold V34
  refine (C41_in h hx).mono ?_
  rintro _ w1 ⟨rfl, rfl⟩
  refine ⟨_, rfl, ?_⟩
  rw [eqNilI_iface]
  exact bsel_neg rfl ⟨_, yes70 _ _, bsel_pos rfl (newK_of fun b w2 _ _ hk => ⟨rfl, hk⟩)⟩
/-- Text. -/
theorem C44_str (h : StAt w s B S) {t : ByteArray} (hx : S.vals[i]? = some (.iface 160 (.agg #[.string t]))) :
    Calls Tryz.prog 44 #[.pointer (some ⟨s, 0, none⟩), .int .i64 i] w fun e w' => e = .returned (.tuple #[.string t, .bool true]) ∧ Keep No w w' := by
  refine ret_mono (V44_sound _ _ w (fun r w' => r = .tuple #[.string t, .bool true] ∧ Keep No w w') ?_) (by rintro _ _ ⟨rfl, h⟩; exact ⟨rfl, h⟩)
  unfold V44
  refine (C41_in h hx).mono ?_
  rintro _ w1 ⟨rfl, rfl⟩
  refine ⟨_, rfl, _, _, yes96 _ _, newK_of fun b w2 hs hb hk => stK_add hb (by simp) fun w3 hb3 hk3 => ⟨_, hb3.add 0 rfl, rfl, hk.news hk3 (by rintro k rfl; omega)⟩⟩
theorem C44_no (h : StAt w s B S) {u : TypeId} {v : Value} (hx : S.vals[i]? = some (.iface u v)) (hu : u ≠ 160) :
    Calls Tryz.prog 44 #[.pointer (some ⟨s, 0, none⟩), .int .i64 i] w fun e w' => e = .returned (.tuple #[.string ⟨#[]⟩, .bool false]) ∧ Keep No w w' := by
  refine ret_mono (V44_sound _ _ w (fun r w' => r = .tuple #[.string ⟨#[]⟩, .bool false] ∧ Keep No w w') ?_) (by rintro _ _ ⟨rfl, h⟩; exact ⟨rfl, h⟩)
  unfold V44
  refine (C41_in h hx).mono ?_
  rintro _ w1 ⟨rfl, rfl⟩
  refine ⟨_, rfl, _, _, no96 hu _ _, newK_of fun b w2 hs hb hk => stK_add hb (by simp) fun w3 hb3 hk3 => ⟨_, hb3.add 0 rfl, rfl, hk.news hk3 (by rintro k rfl; omega)⟩⟩
end
end Go.Fw

set_option autoImplicit false
set_option linter.unusedVariables false
namespace Go.Fw
open Go.Proofs Go.RowKit

theorem cntV_mono (ts : List Tm) : ∀ (d i : Nat), i + d ≤ ts.length → cntV ts i ≤ cntV ts (i + d)
  | 0, i, _ => Nat.le_refl _
  | d + 1, i, h => by
    obtain ⟨t, ht⟩ : ∃ t, ts[i + d]? = some t := ⟨_, List.getElem?_eq_getElem (by omega)⟩
    have := cntV_mono ts d i (by omega)
    rw [← Nat.add_assoc, cntV_succ ht]
    omega
theorem refOf_nonneg (ts : List Tm) (i : Nat) : 0 ≤ refOf ts i := by
  unfold refOf
  split
  · split <;> omega
  · omega
theorem refOf_inj {ts : List Tm} {x y : Nat} {t u : Tm} (hx : ts[x]? = some t) (hy : ts[y]? = some u) (ht : t.kind ≠ 1) (h : refOf ts x = refOf ts y) : x = y := by
  have key : ∀ {x y : Nat} {t u : Tm}, ts[x]? = some t → ts[y]? = some u → t.kind ≠ 1 → x < y → refOf ts x ≠ refOf ts y := by
    intro x y t u hx hy ht hlt he
    have hyl := (List.getElem?_eq_some_iff.1 hy).1
    have h1 := cntV_mono ts (y - (x + 1)) (x + 1) (by omega)
    rw [show x + 1 + (y - (x + 1)) = y by omega, cntV_succ hx, if_neg ht] at h1
    unfold refOf at he
    rw [hx, hy] at he
    simp only [if_neg ht] at he
    split at he <;> omega
  have hu : u.kind ≠ 1 := by
    intro hu
    unfold refOf at h
    rw [hx, hy] at h
    simp only [if_neg ht, if_pos hu] at h
    omega
  rcases Nat.lt_trichotomy x y with hlt | he | hlt
  · exact absurd h (key hx hy ht hlt)
  · exact he
  · exact absurd h.symm (key hy hx hu hlt)

/-- What a term's value tells. -/
def svOf (ts : List Tm) (kss : Nat → List Int) (x : Nat) : SV := match ts[x]? with
  | some t => if t.kind = 1 then .leaf noneT else if t.kind = 4 then .leaf [39, 97, 39] else .row (decide (t.kind = 5)) ((kss x).map fun k => (refOf ts k.toNat).toNat)
  | none => .leaf []
open Classical in
noncomputable def grOf (ts : List Tm) (kss : Nat → List Int) (v : Nat) : SV := if h : ∃ x, x < ts.length ∧ (refOf ts x).toNat = v then svOf ts kss h.choose else .leaf []
theorem grOf_at {ts : List Tm} {kss : Nat → List Int} {x : Nat} {t : Tm} (hx : ts[x]? = some t) : grOf ts kss (refOf ts x).toNat = svOf ts kss x := by
  have hxl := (List.getElem?_eq_some_iff.1 hx).1
  have h : ∃ y, y < ts.length ∧ (refOf ts y).toNat = (refOf ts x).toNat := ⟨x, hxl, rfl⟩
  unfold grOf
  rw [dif_pos h]
  obtain ⟨h1, h2⟩ := h.choose_spec
  obtain ⟨u, hu⟩ : ∃ u, ts[h.choose]? = some u := ⟨_, List.getElem?_eq_getElem h1⟩
  have he : refOf ts h.choose = refOf ts x := by have := refOf_nonneg ts h.choose; have := refOf_nonneg ts x; omega
  by_cases ht : t.kind = 1
  · have hu1 : u.kind = 1 := by
      apply Classical.byContradiction
      intro hn
      have := refOf_inj hu hx hn he
      have hu' : ts[x]? = some u := this ▸ hu
      rw [hx] at hu'
      cases hu'
      exact hn ht
    unfold svOf
    rw [hu, hx]
    simp [ht, hu1]
  · exact congrArg (svOf ts kss) (refOf_inj hx hu ht he.symm).symm

/-- Build of simple terms. -/
theorem C13_simple {w0 : World} {s B : Nat} {S : St} {ts : List Tm} {kss : Nat → List Int} {ta : Option Addr} {tc : Nat} (hB : B ≤ w0.heap.size) (hS : S.vals = val0) (hpairs : 0 ≤ S.pairs)
    (h0 : ∃ d, StAt w0 s B { S with due := d, last := 0, live := 0 }) (hts : TermsAt w0 ta ts) (hta : ∀ p, ta = some p → etype w0 p.block = some 42) (hn : ts.length < 1000000)
    (hks : ∀ i t, ts[i]? = some t → KidsAt w0 t (kss i) ∧ (∀ p, t.ka = some p → etype w0 p.block = some 3) ∧ SimpleT ts.length i t (kss i)) :
    Calls Tryz.prog 13 #[.pointer (some ⟨s, 0, none⟩), .slice ta ts.length tc] w0 fun e w' => ∃ v rs own, e = .returned (.tuple #[v, .int .i64 0]) ∧ Sm w0 s B S ts kss ts.length ts.length 0 rs own w' ∧
      w'.ownsRow w0.heap.size 3 1 v ts.length (ints ((List.range ts.length).map (refOf ts))) ∧ Keep (Ty B storeTy w0) w0 w' := by
  refine (C13_gen rfl hts ?_ hn (fun i t ht => by have := (hks i t ht).2.2.kl; omega) ?_ ?_ (sm_laws rfl hB hS hpairs h0 hts hta hn hks)).mono ?_
  · rintro p hp ⟨_, e, he, hm⟩
    rw [hta p hp] at he; cases he; exact absurd hm (by decide)
  · rintro k ⟨_, e, he, _⟩
    unfold etype at he
    rcases Nat.lt_or_ge k w0.heap.size with h | h
    · exact h
    · rw [Array.getElem?_eq_none h] at he; cases he
  · refine ⟨rfl, [], ⟨rfl, Nat.zero_le _⟩, ?_, ?_, ?_, ?_⟩
    · obtain ⟨d, h⟩ := h0
      refine ⟨d, ?_⟩
      have e1 : cntR ts 0 = 0 := rfl
      rw [e1]
      simpa [valsOf, hS] using h
    · intro x t hx hm; omega
    · intro x x' t t' p p' _ _ _ _ hp; simp at hp
    · intro k hk; exact hk.elim
  · rintro _ w' ⟨r, rfl, ⟨i, hi, _, h, _⟩ | ⟨_, refs, own, v, hrl, rfl, ⟨hrefs, rs, hSm⟩, hk, hrow, _⟩⟩
    · exact absurd rfl h
    · exact ⟨v, rs, own, rfl, hSm, by rw [← hrefs]; exact hrow, hk⟩

/-- What show finds. -/
theorem sm_gr {w0 w : World} {s B : Nat} {S : St} {ts : List Tm} {kss : Nat → List Int} {rs : List (Nat × Nat)} {own : Nat → Prop} (h : Sm w0 s B S ts kss ts.length ts.length 0 rs own w)
    (hks : ∀ i t, ts[i]? = some t → (kss i).length = t.kl ∧ SimpleT ts.length i t (kss i)) :
    Gr w (some ⟨s, 0, none⟩) (fun v => ∃ x, x < ts.length ∧ v = (refOf ts x).toNat) (grOf ts kss) := by
  obtain ⟨⟨hrsl, _⟩, ⟨d, h2⟩, h3, h4, h5⟩ := h
  have get : ∀ v, (∃ x, x < ts.length ∧ v = (refOf ts x).toNat) → ∃ x t p, ts[x]? = some t ∧ rs[x]? = some p ∧ v = (refOf ts x).toNat := by
    rintro v ⟨x, hx, rfl⟩
    exact ⟨x, ts[x], rs[x]'(by omega), List.getElem?_eq_getElem hx, List.getElem?_eq_getElem (by omega), rfl⟩
  constructor
  · intro v t hv hg
    obtain ⟨x, u, p, hx, hp, rfl⟩ := get v hv
    rw [grOf_at hx] at hg
    unfold svOf at hg
    rw [hx] at hg
    simp only at hg
    have hval := val_at (ts := ts) (rs := rs) (by omega) hx hp
    split at hg
    · rename_i h1
      cases hg
      rw [if_pos h1] at hval
      exact ⟨by decide, by decide, fun w' hk => C48_none (h2.no hk) hval, fun w' hk => C34_None (h2.no hk) hval⟩
    · rename_i h1
      split at hg
      · rename_i h4
        cases hg
        rw [if_neg h1, if_pos h4] at hval
        exact ⟨by decide, by decide, fun w' hk => C48_str (h2.no hk) hval, fun w' hk => C34_a (h2.no hk) hval⟩
      · cases hg
  · intro v tup kids hv hg
    obtain ⟨x, u, p, hx, hp, rfl⟩ := get v hv
    rw [grOf_at hx] at hg
    unfold svOf at hg
    rw [hx] at hg
    simp only at hg
    have hval := val_at (ts := ts) (rs := rs) (by omega) hx hp
    split at hg
    · cases hg
    · rename_i h1
      split at hg
      · cases hg
      · rename_i h4
        cases hg
        rw [if_neg h1, if_neg h4] at hval
        obtain ⟨k1, k2⟩ := hks x u hx
        have hr : isRow u := by
          rcases k2.kind with h | h | h
          · exact absurd h h1
          · exact absurd h h4
          · exact h
        obtain ⟨r, g, cs, g1, g2, g3, g4, g5, g6, g7⟩ := h3 x u hx (List.getElem?_eq_some_iff.1 hx).1 hr
        rw [hp] at g1; cases g1
        have hkd : (Value.int .i64 u.kind) = .int .i64 (if decide (u.kind = 5) = true then 5 else 6) := by
          congr 1
          by_cases h5 : u.kind = 5
          · simp [h5]
          · have : u.kind = 6 := by unfold isRow at hr; omega
            simp [this]
        have hlim := k2.kids k1
        refine ⟨by simp; have := k2.kl; omega, ?_, r, _, some ⟨g, 0, none⟩, u.kl, by rw [← hkd]; simpa [k1] using g2, ?_, fun w' hk => C48_row (h2.no hk) hval (hk.nblk g2) (by omega)⟩
        · intro k hk
          obtain ⟨kid, hkm, rfl⟩ := List.mem_map.1 hk
          obtain ⟨j, hj⟩ := List.getElem?_of_mem hkm
          have := hlim j kid hj
          have hxl := (List.getElem?_eq_some_iff.1 hx).1
          refine ⟨kid.toNat, ?_, rfl⟩
          have hle : limit ts.length x u ≤ ts.length := by unfold limit; split <;> omega
          omega
        · intro j k hj
          refine ⟨_, rfl, ?_⟩
          obtain ⟨kid, hkid, rfl⟩ : ∃ kid, (kss x)[j]? = some kid ∧ (refOf ts kid.toNat).toNat = k := by simpa using hj
          rw [add_mk]
          have := g7 j kid hkid (.inl (List.getElem?_eq_some_iff.1 hx).1)
          have e : ((refOf ts kid.toNat).toNat : Int) = refOf ts kid.toNat := Int.toNat_of_nonneg (refOf_nonneg _ _)
          rw [e]
          exact g3.cell (by simpa using this)
end Go.Fw

set_option autoImplicit false
set_option linter.unusedVariables false
namespace Go.Fw
open Go.Proofs Go.RowKit

section
variable {w : World} {r B : Nat} {R : RR} {L : List RV} {last : Int} {ta : Option Addr} {tc : Nat} {ts : List Tm}

theorem C184 (h : RSt w r B R L last) (t : ByteArray) (hl : L.length < 5000000) (hB : B ≤ w.heap.size) :
    Calls Tryz.prog 184 #[.pointer (some ⟨r, 0, none⟩), .string t] w fun e w' => e = .returned (.int .i64 L.length) ∧ RSt w' r B R (L ++ [⟨4, 0, false, t, .slice none 0 0, 0, []⟩]) last ∧ Keep (Rfp r B w) w w' := by
  refine ret_mono (V184_sound _ t w (fun x w' => x = .int .i64 L.length ∧ RSt w' r B R (L ++ [⟨4, 0, false, t, .slice none 0 0, 0, []⟩]) last ∧ Keep (Rfp r B w) w w') ?_) (by rintro _ _ ⟨rfl, h⟩; exact ⟨rfl, h⟩)
  unfold V184
  refine (C245 (v := ⟨4, 0, false, t, .slice none 0 0, 0, []⟩) h (World.ownsRow_nil _ _ _ _) (fun _ _ _ _ _ => by simp [Value.ownBlock]) hl hB).mono ?_
  rintro _ w' ⟨rfl, h1, h2⟩
  exact ⟨_, rfl, rfl, h1, h2⟩

/-- What the reference has when simple terms' values are being made: one per term but None; a list's, a tuple's with a number. -/
structure RMade (ts : List Tm) (m : Nat) (L : List RV) (last : Int) (refs : List Int) : Prop where
  refs : refs = (List.range m).map (refOf ts)
  len : L.length = 3 + cntV ts m
  last : last = cntR ts m

/-- The reference's made, of a simple term. -/
theorem C117_simple (h : RSt w r B R L last) (hts : TermsAt w ta ts) {n : Nat} {t : Tm} (ht : ts[n]? = some t) {ks : List Int} (hks : KidsAt w t ks) (hS : SimpleT ts.length n t ks) (hlen : ts.length < 1000000) {refs : List Int} (hM : RMade ts n L last refs)
    {N : Nat} {ov : Value} (ho : w.ownsRow N 3 1 ov n (ints refs)) (hB : B ≤ w.heap.size) :
    Calls Tryz.prog 117 #[.pointer (some ⟨r, 0, none⟩), .slice ta ts.length tc, ov, .int .i64 n] w fun e w' => e = .returned (.int .i64 (refOf ts n)) ∧ (∃ L' last', RSt w' r B R L' last' ∧ RMade ts (n + 1) L' last' (refs ++ [refOf ts n]) ∧ (L' = L ∨ ∃ v : RV, L' = L ++ [v] ∧ v.n ≤ 65536 ∧ ∀ g, v.items.ownBlock = some g → w.heap.size ≤ g)) ∧ Keep (Rfp r B w) w w' := by
  obtain ⟨oa, oc, rfl⟩ := ownsRow_slice ho
  refine ret_mono (V117_sound _ ta ts.length tc oa n oc n w (fun x w' => x = .int .i64 (refOf ts n) ∧ (∃ L' last', RSt w' r B R L' last' ∧ RMade ts (n + 1) L' last' (refs ++ [refOf ts n]) ∧ (L' = L ∨ ∃ v : RV, L' = L ++ [v] ∧ v.n ≤ 65536 ∧ ∀ g, v.items.ownBlock = some g → w.heap.size ≤ g)) ∧ Keep (Rfp r B w) w w') ?_) (by rintro _ _ ⟨rfl, h⟩; exact ⟨rfl, h⟩)
  have hn : n < ts.length := (List.getElem?_eq_some_iff.1 ht).1
  have hkd := hS.kind
  have hkl := hS.kl
  have hcv := cntV_le ts n
  have hcr := cntR_le ts n
  obtain ⟨hrefs, hLl, hla⟩ := hM
  have hrefs' : refs ++ [refOf ts n] = (List.range (n + 1)).map (refOf ts) := by rw [List.range_succ, List.map_append, hrefs]; rfl
  have hV := cntV_succ ht
  have hR := cntR_succ ht
  obtain ⟨p, rfl, hc⟩ := hts _ t ht
  unfold V117
  refine idxK_of hn ⟨_, _, _, _, _, _, _, _, _, _, _, _, hc, termCopy fun c w1 hc1 hk1 hcs => ⟨_, hc1.add 0 rfl, ?_⟩⟩
  have h1 := h.no hk1
  have hsz1 := hk1.size
  by_cases k1 : t.kind = 1
  · refine bsel_pos (by simp [k1]) ⟨?_, ⟨L, last, h1, ⟨hrefs', ?_, ?_⟩, .inl rfl⟩, Keep.of_no hk1⟩
    · unfold refOf; rw [ht]; simp [k1]
    · rw [hLl, hV, if_pos k1]; rfl
    · rw [hla, hR, if_neg (by unfold isRow; omega)]; rfl
  refine bsel_neg (by simp [k1]) (bsel_neg (by simp; omega) (bsel_neg (by simp; omega) ?_))
  have hrv : refOf ts n = L.length := by unfold refOf; rw [ht]; simp [k1, hLl]
  by_cases k4 : t.kind = 4
  · refine bsel_pos (by simp [k4]) ⟨_, hc1.add 4 rfl, (C184 h1 t.text (by omega) (by omega)).mono ?_⟩
    rintro _ w2 ⟨rfl, h2, hk2⟩
    refine ⟨_, rfl, by rw [hrv], ⟨_, _, h2, ⟨hrefs', ?_, ?_⟩, .inr ⟨_, rfl, Nat.zero_le _, fun g hg => by simp [Value.ownBlock] at hg⟩⟩, (Keep.of_no hk1).rfp hk2⟩
    · simp [hLl, hV, k1]; omega
    · rw [hla, hR, if_neg (by unfold isRow; omega)]; rfl
  have hr : isRow t := by unfold isRow; omega
  refine bsel_neg (by simp [k4]) ?_
  by_cases k5 : t.kind = 5
  · refine bsel_pos (by simp [k5]) ?_
    have hkids : ∀ (j : Nat) (k : Int), ks[j]? = some k → 0 ≤ k ∧ k < n := by
      rcases hS with h | h | h | h
      · omega
      · omega
      · exact h.2.2
      · omega
    refine ⟨fun a l c' i w' => 0 ≤ i ∧ i ≤ t.kl ∧ Keep No w1 w' ∧ ∃ xs, w'.ownsRow w1.heap.size 3 1 (.slice a l c') i.toNat xs, fun _ _ _ i _ => (t.kl - i).toNat, ⟨by omega, by omega, Keep.refl _ _, [], World.ownsRow_nil _ _ _ _⟩, ?_⟩
    rintro j a l c' i w2 ⟨hi0, hil, hk2, xs, hrow⟩
    have hc2 := hk2.nblk hc1
    refine ⟨_, _, _, hc2.add 5 rfl, bsel_split (fun hlt => ?_) fun hge => ?_⟩
    · simp at hlt
      obtain ⟨m, rfl⟩ := Int.eq_ofNat_of_zero_le hi0
      obtain ⟨k, hkm⟩ : ∃ k, ks[m]? = some k := ⟨_, List.getElem?_eq_getElem (by have := hks.1; omega)⟩
      obtain ⟨q, hq, hqc⟩ := (hks.no (hk1.no hk2)).2 m k hkm
      obtain ⟨k0, kn⟩ := hkids m k hkm
      obtain ⟨kk, rfl⟩ := Int.eq_ofNat_of_zero_le k0
      obtain ⟨g, cap, hv, hig, hcell⟩ := row_cell ((hk1.no hk2).nrow ho) (i := kk) (x := .int .i64 (refOf ts kk)) (by rw [hrefs]; simp [ints, show kk < n by omega])
      cases hv
      refine ⟨_, _, _, hc2.add 5 rfl, ?_⟩
      rw [hq]
      refine idxK_of (by omega) ⟨kk, by rw [Nat.mul_one]; exact hqc, idxK_of (by omega) ⟨_, by rw [Nat.mul_one, add_mk, Nat.zero_add]; exact hcell, newK_of fun b w3 hs3 hb3 hk3 => ?_⟩⟩
      simp only [Int.toNat_natCast] at hrow
      refine appendRow rowInts (hk3.nrow hrow) hb3 rfl (by omega) (by have := (hk2.no hk3).size; omega) fun g' cap' w4 hrow4 hk4 hat => ?_
      rw [wrap_i64 (by omega)]
      refine ⟨⟨by omega, by omega, (hk2.no hk3).news hk4 (fun k e => (hrow.lt k e).1), xs ++ [.int .i64 (refOf ts kk)], ?_⟩, by simp only; omega⟩
      rw [show ((m : Int) + 1).toNat = m + 1 by omega]
      exact hrow4
    · simp at hge
      obtain rfl : i = t.kl := by omega
      simp only [Int.toNat_natCast] at hrow
      obtain ⟨a', c'', he⟩ := ownsRow_slice hrow
      cases he
      refine ⟨_, hc2.add 0 rfl, (C185 (v := ⟨t.kind, 0, false, ⟨#[]⟩, .slice a t.kl c', t.kl, xs⟩) (h1.no hk2) (ownsRow_mono hrow (by omega)) (fun i u hu g hg hg' => ?_) (by omega) (by have := hk2.size; omega) (by omega)).mono ?_⟩
      · have h8 := ((h1.items i u hu).lt g hg).2
        have h9 := (hrow.lt g hg').1
        omega
      rintro _ w3 ⟨rfl, h3, hk3⟩
      refine ⟨_, rfl, by rw [hrv], ⟨_, _, h3, ⟨hrefs', ?_, ?_⟩, .inr ⟨_, rfl, hkl, fun g hg => ?_⟩⟩, (Keep.of_no (hk1.no hk2)).rfp hk3⟩
      · simp [hLl, hV, k1]; omega
      · rw [hla, hR, if_pos hr]; rfl
      · have := (hrow.lt g hg).1
        omega
  · refine bsel_neg (by simp [k5]) (bsel_pos (by simp; omega) ⟨_, hc1.add 0 rfl, ?_⟩)
    refine (C185 (v := ⟨t.kind, 0, false, ⟨#[]⟩, .slice none 0 0, 0, []⟩) h1 (World.ownsRow_nil _ _ _ _) (fun _ _ _ _ _ => by simp [Value.ownBlock]) (by omega) (by omega) (by omega)).mono ?_
    rintro _ w3 ⟨rfl, h3, hk3⟩
    refine ⟨_, rfl, by rw [hrv], ⟨_, _, h3, ⟨hrefs', ?_, ?_⟩, .inr ⟨_, rfl, Nat.zero_le _, fun g hg => by simp [Value.ownBlock] at hg⟩⟩, (Keep.of_no hk1).rfp hk3⟩
    · simp [hLl, hV, k1]; omega
    · rw [hla, hR, if_pos hr]; rfl
end

def rv0 : List RV := [⟨1, 0, false, ⟨#[]⟩, .slice none 0 0, 0, []⟩, ⟨2, 0, false, ⟨#[]⟩, .slice none 0 0, 0, []⟩, ⟨2, 0, true, ⟨#[]⟩, .slice none 0 0, 0, []⟩]

/-- The reference's New. -/
theorem C65 {pa sh : Int} (h1 : 0 ≤ pa ∧ pa ≤ 65536) (h2 : 0 ≤ sh ∧ sh ≤ 256) (w : World) :
    Calls Tryz.prog 65 #[.agg #[.int .i64 0, .int .i64 pa, .int .i64 sh, .slice none 0 0, .slice none 0 0]] w fun e w' => ∃ r m, e = .returned (.tuple #[.pointer (some ⟨r, 0, none⟩), .int .i64 0]) ∧ RSt w' r w.heap.size ⟨pa, sh, m⟩ rv0 0 ∧ Keep No w w' := by
  refine ret_mono (V65_sound 0 pa sh none 0 0 none 0 0 w (fun x w' => ∃ r m, x = .tuple #[.pointer (some ⟨r, 0, none⟩), .int .i64 0] ∧ RSt w' r w.heap.size ⟨pa, sh, m⟩ rv0 0 ∧ Keep No w w') ?_) (by rintro _ _ ⟨r, m, rfl, h⟩; exact ⟨r, m, rfl, h⟩)
  unfold V65
  refine newK_of fun b w1 hs1 hb1 hk1 => ⟨_, hb1.add 0 rfl, bsel_neg (by decide) ⟨_, hb1.add 0 rfl, bsel_neg (by decide) ⟨_, hb1.add 1 rfl, bsel_neg (by simp; omega) ⟨_, hb1.add 1 rfl, bsel_neg (by simp; omega) ⟨_, hb1.add 2 rfl, bsel_neg (by simp; omega) ⟨_, hb1.add 2 rfl, ?_⟩⟩⟩⟩⟩⟩
  rw [show decide (sh > 256) = false by simp; omega]
  unfold V65J1
  refine bsel_neg rfl ⟨_, _, _, _, _, _, _, _, _, hb1.cells0, newK_of fun m w2 hs2 hb2 hk2 => newK_of fun r w3 hs3 hb3 hk3 => ⟨_, _, _, hb3.add 0 rfl, newK_of fun b4 w4 hs4 hb4 hk4 => ?_⟩⟩
  have hk04 := ((hk1.no hk2).no hk3).no hk4
  have hr4 := hk4.nblk hb3
  obtain ⟨i, z, hi, hz, hsz, hzs, hb0, hb9⟩ := infoVal
  refine appendN (P := Tryz.prog) (t := 218) (e := 226) Tryz.underlying218 hi hz hsz rfl hzs (by decide) (base := w.heap.size) (World.ownsRow_nil _ _ _ _) (m := 3) hb4 rfl ?_ (by decide) (by omega) hb0 hk04.size fun g cap w5 hrow hk5 hat => ?_
  · intro u hu
    have : ∀ l : List Value, l.all (fun v => v.oneCell') = true → ∀ u ∈ l, u.oneCell' = true := fun l h => List.all_eq_true.1 h
    exact this _ (by decide) u hu
  have hk45 : Keep No w4 w5 := hk5.mono fun k _ e => by simp [Value.ownBlock] at e
  have hr5 := hk45.nblk hr4
  refine stK_add hr5 (by simp) fun w6 hr6 hk6 => ⟨r, _, rfl, ⟨⟨_, hr6, ?_⟩, ?_, ?_, by decide, by have := hk1.size; have := hk2.size; omega⟩, (hk04.no hk45).news hk6 (by rintro k rfl; have := hk1.size; have := hk2.size; omega)⟩
  · have := hk6.row hrow fun g' hg' e => ownsRow_ne hrow hr5 (by decide) (e ▸ hg')
    exact this
  · intro j v hj
    have : v.items = .slice none 0 0 ∧ v.n = 0 ∧ v.xs = [] := by
      rcases j with _ | _ | _ | j
      · cases hj; exact ⟨rfl, rfl, rfl⟩
      · cases hj; exact ⟨rfl, rfl, rfl⟩
      · cases hj; exact ⟨rfl, rfl, rfl⟩
      · simp [rv0] at hj
    rw [this.1, this.2.1, this.2.2]
    exact World.ownsRow_nil _ _ _ _
  · intro x y v u _ hx _ g hg
    have : v.items = .slice none 0 0 := by
      rcases x with _ | _ | _ | x
      · cases hx; rfl
      · cases hx; rfl
      · cases hx; rfl
      · simp [rv0] at hx
    rw [this] at hg
    cases hg

theorem cells_at {w : World} {i : Nat} {B : Nat} {lv : Value} {L : List RV} {v : RV} (h : w.ownsRow B 226 22 lv L.length (L.flatMap RV.cells)) (hi : L[i]? = some v) (k : Nat) (hk : k < 22) : ∃ g cap, lv = .slice (some ⟨g, 0, none⟩) L.length cap ∧ i < L.length ∧ w.cell? ⟨g, i * 22 + k, none⟩ = v.cells[k]? := by
  have h1 := flat_get (f := RV.cells) (n := 22) RV.cells_len hk L i v hi
  obtain ⟨x, hx⟩ : ∃ x, v.cells[k]? = some x := ⟨_, List.getElem?_eq_getElem (by rw [RV.cells_len]; exact hk)⟩
  rw [hx] at h1 ⊢
  obtain ⟨g, cap, hv, _, hc, _⟩ := row_at h h1
  exact ⟨g, cap, hv, (List.getElem?_eq_some_iff.1 hi).1, hc⟩

/-- What the reference's Build may turn beyond a made value: rows of kids. -/
theorem C66_simple {w0 : World} {r B : Nat} {R : RR} {ta : Option Addr} {tc : Nat} {ts : List Tm} {kss : Nat → List Int} (h : RSt w0 r B R rv0 0) (hB : B ≤ w0.heap.size) (hts : TermsAt w0 ta ts) (hta : ∀ p, ta = some p → etype w0 p.block = some 42) (hn : ts.length < 1000000)
    (hks : ∀ i t, ts[i]? = some t → KidsAt w0 t (kss i) ∧ (∀ p, t.ka = some p → etype w0 p.block = some 3) ∧ SimpleT ts.length i t (kss i)) :
    Calls Tryz.prog 66 #[.pointer (some ⟨r, 0, none⟩), .slice ta ts.length tc] w0 fun e w' => ∃ a c, e = .returned (.tuple #[.slice a ts.length c, .int .i64 0]) ∧ Keep (Rfp r B w0) w0 w' := by
  refine ret_mono (V66_sound _ ta ts.length tc w0 (fun x w' => ∃ a c, x = .tuple #[.slice a ts.length c, .int .i64 0] ∧ Keep (Rfp r B w0) w0 w') ?_) (by rintro _ _ ⟨a, c, rfl, h⟩; exact ⟨a, c, rfl, h⟩)
  -- the terms' own memory is not turned
  have hfar : ∀ {w : World}, Keep (Rfp r B w0) w0 w → TermsAt w ta ts ∧ ∀ i t, ts[i]? = some t → KidsAt w t (kss i) := by
    intro w hk
    refine ⟨hts.keep hk fun p hp e => ?_, fun i t ht => ?_⟩
    · have h42 := hta p hp
      rcases e with e | ⟨_, e⟩
      · rw [e, h.etype] at h42; cases h42
      · rw [h42] at e; cases e
    · obtain ⟨k1, k2, _⟩ := hks i t ht
      refine ⟨k1.1, fun j k hj => ?_⟩
      obtain ⟨q, hq, hc⟩ := k1.2 j k hj
      have h3 := k2 q hq
      refine ⟨q, hq, hk.cell hc fun e => ?_⟩
      rw [add_block] at e
      rcases e with e | ⟨_, e⟩
      · rw [e, h.etype] at h3; cases h3
      · rw [h3] at e; cases e
  unfold V66
  refine ⟨fun i w => 0 ≤ i ∧ i ≤ ts.length ∧ Keep No w0 w, fun i _ => (ts.length - i).toNat, ⟨by omega, by omega, Keep.refl _ _⟩, ?_⟩
  rintro j0 i w ⟨hi0, hin, hk⟩
  refine bsel_split (fun hlt => ?_) fun hge => ?_
  · simp at hlt
    obtain ⟨n, rfl⟩ := Int.eq_ofNat_of_zero_le hi0
    obtain ⟨t, ht⟩ : ∃ t, ts[n]? = some t := ⟨_, List.getElem?_eq_getElem (by omega)⟩
    obtain ⟨k1, k2, k3⟩ := hks n t ht
    obtain ⟨⟨lv, hr, _⟩, _⟩ := h.no hk
    rw [nilK_some]
    refine ⟨R.pairs, by simpa [add_mk] using hr.cell (o := 3) rfl, ?_⟩
    refine (C116_simple (hts.no hk) ht (k1.no hk) k3 R.pairs hn).mono ?_
    rintro _ w' ⟨rfl, hk'⟩
    refine ⟨_, rfl, bsel_neg rfl ?_⟩
    rw [wrap_i64 (by omega)]
    exact ⟨⟨by omega, by omega, hk.no hk'⟩, by simp only; omega⟩
  clear hi0 hin hge i j0
  refine ⟨fun a n c i w' => 0 ≤ i ∧ i ≤ ts.length ∧ ∃ L last refs, RSt w' r B R L last ∧ RMade ts i.toNat L last refs ∧ w'.ownsRow w0.heap.size 3 1 (.slice a n c) i.toNat (ints refs) ∧ Keep (Rfp r B w0) w0 w' ∧
      (∀ (x : Nat) (v : RV), L[x]? = some v → ∀ g, v.items.ownBlock = some g → w0.heap.size ≤ g ∧ (Value.slice a n c).ownBlock ≠ some g) ∧ (∀ (x : Nat) (v : RV), L[x]? = some v → v.n ≤ 65536), fun _ _ _ i _ => (ts.length - i).toNat,
    ⟨by omega, by omega, rv0, 0, [], h.no hk, ⟨rfl, rfl, rfl⟩, World.ownsRow_nil _ _ _ _, Keep.of_no hk, ?_, ?_⟩, ?_⟩
  · intro x v hx g hg
    have : v.items = .slice none 0 0 := by
      rcases x with _ | _ | _ | x
      · cases hx; rfl
      · cases hx; rfl
      · cases hx; rfl
      · simp [rv0] at hx
    rw [this] at hg
    cases hg
  · intro x v hx
    rcases x with _ | _ | _ | x
    · cases hx; decide
    · cases hx; decide
    · cases hx; decide
    · simp [rv0] at hx
  clear hk w
  rintro j0 oa on oc i w ⟨hi0, hin, L, last, refs, hR, hM, hrow, hk, hap, hbd⟩
  refine bsel_split (fun hlt => ?_) fun hge => ?_
  · simp at hlt
    obtain ⟨n, rfl⟩ := Int.eq_ofNat_of_zero_le hi0
    simp only [Int.toNat_natCast] at hM hrow
    obtain ⟨t, ht⟩ : ∃ t, ts[n]? = some t := ⟨_, List.getElem?_eq_getElem (by omega)⟩
    obtain ⟨_, _, k3⟩ := hks n t ht
    obtain ⟨hts', hks'⟩ := hfar hk
    have e1 : on = n := by obtain ⟨a', c', he⟩ := ownsRow_slice hrow; cases he; rfl
    subst on
    refine (C117_simple hR hts' ht (hks' n t ht) k3 hn hM hrow (by have := hk.size; omega)).mono ?_
    rintro _ w2 ⟨rfl, ⟨L', last', hR2, hM2, hL'⟩, hk2⟩
    have hgr := hR.ge
    have hrfp : ∀ {w : World} {e : TypeId} {q : Value} {n size : Nat} {xs : List Value} {B' : Nat} {L : List RV} {last : Int}, RSt w r B R L last → w.ownsRow B' e size q n xs → e ≠ 220 → e ≠ 226 → ∀ g, q.ownBlock = some g → ¬ Rfp r B w g := by
      intro w e q n size xs B' L last hR hq h1 h2 g hg hf
      have h3 := ownsRow_etype hq hg
      rcases hf with rfl | ⟨_, hf⟩
      · rw [hR.etype] at h3; cases h3; exact h1 rfl
      · rw [hf] at h3; cases h3; exact h2 rfl
    have hrow2 := hk2.row hrow (hrfp hR hrow (by decide) (by decide))
    refine ⟨_, rfl, newK_of fun b w3 hs3 hb3 hk3 => ?_⟩
    have hk03 := (hk.rfp hk2).no hk3
    refine appendRow rowInts (hk3.nrow hrow2) hb3 rfl (by omega) (by have := hk03.size; omega) fun g cap w4 hrow4 hk4 hat => ?_
    rw [wrap_i64 (by omega)]
    have hsz := hk2.size
    have hsz3 := hk3.size
    have hap2 : ∀ (x : Nat) (v : RV), L'[x]? = some v → ∀ g', v.items.ownBlock = some g' → w0.heap.size ≤ g' ∧ (Value.slice oa n oc).ownBlock ≠ some g' := by
      intro x v hx g' hg'
      rcases hL' with rfl | ⟨u, rfl, _, hu⟩
      · exact hap x v hx g' hg'
      · by_cases hxl : x < L.length
        · rw [List.getElem?_append_left hxl] at hx
          exact hap x v hx g' hg'
        · rw [List.getElem?_append_right (by omega)] at hx
          have : x - L.length = 0 := by
            have := (List.getElem?_eq_some_iff.1 hx).1
            simp at this; omega
          rw [this] at hx
          simp at hx
          subst hx
          have h1 := hu g' hg'
          have h3 := hk.size
          refine ⟨by omega, fun hc => ?_⟩
          have h2 := (hrow.lt g' hc).2
          omega
    have hR4 : RSt w4 r B R L' last' := by
      obtain ⟨⟨lv, q1, q2⟩, q3, q4, q5, q6⟩ := hR2.no hk3
      refine ⟨⟨lv, hk4.blk q1 fun e => ownsRow_ne (hk3.nrow hrow2) q1 (by decide) e, hk4.row q2 fun g' hg' e => ownsRow_ne2 (hk3.nrow hrow2) q2 (by decide) g' e hg'⟩, fun x v hx => hk4.row (q3 x v hx) fun g' hg' e => (hap2 x v hx g' hg').2 e, q4, q5, q6⟩
    refine ⟨⟨by omega, by omega, L', last', refs ++ [refOf ts n], hR4, ?_, ?_, ?_, ?_, ?_⟩, by simp only; omega⟩
    · rw [show ((n : Int) + 1).toNat = n + 1 by omega]; exact hM2
    · rw [show ((n : Int) + 1).toNat = n + 1 by omega]
      simpa [ints] using hrow4
    · refine hk03.trans hk4 fun k hk' e => ?_
      have := (hrow.lt k e).1
      omega
    · intro x v hx g' hg'
      refine ⟨(hap2 x v hx g' hg').1, fun hc => ?_⟩
      have hgg : g = g' := by simpa [Value.ownBlock] using hc
      subst hgg
      rcases hat with h | h
      · exact (hap2 x v hx g hg').2 h
      · have := ((hR2.items x v hx).lt g hg').2
        omega
    · intro x v hx
      rcases hL' with rfl | ⟨u, rfl, hu, _⟩
      · exact hbd x v hx
      · by_cases hxl : x < L.length
        · rw [List.getElem?_append_left hxl] at hx
          exact hbd x v hx
        · rw [List.getElem?_append_right (by omega)] at hx
          have : x - L.length = 0 := by
            have := (List.getElem?_eq_some_iff.1 hx).1
            simp at this; omega
          rw [this] at hx
          simp at hx
          subst hx
          exact hu
  simp at hge
  obtain rfl : i = ts.length := by omega
  simp only [Int.toNat_natCast] at hM hrow
  have e1 : on = ts.length := by obtain ⟨a', c', he⟩ := ownsRow_slice hrow; cases he; rfl
  subst on
  clear hi0 hin hge j0
  have hLl : L.length = 3 + cntV ts ts.length := hM.len
  refine ⟨fun i w' => 0 ≤ i ∧ i ≤ ts.length ∧ ∃ L2, RSt w' r B R L2 last ∧ L2.length = L.length ∧ w'.ownsRow w0.heap.size 3 1 (.slice oa ts.length oc) ts.length (ints refs) ∧ Keep (Rfp r B w0) w0 w' ∧
      (∀ (x : Nat) (v : RV), L2[x]? = some v → ∀ g, v.items.ownBlock = some g → w0.heap.size ≤ g ∧ (Value.slice oa ts.length oc).ownBlock ≠ some g) ∧ (∀ (x : Nat) (v : RV), L2[x]? = some v → (v.n : Int) ≤ 65536 * (i + 1)), fun i _ => (ts.length - i).toNat, ⟨by omega, by omega, L, hR, rfl, hrow, hk, hap, fun x v hx => by have := hbd x v hx; omega⟩, ?_⟩
  clear hk hrow hR hap hbd w
  rintro j0 i w ⟨hi0, hin, L1, hR, hL1, hrow, hk, hap, hbd⟩
  refine bsel_split (fun hlt => ?_) fun hge => ?_
  · simp at hlt
    obtain ⟨n, rfl⟩ := Int.eq_ofNat_of_zero_le hi0
    have hnl : n < ts.length := by omega
    obtain ⟨t, ht⟩ : ∃ t, ts[n]? = some t := ⟨_, List.getElem?_eq_getElem hnl⟩
    obtain ⟨_, _, kS⟩ := hks n t ht
    obtain ⟨hts1, hks1⟩ := hfar hk
    obtain ⟨p, hp, hc⟩ := hts1 n t ht
    subst hp
    have ew : IntKind.wrap .i64 ((n : Int) + 1) = (n : Int) + 1 := wrap_i64 (by omega)
    rw [ew]
    refine idxK_of hnl ⟨_, hc.get 0 rfl, bsel_split (fun h6 => ?_) fun h6 => ⟨⟨by omega, by omega, L1, hR, hL1, hrow, hk, hap, fun x v hx => by have := hbd x v hx; omega⟩, by simp only; omega⟩⟩
    have h6 : t.kind = 6 := by simpa using h6
    refine ⟨fun j w' => 0 ≤ j ∧ j ≤ t.kl ∧ ∃ L2, RSt w' r B R L2 last ∧ L2.length = L.length ∧ w'.ownsRow w0.heap.size 3 1 (.slice oa ts.length oc) ts.length (ints refs) ∧ Keep (Rfp r B w0) w0 w' ∧
      (∀ (x : Nat) (v : RV), L2[x]? = some v → ∀ g, v.items.ownBlock = some g → w0.heap.size ≤ g ∧ (Value.slice oa ts.length oc).ownBlock ≠ some g) ∧ (∀ (x : Nat) (v : RV), L2[x]? = some v → (v.n : Int) ≤ 65536 * (n + 1) + j), fun j _ => (t.kl - j).toNat, ⟨by omega, by omega, L1, hR, hL1, hrow, hk, hap, fun x v hx => by have := hbd x v hx; omega⟩, ?_⟩
    clear hk hrow hR hap hbd hc hts1 hks1 hL1 L1
    rintro j1 j w ⟨hj0, hjl, L2, hR, hL2, hrow, hk, hap, hbd⟩
    obtain ⟨hts1, hks1⟩ := hfar hk
    obtain ⟨_, hp, hc⟩ := hts1 n t ht
    cases hp
    refine idxK_of hnl ⟨_, _, _, hc.get 5 rfl, bsel_split (fun hlt2 => ?_) fun hge2 => ⟨⟨by omega, by omega, L2, hR, hL2, hrow, hk, hap, fun x v hx => by have := hbd x v hx; have := kS.kl; omega⟩, by simp only; omega⟩⟩
    simp at hlt2
    obtain ⟨m, rfl⟩ := Int.eq_ofNat_of_zero_le hj0
    have hkd := hk.drew
    have hRd := hR.no (Keep.drawn w)
    have hrowd := (Keep.drawn w).nrow hrow
    obtain ⟨hts2, hks2⟩ := hfar hkd
    obtain ⟨_, hp, hcd⟩ := hts2 n t ht
    cases hp
    obtain ⟨⟨lv, hr1, hrow1⟩, hit1, hapt1, hsm1, hge1⟩ := id hRd
    obtain ⟨k, hkm⟩ : ∃ k, (kss n)[m]? = some k := ⟨_, List.getElem?_eq_getElem (by have := (hks1 n t ht).1; omega)⟩
    obtain ⟨q, hq, hqc⟩ := (hks2 n t ht).2 m k hkm
    have hlim := kS.kids (hks1 n t ht).1 m k hkm
    have hle : limit ts.length n t ≤ ts.length := by unfold limit; split <;> omega
    obtain ⟨kk, rfl⟩ := Int.eq_ofNat_of_zero_le hlim.1
    -- the list's own place
    have hk1 : t.kind ≠ 1 := by omega
    have hxv : refOf ts n = ((3 + cntV ts n : Nat) : Int) := by unfold refOf; rw [ht]; simp [hk1]
    have hcm := cntV_mono ts (ts.length - (n + 1)) (n + 1) (by omega)
    rw [show n + 1 + (ts.length - (n + 1)) = ts.length by omega, cntV_succ ht, if_neg hk1] at hcm
    generalize hx : 3 + cntV ts n = x at *
    have hxl : x < L2.length := by omega
    obtain ⟨v, hv⟩ : ∃ v, L2[x]? = some v := ⟨_, List.getElem?_eq_getElem hxl⟩
    obtain ⟨go, co, hgo, _, hcell⟩ := row_cell hrowd (i := n) (x := .int .i64 (refOf ts n)) (by rw [hM.refs]; simp [ints, hnl])
    obtain ⟨go', co', hgo', _, hcellk⟩ := row_cell hrowd (i := kk) (x := .int .i64 (refOf ts kk)) (by rw [hM.refs]; simp [ints, show kk < ts.length by omega])
    cases hgo
    cases hgo'
    obtain ⟨gl, cl, hlv, _, hcl⟩ := cells_at (B := B) hrow1 hv 7 (by decide)
    subst hlv
    obtain ⟨ia, ic, hvi⟩ := ownsRow_slice (hit1 x v hv)
    have hcl7 : w.drew.cell? ⟨gl, x * 22 + 7, none⟩ = some (.slice ia v.n ic) := by rw [hcl]; simp [RV.cells, hvi]
    have hcellv : w.drew.cell? ⟨go, n, none⟩ = some (.int .i64 (x : Nat)) := by rw [hcell, hxv]
    rw [nilK_some]
    refine ⟨_, _, _, hr1.add 0 rfl, idxK_of hnl ⟨(x : Nat), by rw [Nat.mul_one, add_mk, Nat.zero_add]; exact hcellv, ?_⟩⟩
    rw [nilK_some]
    refine ⟨_, _, _, hr1.add 0 rfl, idxK_of hnl ⟨(x : Nat), by rw [Nat.mul_one, add_mk, Nat.zero_add]; exact hcellv, idxK_of hxl ⟨ia, v.n, ic, by rw [add_mk, add_mk, Nat.zero_add]; exact hcl7, ?_⟩⟩⟩
    refine idxK_of hnl ⟨_, _, _, hcd.get 5 rfl, ?_⟩
    rw [hq]
    refine idxK_of (by omega) ⟨kk, by rw [Nat.mul_one]; exact hqc, idxK_of (by omega) ⟨_, by rw [Nat.mul_one, add_mk, Nat.zero_add]; exact hcellk, newK_of fun b w3 hs3 hb3 hk3 => ?_⟩⟩
    have hcellv3 := hk3.cell hcellv id
    have hr3 := hk3.nblk hr1
    refine ⟨by rw [add_mk, add_mk, Nat.zero_add]; exact hk3.cell hcl7 id, by rw [Nat.mul_one, add_mk, Nat.zero_add]; exact hcellv3, hr3.add 0 rfl, by rw [Nat.mul_one, add_mk, Nat.zero_add]; exact hcellv3, hr3.add 0 rfl, ?_⟩
    have hiv : w3.ownsRow B 3 1 (.slice ia v.n ic) v.n v.xs := by
      have := hk3.nrow (hit1 x v hv)
      rwa [hvi] at this
    have hsz3 : w0.heap.size ≤ w3.heap.size := (hkd.no hk3).size
    have hib : ∀ g', (Value.slice ia v.n ic).ownBlock = some g' → w0.heap.size ≤ g' ∧ (Value.slice (some ⟨go, 0, none⟩) ts.length oc).ownBlock ≠ some g' := by
      intro g' hg'
      rw [← hvi] at hg'
      exact hap x v hv g' hg'
    have hvn := hbd x v hv
    have hkl9 := kS.kl
    refine appendRow rowInts hiv hb3 rfl (by omega) (by omega) fun g cap w4 hrow4 hk4 hat => ?_
    have hrow3 := hk3.nrow hrowd
    have hrl3 := hk3.nrow hrow1
    have hk4o : ∀ g', (Value.slice (some ⟨go, 0, none⟩) ts.length oc).ownBlock = some g' → (Value.slice ia v.n ic).ownBlock ≠ some g' := fun g' h1 h2 => (hib g' h2).2 h1
    have hcell4 : w4.cell? ⟨go, n, none⟩ = some (.int .i64 (x : Nat)) := hk4.cell hcellv3 fun e => hk4o go rfl e
    have hr4 := hk4.blk hr3 fun e => ownsRow_ne hiv hr3 (by decide) e
    refine ⟨by rw [Nat.mul_one, add_mk, Nat.zero_add]; exact hcell4, hr4.add 0 rfl, idxK_of hxl ?_⟩
    rw [add_mk, add_mk, Nat.zero_add]
    have hrl4 := hk4.row hrl3 fun g' hg' e => ownsRow_ne2 hiv hrl3 (by decide) g' e hg'
    have hlen7 : (L2.flatMap RV.cells)[x * 22 + 7]? = some v.items := by rw [flat_get (f := RV.cells) (n := 22) RV.cells_len (by decide) L2 x v hv]; rfl
    refine stRow hrl4 hlen7 fun w5 hrl5 hk5 => ?_
    let v' : RV := { v with items := .slice (some ⟨g, 0, none⟩) (v.n + 1) cap, n := v.n + 1, xs := v.xs ++ [.int .i64 (refOf ts kk)] }
    have hset := flat_set (f := RV.cells) (n := 22) RV.cells_len (k := 7) (by decide) (u := .slice (some ⟨g, 0, none⟩) (v.n + 1) cap) L2 x v v' hv rfl
    rw [hset] at hrl5
    have e226 : ∀ {q : Value} {n' size : Nat} {xs : List Value} {B' : Nat}, w4.ownsRow B' 3 size q n' xs → ∀ g', q.ownBlock = some g' → g' ≠ gl := by
      intro q n' size xs B' hq g' hg' e
      have h1 := ownsRow_etype hq hg'
      have h2 := ownsRow_etype hrl4 (g := gl) rfl
      rw [e, h2] at h1; cases h1
    have hrow4' := hk4.row hrow3 fun g' hg' e => hk4o g' hg' e
    have hrg : r ≠ gl := by
      intro e
      have h2 := ownsRow_etype hrl4 (g := gl) rfl
      rw [← e, hr4.etype] at h2; cases h2
    have hR5 : RSt w5 r B R (L2.set x v') last := by
      refine ⟨⟨_, hk5.blk hr4 fun e => hrg e, by simpa using hrl5⟩, ?_, ?_, by simpa using hsm1, hge1⟩
      · intro y u hy
        rw [List.getElem?_set] at hy
        split at hy
        · rename_i hxy
          subst hxy
          cases hy
          exact hk5.row (ownsRow_mono hrow4 (Nat.le_refl _)) fun g' hg' e => e226 hrow4 g' hg' e
        · rename_i hxy
          have hq := hk3.nrow (hit1 y u hy)
          have hq4 := hk4.row hq fun g' hg' e => hapt1 x y v u hxy hv hy g' (by rw [hvi]; exact e) hg'
          exact hk5.row hq4 fun g' hg' e => e226 hq4 g' hg' e
      · have hnew : ∀ (y : Nat) (u : RV), x ≠ y → L2[y]? = some u → ∀ g', v'.items.ownBlock = some g' → u.items.ownBlock ≠ some g' := by
          intro y u hxy hy g' hg' hc
          have hgg : g = g' := by simpa [v', Value.ownBlock] using hg'
          subst hgg
          rcases hat with h | h
          · exact hapt1 x y v u hxy hv hy g (by rw [hvi]; exact h) hc
          · have := ((hit1 y u hy).lt g hc).2
            have := hk3.size
            omega
        intro y z u u' hyz hy hz g' hg'
        rw [List.getElem?_set] at hy hz
        split at hy
        · rename_i hxy
          subst hxy
          cases hy
          rw [if_neg hyz] at hz
          exact hnew z u' hyz hz g' hg'
        · rename_i hxy
          split at hz
          · rename_i hxz
            subst hxz
            cases hz
            exact fun hc => hnew y u hxy hy g' hc hg'
          · exact hapt1 y z u u' hyz hy hz g' hg'
    have ewm : IntKind.wrap .i64 ((m : Int) + 1) = (m : Int) + 1 := wrap_i64 (by omega)
    rw [ewm]
    have hgl : B ≤ gl := (hrow1.lt gl rfl).1
    refine ⟨⟨by omega, by omega, L2.set x v', hR5, by simpa using hL2, hk5.row hrow4' fun g' hg' e => e226 hrow4' g' hg' e, ?_, ?_, ?_⟩, by simp only; omega⟩
    · refine ((hkd.no hk3).trans hk4 fun k hk' e => ?_).trans hk5 fun k hk' e => ?_
      · have := (hib k e).1; omega
      · subst e
        refine .inr ⟨hgl, ?_⟩
        have h2 := ownsRow_etype hrow1 (g := k) rfl
        have hkk : Keep (Rfp r B w0) w0 w.drew := hkd
        by_cases hf : Rfp r B w0 k
        · rcases hf with hf | ⟨_, hf⟩
          · subst hf; rw [hr1.etype] at h2; cases h2
          · exact hf
        · unfold etype at h2 ⊢
          rw [← hkk.block k hk' hf]
          exact h2
    · intro y u hy g' hg'
      rw [List.getElem?_set] at hy
      split at hy
      · rename_i hxy
        subst hxy
        cases hy
        have hgg : g = g' := by simpa [v', Value.ownBlock] using hg'
        subst hgg
        rcases hat with h | h
        · exact hib g h
        · refine ⟨by omega, fun hc => ?_⟩
          have := (hrow3.lt g hc).2
          omega
      · exact hap y u hy g' hg'
    · intro y u hy
      rw [List.getElem?_set] at hy
      split at hy
      · rename_i hxy
        subst hxy
        cases hy
        show ((v.n + 1 : Nat) : Int) ≤ _
        omega
      · have := hbd y u hy; omega
  · simp at hge
    obtain rfl : i = ts.length := by omega
    exact ⟨_, _, rfl, hk⟩
end Go.Fw
