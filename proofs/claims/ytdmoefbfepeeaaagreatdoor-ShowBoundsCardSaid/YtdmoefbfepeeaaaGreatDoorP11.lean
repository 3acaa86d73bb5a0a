/- Part of a proof over the given program: texts of lemmas (conditions: none beyond each lemma as stated). -/
import Derived.Test.YtdmoefbfepeeaaaGreatDoorP10
import Derived.Laws.Cover4
set_option linter.unnecessarySimpa false
set_option linter.unusedVariables false
set_option linter.unusedSimpArgs false

set_option autoImplicit false
set_option linter.unusedVariables false
namespace Go.Fw
open Go.Proofs Go.RowKit

theorem info21 : ∃ i, Tryz.prog.info? 21 = some i ∧ i.zero = some (.int .i32 0) ∧ i.size = 1 ∧ i.bytes = 4 := by
  obtain ⟨i, hi, hj⟩ := Option.map_eq_some_iff.1 (show (Tryz.prog.info? 21).map (fun i => (i.zero, i.size, i.bytes)) = some (some (.int .i32 0), 1, 4) by kernel_rfl)
  simp at hj
  exact ⟨i, hi, hj⟩

/-- The reference's pieces of "a". -/
theorem C242_a (w : World) : Calls Tryz.prog 242 #[.string ⟨#[97]⟩] w fun e w' => ∃ v, e = .returned v ∧ w'.ownsRow w.heap.size 21 1 v 1 [.int .i32 97] ∧ Keep No w w' := by
  refine (V242_sound _ w (fun v w' => w'.ownsRow w.heap.size 21 1 v 1 [.int .i32 97] ∧ Keep No w w') ?_)
  unfold V242
  refine range_of fun r w1 hi hk hr => ?_
  refine ⟨fun a n c w' => Keep No w w' ∧ ((IterAt w' r ⟨#[97]⟩ 0 ∧ a = none ∧ n = 0 ∧ c = 0) ∨ (IterAt w' r ⟨#[97]⟩ 1 ∧ w'.ownsRow w.heap.size 21 1 (.slice a n c) 1 [.int .i32 97])), fun _ _ _ w' => 1 - iterPos w' r, ⟨hk, .inl ⟨hi, rfl, rfl, rfl⟩⟩, ?_⟩
  rintro j a n c w2 ⟨hk, ⟨hi, rfl, rfl, rfl⟩ | ⟨hi, hrow⟩⟩
  · refine nextSK_of hi (fun hp w3 hi3 hk3 => ?_) fun hp => absurd (by decide) hp
    have hd : Utf8.decode ⟨#[97]⟩ 0 = (97, 1) := by decide
    rw [hd] at hi3 ⊢
    have hkk : Keep No w w3 := hk.news hk3 (by rintro k rfl; omega)
    refine newK_of fun b w4 hs4 hb4 hk4 => ?_
    obtain ⟨i, h1, h2, h3, h4⟩ := info21
    have hk04 := hkk.no hk4
    refine append_of (P := Tryz.prog) (t := 365) (e := 21) Tryz.underlying365 h1 h2 h3 h4 rfl (base := w.heap.size) (World.ownsRow_nil _ _ _ _) hb4 rfl (by omega) (by omega) hk04.size fun g cap w5 hrow hk5 hat => ?_
    have hi5 := hk5.iter (hk4.iter hi3 id) fun e => by simp [Value.ownBlock] at e
    refine ⟨⟨hk04.news hk5 (fun k e => by simp [Value.ownBlock] at e), .inr ⟨hi5, by simpa using hrow⟩⟩, ?_⟩
    simp only
    rw [hi5.pos, hi.pos]
    decide
  · refine nextSK_of hi (fun hp w3 hi3 hk3 => absurd hp (by decide)) fun hp => ⟨hrow, hk⟩

theorem C179_a (w : World) : Calls Tryz.prog 179 #[.string ⟨#[97]⟩] w fun e w' => e = .returned (.int .i64 1) ∧ Keep No w w' := by
  refine ret_mono (V179_sound _ w (fun r w' => r = .int .i64 1 ∧ Keep No w w') ?_) (by rintro _ _ ⟨rfl, h⟩; exact ⟨rfl, h⟩)
  unfold V179
  refine (C242_a w).mono ?_
  rintro _ w1 ⟨v, rfl, hrow, hk⟩
  obtain ⟨a, c, rfl⟩ := ownsRow_slice hrow
  exact ⟨_, _, _, rfl, rfl, hk⟩
theorem C178_a (w : World) : Calls Tryz.prog 178 #[.string ⟨#[97]⟩] w fun e w' => e = .returned (.bool true) ∧ Keep No w w' := by
  refine ret_mono (V178_sound _ w (fun r w' => r = .bool true ∧ Keep No w w') ?_) (by rintro _ _ ⟨rfl, h⟩; exact ⟨rfl, h⟩)
  unfold V178
  refine (C242_a w).mono ?_
  rintro _ w1 ⟨v, rfl, hrow, hk⟩
  obtain ⟨g, cap, rfl, _, hc⟩ := row_cell hrow (i := 0) rfl
  refine ⟨_, _, _, rfl, w1, _, run_convert_runes (P := Tryz.prog) w1 365 9 21 ⟨g, 0, none⟩ 1 cap [97] (Nat.le_refl _) Tryz.underlying365 Tryz.underlying21 Tryz.underlying9 (fun j hj => ?_), ?_, hk⟩
  · have : j = 0 := by simp at hj; omega
    subst this
    rw [add_mk]; exact hc
  · rw [show runesBytes ([97].take 1) = ⟨#[97]⟩ by decide]
    congr 1
    exact beq_self_eq_true _

section
variable {w : World} {ta : Option Addr} {tc : Nat} {ts : List Tm}

/-- The reference's Wrong, of a simple term. -/
theorem C116_simple (hts : TermsAt w ta ts) {n : Nat} {t : Tm} (ht : ts[n]? = some t) {ks : List Int} (hks : KidsAt w t ks) (hS : SimpleT ts.length n t ks) (pairs : Int) (hlen : ts.length < 1000000) :
    Calls Tryz.prog 116 #[.slice ta ts.length tc, .int .i64 n, .int .i64 pairs] w fun e w' => e = .returned (.int .i64 0) ∧ Keep No w w' := by
  refine ret_mono (V116_sound ta ts.length tc n pairs w (fun r w' => r = .int .i64 0 ∧ Keep No w w') ?_) (by rintro _ _ ⟨rfl, h⟩; exact ⟨rfl, h⟩)
  have hn : n < ts.length := (List.getElem?_eq_some_iff.1 ht).1
  have hkd := hS.kind
  have hkl := hS.kl
  have hkids := hS.kids hks.1
  obtain ⟨p, rfl, hc⟩ := hts _ t ht
  unfold V116
  refine idxK_of hn ⟨_, _, _, _, _, _, _, _, _, _, _, _, hc, termCopy fun c w1 hc1 hk1 hcs => ⟨_, hc1.add 0 rfl, bsel_neg (by simp; omega) ?_⟩⟩
  unfold V116J3
  refine ⟨fun r w' => r = false ∧ w' = w1, ?_, ?_⟩
  · refine ⟨_, hc1.add 0 rfl, bsel_pos (by simp; omega) ⟨_, hc1.add 0 rfl, bsel_pos (by simp; omega) ⟨rfl, rfl⟩⟩⟩
  rintro _ r w2 ⟨rfl, rfl⟩
  refine bsel_neg rfl ⟨_, hc1.add 0 rfl, _, hc1.add 0 rfl, bsel_neg (by simp; omega) ⟨_, hc1.add 0 rfl, ?_⟩⟩
  rw [show (t.kind == 7) = false by simp; omega, show (t.kind == 9) = false by simp; omega]
  unfold V116J2
  refine ⟨fun r w' => r = decide (t.kind = 5 ∨ t.kind = 6) ∧ w' = w2, ?_, ?_⟩
  · refine ⟨_, hc1.add 0 rfl, bsel_split (fun h5 => ?_) fun h5 => ⟨_, hc1.add 0 rfl, ?_, rfl⟩⟩
    · have h5 : t.kind = 5 := by simpa using h5
      exact ⟨by simp [h5], rfl⟩
    · have h5 : ¬ t.kind = 5 := by simpa using h5
      by_cases h6 : t.kind = 6 <;> simp [h5, h6]
  rintro _ r w3 ⟨rfl, rfl⟩
  refine ⟨fun r w' => r = false ∧ w' = w3, ?_, ?_⟩
  · refine ⟨_, _, _, hc1.add 5 rfl, bsel_split (fun hp => ?_) fun hp => bsel_neg rfl (bsel_neg rfl ⟨rfl, rfl⟩)⟩
    have hp : 0 < t.kl := by simpa using hp
    have hr : t.kind = 5 ∨ t.kind = 6 := by rcases hS with h | h | h | h <;> omega
    exact bsel_pos rfl (bsel_pos rfl (bsel_neg (by simp [hr]) (bsel_neg rfl (bsel_neg rfl ⟨rfl, rfl⟩))))
  rintro _ r w4 ⟨rfl, rfl⟩
  refine bsel_neg rfl ⟨_, hc1.add 0 rfl, ?_⟩
  have hgo : ∀ w5, Keep No w4 w5 → V116J1 (fun r w' => r = .int .i64 0 ∧ Keep No w w') (some p) ts.length tc n pairs ⟨c, 0, none⟩ false false false (decide (t.kind = 5 ∨ t.kind = 6)) false w5 := by
    intro w5 hk5
    have hc5 := hk5.nblk hc1
    have hk05 := hk1.no hk5
    unfold V116J1
    refine bsel_neg rfl ⟨fun i w' => 0 ≤ i ∧ i ≤ t.kl ∧ w' = w5, fun i _ => (t.kl - i).toNat, ⟨by omega, by omega, rfl⟩, ?_⟩
    rintro j i w6 ⟨hi0, hil, rfl⟩
    refine ⟨_, _, _, hc5.add 5 rfl, bsel_split (fun hlt => ?_) fun hge => ?_⟩
    · simp at hlt
      obtain ⟨m, rfl⟩ := Int.eq_ofNat_of_zero_le hi0
      obtain ⟨k, hkm⟩ : ∃ k, ks[m]? = some k := ⟨_, List.getElem?_eq_getElem (by have := hks.1; omega)⟩
      obtain ⟨q, hq, hqc⟩ := (hks.no hk05).2 m k hkm
      have hlim := hkids m k hkm
      have hle : limit ts.length n t ≤ ts.length := by unfold limit; split <;> omega
      refine ⟨_, _, _, hc5.add 5 rfl, ?_⟩
      rw [hq]
      refine idxK_of (by omega) ⟨k, by rw [Nat.mul_one]; exact hqc, fun r w' => r = false ∧ w' = w6, ?_, ?_⟩
      · refine bsel_neg (by simp; omega) (bsel_neg (by simp; omega) (bsel_split (fun hkn => ?_) fun hkn => bsel_neg rfl ⟨rfl, rfl⟩))
        have hkn : (n : Int) ≤ k := by simpa using hkn
        have h6 : t.kind = 6 := by
          apply Classical.byContradiction
          intro h
          unfold limit at hlim
          rw [if_neg h] at hlim
          omega
        exact ⟨_, hc5.add 0 rfl, bsel_neg (by simp [h6]) (bsel_neg rfl ⟨rfl, rfl⟩)⟩
      rintro _ r w7 ⟨rfl, rfl⟩
      refine bsel_neg rfl ⟨fun r w' => r = false ∧ w' = w7, bsel_neg rfl (bsel_neg rfl ⟨rfl, rfl⟩), ?_⟩
      rintro _ r w8 ⟨rfl, rfl⟩
      refine bsel_neg rfl ?_
      rw [wrap_i64 (by omega)]
      exact ⟨⟨by omega, by omega, rfl⟩, by simp only; omega⟩
    · refine ⟨fun r w' => r = false ∧ Keep No w6 w', ?_, ?_⟩
      · refine ⟨_, hc5.add 0 rfl, bsel_split (fun h4 => ?_) fun h4 => ?_⟩
        · have h4 : t.kind = 4 := by simpa using h4
          have ht4 : t.text = ⟨#[97]⟩ := by rcases hS with h | h | h | h <;> first | exact h.2.1 | omega
          refine ⟨_, hc5.add 4 rfl, ?_⟩
          rw [ht4]
          refine (C179_a w6).mono ?_
          rintro _ w7 ⟨rfl, hk7⟩
          refine ⟨_, rfl, bsel_neg (by decide) ⟨_, (hk7.nblk hc5).add 0 rfl, bsel_neg (by simp [h4]) ?_⟩⟩
          rw [show decide (t.kind = 5 ∨ t.kind = 6) = false by simp [h4]]
          exact bsel_neg rfl ⟨rfl, hk7⟩
        · have h4 : ¬ t.kind = 4 := by simpa using h4
          refine ⟨_, hc5.add 0 rfl, bsel_neg (by simp; omega) (bsel_split (fun hr => ?_) fun hr => ⟨rfl, Keep.refl _ _⟩)⟩
          exact ⟨_, _, _, hc5.add 5 rfl, by simp; omega, Keep.refl _ _⟩
      rintro _ r w7 ⟨rfl, hk7⟩
      refine bsel_neg rfl ⟨fun r w' => r = false ∧ w' = w7, bsel_neg rfl (bsel_neg rfl ⟨rfl, rfl⟩), ?_⟩
      rintro _ r w8 ⟨rfl, rfl⟩
      exact bsel_neg rfl ⟨rfl, hk05.no hk7⟩
  refine bsel_split (fun h4 => ?_) fun h4 => hgo w4 (Keep.refl _ _)
  have h4 : t.kind = 4 := by simpa using h4
  have ht4 : t.text = ⟨#[97]⟩ := by rcases hS with h | h | h | h <;> first | exact h.2.1 | omega
  refine ⟨_, hc1.add 4 rfl, ?_⟩
  rw [ht4]
  refine (C178_a w4).mono ?_
  rintro _ w5 ⟨rfl, hk5⟩
  exact ⟨_, rfl, hgo w5 hk5⟩
end
end Go.Fw

set_option autoImplicit false
set_option linter.unusedVariables false
namespace Go.Fw
open Go.Proofs Go.RowKit

/-! Build of simple terms: what the Store has then. -/
def isRow (t : Tm) : Prop := t.kind = 5 ∨ t.kind = 6
instance (t : Tm) : Decidable (isRow t) := inferInstanceAs (Decidable (_ ∨ _))
def vals1 (t : Tm) (rg : Nat × Nat) : List Value := if t.kind = 1 then [] else if t.kind = 4 then [strA] else [.iface 94 (.pointer (some ⟨rg.1, 0, none⟩))]
def valsOf (ts : List Tm) (rs : List (Nat × Nat)) : List Value := (ts.zip rs).flatMap fun x => vals1 x.1 x.2
/-- How many values, how many rows, the first i terms make. -/
def cntV (ts : List Tm) (i : Nat) : Nat := ((ts.take i).filter fun t => decide (t.kind ≠ 1)).length
def cntR (ts : List Tm) (i : Nat) : Nat := ((ts.take i).filter fun t => decide (isRow t)).length
def refOf (ts : List Tm) (i : Nat) : Int := match ts[i]? with | some t => if t.kind = 1 then 0 else 3 + cntV ts i | none => 0

theorem cntV_succ {ts : List Tm} {i : Nat} {t : Tm} (h : ts[i]? = some t) : cntV ts (i + 1) = cntV ts i + if t.kind = 1 then 0 else 1 := by
  obtain ⟨hi, he⟩ := List.getElem?_eq_some_iff.1 h
  unfold cntV
  rw [List.take_succ_eq_append_getElem hi, List.filter_append, List.length_append, he]
  by_cases hk : t.kind = 1 <;> simp [hk]
theorem cntR_succ {ts : List Tm} {i : Nat} {t : Tm} (h : ts[i]? = some t) : cntR ts (i + 1) = cntR ts i + if isRow t then 1 else 0 := by
  obtain ⟨hi, he⟩ := List.getElem?_eq_some_iff.1 h
  unfold cntR
  rw [List.take_succ_eq_append_getElem hi, List.filter_append, List.length_append, he]
  by_cases hk : isRow t <;> simp [hk]
theorem cntV_le (ts : List Tm) (i : Nat) : cntV ts i ≤ ts.length := by
  unfold cntV
  have := List.length_filter_le (fun t => decide (t.kind ≠ 1)) (ts.take i)
  simp at this ⊢; omega
theorem cntR_le (ts : List Tm) (i : Nat) : cntR ts i ≤ ts.length := by
  unfold cntR
  have := List.length_filter_le (fun t => decide (isRow t)) (ts.take i)
  simp at this ⊢; omega

theorem zip_snoc {ts : List Tm} {rs : List (Nat × Nat)} {t : Tm} {p : Nat × Nat} (h : ts[rs.length]? = some t) : ts.zip (rs ++ [p]) = ts.zip rs ++ [(t, p)] := by
  induction rs generalizing ts with
  | nil =>
    cases ts with
    | nil => simp at h
    | cons u l => simp at h; subst h; simp
  | cons r rs ih =>
    cases ts with
    | nil => simp at h
    | cons u l => simp at h; simp [ih h]
theorem valsOf_snoc {ts : List Tm} {rs : List (Nat × Nat)} {t : Tm} {p : Nat × Nat} (h : ts[rs.length]? = some t) : valsOf ts (rs ++ [p]) = valsOf ts rs ++ vals1 t p := by
  unfold valsOf
  rw [zip_snoc h]; simp
theorem snoc_rec {α : Type} {P : List α → Prop} (h0 : P []) (h1 : ∀ l a, P l → P (l ++ [a])) (l : List α) : P l := by
  rw [← List.reverse_reverse l]
  induction l.reverse with
  | nil => exact h0
  | cons a l ih => rw [List.reverse_cons]; exact h1 _ _ ih
theorem valsOf_len {ts : List Tm} : ∀ (rs : List (Nat × Nat)), rs.length ≤ ts.length → (valsOf ts rs).length = cntV ts rs.length := by
  refine snoc_rec ?_ fun rs p ih => ?_
  · intro _; simp [valsOf, cntV]
  · intro hl
    simp at hl
    obtain ⟨t, ht⟩ : ∃ t, ts[rs.length]? = some t := ⟨_, List.getElem?_eq_getElem (by omega)⟩
    rw [valsOf_snoc ht, List.length_append, ih (by omega), List.length_append, List.length_singleton, cntV_succ ht]
    unfold vals1
    split
    · rfl
    · split <;> rfl
theorem valsOf_get {ts : List Tm} {x : Nat} {t : Tm} {p : Nat × Nat} (hx : ts[x]? = some t) (hk : t.kind ≠ 1) : ∀ (rs : List (Nat × Nat)), rs.length ≤ ts.length → rs[x]? = some p → (valsOf ts rs)[cntV ts x]? = (vals1 t p)[0]? := by
  refine snoc_rec ?_ fun rs q ih => ?_
  · intro _ h; simp at h
  · intro hl hp
    simp at hl
    obtain ⟨u, hu⟩ : ∃ t, ts[rs.length]? = some t := ⟨_, List.getElem?_eq_getElem (by omega)⟩
    have hlen := valsOf_len (ts := ts) rs (by omega)
    rw [valsOf_snoc hu]
    by_cases hc : x < rs.length
    · rw [List.getElem?_append_left hc] at hp
      have hlt : cntV ts x < (valsOf ts rs).length := by
        have := ih (by omega) hp
        have hv : (vals1 t p)[0]? ≠ none := by unfold vals1; rw [if_neg hk]; split <;> simp
        rw [← this] at hv
        rcases Nat.lt_or_ge (cntV ts x) (valsOf ts rs).length with h | h
        · exact h
        · exact absurd (List.getElem?_eq_none h) hv
      rw [List.getElem?_append_left hlt]
      exact ih (by omega) hp
    · have hxe : x = rs.length := by
        have := (List.getElem?_eq_some_iff.1 hp).1
        simp at this; omega
      subst hxe
      rw [hu] at hx
      cases hx
      simp at hp
      subst hp
      rw [List.getElem?_append_right (by omega), hlen]
      simp

theorem val_at {ts : List Tm} {rs : List (Nat × Nat)} {x : Nat} {t : Tm} {p : Nat × Nat} (hl : rs.length ≤ ts.length) (hx : ts[x]? = some t) (hp : rs[x]? = some p) :
    (val0 ++ valsOf ts rs)[(refOf ts x).toNat]? = some (if t.kind = 1 then .iface 85 (.agg #[]) else if t.kind = 4 then strA else .iface 94 (.pointer (some ⟨p.1, 0, none⟩))) := by
  unfold refOf
  rw [hx]
  by_cases hk : t.kind = 1
  · simp only [hk, if_true]; rfl
  · simp only [if_neg hk]
    have h3 : val0.length = 3 := rfl
    rw [show ((3 : Int) + (cntV ts x : Nat)).toNat = 3 + cntV ts x by omega, List.getElem?_append_right (by omega), h3, Nat.add_sub_cancel_left, valsOf_get hx hk rs hl hp]
    unfold vals1
    rw [if_neg hk]
    split <;> rfl

section
variable (w0 : World) (s B : Nat) (S : St) (ts : List Tm) (kss : Nat → List Int)
/-- How the Store stands when m terms' values have been made, the rows of i of them are filled, and of the next one j cells. -/
structure Sm (m i j : Nat) (rs : List (Nat × Nat)) (own : Nat → Prop) (w : World) : Prop where
  len : rs.length = m ∧ m ≤ ts.length
  st : ∃ d, StAt w s B { S with due := d, last := cntR ts m, live := cntR ts m, vals := val0 ++ valsOf ts rs }
  row : ∀ x t, ts[x]? = some t → x < m → isRow t → ∃ r g cs, rs[x]? = some (r, g) ∧ Blk w r 100 [.int .i64 (cntR ts x + 1 : Nat), .slice (some ⟨g, 0, none⟩) t.kl t.kl, .int .i64 t.kind] ∧ Blk w g 3 cs ∧ cs.length = t.kl ∧ own g ∧ w0.heap.size ≤ g ∧
    ∀ pos kid, (kss x)[pos]? = some kid → (x < i ∨ x = i ∧ pos < j) → cs[pos]? = some (.int .i64 (refOf ts kid.toNat))
  one : ∀ (x x' : Nat) (t t' : Tm) (p p' : Nat × Nat), ts[x]? = some t → ts[x']? = some t' → isRow t → isRow t' → rs[x]? = some p → rs[x']? = some p' → p.2 = p'.2 → x = x'
  mem : ∀ k, own k → ∃ (x : Nat) (t : Tm) (p : Nat × Nat), ts[x]? = some t ∧ isRow t ∧ rs[x]? = some p ∧ k = p.2
def SmInv (m i j : Nat) (refs : List Int) (own : Nat → Prop) (w : World) : Prop := refs = (List.range m).map (refOf ts) ∧ ∃ rs, Sm w0 s B S ts kss m i j rs own w

theorem sm_stab (m i j : Nat) (refs : List Int) (own : Nat → Prop) (w w' : World) (X : Nat → Prop) (h : SmInv w0 s B S ts kss m i j refs own w) (hk : Keep X w w') (hX : ∀ k, X k → k < w.heap.size → (etype w k = some 3 ∨ etype w k = some 92) ∧ ¬ own k) : SmInv w0 s B S ts kss m i j refs own w' := by
  have hX' : ∀ k, X k → k < w.heap.size → ∃ e, etype w k = some e ∧ e ∉ storeTy := fun k h1 h2 => by
    rcases (hX k h1 h2).1 with h | h
    · exact ⟨3, h, by decide⟩
    · exact ⟨92, h, by decide⟩
  obtain ⟨hr, rs, h1, ⟨d, h2⟩, h3, h4, h5⟩ := h
  refine ⟨hr, rs, h1, ⟨d, h2.types hk hX'⟩, fun x t hx hm ht => ?_, h4, h5⟩
  obtain ⟨r, g, cs, g1, g2, g3, g4, g5, g6, g7⟩ := h3 x t hx hm ht
  refine ⟨r, g, cs, g1, hk.xblk g2 fun hl hx => ?_, hk.xblk g3 fun hl hx => (hX g hx hl).2 g5, g4, g5, g6, g7⟩
  rcases (hX r hx hl).1 with h | h <;> rw [g2.etype] at h <;> cases h
end

theorem sm_laws {w0 : World} {s B b : Nat} {S : St} {ts : List Tm} {kss : Nat → List Int} {ta : Option Addr} {tc : Nat} (hb : b = w0.heap.size) (hB : B ≤ w0.heap.size) (hS : S.vals = val0) (hpairs : 0 ≤ S.pairs)
    (h0 : ∃ d, StAt w0 s B { S with due := d, last := 0, live := 0 }) (hts : TermsAt w0 ta ts) (hta : ∀ p, ta = some p → etype w0 p.block = some 42) (hn : ts.length < 1000000)
    (hks : ∀ i t, ts[i]? = some t → KidsAt w0 t (kss i) ∧ (∀ p, t.ka = some p → etype w0 p.block = some 3) ∧ SimpleT ts.length i t (kss i)) :
    Laws w0 s b ta tc ts (fun k => Ty B storeTy w0 k) (fun _ => 0) (fun i => SmInv w0 s B S ts kss i 0 0) (fun i j => SmInv w0 s B S ts kss ts.length i j) := by
  have hTy : ∀ {w : World} {k : Nat}, Keep (fun k => Ty B storeTy w0 k) w0 w → Ty B storeTy w k → k < w0.heap.size → Ty B storeTy w0 k := by
    intro w k hk ht hlt
    by_cases hc : Ty B storeTy w0 k
    · exact hc
    · obtain ⟨h1, e, h2, h3⟩ := ht
      refine ⟨h1, e, ?_, h3⟩
      rw [← h2]
      unfold etype
      rw [hk.block k hlt hc]
  have hSt0 : ∀ w, Keep No w0 w → w.cell? ⟨s, 1, none⟩ = some (.int .i64 S.pairs) := by
    intro w hk
    obtain ⟨d, h⟩ := h0
    exact hk.cell (h.blk.cell rfl) id
  refine ⟨?_, fun m => sm_stab w0 s B S ts kss m 0 0, ?_, fun refs own w _ _ h => h, fun i j => sm_stab w0 s B S ts kss ts.length i j, ?_⟩
  · intro i w hi hk hbb
    obtain ⟨t, ht⟩ : ∃ t, ts[i]? = some t := ⟨_, List.getElem?_eq_getElem hi⟩
    obtain ⟨k1, k2, k3⟩ := hks i t ht
    exact C39_simple hbb (hts.no hk) ht (k1.no hk) (hSt0 w hk) hpairs k3
  · intro i t refs own w v _ ht hrl hInv hk htsw hbb hrow hown
    have hil := (List.getElem?_eq_some_iff.1 ht).1
    obtain ⟨hrefs, rs, h1, ⟨d, h2⟩, h3, h4, h5⟩ := hInv
    obtain ⟨hrsl, _⟩ := h1
    obtain ⟨_, _, kS⟩ := hks i t ht
    have hsz := hk.size
    have hfoot : ∀ k, Ty B storeTy w k → k ≠ b ∧ v.ownBlock ≠ some k ∧ (k < w0.heap.size → Ty B storeTy w0 k) := by
      intro k hT
      have hT' := hT
      obtain ⟨_, e, he, hm⟩ := hT
      refine ⟨fun h => ?_, fun h => ?_, hTy hk hT'⟩
      · subst h; rw [hbb.etype] at he; cases he; exact absurd hm (by decide)
      · rw [ownsRow_etype hrow h] at he; cases he; exact absurd hm (by decide)
    have hvl := valsOf_len (ts := ts) rs (by omega)
    rw [hrsl] at hvl
    have hcv := cntV_le ts i
    have hcr := cntR_le ts i
    have hrefs' : ∀ ref, ref = refOf ts i → refs ++ [ref] = (List.range (i + 1)).map (refOf ts) := by
      rintro _ rfl
      rw [List.range_succ, List.map_append, hrefs]; rfl
    have hrs' : ∀ p, (rs ++ [p]).length = i + 1 ∧ i + 1 ≤ ts.length := fun p => ⟨by simp [hrsl], hil⟩
    have hti : ts[rs.length]? = some t := by rw [hrsl]; exact ht
    have hnum : cntR ts (i + 1) = cntR ts i + if isRow t then 1 else 0 := cntR_succ ht
    -- a term that is no row
    have hplain : ∀ w' (p : Nat × Nat), ¬ isRow t → (∃ d, StAt w' s B { S with due := d, last := cntR ts i, live := cntR ts i, vals := val0 ++ valsOf ts (rs ++ [p]) }) → Keep (Ty B storeTy w) w w' → SmInv w0 s B S ts kss (i + 1) 0 0 (refs ++ [refOf ts i]) own w' := by
      intro w' p hr hst hk'
      refine ⟨hrefs' _ rfl, rs ++ [p], hrs' p, ?_, ?_, ?_, ?_⟩
      · rw [hnum, if_neg hr]; exact hst
      · intro x u hx hm hu
        by_cases hc : x < i
        · obtain ⟨r, g, cs, g1, g2, g3, g4, g5, g6, g7⟩ := h3 x u hx hc hu
          exact ⟨r, g, cs, by rw [List.getElem?_append_left (by omega)]; exact g1, hk'.tblk g2 (by decide), hk'.tblk g3 (by decide), g4, g5, g6, g7⟩
        · have : x = i := by omega
          subst this
          rw [ht] at hx; cases hx
          exact absurd hu hr
      · intro x x' u u' q q' hx hx' hu hu' hq hq' he
        have ne : ∀ {y : Nat} {z : Tm} {q : Nat × Nat}, ts[y]? = some z → isRow z → (rs ++ [p])[y]? = some q → rs[y]? = some q := by
          intro y z q hy hz hq
          by_cases hc : y < i
          · rw [List.getElem?_append_left (by omega)] at hq; exact hq
          · have := (List.getElem?_eq_some_iff.1 hq).1
            simp at this
            have : y = i := by omega
            subst this
            rw [ht] at hy; cases hy
            exact absurd hz hr
        exact h4 x x' u u' q q' hx hx' hu hu' (ne hx hu hq) (ne hx' hu' hq') he
      · intro k hk1
        obtain ⟨x, u, q, a1, a2, a3, a4⟩ := h5 k hk1
        exact ⟨x, u, q, a1, a2, by rw [List.getElem?_append_left (List.getElem?_eq_some_iff.1 a3).1]; exact a3, a4⟩
    rcases kS.kind with k1 | k4 | hrowk
    · refine (C40_none h2 hbb k1).mono ?_
      rintro _ w' ⟨rfl, hk'⟩
      have hr : ¬ isRow t := by unfold isRow; omega
      have e0 : refOf ts i = 0 := by unfold refOf; rw [ht]; simp [k1]
      refine ⟨0, own, rfl, ?_, (Keep.of_no hk' : Keep _ w w'), fun k h => .inl h⟩
      have := hplain w' (0, 0) hr ⟨d, by
        rw [valsOf_snoc hti]
        have : vals1 t (0, 0) = [] := by unfold vals1; rw [if_pos k1]
        rw [this, List.append_nil]
        exact h2.no hk'⟩ (Keep.of_no hk')
      rw [e0] at this
      exact this
    · refine (C40_str h2 hbb (by simp [val0, hvl]; omega) (by omega) k4).mono ?_
      rintro _ w' ⟨rfl, d', h', hk'⟩
      have hr : ¬ isRow t := by unfold isRow; omega
      have ht4 : t.text = ⟨#[97]⟩ := by rcases kS with h | h | h | h <;> first | exact h.2.1 | omega
      have e0 : refOf ts i = 3 + cntV ts i := by unfold refOf; rw [ht]; simp [k4]
      refine ⟨_, own, rfl, ?_, hk'.mono fun k _ h => hfoot k h, fun k h => .inl h⟩
      have := hplain w' (0, 0) hr ⟨d', by
        rw [valsOf_snoc hti]
        have : vals1 t (0, 0) = [strA] := by unfold vals1; rw [if_neg (by omega), if_pos k4]
        rw [this, ← List.append_assoc]
        simpa [strA, ht4] using h'⟩ hk'
      rw [e0] at this
      simp only [List.length_append, hvl]
      have h3 : val0.length = 3 := rfl
      rw [h3]
      simpa using this
    · have hr : isRow t := hrowk
      refine (C40_row h2 hbb (by simp [val0, hvl]; omega) (by omega) hrowk (by have := kS.kl; omega) (by simp only; omega) (by simp only; omega)).mono ?_
      rintro _ w' ⟨rfl, d', r, g, hr1, hg1, hbr, hbg, h', hk'⟩
      have e0 : refOf ts i = 3 + cntV ts i := by unfold refOf; rw [ht]; simp; unfold isRow at hr; omega
      refine ⟨_, fun k => own k ∨ k = g, rfl, ?_, hk'.mono fun k _ h => hfoot k h, fun k h => ?_⟩
      · simp only [List.length_append, hvl]
        have hv3 : val0.length = 3 := rfl
        rw [hv3]
        refine ⟨hrefs' _ (by rw [e0]; simp), rs ++ [(r, g)], hrs' _, ⟨d', ?_⟩, ?_, ?_, ?_⟩
        · rw [valsOf_snoc hti, hnum, if_pos hr]
          have : vals1 t (r, g) = [.iface 94 (.pointer (some ⟨r, 0, none⟩))] := by unfold vals1; rw [if_neg (by unfold isRow at hr; omega), if_neg (by unfold isRow at hr; omega)]
          rw [this, ← List.append_assoc]
          simpa using h'
        · intro x u hx hm hu
          by_cases hc : x < i
          · obtain ⟨r', g', cs, g1, g2, g3, g4, g5, g6, g7⟩ := h3 x u hx hc hu
            exact ⟨r', g', cs, by rw [List.getElem?_append_left (by omega)]; exact g1, hk'.tblk g2 (by decide), hk'.tblk g3 (by decide), g4, .inl g5, g6, g7⟩
          · have : x = i := by omega
            subst this
            rw [ht] at hx; cases hx
            refine ⟨r, g, _, by rw [List.getElem?_append_right (by omega)]; simp [hrsl], by simpa using hbr, hbg, by simp, .inr rfl, by omega, fun pos kid _ hc => ?_⟩
            rcases hc with hc | hc <;> omega
        · intro x x' u u' q q' hx hx' hu hu' hq hq' he
          have old : ∀ {y : Nat} {z : Tm} {q : Nat × Nat}, ts[y]? = some z → isRow z → y < i → (rs ++ [(r, g)])[y]? = some q → rs[y]? = some q ∧ q.2 < w.heap.size := by
            intro y z q hy hz hc hq
            rw [List.getElem?_append_left (by omega)] at hq
            obtain ⟨r', g', cs, g1, g2, g3, _⟩ := h3 y z hy hc hz
            rw [hq] at g1
            cases g1
            exact ⟨hq, g3.lt⟩
          have new : ∀ {y : Nat} {q : Nat × Nat}, ¬ y < i → (rs ++ [(r, g)])[y]? = some q → y = i ∧ q.2 = g := by
            intro y q hc hq
            have := (List.getElem?_eq_some_iff.1 hq).1
            simp at this
            have : y = i := by omega
            subst this
            rw [List.getElem?_append_right (by omega)] at hq
            simp [hrsl] at hq
            subst hq
            exact ⟨rfl, rfl⟩
          by_cases hc : x < i <;> by_cases hc' : x' < i
          · exact h4 x x' u u' q q' hx hx' hu hu' (old hx hu hc hq).1 (old hx' hu' hc' hq').1 he
          · have := (old hx hu hc hq).2; have := (new hc' hq').2; omega
          · have := (old hx' hu' hc' hq').2; have := (new hc hq).2; omega
          · rw [(new hc hq).1, (new hc' hq').1]
        · rintro k (hk1 | rfl)
          · obtain ⟨x, u, q, a1, a2, a3, a4⟩ := h5 k hk1
            exact ⟨x, u, q, a1, a2, by rw [List.getElem?_append_left (List.getElem?_eq_some_iff.1 a3).1]; exact a3, a4⟩
          · exact ⟨i, t, (r, k), ht, hr, by rw [List.getElem?_append_right (by omega)]; simp [hrsl], rfl⟩
      · rcases h with h | rfl
        · exact .inl h
        · exact .inr ⟨hg1, hbg.lt⟩
  · intro i t refs own w ref _ ht href hrl hk hF
    have hil := (List.getElem?_eq_some_iff.1 ht).1
    have hF0 := hF
    obtain ⟨hrefs, rs, ⟨hrsl, _⟩, ⟨d, h2⟩, h3, h4, h5⟩ := hF
    have hrefv : ref = refOf ts i := by
      rw [hrefs] at href
      simp [hil] at href
      exact href.symm
    obtain ⟨p, hp⟩ : ∃ p, rs[i]? = some p := ⟨_, List.getElem?_eq_getElem (by omega)⟩
    have hval := val_at (ts := ts) (rs := rs) (by omega) ht hp
    have hrn : ref = ((refOf ts i).toNat : Nat) := by
      rw [hrefv]
      unfold refOf
      rw [ht]
      simp only
      split <;> omega
    obtain ⟨_, _, kS⟩ := hks i t ht
    refine ⟨_, by rw [hrn]; exact C41_in h2 hval, ?_⟩
    by_cases hr : isRow t
    · right
      have hk1 : ¬ t.kind = 1 := by unfold isRow at hr; omega
      have hk4 : ¬ t.kind = 4 := by unfold isRow at hr; omega
      rw [if_neg hk1, if_neg hk4]
      obtain ⟨r, g, cs, g1, g2, g3, g4, g5, g6, g7⟩ := h3 i t ht (by omega) hr
      rw [hp] at g1
      cases g1
      refine ⟨r, rfl, fun w1 hF1 => ?_, ?_⟩
      · obtain ⟨e1, rs1, e2, e3, e4, e5, e6⟩ := hF1
        refine ⟨e1, rs1, e2, e3, fun x u hx hm hu => ?_, e5, e6⟩
        obtain ⟨r', g', cs', f1, f2, f3, f4, f5, f6, f7⟩ := e4 x u hx hm hu
        refine ⟨r', g', cs', f1, f2, f3, f4, f5, f6, fun pos kid hpk hc => f7 pos kid hpk ?_⟩
        rcases hc with hc | hc
        · by_cases hxi : x = i
          · subst hxi
            rw [ht] at hx; cases hx
            refine .inr ⟨rfl, ?_⟩
            have := (List.getElem?_eq_some_iff.1 hpk).1
            have := (hks x t ht).1.1
            omega
          · exact .inl (by omega)
        · omega
      · intro j w1 hj hkk hko hF1
        obtain ⟨e1, rs1, e2, ⟨d1, e3⟩, e4, e5, e6⟩ := id hF1
        -- the row lies as before: rs1 and rs agree at i, by the row's own cell
        obtain ⟨r', g', cs', f1, f2, f3, f4, f5, f6, f7⟩ := e4 i t ht (by omega) hr
        have hrw : Blk w1 r 100 [.int .i64 (cntR ts i + 1 : Nat), .slice (some ⟨g, 0, none⟩) t.kl t.kl, .int .i64 t.kind] := hko.blk g2 fun h => by
          obtain ⟨x, u, q, a1, a2, a3, a4⟩ := h5 r h
          obtain ⟨r2, g2', cs2, b1, b2, b3, _⟩ := h3 x u a1 (by have := (List.getElem?_eq_some_iff.1 a1).1; omega) a2
          rw [a3] at b1; cases b1
          have := g2.etype
          rw [a4, b3.etype] at this; cases this
        have hrr : r' = r := by
          have hv1 := val_at (ts := ts) (rs := rs1) (by omega) ht f1
          have hc1 := e3.slots.at (i := (refOf ts i).toNat) hv1
          have hold : StAt w1 s B _ := (h2.types hko fun k hk1 hk2 => by
            obtain ⟨x, u, q, a1, a2, a3, a4⟩ := h5 k hk1
            obtain ⟨r2, g2', cs2, b1, b2, b3, _⟩ := h3 x u a1 (by have := (List.getElem?_eq_some_iff.1 a1).1; omega) a2
            rw [a3] at b1; cases b1
            exact ⟨3, by rw [a4]; exact b3.etype, by decide⟩)
          have hc2 := hold.slots.at (i := (refOf ts i).toNat) hval
          obtain ⟨q1, q2, q3, q4, c1, c2, c3, c4, c5⟩ := hc1
          obtain ⟨q1', q2', q3', q4', c1', c2', c3', c4', c5'⟩ := hc2
          have ha := e3.blk.uniq hold.blk
          have hcells := ha.2
          simp only [St.cells, List.cons.injEq, Value.pointer.injEq, Option.some.injEq, Addr.mk.injEq] at hcells
          simp only [true_and, and_true] at c1 c1' hcells
          rw [c1] at c1'
          simp at c1'
          have hq : q1 = q1' := c1'.1
          subst hq
          rw [c4] at c4'
          simp [hk1, hk4] at c4'
          exact c4'
        subst hrr
        have hgg := (f2.uniq hrw).2
        simp at hgg
        subst hgg
        obtain ⟨kid, hkid⟩ : ∃ k, (kss i)[j]? = some k := ⟨_, List.getElem?_eq_getElem (by have := (hks i t ht).1.1; omega)⟩
        obtain ⟨q, hq, hqc⟩ := (hks i t ht).1.2 j kid hkid
        have hq3 := (hks i t ht).2.1 q hq
        have hlim := kS.kids (hks i t ht).1.1 j kid hkid
        have hkidlt : 0 ≤ kid ∧ kid < ts.length := by
          refine ⟨hlim.1, Int.lt_of_lt_of_le hlim.2 ?_⟩
          unfold limit; split <;> omega
        refine ⟨g', t.kl, t.kl, q, kid, f2.cell rfl, hj, f5, f6, ?_, f3.frozen, hq, ?_, hkidlt.1, hkidlt.2, ?_⟩
        · rw [f3.cell (List.getElem?_eq_getElem (by omega))]; rfl
        · exact hkk.cell hqc fun h => by
            rw [add_block] at h
            obtain ⟨_, e, he, hm⟩ := h
            rw [hq3] at he; cases he
            exact absurd hm (by decide)
        · intro v hv
          have hv' : v = refOf ts kid.toNat := by
            rw [e1] at hv
            have := (List.getElem?_eq_some_iff.1 hv).1
            simp at this
            simp [this] at hv
            exact hv.symm
          subst hv'
          have hone := Keep.one w1 ⟨g', j, none⟩ (.int .i64 (refOf ts kid.toNat))
          refine ⟨e1, rs1, e2, ⟨d1, e3.types hone fun k e _ => by subst e; exact ⟨3, f3.etype, by decide⟩⟩, fun x u hx hm hu => ?_, e5, e6⟩
          obtain ⟨r2, g2', cs2, b1, b2, b3, b4, b5, b6, b7⟩ := e4 x u hx hm hu
          by_cases hxi : x = i
          · subst hxi
            rw [ht] at hx; cases hx
            rw [f1] at b1; cases b1
            have hce := (f3.uniq b3).2
            subst hce
            refine ⟨r', g', cs'.set j (.int .i64 (refOf ts kid.toNat)), f1, hone.blk f2 (fun e => by
              have e : r' = g' := e
              have h8 := f2.etype
              rw [e, f3.etype] at h8
              cases h8), f3.set, by simp [f4], f5, f6, fun pos kid' hpk hc => ?_⟩
            rw [List.getElem?_set]
            by_cases hpj : j = pos
            · subst hpj
              rw [if_pos rfl, if_pos (by omega)]
              rw [hkid] at hpk; cases hpk; rfl
            · rw [if_neg hpj]
              exact f7 pos kid' hpk (by omega)
          · have hne : g2' ≠ g' := fun e => hxi (e5 x i u t (r2, g2') (r', g') hx ht hu hr b1 f1 e)
            exact ⟨r2, g2', cs2, b1, hone.blk b2 (fun e => by
              have e : r2 = g' := e
              have h8 := b2.etype
              rw [e, f3.etype] at h8
              cases h8), hone.blk b3 (fun e => hne e), b4, b5, b6, fun pos kid' hpk hc => b7 pos kid' hpk (by omega)⟩
    · left
      constructor
      · by_cases hk1 : t.kind = 1
        · rw [if_pos hk1]; exact no80 (by decide) _ _
        · have hk4 : t.kind = 4 := by
            rcases kS.kind with h | h | h
            · exact absurd h hk1
            · exact h
            · exact absurd h hr
          rw [if_neg hk1, if_pos hk4]; exact no80 (by decide) _ _
      · intro w1 hF1
        obtain ⟨e1, rs1, e2, e3, e4, e5, e6⟩ := hF1
        refine ⟨e1, rs1, e2, e3, fun x u hx hm hu => ?_, e5, e6⟩
        obtain ⟨r', g', cs', f1, f2, f3, f4, f5, f6, f7⟩ := e4 x u hx hm hu
        refine ⟨r', g', cs', f1, f2, f3, f4, f5, f6, fun pos kid hpk hc => f7 pos kid hpk ?_⟩
        by_cases hxi : x = i
        · subst hxi; rw [ht] at hx; cases hx; exact absurd hu hr
        · omega
end Go.Fw

set_option autoImplicit false
set_option linter.unusedVariables false
set_option maxRecDepth 100000
namespace Go.Fw
open Go.Proofs

def V207 (x1 : Int) (x2 : Int) (w : World) (Q : Value → World → Prop) : Prop :=
newK w #[.int .u8 0, .int .u8 0, .int .u8 0, .int .u8 0] 385 fun a3 w4 =>
∃ (I5 : Int → Int → World → Prop) (μ6 : Int → Int → World → Nat), I5 x1 0 w4 ∧ ∀ (j10 : Fr) (i7 : Int) (i8 : Int) (w9 : World), I5 i7 i8 w9 →
bsel (decide (i8 < x2)) (
sidxK (⟨#[48, 49, 50, 51, 52, 53, 54, 55, 56, 57, 97, 98, 99, 100, 101, 102]⟩ : ByteArray) (bAnd .i32 i7 15) fun c11 =>
aidxK a3 4 (IntKind.wrap .i64 (IntKind.wrap .i64 (x2 - 1) - i8)) 1 fun a12 =>
stK w9 a12 (.int .u8 c11) fun w13 =>
((0 : Int) ≤ 4) ∧
(I5 (shr .i32 i7 4) (IntKind.wrap .i64 (i8 + 1)) w13 ∧ μ6 (shr .i32 i7 4) (IntKind.wrap .i64 (i8 + 1)) w13 < μ6 i7 i8 w9)) (
∃ t14 : Option Addr, ∃ t15 : Nat, ∃ t16 : Nat, (∀ w : World, (Instr.sliceAt 385 (.pointer (some a3)) none (some (.int .i64 x2)) none).run Tryz.prog w = .ok (.slice t14 t15 t16) w) ∧
∃ w17 : World, ∃ t18 : ByteArray, (Go.convert 148 9 (.slice t14 t15 t16)).run Tryz.prog w9 = .ok (.string t18) w17 ∧
Q (.string t18) w17)

def V207_ann : Nat → Ann := fun k => match k with | 0 => ⟨[1, 5, 7], [(0, .int .i32), (8, .int .i64)]⟩ | _ => ⟨[], []⟩
theorem V207_eq (x1 : Int) (x2 : Int) (w : World) (Q : Value → World → Prop) : (match Tryz.f207.body with | some c => wpC Tryz.prog Tryz.f207.ntmps V207_ann c 0 (resQ Tryz.prog Tryz.f207.ntmps Tryz.f207.results.toList Q) (argsF [.int .i32 x1, .int .i64 x2]) w | none => False) = V207 x1 x2 w Q := by kernel_rfl
theorem V207_sound (x1 : Int) (x2 : Int) (w : World) (Q : Value → World → Prop) (h : V207 x1 x2 w Q) : Calls Tryz.prog 207 #[.int .i32 x1, .int .i64 x2] w fun e w' => ∃ v, e = .returned v ∧ Q v w' :=
  sound_of Tryz.func207 V207_ann rfl ((V207_eq x1 x2 w Q).mpr h)

def V397  (w : World) (Q : Value → World → Prop) : Prop :=
newK w #[] 83 fun a1 w2 =>
Q (.int .i64 0) w2

def V397_ann : Nat → Ann := fun _ => ⟨[], []⟩
theorem V397_eq  (w : World) (Q : Value → World → Prop) : (match Tryz.f397.body with | some c => wpC Tryz.prog Tryz.f397.ntmps V397_ann c 0 (resQ Tryz.prog Tryz.f397.ntmps Tryz.f397.results.toList Q) (argsF [.agg #[]]) w | none => False) = V397  w Q := by kernel_rfl
theorem V397_sound  (w : World) (Q : Value → World → Prop) (h : V397  w Q) : Calls Tryz.prog 397 #[.agg #[]] w fun e w' => ∃ v, e = .returned v ∧ Q v w' :=
  sound_of Tryz.func397 V397_ann rfl ((V397_eq  w Q).mpr h)

def V398  (w : World) (Q : Value → World → Prop) : Prop :=
newK w #[] 85 fun a1 w2 =>
Q (.int .i64 1) w2

def V398_ann : Nat → Ann := fun _ => ⟨[], []⟩
theorem V398_eq  (w : World) (Q : Value → World → Prop) : (match Tryz.f398.body with | some c => wpC Tryz.prog Tryz.f398.ntmps V398_ann c 0 (resQ Tryz.prog Tryz.f398.ntmps Tryz.f398.results.toList Q) (argsF [.agg #[]]) w | none => False) = V398  w Q := by kernel_rfl
theorem V398_sound  (w : World) (Q : Value → World → Prop) (h : V398  w Q) : Calls Tryz.prog 398 #[.agg #[]] w fun e w' => ∃ v, e = .returned v ∧ Q v w' :=
  sound_of Tryz.func398 V398_ann rfl ((V398_eq  w Q).mpr h)

def V399 (x1 : Bool) (w : World) (Q : Value → World → Prop) : Prop :=
newK w #[.bool x1] 87 fun a2 w3 =>
Q (.int .i64 2) w3

def V399_ann : Nat → Ann := fun _ => ⟨[], []⟩
theorem V399_eq (x1 : Bool) (w : World) (Q : Value → World → Prop) : (match Tryz.f399.body with | some c => wpC Tryz.prog Tryz.f399.ntmps V399_ann c 0 (resQ Tryz.prog Tryz.f399.ntmps Tryz.f399.results.toList Q) (argsF [.agg #[.bool x1]]) w | none => False) = V399 x1 w Q := by kernel_rfl
theorem V399_sound (x1 : Bool) (w : World) (Q : Value → World → Prop) (h : V399 x1 w Q) : Calls Tryz.prog 399 #[.agg #[.bool x1]] w fun e w' => ∃ v, e = .returned v ∧ Q v w' :=
  sound_of Tryz.func399 V399_ann rfl ((V399_eq x1 w Q).mpr h)

def V158 (x1 : Option Addr) (w : World) (Q : Value → World → Prop) : Prop :=
nilK x1 fun a2 =>
∃ t3 : Int, w.cell? (a2.add 2) = some (.int .i64 t3) ∧
Q (.int .i64 t3) w

def V158_ann : Nat → Ann := fun _ => ⟨[], []⟩
theorem V158_eq (x1 : Option Addr) (w : World) (Q : Value → World → Prop) : (match Tryz.f158.body with | some c => wpC Tryz.prog Tryz.f158.ntmps V158_ann c 0 (resQ Tryz.prog Tryz.f158.ntmps Tryz.f158.results.toList Q) (argsF [.pointer x1]) w | none => False) = V158 x1 w Q := by kernel_rfl
theorem V158_sound (x1 : Option Addr) (w : World) (Q : Value → World → Prop) (h : V158 x1 w Q) : Calls Tryz.prog 158 #[.pointer x1] w fun e w' => ∃ v, e = .returned v ∧ Q v w' :=
  sound_of Tryz.func158 V158_ann rfl ((V158_eq x1 w Q).mpr h)

def V401 (x1 : Int) (w : World) (Q : Value → World → Prop) : Prop :=
newK w #[.int .i64 x1] 98 fun a2 w3 =>
∃ t4 : Int, w3.cell? (a2.add 0) = some (.int .i64 t4) ∧
Q (.int .i64 t4) w3

def V401_ann : Nat → Ann := fun _ => ⟨[], []⟩
theorem V401_eq (x1 : Int) (w : World) (Q : Value → World → Prop) : (match Tryz.f401.body with | some c => wpC Tryz.prog Tryz.f401.ntmps V401_ann c 0 (resQ Tryz.prog Tryz.f401.ntmps Tryz.f401.results.toList Q) (argsF [.agg #[.int .i64 x1]]) w | none => False) = V401 x1 w Q := by kernel_rfl
theorem V401_sound (x1 : Int) (w : World) (Q : Value → World → Prop) (h : V401 x1 w Q) : Calls Tryz.prog 401 #[.agg #[.int .i64 x1]] w fun e w' => ∃ v, e = .returned v ∧ Q v w' :=
  sound_of Tryz.func401 V401_ann rfl ((V401_eq x1 w Q).mpr h)

def V402 (x1 : Int) (x2 : ByteArray) (w : World) (Q : Value → World → Prop) : Prop :=
newK w #[.int .i64 x1, .string x2] 105 fun a3 w4 =>
Q (.int .i64 11) w4

def V402_ann : Nat → Ann := fun _ => ⟨[], []⟩
theorem V402_eq (x1 : Int) (x2 : ByteArray) (w : World) (Q : Value → World → Prop) : (match Tryz.f402.body with | some c => wpC Tryz.prog Tryz.f402.ntmps V402_ann c 0 (resQ Tryz.prog Tryz.f402.ntmps Tryz.f402.results.toList Q) (argsF [.agg #[.int .i64 x1, .string x2]]) w | none => False) = V402 x1 x2 w Q := by kernel_rfl
theorem V402_sound (x1 : Int) (x2 : ByteArray) (w : World) (Q : Value → World → Prop) (h : V402 x1 x2 w Q) : Calls Tryz.prog 402 #[.agg #[.int .i64 x1, .string x2]] w fun e w' => ∃ v, e = .returned v ∧ Q v w' :=
  sound_of Tryz.func402 V402_ann rfl ((V402_eq x1 x2 w Q).mpr h)

def V409 (x1 : ByteArray) (w : World) (Q : Value → World → Prop) : Prop :=
newK w #[.string x1] 160 fun a2 w3 =>
Q (.int .i64 4) w3

def V409_ann : Nat → Ann := fun _ => ⟨[], []⟩
theorem V409_eq (x1 : ByteArray) (w : World) (Q : Value → World → Prop) : (match Tryz.f409.body with | some c => wpC Tryz.prog Tryz.f409.ntmps V409_ann c 0 (resQ Tryz.prog Tryz.f409.ntmps Tryz.f409.results.toList Q) (argsF [.agg #[.string x1]]) w | none => False) = V409 x1 w Q := by kernel_rfl
theorem V409_sound (x1 : ByteArray) (w : World) (Q : Value → World → Prop) (h : V409 x1 w Q) : Calls Tryz.prog 409 #[.agg #[.string x1]] w fun e w' => ∃ v, e = .returned v ∧ Q v w' :=
  sound_of Tryz.func409 V409_ann rfl ((V409_eq x1 w Q).mpr h)

def V49 (x1 : Option Addr) (w : World) (Q : Value → World → Prop) : Prop :=
nilK x1 fun a2 =>
∃ t3 : Int, w.cell? (a2.add 2) = some (.int .i64 t3) ∧
Q (.int .i64 t3) w

def V49_ann : Nat → Ann := fun _ => ⟨[], []⟩
theorem V49_eq (x1 : Option Addr) (w : World) (Q : Value → World → Prop) : (match Tryz.f49.body with | some c => wpC Tryz.prog Tryz.f49.ntmps V49_ann c 0 (resQ Tryz.prog Tryz.f49.ntmps Tryz.f49.results.toList Q) (argsF [.pointer x1]) w | none => False) = V49 x1 w Q := by kernel_rfl
theorem V49_sound (x1 : Option Addr) (w : World) (Q : Value → World → Prop) (h : V49 x1 w Q) : Calls Tryz.prog 49 #[.pointer x1] w fun e w' => ∃ v, e = .returned v ∧ Q v w' :=
  sound_of Tryz.func49 V49_ann rfl ((V49_eq x1 w Q).mpr h)

def V173 (x1 : Option Addr) (w : World) (Q : Value → World → Prop) : Prop :=
nilK x1 fun a2 =>
∃ t3 : Int, w.cell? (a2.add 2) = some (.int .i64 t3) ∧
Q (.int .i64 t3) w

def V173_ann : Nat → Ann := fun _ => ⟨[], []⟩
theorem V173_eq (x1 : Option Addr) (w : World) (Q : Value → World → Prop) : (match Tryz.f173.body with | some c => wpC Tryz.prog Tryz.f173.ntmps V173_ann c 0 (resQ Tryz.prog Tryz.f173.ntmps Tryz.f173.results.toList Q) (argsF [.pointer x1]) w | none => False) = V173 x1 w Q := by kernel_rfl
theorem V173_sound (x1 : Option Addr) (w : World) (Q : Value → World → Prop) (h : V173 x1 w Q) : Calls Tryz.prog 173 #[.pointer x1] w fun e w' => ∃ v, e = .returned v ∧ Q v w' :=
  sound_of Tryz.func173 V173_ann rfl ((V173_eq x1 w Q).mpr h)

def V411 (x1 : Option Addr) (w : World) (Q : Value → World → Prop) : Prop :=
Q (.int .i64 14) w

def V411_ann : Nat → Ann := fun _ => ⟨[], []⟩
theorem V411_eq (x1 : Option Addr) (w : World) (Q : Value → World → Prop) : (match Tryz.f411.body with | some c => wpC Tryz.prog Tryz.f411.ntmps V411_ann c 0 (resQ Tryz.prog Tryz.f411.ntmps Tryz.f411.results.toList Q) (argsF [.pointer x1]) w | none => False) = V411 x1 w Q := by kernel_rfl
theorem V411_sound (x1 : Option Addr) (w : World) (Q : Value → World → Prop) (h : V411 x1 w Q) : Calls Tryz.prog 411 #[.pointer x1] w fun e w' => ∃ v, e = .returned v ∧ Q v w' :=
  sound_of Tryz.func411 V411_ann rfl ((V411_eq x1 w Q).mpr h)

def V414 (x1 : Bool) (x2 : Option Addr) (x3 : Nat) (x4 : Nat) (w : World) (Q : Value → World → Prop) : Prop :=
newK w #[.bool x1, .slice x2 x3 x4] 172 fun a5 w6 =>
Q (.int .i64 3) w6

def V414_ann : Nat → Ann := fun _ => ⟨[], []⟩
theorem V414_eq (x1 : Bool) (x2 : Option Addr) (x3 : Nat) (x4 : Nat) (w : World) (Q : Value → World → Prop) : (match Tryz.f414.body with | some c => wpC Tryz.prog Tryz.f414.ntmps V414_ann c 0 (resQ Tryz.prog Tryz.f414.ntmps Tryz.f414.results.toList Q) (argsF [.agg #[.bool x1, .slice x2 x3 x4]]) w | none => False) = V414 x1 x2 x3 x4 w Q := by kernel_rfl
theorem V414_sound (x1 : Bool) (x2 : Option Addr) (x3 : Nat) (x4 : Nat) (w : World) (Q : Value → World → Prop) (h : V414 x1 x2 x3 x4 w Q) : Calls Tryz.prog 414 #[.agg #[.bool x1, .slice x2 x3 x4]] w fun e w' => ∃ v, e = .returned v ∧ Q v w' :=
  sound_of Tryz.func414 V414_ann rfl ((V414_eq x1 x2 x3 x4 w Q).mpr h)

def V419 (x1 : Option Addr) (w : World) (Q : Value → World → Prop) : Prop :=
Q (.int .i64 13) w

def V419_ann : Nat → Ann := fun _ => ⟨[], []⟩
theorem V419_eq (x1 : Option Addr) (w : World) (Q : Value → World → Prop) : (match Tryz.f419.body with | some c => wpC Tryz.prog Tryz.f419.ntmps V419_ann c 0 (resQ Tryz.prog Tryz.f419.ntmps Tryz.f419.results.toList Q) (argsF [.pointer x1]) w | none => False) = V419 x1 w Q := by kernel_rfl
theorem V419_sound (x1 : Option Addr) (w : World) (Q : Value → World → Prop) (h : V419 x1 w Q) : Calls Tryz.prog 419 #[.pointer x1] w fun e w' => ∃ v, e = .returned v ∧ Q v w' :=
  sound_of Tryz.func419 V419_ann rfl ((V419_eq x1 w Q).mpr h)

def V42 (x1 : Option Addr) (x2 : Int) (w : World) (Q : Value → World → Prop) : Prop :=
newK w #[.bool false, .slice none 0 0] 40 fun a3 w4 =>
Calls Tryz.prog 41 #[.pointer x1, .int .i64 x2] w4 fun e5 w6 => ∃ t7 : Value, e5 = .returned (t7) ∧
∃ t8 : Bool, ∃ t9 : Bool, (∀ w : World, (Instr.typeAssert t7 77 87 true).run Tryz.prog w = .ok (.tuple #[.agg #[.bool t8], .bool t9]) w) ∧
bsel t9 (
newK w6 #[.bool false] 87 fun a10 w11 =>
stK w11 (a10.add 0) (.bool t8) fun w12 =>
∃ t13 : Bool, w12.cell? (a10.add 0) = some (.bool t13) ∧
bsel t13 (
Calls Tryz.prog 93 #[.int .i64 1] w12 fun e14 w15 => ∃ t16 : Bool, ∃ t17 : Option Addr, ∃ t18 : Nat, ∃ t19 : Nat, e14 = .returned (.agg #[.bool t16, .slice t17 t18 t19]) ∧
stK w15 (a3.add 0) (.bool t16) fun w20 =>
stK w20 (a3.add 1) (.slice t17 t18 t19) fun w21 =>
∃ t22 : Bool, ∃ t23 : Option Addr, ∃ t24 : Nat, ∃ t25 : Nat, CellsAt w21 a3 [.bool t22, .slice t23 t24 t25] ∧
Q (.tuple #[.agg #[.bool t22, .slice t23 t24 t25], .bool true]) w21) (
Calls Tryz.prog 93 #[.int .i64 0] w12 fun e26 w27 => ∃ t28 : Bool, ∃ t29 : Option Addr, ∃ t30 : Nat, ∃ t31 : Nat, e26 = .returned (.agg #[.bool t28, .slice t29 t30 t31]) ∧
stK w27 (a3.add 0) (.bool t28) fun w32 =>
stK w32 (a3.add 1) (.slice t29 t30 t31) fun w33 =>
∃ t34 : Bool, ∃ t35 : Option Addr, ∃ t36 : Nat, ∃ t37 : Nat, CellsAt w33 a3 [.bool t34, .slice t35 t36 t37] ∧
Q (.tuple #[.agg #[.bool t34, .slice t35 t36 t37], .bool true]) w33)) (
∃ t38 : Bool, ∃ t39 : Option Addr, ∃ t40 : Nat, ∃ t41 : Nat, ∃ t42 : Bool, (∀ w : World, (Instr.typeAssert t7 77 172 true).run Tryz.prog w = .ok (.tuple #[.agg #[.bool t38, .slice t39 t40 t41], .bool t42]) w) ∧
bsel t42 (
newK w6 #[.bool false, .slice none 0 0] 172 fun a43 w44 =>
stK w44 (a43.add 0) (.bool t38) fun w45 =>
stK w45 (a43.add 1) (.slice t39 t40 t41) fun w46 =>
∃ t47 : Bool, ∃ t48 : Option Addr, ∃ t49 : Nat, ∃ t50 : Nat, CellsAt w46 (a43.add 0) [.bool t47, .slice t48 t49 t50] ∧
stK w46 (a3.add 0) (.bool t47) fun w51 =>
stK w51 (a3.add 1) (.slice t48 t49 t50) fun w52 =>
∃ t53 : Bool, ∃ t54 : Option Addr, ∃ t55 : Nat, ∃ t56 : Nat, CellsAt w52 a3 [.bool t53, .slice t54 t55 t56] ∧
Q (.tuple #[.agg #[.bool t53, .slice t54 t55 t56], .bool true]) w52) (
stK w6 (a3.add 0) (.bool false) fun w57 =>
stK w57 (a3.add 1) (.slice none 0 0) fun w58 =>
∃ t59 : Bool, ∃ t60 : Option Addr, ∃ t61 : Nat, ∃ t62 : Nat, CellsAt w58 a3 [.bool t59, .slice t60 t61 t62] ∧
Q (.tuple #[.agg #[.bool t59, .slice t60 t61 t62], .bool false]) w58))

def V42_ann : Nat → Ann := fun _ => ⟨[], []⟩
theorem V42_eq (x1 : Option Addr) (x2 : Int) (w : World) (Q : Value → World → Prop) : (match Tryz.f42.body with | some c => wpC Tryz.prog Tryz.f42.ntmps V42_ann c 0 (resQ Tryz.prog Tryz.f42.ntmps Tryz.f42.results.toList Q) (argsF [.pointer x1, .int .i64 x2]) w | none => False) = V42 x1 x2 w Q := by kernel_rfl
theorem V42_sound (x1 : Option Addr) (x2 : Int) (w : World) (Q : Value → World → Prop) (h : V42 x1 x2 w Q) : Calls Tryz.prog 42 #[.pointer x1, .int .i64 x2] w fun e w' => ∃ v, e = .returned v ∧ Q v w' :=
  sound_of Tryz.func42 V42_ann rfl ((V42_eq x1 x2 w Q).mpr h)

def V43J1 (Q : Value → World → Prop) (x27 : Addr) (x28 : Addr) (x29 : Int) (x30 : Int) (w31 : World) : Prop :=
bsel (decide (x29 < x30)) (
Q (.int .i64 (-1)) w31) (
bsel (decide (x29 > x30)) (
Q (.int .i64 1) w31) (
∃ t32 : Option Addr, ∃ t33 : Nat, ∃ t34 : Nat, w31.cell? (x27.add 1) = some (.slice t32 t33 t34) ∧
∃ t35 : Option Addr, ∃ t36 : Nat, ∃ t37 : Nat, w31.cell? (x28.add 1) = some (.slice t35 t36 t37) ∧
Calls Tryz.prog 95 #[.slice t32 t33 t34, .slice t35 t36 t37] w31 fun e38 w39 => ∃ t40 : Int, e38 = .returned (.int .i64 t40) ∧
Q (.int .i64 (IntKind.wrap .i64 (x29 * t40))) w39))

def V43 (x1 : Bool) (x2 : Option Addr) (x3 : Nat) (x4 : Nat) (x5 : Bool) (x6 : Option Addr) (x7 : Nat) (x8 : Nat) (w : World) (Q : Value → World → Prop) : Prop :=
newK w #[.bool x1, .slice x2 x3 x4] 40 fun a9 w10 =>
newK w10 #[.bool x5, .slice x6 x7 x8] 40 fun a11 w12 =>
∃ t13 : Bool, ∃ t14 : Option Addr, ∃ t15 : Nat, ∃ t16 : Nat, CellsAt w12.drew a9 [.bool t13, .slice t14 t15 t16] ∧
∃ t17 : Bool, ∃ t18 : Option Addr, ∃ t19 : Nat, ∃ t20 : Nat, CellsAt w12.drew a11 [.bool t17, .slice t18 t19 t20] ∧
Calls Tryz.prog 94 #[.agg #[.bool t13, .slice t14 t15 t16]] w12.drew fun e21 w22 => ∃ t23 : Int, e21 = .returned (.int .i64 t23) ∧
(CellsAt w22 a11 [.bool t17, .slice t18 t19 t20]) ∧
Calls Tryz.prog 94 #[.agg #[.bool t17, .slice t18 t19 t20]] w22 fun e24 w25 => ∃ t26 : Int, e24 = .returned (.int .i64 t26) ∧
V43J1 Q a9 a11 t23 t26 w25

def V43_ann : Nat → Ann := fun _ => ⟨[], []⟩
theorem V43_eq (x1 : Bool) (x2 : Option Addr) (x3 : Nat) (x4 : Nat) (x5 : Bool) (x6 : Option Addr) (x7 : Nat) (x8 : Nat) (w : World) (Q : Value → World → Prop) : (match Tryz.f43.body with | some c => wpC Tryz.prog Tryz.f43.ntmps V43_ann c 0 (resQ Tryz.prog Tryz.f43.ntmps Tryz.f43.results.toList Q) (argsF [.agg #[.bool x1, .slice x2 x3 x4], .agg #[.bool x5, .slice x6 x7 x8]]) w | none => False) = V43 x1 x2 x3 x4 x5 x6 x7 x8 w Q := by kernel_rfl
theorem V43_sound (x1 : Bool) (x2 : Option Addr) (x3 : Nat) (x4 : Nat) (x5 : Bool) (x6 : Option Addr) (x7 : Nat) (x8 : Nat) (w : World) (Q : Value → World → Prop) (h : V43 x1 x2 x3 x4 x5 x6 x7 x8 w Q) : Calls Tryz.prog 43 #[.agg #[.bool x1, .slice x2 x3 x4], .agg #[.bool x5, .slice x6 x7 x8]] w fun e w' => ∃ v, e = .returned v ∧ Q v w' :=
  sound_of Tryz.func43 V43_ann rfl ((V43_eq x1 x2 x3 x4 x5 x6 x7 x8 w Q).mpr h)

def V44 (x1 : Option Addr) (x2 : Int) (w : World) (Q : Value → World → Prop) : Prop :=
Calls Tryz.prog 41 #[.pointer x1, .int .i64 x2] w fun e3 w4 => ∃ t5 : Value, e3 = .returned (t5) ∧
∃ t6 : ByteArray, ∃ t7 : Bool, (∀ w : World, (Instr.typeAssert t5 77 160 true).run Tryz.prog w = .ok (.tuple #[.agg #[.string t6], .bool t7]) w) ∧
newK w4 #[.string ⟨#[]⟩] 160 fun a8 w9 =>
stK w9 (a8.add 0) (.string t6) fun w10 =>
∃ t11 : ByteArray, w10.cell? (a8.add 0) = some (.string t11) ∧
Q (.tuple #[.string t11, .bool t7]) w10

def V44_ann : Nat → Ann := fun _ => ⟨[], []⟩
theorem V44_eq (x1 : Option Addr) (x2 : Int) (w : World) (Q : Value → World → Prop) : (match Tryz.f44.body with | some c => wpC Tryz.prog Tryz.f44.ntmps V44_ann c 0 (resQ Tryz.prog Tryz.f44.ntmps Tryz.f44.results.toList Q) (argsF [.pointer x1, .int .i64 x2]) w | none => False) = V44 x1 x2 w Q := by kernel_rfl
theorem V44_sound (x1 : Option Addr) (x2 : Int) (w : World) (Q : Value → World → Prop) (h : V44 x1 x2 w Q) : Calls Tryz.prog 44 #[.pointer x1, .int .i64 x2] w fun e w' => ∃ v, e = .returned v ∧ Q v w' :=
  sound_of Tryz.func44 V44_ann rfl ((V44_eq x1 x2 w Q).mpr h)

def V72 (x1 : Option Addr) (w : World) (Q : Value → World → Prop) : Prop :=
bsel (Option.isNone x1) (
Q (.int .i64 0) w) (
nilK x1 fun a2 =>
∃ t3 : Option Addr, w.cell? (a2.add 0) = some (.pointer t3) ∧
Calls Tryz.prog 121 #[.pointer t3] w fun e4 w5 => ∃ t6 : Int, e4 = .returned (.int .i64 t6) ∧
Q (.int .i64 t6) w5)

def V72_ann : Nat → Ann := fun _ => ⟨[], []⟩
theorem V72_eq (x1 : Option Addr) (w : World) (Q : Value → World → Prop) : (match Tryz.f72.body with | some c => wpC Tryz.prog Tryz.f72.ntmps V72_ann c 0 (resQ Tryz.prog Tryz.f72.ntmps Tryz.f72.results.toList Q) (argsF [.pointer x1]) w | none => False) = V72 x1 w Q := by kernel_rfl
theorem V72_sound (x1 : Option Addr) (w : World) (Q : Value → World → Prop) (h : V72 x1 w Q) : Calls Tryz.prog 72 #[.pointer x1] w fun e w' => ∃ v, e = .returned v ∧ Q v w' :=
  sound_of Tryz.func72 V72_ann rfl ((V72_eq x1 w Q).mpr h)

def V73 (x1 : Option Addr) (w : World) (Q : Value → World → Prop) : Prop :=
Calls Tryz.prog 122 #[.pointer x1] w fun e2 w3 => ∃ t4 : Bool, e2 = .returned (.bool t4) ∧
bsel t4 (
Q (.int .i64 0) w3) (
nilK x1 fun a5 =>
∃ t6 : Value, w3.cell? (a5.add 1) = some (t6) ∧
InvK Tryz.prog t6 "lexicon/shared.len" #[] w3 fun e7 w8 => ∃ t9 : Int, e7 = .returned (.int .i64 t9) ∧
Q (.int .i64 t9) w8)

def V73_ann : Nat → Ann := fun _ => ⟨[], []⟩
theorem V73_eq (x1 : Option Addr) (w : World) (Q : Value → World → Prop) : (match Tryz.f73.body with | some c => wpC Tryz.prog Tryz.f73.ntmps V73_ann c 0 (resQ Tryz.prog Tryz.f73.ntmps Tryz.f73.results.toList Q) (argsF [.pointer x1]) w | none => False) = V73 x1 w Q := by kernel_rfl
theorem V73_sound (x1 : Option Addr) (w : World) (Q : Value → World → Prop) (h : V73 x1 w Q) : Calls Tryz.prog 73 #[.pointer x1] w fun e w' => ∃ v, e = .returned v ∧ Q v w' :=
  sound_of Tryz.func73 V73_ann rfl ((V73_eq x1 w Q).mpr h)

def V74 (x1 : Option Addr) (x2 : Int) (w : World) (Q : Value → World → Prop) : Prop :=
Calls Tryz.prog 41 #[.pointer x1, .int .i64 x2] w fun e3 w4 => ∃ t5 : Value, e3 = .returned (t5) ∧
∃ t6 : Option Addr, ∃ t7 : Bool, (∀ w : World, (Instr.typeAssert t5 77 111 true).run Tryz.prog w = .ok (.tuple #[.pointer t6, .bool t7]) w) ∧
bsel t7 (
nilK t6 fun a8 =>
∃ t9 : Option Addr, w4.cell? (a8.add 1) = some (.pointer t9) ∧
Q (.pointer t9) w4) (
∃ t10 : Option Addr, ∃ t11 : Bool, (∀ w : World, (Instr.typeAssert t5 77 190 true).run Tryz.prog w = .ok (.tuple #[.pointer t10, .bool t11]) w) ∧
bsel t11 (
nilK t10 fun a12 =>
∃ t13 : Option Addr, w4.cell? (a12.add 1) = some (.pointer t13) ∧
Q (.pointer t13) w4) (
Q (.pointer none) w4))

def V74_ann : Nat → Ann := fun _ => ⟨[], []⟩
theorem V74_eq (x1 : Option Addr) (x2 : Int) (w : World) (Q : Value → World → Prop) : (match Tryz.f74.body with | some c => wpC Tryz.prog Tryz.f74.ntmps V74_ann c 0 (resQ Tryz.prog Tryz.f74.ntmps Tryz.f74.results.toList Q) (argsF [.pointer x1, .int .i64 x2]) w | none => False) = V74 x1 x2 w Q := by kernel_rfl
theorem V74_sound (x1 : Option Addr) (x2 : Int) (w : World) (Q : Value → World → Prop) (h : V74 x1 x2 w Q) : Calls Tryz.prog 74 #[.pointer x1, .int .i64 x2] w fun e w' => ∃ v, e = .returned v ∧ Q v w' :=
  sound_of Tryz.func74 V74_ann rfl ((V74_eq x1 x2 w Q).mpr h)

def V75 (x1 : Bool) (x2 : Option Addr) (x3 : Nat) (x4 : Nat) (w : World) (Q : Value → World → Prop) : Prop :=
newK w #[.bool x1, .slice x2 x3 x4] 40 fun a5 w6 =>
∃ t7 : Option Addr, ∃ t8 : Nat, ∃ t9 : Nat, w6.cell? (a5.add 1) = some (.slice t7 t8 t9) ∧
Calls Tryz.prog 124 #[.slice t7 t8 t9] w6 fun e10 w11 => ∃ t12 : Option Addr, ∃ t13 : Nat, ∃ t14 : Nat, e10 = .returned (.slice t12 t13 t14) ∧
Calls Tryz.prog 123 #[.slice t12 t13 t14] w11 fun e15 w16 => ∃ t17 : Option Addr, ∃ t18 : Nat, ∃ t19 : Nat, e15 = .returned (.slice t17 t18 t19) ∧
bsel ((t18 : Int) == 0) (
Q (.string (⟨#[48]⟩ : ByteArray)) w16) (
∃ (I20 : Option Addr → Nat → Nat → Option Addr → Nat → Nat → World → Prop) (μ21 : Option Addr → Nat → Nat → Option Addr → Nat → Nat → World → Nat), I20 t17 t18 t19 none 0 0 w16 ∧ ∀ (j29 : Fr) (i22 : Option Addr) (i23 : Nat) (i24 : Nat) (i25 : Option Addr) (i26 : Nat) (i27 : Nat) (w28 : World), I20 i22 i23 i24 i25 i26 i27 w28 →
bsel (decide ((i23 : Int) > 0)) (
∃ (I30 : Int → Int → World → Prop) (μ31 : Int → Int → World → Nat), I30 0 (IntKind.wrap .i64 ((i23 : Int) - 1)) w28 ∧ ∀ (j35 : Fr) (i32 : Int) (i33 : Int) (w34 : World), I30 i32 i33 w34 →
bsel (decide (i33 ≥ 0)) (
idxK i22 i23 i33 1 fun a36 =>
∃ t37 : Int, w34.cell? a36 = some (.int .u32 t37) ∧
Calls Tryz.prog 125 #[.int .u32 i32, .int .u32 t37, .int .u32 1000000000] w34 fun e38 w39 => ∃ t40 : Int, ∃ t41 : Int, e38 = .returned (.tuple #[.int .u32 t40, .int .u32 t41]) ∧
idxK i22 i23 i33 1 fun a42 =>
stK w39 a42 (.int .u32 t40) fun w43 =>
(I30 t41 (IntKind.wrap .i64 (i33 - 1)) w43 ∧ μ31 t41 (IntKind.wrap .i64 (i33 - 1)) w43 < μ31 i32 i33 w34)) (
newK w34 #[.int .u32 i32] 45 fun a44 w45 =>
∃ w46 : World, ∃ t47 : Option Addr, ∃ t48 : Nat, ∃ t49 : Nat, (vcEff.bltV .append #[38, 38] 38 #[.slice i25 i26 i27, .slice (some a44) 1 1]).run Tryz.prog w45 = .ok (.slice t47 t48 t49) w46 ∧
Calls Tryz.prog 124 #[.slice i22 i23 i24] w46 fun e50 w51 => ∃ t52 : Option Addr, ∃ t53 : Nat, ∃ t54 : Nat, e50 = .returned (.slice t52 t53 t54) ∧
(I20 t52 t53 t54 t47 t48 t49 w51 ∧ μ21 t52 t53 t54 t47 t48 t49 w51 < μ21 i22 i23 i24 i25 i26 i27 w28))) (
newK w28 #[.pointer none, .slice none 0 0] 150 fun a55 w56 =>
Calls Tryz.prog 126 #[.slice i25 i26 i27] w56 fun e57 w58 => ∃ t59 : Value, e57 = .returned (t59) ∧
∀ Rec60 : LoopState → Option Code → Obj, (∀ s p c e f, Rec60 s p ≠ .cells c e f) →
(∀ (w61 : World) (K62 : Bool → World → Prop), w61.heap[(w58.heap.size + 1)]? = some (Rec60 .ready none) → ∀ (y63 : Value) (y64 : Int), (
w61.heap[(w58.heap.size + 1)]? = some (Rec60 .ready none) ∧
Calls Tryz.prog 127 #[.int .u32 y64] (w61.putObj (w58.heap.size + 1) (Rec60 .busy none)) fun e65 w66 => ∃ t67 : Int, ∃ t68 : Int, ∃ t69 : Int, ∃ t70 : Int, ∃ t71 : Int, ∃ t72 : Int, ∃ t73 : Int, ∃ t74 : Int, ∃ t75 : Int, e65 = .returned (.agg #[.int .u8 t67, .int .u8 t68, .int .u8 t69, .int .u8 t70, .int .u8 t71, .int .u8 t72, .int .u8 t73, .int .u8 t74, .int .u8 t75]) ∧
newK w66 #[.int .u8 0, .int .u8 0, .int .u8 0, .int .u8 0, .int .u8 0, .int .u8 0, .int .u8 0, .int .u8 0, .int .u8 0] 246 fun a76 w77 =>
stK w77 (a76.add 0) (.int .u8 t67) fun w78 =>
stK w78 (a76.add 1) (.int .u8 t68) fun w79 =>
stK w79 (a76.add 2) (.int .u8 t69) fun w80 =>
stK w80 (a76.add 3) (.int .u8 t70) fun w81 =>
stK w81 (a76.add 4) (.int .u8 t71) fun w82 =>
stK w82 (a76.add 5) (.int .u8 t72) fun w83 =>
stK w83 (a76.add 6) (.int .u8 t73) fun w84 =>
stK w84 (a76.add 7) (.int .u8 t74) fun w85 =>
stK w85 (a76.add 8) (.int .u8 t75) fun w86 =>
∃ t87 : Option Addr, ∃ t88 : Nat, ∃ t89 : Nat, (∀ w : World, (Instr.sliceAt 246 (.pointer (some a76)) none none none).run Tryz.prog w = .ok (.slice t87 t88 t89) w) ∧
Calls Tryz.prog 128 #[.pointer (some a55), .slice t87 t88 t89] w86 fun e90 w91 => ∃ t92 : Int, ∃ t93 : Value, e90 = .returned (.tuple #[.int .i64 t92, t93]) ∧
((∃ s p, w91.heap[(w58.heap.size + 1)]? = some (Rec60 s p)) ∧ K62 true (w91.putObj (w58.heap.size + 1) (Rec60 .ready none)))) → RoundK Tryz.prog (w58.heap.size + 1) #[y63, .int .u32 y64] w61 K62) →
CallG Tryz.prog t59 #[.func (.yield (w58.heap.size + 1)) #[] #[]] ((w58.alloc (.deferred (some []))).alloc (Rec60 .ready none)) fun e94 w95 => (∃ v96, e94 = .returned v96) ∧ ((w95.heap[(w58.heap.size + 1)]? = some (Rec60 .ready none) ∧
Calls Tryz.prog 70 #[.pointer (some a55)] (w95.putObj (w58.heap.size + 1) (Rec60 .exhausted none)) fun e97 w98 => ∃ t99 : ByteArray, e97 = .returned (.string t99) ∧
Calls Tryz.prog 129 #[.string t99, .string (⟨#[48]⟩ : ByteArray)] w98 fun e100 w101 => ∃ t102 : ByteArray, e100 = .returned (.string t102) ∧
∃ t103 : Bool, w101.cell? (a5.add 0) = some (.bool t103) ∧
bsel t103 (
((((⟨#[45]⟩ : ByteArray).size + t102.size : Nat) : Int) ≤ 9223372036854775807) ∧
((w101.heap[w58.heap.size]? = some (.deferred (some []))) ∧ Q (.string ((⟨#[45]⟩ : ByteArray) ++ t102)) (w101.putObj w58.heap.size (.deferred none)))) (
((w101.heap[w58.heap.size]? = some (.deferred (some []))) ∧ Q (.string t102) (w101.putObj w58.heap.size (.deferred none))))) ∨ False)))

def V75_sh : Nat → List (Nat × Shape) := fun k => match k with | 2 => [(49, .one (.raw)), (50, .one (.int .u32))] | _ => []
def V75_ann : Nat → Ann := fun k => match k with | 0 => ⟨[1], [(3, .slice), (4, .slice)]⟩ | 1 => ⟨[1, 3, 4], [(5, .int .u32), (6, .int .i64)]⟩ | _ => ⟨[], []⟩
theorem V75_eq (x1 : Bool) (x2 : Option Addr) (x3 : Nat) (x4 : Nat) (w : World) (Q : Value → World → Prop) : (match Tryz.f75.body with | some c => wpM Tryz.prog Tryz.f75.ntmps V75_ann V75_sh c 0 [] (resM Tryz.prog Tryz.f75.ntmps Tryz.f75.results.toList Q) (argsF [.agg #[.bool x1, .slice x2 x3 x4]]) w | none => False) = V75 x1 x2 x3 x4 w Q := by kernel_rfl
theorem V75_sound (x1 : Bool) (x2 : Option Addr) (x3 : Nat) (x4 : Nat) (w : World) (Q : Value → World → Prop) (h : V75 x1 x2 x3 x4 w Q) : Calls Tryz.prog 75 #[.agg #[.bool x1, .slice x2 x3 x4]] w fun e w' => ∃ v, e = .returned v ∧ Q v w' :=
  sound_ofM Tryz.func75 V75_ann V75_sh rfl ((V75_eq x1 x2 x3 x4 w Q).mpr h)

end Go.Fw

set_option autoImplicit false
set_option linter.unusedVariables false
namespace Go.Fw
open Go.Proofs Go.RowKit

theorem numbered80 (r : Nat) (w : World) : (callMethod (.iface 94 (.pointer (some ⟨r, 0, none⟩))) "lexicon/store.numbered" #[]).run Tryz.prog w = (do let v ← loadVar 98 ⟨r, 0, none⟩; callFunc 401 #[v]).run Tryz.prog w := by kernel_rfl
theorem callFunc225 (v : Value) (w : World) : (callFunc 401 #[v]).run Tryz.prog w = .ok (.enter 401 #[v]) w := by kernel_rfl
theorem ld84 (a : Addr) (w : World) (K : Value → Prop) : ldK Tryz.prog 98 w a K = ∃ t : Int, CellsAt w a [.int .i64 t] ∧ K (.agg #[.int .i64 t]) := by kernel_rfl
theorem load84 (r : Nat) (n : Int) (w : World) (h : w.cell? ⟨r, 0, none⟩ = some (.int .i64 n)) : (loadVar 98 ⟨r, 0, none⟩).run Tryz.prog w = .ok (.agg #[.int .i64 n]) w := by
  obtain ⟨v, h1, h2⟩ := ldK_run (P := Tryz.prog) (t := 98) (w := w) (a := ⟨r, 0, none⟩) (K := fun v => v = .agg #[.int .i64 n]) (by rw [ld84]; exact ⟨n, by show w.cell? _ = _; rw [add_mk]; exact h, rfl⟩)
  rw [h1, h2]

theorem C401 (n : Int) (w : World) : Calls Tryz.prog 401 #[.agg #[.int .i64 n]] w fun e w' => e = .returned (.int .i64 n) ∧ Keep No w w' := by
  refine ret_mono (V401_sound n w (fun r w' => r = .int .i64 n ∧ Keep No w w') ?_) (by rintro _ _ ⟨rfl, h⟩; exact ⟨rfl, h⟩)
  unfold V401
  exact newK_of fun b w1 hs hb hk => ⟨_, hb.add 0 rfl, rfl, hk⟩

theorem inv_numbered80 {r : Nat} {n : Int} {w : World} (h : w.cell? ⟨r, 0, none⟩ = some (.int .i64 n)) {R : Ending → World → Prop} (hR : ∀ w', Keep No w w' → R (.returned (.int .i64 n)) w') :
    InvK Tryz.prog (.iface 94 (.pointer (some ⟨r, 0, none⟩))) "lexicon/store.numbered" #[] w R := by
  refine ⟨401, .agg #[.int .i64 n], ?_, (C401 n w).mono ?_⟩
  · rw [numbered80, Sem.run_bind, load84 r n w h]
    simp only [Result.andThen, Array.append_empty]
    exact callFunc225 _ _
  · rintro _ w' ⟨rfl, hk⟩
    exact hR w' hk

section
variable {w : World} {s B : Nat} {S : St} {i : Nat}

/-- Len of a row. -/
theorem C33_row (h : StAt w s B S) {r : Nat} (hx : S.vals[i]? = some (.iface 94 (.pointer (some ⟨r, 0, none⟩)))) {n k : Int} {a : Option Addr} {l c : Nat} (hr : Blk w r 100 [.int .i64 n, .slice a l c, .int .i64 k]) :
    Calls Tryz.prog 33 #[.pointer (some ⟨s, 0, none⟩), .int .i64 i] w fun e w' => e = .returned (.tuple #[.int .i64 l, .int .i64 0]) ∧ w' = w := by
  refine ret_mono (V33_sound _ _ w (fun r w' => r = .tuple #[.int .i64 l, .int .i64 0] ∧ w' = w) ?_) (by rintro _ _ ⟨rfl, h⟩; exact ⟨rfl, h⟩)
  unfold V33
  refine (C41_in h hx).mono ?_
  rintro _ w1 ⟨rfl, rfl⟩
  refine ⟨_, rfl, _, _, no96 (by decide) _ _, bsel_neg rfl ⟨_, _, yes80 _ _, bsel_pos rfl ?_⟩⟩
  rw [nilK_some]
  exact ⟨_, _, _, hr.add 1 rfl, rfl, rfl⟩
/-- Len of a str. -/
theorem C33_str (h : StAt w s B S) {t : ByteArray} (hx : S.vals[i]? = some (.iface 160 (.agg #[.string t]))) (ht : t.size < 1000000000000000) :
    Calls Tryz.prog 33 #[.pointer (some ⟨s, 0, none⟩), .int .i64 i] w fun e w' => e = .returned (.tuple #[.int .i64 (Lib.runeCount t), .int .i64 0]) ∧ Keep No w w' := by
  refine ret_mono (V33_sound _ _ w (fun r w' => r = .tuple #[.int .i64 (Lib.runeCount t), .int .i64 0] ∧ Keep No w w') ?_) (by rintro _ _ ⟨rfl, h⟩; exact ⟨rfl, h⟩)
  unfold V33
  refine (C41_in h hx).mono ?_
  rintro _ w1 ⟨rfl, rfl⟩
  refine ⟨_, rfl, _, _, yes96 _ _, bsel_pos rfl (newK_of fun b w2 hs hb hk => stK_add hb (by simp) fun w3 hb3 hk3 => ⟨_, hb3.add 0 rfl, (C71 t ht w3).mono ?_⟩)⟩
  rintro _ w4 ⟨rfl, hk4⟩
  exact ⟨_, rfl, rfl, (hk.news hk3 (by rintro k rfl; omega)).no hk4⟩
/-- Tag of a row. -/
theorem C34_row1 (h : StAt w s B S) {r : Nat} (hx : S.vals[i]? = some (.iface 94 (.pointer (some ⟨r, 0, none⟩)))) {rest : List Value} (hr : Blk w r 100 (.int .i64 1 :: rest)) :
    Calls Tryz.prog 34 #[.pointer (some ⟨s, 0, none⟩), .int .i64 i] w fun e w' => e = .returned (.string ⟨#[35, 49]⟩) ∧ Keep No w w' := by
  refine ret_mono (V34_sound _ _ w (fun r w' => r = .string ⟨#[35, 49]⟩ ∧ Keep No w w') ?_) (by rintro _ _ ⟨rfl, h⟩; exact ⟨rfl, h⟩)
  unfold V34
  refine (C41_in h hx).mono ?_
  rintro _ w1 ⟨rfl, rfl⟩
  refine ⟨_, rfl, ?_⟩
  rw [eqNilI_iface]
  refine bsel_neg rfl ⟨_, no70 (by decide) _ _, bsel_neg rfl ⟨_, _, no72 (by decide) _ _, bsel_neg rfl ⟨_, _, _, _, _, no112 (by decide) _ _, bsel_neg rfl ⟨_, _, no96 (by decide) _ _, bsel_neg rfl ⟨_, _, _, no91 (by decide) _ _, bsel_neg rfl ?_⟩⟩⟩⟩⟩
  refine inv_numbered80 (hr.cell rfl) fun w2 hk2 => ⟨_, rfl, (C77_1 w2).mono ?_⟩
  rintro _ w3 ⟨rfl, rfl⟩
  exact ⟨_, rfl, by decide, by rw [show (⟨#[35]⟩ : ByteArray) ++ ⟨#[49]⟩ = ⟨#[35, 49]⟩ by decide], hk2⟩
/-- Tag of "a". -/
theorem C34_a (h : StAt w s B S) (hx : S.vals[i]? = some strA) :
    Calls Tryz.prog 34 #[.pointer (some ⟨s, 0, none⟩), .int .i64 i] w fun e w' => e = .returned (.string ⟨#[39, 97, 39]⟩) ∧ Keep No w w' := by
  refine ret_mono (V34_sound _ _ w (fun r w' => r = .string ⟨#[39, 97, 39]⟩ ∧ Keep No w w') ?_) (by rintro _ _ ⟨rfl, h⟩; exact ⟨rfl, h⟩)
  unfold V34
  refine (C41_in h hx).mono ?_
  rintro _ w1 ⟨rfl, rfl⟩
  refine ⟨_, rfl, ?_⟩
  unfold strA
  rw [eqNilI_iface]
  refine bsel_neg rfl ⟨_, no70 (by decide) _ _, bsel_neg rfl ⟨_, _, no72 (by decide) _ _, bsel_neg rfl ⟨_, _, _, _, _, no112 (by decide) _ _, bsel_neg rfl ⟨_, _, yes96 _ _, bsel_pos rfl ?_⟩⟩⟩⟩
  refine newK_of fun b w2 hs hb hk => stK_add hb (by simp) fun w3 hb3 hk3 => ⟨_, hb3.add 0 rfl, (C76_a w3).mono ?_⟩
  rintro _ w4 ⟨rfl, hk4⟩
  exact ⟨_, rfl, rfl, (hk.news hk3 (by rintro k rfl; omega)).no hk4⟩
/-- Truth of a str that is not empty. -/
theorem C35_str (h : StAt w s B S) {t : ByteArray} (hx : S.vals[i]? = some (.iface 160 (.agg #[.string t]))) (ht : t.size < 1000000000000000) :
    Calls Tryz.prog 35 #[.pointer (some ⟨s, 0, none⟩), .int .i64 i] w fun e w' => e = .returned (.bool (decide ((Lib.runeCount t : Int) > 0))) ∧ Keep No w w' := by
  refine ret_mono (V35_sound _ _ w (fun r w' => r = .bool (decide ((Lib.runeCount t : Int) > 0)) ∧ Keep No w w') ?_) (by rintro _ _ ⟨rfl, h⟩; exact ⟨rfl, h⟩)
  unfold V35
  refine (C41_in h hx).mono ?_
  rintro _ w1 ⟨rfl, rfl⟩
  refine ⟨_, rfl, ?_⟩
  rw [eqNilI_iface]
  refine ⟨_, no70 (by decide) _ _, bsel_neg rfl ?_⟩
  unfold V35J2
  refine bsel_neg rfl ⟨_, _, no72 (by decide) _ _, bsel_neg rfl ⟨_, _, _, _, _, no112 (by decide) _ _, bsel_neg rfl ⟨_, _, no102 (by decide) _ _, bsel_neg rfl ?_⟩⟩⟩
  unfold V35J1
  refine (C33_str h hx ht).mono ?_
  rintro _ w2 ⟨rfl, hk2⟩
  exact ⟨_, _, rfl, bsel_neg rfl ⟨rfl, hk2⟩⟩
end

/-- awake. -/
theorem C10 (w : World) : Calls Tryz.prog 10 #[] w fun e w' => e = .returned (.bool true) ∧ Keep No w w' := by
  refine ret_mono (V10_sound w (fun r w' => r = .bool true ∧ Keep No w w') ?_) (by rintro _ _ ⟨rfl, h⟩; exact ⟨rfl, h⟩)
  unfold V10
  refine (C12 10 3 w).mono ?_
  rintro _ w1 ⟨rfl, hk1⟩
  refine ⟨_, _, _, _, _, _, _, _, _, rfl, (C11 (by decide) (by decide) (by decide)).mono ?_⟩
  rintro _ w2 ⟨s, a, p, rfl, hS, hk2⟩
  refine ⟨_, _, rfl, bsel_neg rfl ?_⟩
  unfold V10J2
  refine bsel_neg rfl (newK_of fun kb w3 hs3 hkb hk3 => newK_of fun tb w4 hs4 htb hk4 => ?_)
  have hk04 := ((hk1.no hk2).no hk3).no hk4
  have hS4 := (hS.no hk3).no hk4
  have hkb4 := hk4.nblk hkb
  have hB : w1.heap.size ≤ w4.heap.size := ((hk2.no hk3).no hk4).size
  have hL := aw_laws (tb := tb) rfl hB rfl rfl rfl hkb4 htb (s := s) (B := w1.heap.size) (S := ⟨0, 10, 3, none, 0, 0, none, 0, 0, none, 0, 0, 0, false, a, p, val0⟩)
  have hts : TermsAt w4 (some ⟨tb, 0, none⟩) [tmA, tmB kb] := by
    intro i t ht
    rcases i with _ | _ | i
    · cases ht
      exact ⟨_, rfl, htb.cellsAdd 0 rfl⟩
    · cases ht
      exact ⟨_, rfl, htb.cellsAdd 8 rfl⟩
    · simp at ht
  refine (C13_gen rfl hts ?_ (by simp) ?_ ?_ ?_ hL).mono ?_
  · rintro _ h ⟨_, e, he, hm⟩
    cases h
    rw [htb.etype] at he; cases he; exact absurd hm (by decide)
  · intro i t ht
    rcases i with _ | _ | i
    · cases ht; decide
    · cases ht; simp [tmB]
    · simp at ht
  · rintro k ⟨_, e, he, _⟩
    unfold etype at he
    rcases Nat.lt_or_ge k w4.heap.size with h | h
    · exact h
    · rw [Array.getElem?_eq_none h] at he; cases he
  · exact .inl ⟨rfl, rfl, fun _ => id, false, hS4⟩
  rintro _ w5 ⟨r, rfl, ⟨i, _, _, h, _⟩ | ⟨_, refs, own, v, hrl, rfl, hF, hk5, hrow, _⟩⟩
  · exact absurd rfl h
  have hk05 : Keep No w w5 := hk04.news hk5 fun k h => by have := h.1; have := hk1.size; omega
  rcases hF with ⟨h, _⟩ | ⟨h, _⟩ | ⟨_, rfl, d, r, g, cs, hS5, hr, _⟩
  · omega
  · omega
  obtain ⟨g', cap, rfl, _, hc0⟩ := row_cell hrow (i := 0) rfl
  obtain ⟨g'', cap', hv, _, hc1⟩ := row_cell hrow (i := 1) rfl
  have hgg : g'' = g' := by simp at hv; exact hv.1.symm
  subst hgg
  refine ⟨_, _, _, _, rfl, bsel_neg rfl ?_⟩
  unfold V10J1
  refine bsel_neg rfl (idxK_of (i := 1) (by simp) ⟨_, by rw [add_mk]; exact hc1, (C33_row hS5 (i := 4) rfl hr).mono ?_⟩)
  rintro _ w6 ⟨rfl, rfl⟩
  refine ⟨_, _, rfl, bsel_pos rfl (bsel_pos rfl (idxK_of (i := 0) (by simp) ⟨_, by rw [add_mk]; exact hc0, (C34_a hS5 (i := 3) rfl).mono ?_⟩))⟩
  rintro _ w7 ⟨rfl, hk7⟩
  refine ⟨_, rfl, bsel_pos (beq_self_eq_true _) (idxK_of (i := 1) (by simp) ⟨_, by rw [add_mk]; exact hk7.cell hc1 id, (C34_row1 (hS5.no hk7) (i := 4) rfl (hk7.nblk hr)).mono ?_⟩)⟩
  rintro _ w8 ⟨rfl, hk8⟩
  refine ⟨_, rfl, bsel_pos (beq_self_eq_true _) (idxK_of (i := 0) (by simp) ⟨_, by rw [add_mk]; exact hk8.cell (hk7.cell hc0 id) id, (C35_str ((hS5.no hk7).no hk8) (i := 3) rfl (by decide)).mono ?_⟩)⟩
  rintro _ w9 ⟨rfl, hk9⟩
  exact ⟨_, rfl, by rw [show Lib.runeCount ⟨#[97]⟩ = 1 by decide]; rfl, ((hk05.no hk7).no hk8).no hk9⟩
end Go.Fw

set_option autoImplicit false
set_option linter.unusedVariables false
set_option maxRecDepth 100000
namespace Go.Fw
open Go.Proofs

def V30  (w : World) (Q : Value → World → Prop) : Prop :=
newK w #[.int .i64 0] 3 fun a1 w2 =>
newK w2 #[.int .i64 4, .bool false, .bool false, .slice none 0 0, .string (⟨#[97]⟩ : ByteArray), .slice none 0 0, .bool false, .bool false, .int .i64 5, .bool false, .bool false, .slice none 0 0, .string ⟨#[]⟩, .slice (some a1) 1 1, .bool false, .bool false] 42 fun a3 w4 =>
Calls Tryz.prog 31 #[.slice (some a3) 2 2] w4 fun e5 w6 => ∃ t7 : Option Addr, ∃ t8 : Option Addr, ∃ t9 : Nat, ∃ t10 : Nat, ∃ t11 : Option Addr, ∃ t12 : Option Addr, ∃ t13 : Nat, ∃ t14 : Nat, ∃ t15 : Bool, e5 = .returned (.tuple #[.pointer t7, .slice t8 t9 t10, .pointer t11, .slice t12 t13 t14, .bool t15]) ∧
bsel t15 (
bsel ((t9 : Int) == 2) (
idxK t8 t9 1 1 fun a16 =>
∃ t17 : Int, w6.cell? a16 = some (.int .i64 t17) ∧
Calls Tryz.prog 32 #[.pointer t7, .int .i64 t17, .bool false] w6 fun e18 w19 => ∃ t20 : ByteArray, e18 = .returned (.string t20) ∧
bsel (t20.toList == (⟨#[40, 39, 97, 39, 44, 41]⟩ : ByteArray).toList) (
idxK t8 t9 0 1 fun a21 =>
∃ t22 : Int, w19.cell? a21 = some (.int .i64 t22) ∧
Calls Tryz.prog 32 #[.pointer t7, .int .i64 t22, .bool true] w19 fun e23 w24 => ∃ t25 : ByteArray, e23 = .returned (.string t25) ∧
Q (.bool (t25.toList == (⟨#[97]⟩ : ByteArray).toList)) w24) (
Q (.bool false) w19)) (
Q (.bool false) w6)) (
Q (.bool false) w6)

def V30_ann : Nat → Ann := fun _ => ⟨[], []⟩
theorem V30_eq  (w : World) (Q : Value → World → Prop) : (match Tryz.f30.body with | some c => wpC Tryz.prog Tryz.f30.ntmps V30_ann c 0 (resQ Tryz.prog Tryz.f30.ntmps Tryz.f30.results.toList Q) (argsF []) w | none => False) = V30  w Q := by kernel_rfl
theorem V30_sound  (w : World) (Q : Value → World → Prop) (h : V30  w Q) : Calls Tryz.prog 30 #[] w fun e w' => ∃ v, e = .returned v ∧ Q v w' :=
  sound_of Tryz.func30 V30_ann rfl ((V30_eq  w Q).mpr h)

def V31J1 (Q : Value → World → Prop) (x37 : Option Addr) (x38 : Nat) (x39 : Nat) (x40 : Option Addr) (x41 : Option Addr) (x42 : Bool) (w43 : World) : Prop :=
bsel x42 (
Q (.tuple #[.pointer none, .slice none 0 0, .pointer none, .slice none 0 0, .bool false]) w43) (
Calls Tryz.prog 13 #[.pointer x40, .slice x37 x38 x39] w43 fun e44 w45 => ∃ t46 : Option Addr, ∃ t47 : Nat, ∃ t48 : Nat, ∃ t49 : Int, e44 = .returned (.tuple #[.slice t46 t47 t48, .int .i64 t49]) ∧
Calls Tryz.prog 66 #[.pointer x41, .slice x37 x38 x39] w45 fun e50 w51 => ∃ t52 : Option Addr, ∃ t53 : Nat, ∃ t54 : Nat, ∃ t55 : Int, e50 = .returned (.tuple #[.slice t52 t53 t54, .int .i64 t55]) ∧
bsel (t49 == t55) (
Q (.tuple #[.pointer x40, .slice t46 t47 t48, .pointer x41, .slice t52 t53 t54, .bool ((t47 : Int) == (t53 : Int))]) w51) (
Q (.tuple #[.pointer x40, .slice t46 t47 t48, .pointer x41, .slice t52 t53 t54, .bool false]) w51))

def V31 (x1 : Option Addr) (x2 : Nat) (x3 : Nat) (w : World) (Q : Value → World → Prop) : Prop :=
newK w #[.int .i64 0, .int .i64 0, .int .i64 0, .slice none 0 0, .slice none 0 0] 32 fun a4 w5 =>
stK w5 (a4.add 0) (.int .i64 0) fun w6 =>
stK w6 (a4.add 1) (.int .i64 60000) fun w7 =>
stK w7 (a4.add 2) (.int .i64 4) fun w8 =>
stK w8 (a4.add 3) (.slice none 0 0) fun w9 =>
stK w9 (a4.add 4) (.slice none 0 0) fun w10 =>
∃ t11 : Int, ∃ t12 : Int, ∃ t13 : Int, ∃ t14 : Option Addr, ∃ t15 : Nat, ∃ t16 : Nat, ∃ t17 : Option Addr, ∃ t18 : Nat, ∃ t19 : Nat, CellsAt w10 a4 [.int .i64 t11, .int .i64 t12, .int .i64 t13, .slice t14 t15 t16, .slice t17 t18 t19] ∧
Calls Tryz.prog 11 #[.agg #[.int .i64 t11, .int .i64 t12, .int .i64 t13, .slice t14 t15 t16, .slice t17 t18 t19], .pointer none] w10 fun e20 w21 => ∃ t22 : Option Addr, ∃ t23 : Int, e20 = .returned (.tuple #[.pointer t22, .int .i64 t23]) ∧
∃ t24 : Int, ∃ t25 : Int, ∃ t26 : Int, ∃ t27 : Option Addr, ∃ t28 : Nat, ∃ t29 : Nat, ∃ t30 : Option Addr, ∃ t31 : Nat, ∃ t32 : Nat, CellsAt w21 a4 [.int .i64 t24, .int .i64 t25, .int .i64 t26, .slice t27 t28 t29, .slice t30 t31 t32] ∧
Calls Tryz.prog 65 #[.agg #[.int .i64 t24, .int .i64 t25, .int .i64 t26, .slice t27 t28 t29, .slice t30 t31 t32]] w21 fun e33 w34 => ∃ t35 : Option Addr, ∃ t36 : Int, e33 = .returned (.tuple #[.pointer t35, .int .i64 t36]) ∧
bsel (t23 != 0) (
V31J1 Q x1 x2 x3 t22 t35 true w34) (
V31J1 Q x1 x2 x3 t22 t35 (Option.isNone t22) w34)

def V31_ann : Nat → Ann := fun _ => ⟨[], []⟩
theorem V31_eq (x1 : Option Addr) (x2 : Nat) (x3 : Nat) (w : World) (Q : Value → World → Prop) : (match Tryz.f31.body with | some c => wpC Tryz.prog Tryz.f31.ntmps V31_ann c 0 (resQ Tryz.prog Tryz.f31.ntmps Tryz.f31.results.toList Q) (argsF [.slice x1 x2 x3]) w | none => False) = V31 x1 x2 x3 w Q := by kernel_rfl
theorem V31_sound (x1 : Option Addr) (x2 : Nat) (x3 : Nat) (w : World) (Q : Value → World → Prop) (h : V31 x1 x2 x3 w Q) : Calls Tryz.prog 31 #[.slice x1 x2 x3] w fun e w' => ∃ v, e = .returned v ∧ Q v w' :=
  sound_of Tryz.func31 V31_ann rfl ((V31_eq x1 x2 x3 w Q).mpr h)

def V32J1 (Q : Value → World → Prop) (w16 : World) (x36 : Addr) (w37 : World) : Prop :=
Calls Tryz.prog 70 #[.pointer (some x36)] w37 fun e38 w39 => ∃ t40 : ByteArray, e38 = .returned (.string t40) ∧
((w39.heap[w16.heap.size]? = some (.deferred (some []))) ∧ Q (.string t40) (w39.putObj w16.heap.size (.deferred none)))

def V32J2 (Q : Value → World → Prop) (x8 : Option Addr) (x9 : Int) (x10 : ByteArray) (x11 : Bool) (w12 : World) : Prop :=
bsel x11 (
Q (.string x10) w12) (
newK w12 #[.pointer none, .slice none 0 0] 150 fun a13 w14 =>
Calls Tryz.prog 67 #[.pointer x8, .int .i64 x9] w14 fun e15 w16 => ∃ t17 : Value, e15 = .returned (t17) ∧
∀ Rec18 : LoopState → Option Code → Obj, (∀ s p c e f, Rec18 s p ≠ .cells c e f) →
(∀ (w19 : World) (K20 : Bool → World → Prop), w19.heap[(w16.heap.size + 1)]? = some (Rec18 .ready none) → ∀ (y21 : ByteArray), (
w19.heap[(w16.heap.size + 1)]? = some (Rec18 .ready none) ∧
Calls Tryz.prog 68 #[.pointer (some a13)] (w19.putObj (w16.heap.size + 1) (Rec18 .busy none)) fun e22 w23 => ∃ t24 : Int, e22 = .returned (.int .i64 t24) ∧
bsel (decide (t24 ≥ 4096)) (
Calls Tryz.prog 69 #[.pointer (some a13), .string (⟨#[46, 46, 46]⟩ : ByteArray)] w23 fun e25 w26 => ∃ t27 : Int, ∃ t28 : Value, e25 = .returned (.tuple #[.int .i64 t27, t28]) ∧
((∃ s p, w26.heap[(w16.heap.size + 1)]? = some (Rec18 s p)) ∧ K20 false (w26.putObj (w16.heap.size + 1) (Rec18 .done (some (.exit 0)))))) (
Calls Tryz.prog 69 #[.pointer (some a13), .string y21] w23 fun e29 w30 => ∃ t31 : Int, ∃ t32 : Value, e29 = .returned (.tuple #[.int .i64 t31, t32]) ∧
((∃ s p, w30.heap[(w16.heap.size + 1)]? = some (Rec18 s p)) ∧ K20 true (w30.putObj (w16.heap.size + 1) (Rec18 .ready none))))) → RoundK Tryz.prog (w16.heap.size + 1) #[.string y21] w19 K20) →
CallG Tryz.prog t17 #[.func (.yield (w16.heap.size + 1)) #[] #[]] ((w16.alloc (.deferred (some []))).alloc (Rec18 .ready none)) fun e33 w34 => (∃ v35, e33 = .returned v35) ∧ ((w34.heap[(w16.heap.size + 1)]? = some (Rec18 .ready none) ∧
V32J1 Q w16 a13 (w34.putObj (w16.heap.size + 1) (Rec18 .exhausted none))) ∨
(w34.heap[(w16.heap.size + 1)]? = some (Rec18 .done (some (.exit 0))) ∧
V32J1 Q w16 a13 (w34.putObj (w16.heap.size + 1) (Rec18 .exhausted (some (.exit 0))))) ∨ False))

def V32 (x1 : Option Addr) (x2 : Int) (x3 : Bool) (w : World) (Q : Value → World → Prop) : Prop :=
Calls Tryz.prog 44 #[.pointer x1, .int .i64 x2] w fun e4 w5 => ∃ t6 : ByteArray, ∃ t7 : Bool, e4 = .returned (.tuple #[.string t6, .bool t7]) ∧
bsel t7 (
V32J2 Q x1 x2 t6 x3 w5) (
V32J2 Q x1 x2 t6 false w5)

def V32_sh : Nat → List (Nat × Shape) := fun k => match k with | 0 => [(25, .one (.str))] | _ => []
def V32_ann : Nat → Ann := fun _ => ⟨[], []⟩
theorem V32_eq (x1 : Option Addr) (x2 : Int) (x3 : Bool) (w : World) (Q : Value → World → Prop) : (match Tryz.f32.body with | some c => wpM Tryz.prog Tryz.f32.ntmps V32_ann V32_sh c 0 [] (resM Tryz.prog Tryz.f32.ntmps Tryz.f32.results.toList Q) (argsF [.pointer x1, .int .i64 x2, .bool x3]) w | none => False) = V32 x1 x2 x3 w Q := by kernel_rfl
theorem V32_sound (x1 : Option Addr) (x2 : Int) (x3 : Bool) (w : World) (Q : Value → World → Prop) (h : V32 x1 x2 x3 w Q) : Calls Tryz.prog 32 #[.pointer x1, .int .i64 x2, .bool x3] w fun e w' => ∃ v, e = .returned v ∧ Q v w' :=
  sound_ofM Tryz.func32 V32_ann V32_sh rfl ((V32_eq x1 x2 x3 w Q).mpr h)

def V48 (x1 : Option Addr) (x2 : Int) (w : World) (Q : Value → World → Prop) : Prop :=
Calls Tryz.prog 41 #[.pointer x1, .int .i64 x2] w fun e3 w4 => ∃ t5 : Value, e3 = .returned (t5) ∧
eqNilI t5 fun b6 =>
bsel b6 (
Q .nilIface w4) (
InvK Tryz.prog t5 "lexicon/store.numbered" #[] w4 fun e10 w11 => ∃ t12 : Int, e10 = .returned (.int .i64 t12) ∧
bsel (t12 == 0) (
InvK Tryz.prog t5 "Kind" #[] w11 fun e13 w14 => ∃ t15 : Int, e13 = .returned (.int .i64 t15) ∧
bsel (t15 != 11) (
Q .nilIface w14) (
Q t5 w14)) (
Q t5 w11))

def V48_ann : Nat → Ann := fun _ => ⟨[], []⟩
theorem V48_eq (x1 : Option Addr) (x2 : Int) (w : World) (Q : Value → World → Prop) : (match Tryz.f48.body with | some c => wpC Tryz.prog Tryz.f48.ntmps V48_ann c 0 (resQ Tryz.prog Tryz.f48.ntmps Tryz.f48.results.toList Q) (argsF [.pointer x1, .int .i64 x2]) w | none => False) = V48 x1 x2 w Q := by kernel_rfl
theorem V48_sound (x1 : Option Addr) (x2 : Int) (w : World) (Q : Value → World → Prop) (h : V48 x1 x2 w Q) : Calls Tryz.prog 48 #[.pointer x1, .int .i64 x2] w fun e w' => ∃ v, e = .returned v ∧ Q v w' :=
  sound_of Tryz.func48 V48_ann rfl ((V48_eq x1 x2 w Q).mpr h)

def V67 (x1 : Option Addr) (x2 : Int) (w : World) (Q : Value → World → Prop) : Prop :=
newK w #[.pointer x1] 25 fun a3 w4 =>
newK w4 #[.int .i64 x2] 3 fun a5 w6 =>
Q (.func (.func 118) #[] #[.pointer (some a3), .pointer (some a5)]) w6

def V67_ann : Nat → Ann := fun _ => ⟨[], []⟩
theorem V67_eq (x1 : Option Addr) (x2 : Int) (w : World) (Q : Value → World → Prop) : (match Tryz.f67.body with | some c => wpC Tryz.prog Tryz.f67.ntmps V67_ann c 0 (resQ Tryz.prog Tryz.f67.ntmps Tryz.f67.results.toList Q) (argsF [.pointer x1, .int .i64 x2]) w | none => False) = V67 x1 x2 w Q := by kernel_rfl
theorem V67_sound (x1 : Option Addr) (x2 : Int) (w : World) (Q : Value → World → Prop) (h : V67 x1 x2 w Q) : Calls Tryz.prog 67 #[.pointer x1, .int .i64 x2] w fun e w' => ∃ v, e = .returned v ∧ Q v w' :=
  sound_of Tryz.func67 V67_ann rfl ((V67_eq x1 x2 w Q).mpr h)

def V68 (x1 : Option Addr) (w : World) (Q : Value → World → Prop) : Prop :=
nilK x1 fun a2 =>
∃ t3 : Option Addr, ∃ t4 : Nat, ∃ t5 : Nat, w.cell? (a2.add 1) = some (.slice t3 t4 t5) ∧
Q (.int .i64 (t4 : Int)) w

def V68_ann : Nat → Ann := fun _ => ⟨[], []⟩
theorem V68_eq (x1 : Option Addr) (w : World) (Q : Value → World → Prop) : (match Tryz.f68.body with | some c => wpC Tryz.prog Tryz.f68.ntmps V68_ann c 0 (resQ Tryz.prog Tryz.f68.ntmps Tryz.f68.results.toList Q) (argsF [.pointer x1]) w | none => False) = V68 x1 w Q := by kernel_rfl
theorem V68_sound (x1 : Option Addr) (w : World) (Q : Value → World → Prop) (h : V68 x1 w Q) : Calls Tryz.prog 68 #[.pointer x1] w fun e w' => ∃ v, e = .returned v ∧ Q v w' :=
  sound_of Tryz.func68 V68_ann rfl ((V68_eq x1 w Q).mpr h)

def V118 (x1 : Value) (x2 : Addr) (x3 : Addr) (w : World) (Q : Value → World → Prop) : Prop :=
∃ t4 : Option Addr, w.cell? x2 = some (.pointer t4) ∧
plK x1 (
newK w #[.pointer t4, x1, .slice none 0 0, .bool true] 231 fun a5 w6 =>
∃ t7 : Int, w6.cell? x3 = some (.int .i64 t7) ∧
Calls Tryz.prog 119 #[.pointer (some a5), .int .i64 t7] w6 fun e8 w9 => ∃ t10 : Value, e8 = .returned (t10) ∧
Q (.tuple #[]) w9)

def V118_ann : Nat → Ann := fun _ => ⟨[], []⟩
theorem V118_eq (x1 : Value) (x2 : Addr) (x3 : Addr) (w : World) (Q : Value → World → Prop) : (match Tryz.f118.body with | some c => wpC Tryz.prog Tryz.f118.ntmps V118_ann c 0 (resQ Tryz.prog Tryz.f118.ntmps Tryz.f118.results.toList Q) (argsF [x1, .pointer (some x2), .pointer (some x3)]) w | none => False) = V118 x1 x2 x3 w Q := by kernel_rfl
theorem V118_sound (x1 : Value) (x2 : Addr) (x3 : Addr) (w : World) (Q : Value → World → Prop) (h : V118 x1 x2 x3 w Q) : Calls Tryz.prog 118 #[x1, .pointer (some x2), .pointer (some x3)] w fun e w' => ∃ v, e = .returned v ∧ Q v w' :=
  sound_of Tryz.func118 V118_ann rfl ((V118_eq x1 x2 x3 w Q).mpr h)

def V119 (x1 : Option Addr) (x2 : Int) (w : World) (Q : Value → World → Prop) : Prop :=
newK w #[.pointer x1] 229 fun a3 w4 =>
∃ t5 : Option Addr, w4.cell? a3 = some (.pointer t5) ∧
nilK t5 fun a6 =>
∃ t7 : Bool, w4.cell? (a6.add 3) = some (.bool t7) ∧
bsel (!t7) (
Q (.tuple #[]) w4) (
∃ t8 : Option Addr, w4.cell? a3 = some (.pointer t8) ∧
nilK t8 fun a9 =>
∃ t10 : Option Addr, w4.cell? (a9.add 0) = some (.pointer t10) ∧
Calls Tryz.prog 48 #[.pointer t10, .int .i64 x2] w4 fun e11 w12 => ∃ t13 : Value, e11 = .returned (t13) ∧
∃ t14 : Option Addr, ∃ t15 : Bool, (∀ w : World, (Instr.typeAssert t13 20 94 true).run Tryz.prog w = .ok (.tuple #[.pointer t14, .bool t15]) w) ∧
bsel t15 (
newK w12 #[.pointer none] 94 fun a16 w17 =>
stK w17 a16 (.pointer t14) fun w18 =>
∃ t19 : Option Addr, w18.cell? a3 = some (.pointer t19) ∧
Calls Tryz.prog 191 #[.pointer t19, .int .i64 x2, .func (.func 192) #[] #[.pointer (some a3), .pointer (some a16)]] w18 fun e20 w21 => ∃ t22 : Value, e20 = .returned (t22) ∧
Q (.tuple #[]) w21) (
∃ t24 : Option Addr, ∃ t25 : Bool, (∀ w : World, (Instr.typeAssert t13 20 111 true).run Tryz.prog w = .ok (.tuple #[.pointer t24, .bool t25]) w) ∧
bsel t25 (
newK w12 #[.pointer none] 111 fun a26 w27 =>
stK w27 a26 (.pointer t24) fun w28 =>
∃ t29 : Option Addr, w28.cell? a3 = some (.pointer t29) ∧
Calls Tryz.prog 191 #[.pointer t29, .int .i64 x2, .func (.func 194) #[] #[.pointer (some a3), .pointer (some a26)]] w28 fun e30 w31 => ∃ t32 : Value, e30 = .returned (t32) ∧
Q (.tuple #[]) w31) (
∃ t34 : Option Addr, ∃ t35 : Bool, (∀ w : World, (Instr.typeAssert t13 20 162 true).run Tryz.prog w = .ok (.tuple #[.pointer t34, .bool t35]) w) ∧
bsel t35 (
newK w12 #[.pointer none] 162 fun a36 w37 =>
stK w37 a36 (.pointer t34) fun w38 =>
∃ t39 : Option Addr, w38.cell? a3 = some (.pointer t39) ∧
Calls Tryz.prog 191 #[.pointer t39, .int .i64 x2, .func (.func 196) #[] #[.pointer (some a3), .pointer (some a36)]] w38 fun e40 w41 => ∃ t42 : Value, e40 = .returned (t42) ∧
Q (.tuple #[]) w41) (
∃ t44 : Option Addr, ∃ t45 : Bool, (∀ w : World, (Instr.typeAssert t13 20 163 true).run Tryz.prog w = .ok (.tuple #[.pointer t44, .bool t45]) w) ∧
bsel t45 (
∃ t46 : Option Addr, w12.cell? a3 = some (.pointer t46) ∧
Calls Tryz.prog 198 #[.pointer t46, .int .i64 x2, .pointer t44] w12 fun e47 w48 => ∃ t49 : Value, e47 = .returned (t49) ∧
Q (.tuple #[]) w48) (
∃ t51 : Option Addr, ∃ t52 : Bool, (∀ w : World, (Instr.typeAssert t13 20 284 true).run Tryz.prog w = .ok (.tuple #[.pointer t51, .bool t52]) w) ∧
bsel t52 (
∃ t53 : Option Addr, w12.drew.cell? a3 = some (.pointer t53) ∧
nilK t51 fun a54 =>
∃ t55 : ByteArray, w12.drew.cell? (a54.add 2) = some (.string t55) ∧
((((⟨#[60, 102, 117, 110, 99, 116, 105, 111, 110, 32]⟩ : ByteArray).size + t55.size : Nat) : Int) ≤ 9223372036854775807) ∧
(((((⟨#[60, 102, 117, 110, 99, 116, 105, 111, 110, 32]⟩ : ByteArray) ++ t55).size + (⟨#[62]⟩ : ByteArray).size : Nat) : Int) ≤ 9223372036854775807) ∧
newK w12.drew #[.string (((⟨#[60, 102, 117, 110, 99, 116, 105, 111, 110, 32]⟩ : ByteArray) ++ t55) ++ (⟨#[62]⟩ : ByteArray))] 9 fun a56 w57 =>
(w57.cell? a3 = some (.pointer t53)) ∧
Calls Tryz.prog 199 #[.pointer t53, .slice (some a56) 1 1] w57 fun e58 w59 => ∃ t60 : Value, e58 = .returned (t60) ∧
Q (.tuple #[]) w59) (
∃ t63 : Int, ∃ t64 : ByteArray, ∃ t65 : Bool, (∀ w : World, (Instr.typeAssert t13 20 105 true).run Tryz.prog w = .ok (.tuple #[.agg #[.int .i64 t63, .string t64], .bool t65]) w) ∧
bsel t65 (
newK w12 #[.int .i64 0, .string ⟨#[]⟩] 105 fun a66 w67 =>
stK w67 (a66.add 0) (.int .i64 t63) fun w68 =>
stK w68 (a66.add 1) (.string t64) fun w69 =>
∃ t70 : Option Addr, w69.drew.cell? a3 = some (.pointer t70) ∧
∃ t71 : Option Addr, w69.drew.cell? a3 = some (.pointer t71) ∧
nilK t71 fun a72 =>
∃ t73 : Option Addr, w69.drew.cell? (a72.add 0) = some (.pointer t73) ∧
Calls Tryz.prog 34 #[.pointer t73, .int .i64 x2] w69.drew fun e74 w75 => ∃ t76 : ByteArray, e74 = .returned (.string t76) ∧
(w75.cell? a3 = some (.pointer t70)) ∧
newK w75 #[.string t76] 9 fun a77 w78 =>
(w78.cell? a3 = some (.pointer t70)) ∧
Calls Tryz.prog 199 #[.pointer t70, .slice (some a77) 1 1] w78 fun e79 w80 => ∃ t81 : Value, e79 = .returned (t81) ∧
Q (.tuple #[]) w80) (
∃ t84 : Option Addr, ∃ t85 : Bool, (∀ w : World, (Instr.typeAssert t13 20 285 true).run Tryz.prog w = .ok (.tuple #[.pointer t84, .bool t85]) w) ∧
bsel t85 (
∃ t86 : Option Addr, w12.drew.cell? a3 = some (.pointer t86) ∧
∃ t87 : Option Addr, w12.drew.cell? a3 = some (.pointer t87) ∧
nilK t87 fun a88 =>
∃ t89 : Option Addr, w12.drew.cell? (a88.add 0) = some (.pointer t89) ∧
nilK t84 fun a90 =>
∃ t91 : Int, w12.drew.cell? (a90.add 2) = some (.int .i64 t91) ∧
Calls Tryz.prog 200 #[.pointer t89, .int .i64 t91] w12.drew fun e92 w93 => ∃ t94 : ByteArray, e92 = .returned (.string t94) ∧
(w93.cell? a3 = some (.pointer t86)) ∧
((((⟨#[60, 109, 101, 116, 104, 111, 100, 32]⟩ : ByteArray).size + t94.size : Nat) : Int) ≤ 9223372036854775807) ∧
(((((⟨#[60, 109, 101, 116, 104, 111, 100, 32]⟩ : ByteArray) ++ t94).size + (⟨#[62]⟩ : ByteArray).size : Nat) : Int) ≤ 9223372036854775807) ∧
newK w93 #[.string (((⟨#[60, 109, 101, 116, 104, 111, 100, 32]⟩ : ByteArray) ++ t94) ++ (⟨#[62]⟩ : ByteArray))] 9 fun a95 w96 =>
(w96.cell? a3 = some (.pointer t86)) ∧
Calls Tryz.prog 199 #[.pointer t86, .slice (some a95) 1 1] w96 fun e97 w98 => ∃ t99 : Value, e97 = .returned (t99) ∧
Q (.tuple #[]) w98) (
∃ t102 : Option Addr, ∃ t103 : Bool, (∀ w : World, (Instr.typeAssert t13 20 190 true).run Tryz.prog w = .ok (.tuple #[.pointer t102, .bool t103]) w) ∧
bsel t103 (
∃ t104 : Option Addr, w12.drew.cell? a3 = some (.pointer t104) ∧
nilK t102 fun a105 =>
∃ t106 : ByteArray, w12.drew.cell? (a105.add 2) = some (.string t106) ∧
((((⟨#[60, 99, 108, 97, 115, 115, 32]⟩ : ByteArray).size + t106.size : Nat) : Int) ≤ 9223372036854775807) ∧
(((((⟨#[60, 99, 108, 97, 115, 115, 32]⟩ : ByteArray) ++ t106).size + (⟨#[62]⟩ : ByteArray).size : Nat) : Int) ≤ 9223372036854775807) ∧
newK w12.drew #[.string (((⟨#[60, 99, 108, 97, 115, 115, 32]⟩ : ByteArray) ++ t106) ++ (⟨#[62]⟩ : ByteArray))] 9 fun a107 w108 =>
(w108.cell? a3 = some (.pointer t104)) ∧
Calls Tryz.prog 199 #[.pointer t104, .slice (some a107) 1 1] w108 fun e109 w110 => ∃ t111 : Value, e109 = .returned (t111) ∧
Q (.tuple #[]) w110) (
∃ t114 : Option Addr, ∃ t115 : Bool, (∀ w : World, (Instr.typeAssert t13 20 310 true).run Tryz.prog w = .ok (.tuple #[.pointer t114, .bool t115]) w) ∧
bsel t115 (
∃ t116 : Option Addr, w12.cell? a3 = some (.pointer t116) ∧
newK w12 #[.string (⟨#[60, 99, 101, 108, 108, 62]⟩ : ByteArray)] 9 fun a117 w118 =>
Calls Tryz.prog 199 #[.pointer t116, .slice (some a117) 1 1] w118 fun e119 w120 => ∃ t121 : Value, e119 = .returned (t121) ∧
Q (.tuple #[]) w120) (
eqNilI t13 fun b123 =>
bsel b123 (
∃ t124 : Option Addr, w12.cell? a3 = some (.pointer t124) ∧
nilK t124 fun a125 =>
∃ t126 : Option Addr, w12.cell? (a125.add 0) = some (.pointer t126) ∧
Calls Tryz.prog 34 #[.pointer t126, .int .i64 x2] w12 fun e127 w128 => ∃ t129 : ByteArray, e127 = .returned (.string t129) ∧
bsel (!(t129.toList == (⟨#[]⟩ : ByteArray).toList)) (
∃ t130 : Option Addr, w128.cell? a3 = some (.pointer t130) ∧
newK w128 #[.string t129] 9 fun a131 w132 =>
Calls Tryz.prog 199 #[.pointer t130, .slice (some a131) 1 1] w132 fun e133 w134 => ∃ t135 : Value, e133 = .returned (t135) ∧
Q (.tuple #[]) w134) (
Q (.tuple #[]) w128)) (
∃ t138 : Option Addr, w12.cell? a3 = some (.pointer t138) ∧
newK w12 #[.string (⟨#[60, 105, 116, 101, 114, 97, 116, 111, 114, 62]⟩ : ByteArray)] 9 fun a139 w140 =>
Calls Tryz.prog 199 #[.pointer t138, .slice (some a139) 1 1] w140 fun e141 w142 => ∃ t143 : Value, e141 = .returned (t143) ∧
Q (.tuple #[]) w142)))))))))))

def V119_ann : Nat → Ann := fun _ => ⟨[], []⟩
theorem V119_eq (x1 : Option Addr) (x2 : Int) (w : World) (Q : Value → World → Prop) : (match Tryz.f119.body with | some c => wpC Tryz.prog Tryz.f119.ntmps V119_ann c 0 (resQ Tryz.prog Tryz.f119.ntmps Tryz.f119.results.toList Q) (argsF [.pointer x1, .int .i64 x2]) w | none => False) = V119 x1 x2 w Q := by kernel_rfl
theorem V119_sound (x1 : Option Addr) (x2 : Int) (w : World) (Q : Value → World → Prop) (h : V119 x1 x2 w Q) : Calls Tryz.prog 119 #[.pointer x1, .int .i64 x2] w fun e w' => ∃ v, e = .returned v ∧ Q v w' :=
  sound_of Tryz.func119 V119_ann rfl ((V119_eq x1 x2 w Q).mpr h)

def V191J1 (Q : Value → World → Prop) (x11 : Option Addr) (x12 : Int) (x13 : Value) (x14 : Bool) (w15 : World) : Prop :=
bsel x14 (
newK w15 #[.string (⟨#[46, 46, 46]⟩ : ByteArray)] 9 fun a16 w17 =>
Calls Tryz.prog 199 #[.pointer x11, .slice (some a16) 1 1] w17 fun e18 w19 => ∃ t20 : Value, e18 = .returned (t20) ∧
Q (.tuple #[]) w19) (
nilK x11 fun a21 =>
∃ t22 : Option Addr, ∃ t23 : Nat, ∃ t24 : Nat, w15.cell? (a21.add 2) = some (.slice t22 t23 t24) ∧
newK w15 #[.int .i64 x12] 3 fun a25 w26 =>
∃ w27 : World, ∃ t28 : Option Addr, ∃ t29 : Nat, ∃ t30 : Nat, (vcEff.bltV .append #[30, 30] 30 #[.slice t22 t23 t24, .slice (some a25) 1 1]).run Tryz.prog w26 = .ok (.slice t28 t29 t30) w27 ∧
nilK x11 fun a31 =>
stK w27 (a31.add 2) (.slice t28 t29 t30) fun w32 =>
CallV Tryz.prog x13 #[] w32 fun e33 w34 => ∃ t35 : Value, e33 = .returned (t35) ∧
nilK x11 fun a36 =>
∃ t37 : Option Addr, ∃ t38 : Nat, ∃ t39 : Nat, w34.drew.cell? (a36.add 2) = some (.slice t37 t38 t39) ∧
nilK x11 fun a40 =>
∃ t41 : Option Addr, ∃ t42 : Nat, ∃ t43 : Nat, w34.drew.cell? (a40.add 2) = some (.slice t41 t42 t43) ∧
slcK t37 t39 0 (IntKind.wrap .i64 ((t42 : Int) - 1)) 1 fun t44 t45 t46 =>
nilK x11 fun a47 =>
stK w34.drew (a47.add 2) (.slice t44 t45 t46) fun w48 =>
Q (.tuple #[]) w48)

def V191 (x1 : Option Addr) (x2 : Int) (x3 : Value) (w : World) (Q : Value → World → Prop) : Prop :=
nilK x1 fun a4 =>
∃ t5 : Option Addr, ∃ t6 : Nat, ∃ t7 : Nat, w.cell? (a4.add 2) = some (.slice t5 t6 t7) ∧
Calls Tryz.prog 258 #[.slice t5 t6 t7, .int .i64 x2] w fun e8 w9 => ∃ t10 : Bool, e8 = .returned (.bool t10) ∧
bsel t10 (
V191J1 Q x1 x2 x3 true w9) (
nilK x1 fun a49 =>
∃ t50 : Option Addr, ∃ t51 : Nat, ∃ t52 : Nat, w9.cell? (a49.add 2) = some (.slice t50 t51 t52) ∧
V191J1 Q x1 x2 x3 (decide ((t51 : Int) ≥ 20)) w9)

def V191_ann : Nat → Ann := fun _ => ⟨[], []⟩
theorem V191_eq (x1 : Option Addr) (x2 : Int) (x3 : Value) (w : World) (Q : Value → World → Prop) : (match Tryz.f191.body with | some c => wpC Tryz.prog Tryz.f191.ntmps V191_ann c 0 (resQ Tryz.prog Tryz.f191.ntmps Tryz.f191.results.toList Q) (argsF [.pointer x1, .int .i64 x2, x3]) w | none => False) = V191 x1 x2 x3 w Q := by kernel_rfl
theorem V191_sound (x1 : Option Addr) (x2 : Int) (x3 : Value) (w : World) (Q : Value → World → Prop) (h : V191 x1 x2 x3 w Q) : Calls Tryz.prog 191 #[.pointer x1, .int .i64 x2, x3] w fun e w' => ∃ v, e = .returned v ∧ Q v w' :=
  sound_of Tryz.func191 V191_ann rfl ((V191_eq x1 x2 x3 w Q).mpr h)

def V192 (x1 : Addr) (x2 : Addr) (w : World) (Q : Value → World → Prop) : Prop :=
∃ t3 : Option Addr, w.cell? x1 = some (.pointer t3) ∧
∃ t4 : Option Addr, w.cell? x2 = some (.pointer t4) ∧
Calls Tryz.prog 193 #[.pointer t3, .pointer t4] w fun e5 w6 => ∃ t7 : Value, e5 = .returned (t7) ∧
Q (.tuple #[]) w6

def V192_ann : Nat → Ann := fun _ => ⟨[], []⟩
theorem V192_eq (x1 : Addr) (x2 : Addr) (w : World) (Q : Value → World → Prop) : (match Tryz.f192.body with | some c => wpC Tryz.prog Tryz.f192.ntmps V192_ann c 0 (resQ Tryz.prog Tryz.f192.ntmps Tryz.f192.results.toList Q) (argsF [.pointer (some x1), .pointer (some x2)]) w | none => False) = V192 x1 x2 w Q := by kernel_rfl
theorem V192_sound (x1 : Addr) (x2 : Addr) (w : World) (Q : Value → World → Prop) (h : V192 x1 x2 w Q) : Calls Tryz.prog 192 #[.pointer (some x1), .pointer (some x2)] w fun e w' => ∃ v, e = .returned v ∧ Q v w' :=
  sound_of Tryz.func192 V192_ann rfl ((V192_eq x1 x2 w Q).mpr h)

def V193J1 (Q : Value → World → Prop) (x15 : Option Addr) (x16 : Option Addr) (x17 : ByteArray) (x18 : ByteArray) (w19 : World) : Prop :=
newK w19 #[.string x17] 9 fun a20 w21 =>
Calls Tryz.prog 199 #[.pointer x15, .slice (some a20) 1 1] w21 fun e22 w23 => ∃ t24 : Value, e22 = .returned (t24) ∧
nilK x16 fun a25 =>
∃ t26 : Option Addr, ∃ t27 : Nat, ∃ t28 : Nat, w23.cell? (a25.add 1) = some (.slice t26 t27 t28) ∧
Calls Tryz.prog 259 #[.pointer x15, .slice t26 t27 t28, .func (.func 119) #[.pointer x15] #[]] w23 fun e29 w30 => ∃ t31 : Value, e29 = .returned (t31) ∧
newK w30 #[.string x18] 9 fun a32 w33 =>
Calls Tryz.prog 199 #[.pointer x15, .slice (some a32) 1 1] w33 fun e34 w35 => ∃ t36 : Value, e34 = .returned (t36) ∧
Q (.tuple #[]) w35

def V193J2 (Q : Value → World → Prop) (x10 : Option Addr) (x11 : Option Addr) (x12 : ByteArray) (x13 : ByteArray) (w14 : World) : Prop :=
V193J1 Q x10 x11 x12 x13 w14

def V193 (x1 : Option Addr) (x2 : Option Addr) (w : World) (Q : Value → World → Prop) : Prop :=
Calls Tryz.prog 158 #[.pointer x2] w fun e3 w4 => ∃ t5 : Int, e3 = .returned (.int .i64 t5) ∧
bsel (t5 == 5) (
nilK x2 fun a6 =>
∃ t7 : Option Addr, ∃ t8 : Nat, ∃ t9 : Nat, w4.cell? (a6.add 1) = some (.slice t7 t8 t9) ∧
bsel ((t8 : Int) == 1) (
V193J2 Q x1 x2 (⟨#[40]⟩ : ByteArray) (⟨#[44, 41]⟩ : ByteArray) w4) (
V193J2 Q x1 x2 (⟨#[40]⟩ : ByteArray) (⟨#[41]⟩ : ByteArray) w4)) (
V193J1 Q x1 x2 (⟨#[91]⟩ : ByteArray) (⟨#[93]⟩ : ByteArray) w4)

def V193_ann : Nat → Ann := fun _ => ⟨[], []⟩
theorem V193_eq (x1 : Option Addr) (x2 : Option Addr) (w : World) (Q : Value → World → Prop) : (match Tryz.f193.body with | some c => wpC Tryz.prog Tryz.f193.ntmps V193_ann c 0 (resQ Tryz.prog Tryz.f193.ntmps Tryz.f193.results.toList Q) (argsF [.pointer x1, .pointer x2]) w | none => False) = V193 x1 x2 w Q := by kernel_rfl
theorem V193_sound (x1 : Option Addr) (x2 : Option Addr) (w : World) (Q : Value → World → Prop) (h : V193 x1 x2 w Q) : Calls Tryz.prog 193 #[.pointer x1, .pointer x2] w fun e w' => ∃ v, e = .returned v ∧ Q v w' :=
  sound_of Tryz.func193 V193_ann rfl ((V193_eq x1 x2 w Q).mpr h)

def V199 (x1 : Option Addr) (x2 : Option Addr) (x3 : Nat) (x4 : Nat) (w : World) (Q : Value → World → Prop) : Prop :=
∃ (I5 : Int → World → Prop) (μ6 : Int → World → Nat), I5 0 w ∧ ∀ (j9 : Fr) (i7 : Int) (w8 : World), I5 i7 w8 →
bsel (decide (i7 < (x3 : Int))) (
idxK x2 x3 i7 1 fun a10 =>
∃ t11 : ByteArray, w8.cell? a10 = some (.string t11) ∧
nilK x1 fun a12 =>
∃ t13 : Bool, w8.cell? (a12.add 3) = some (.bool t13) ∧
bsel t13 (
nilK x1 fun a14 =>
∃ t15 : Value, w8.cell? (a14.add 1) = some (t15) ∧
CallV Tryz.prog t15 #[.string t11] w8 fun e16 w17 => ∃ t18 : Bool, e16 = .returned (.bool t18) ∧
nilK x1 fun a19 =>
stK w17 (a19.add 3) (.bool t18) fun w20 =>
(I5 (IntKind.wrap .i64 (i7 + 1)) w20 ∧ μ6 (IntKind.wrap .i64 (i7 + 1)) w20 < μ6 i7 w8)) (
nilK x1 fun a28 =>
stK w8 (a28.add 3) (.bool false) fun w29 =>
(I5 (IntKind.wrap .i64 (i7 + 1)) w29 ∧ μ6 (IntKind.wrap .i64 (i7 + 1)) w29 < μ6 i7 w8))) (
Q (.tuple #[]) w8)

def V199_ann : Nat → Ann := fun k => match k with | 0 => ⟨[0, 6, 7], [(8, .int .i64)]⟩ | _ => ⟨[], []⟩
theorem V199_eq (x1 : Option Addr) (x2 : Option Addr) (x3 : Nat) (x4 : Nat) (w : World) (Q : Value → World → Prop) : (match Tryz.f199.body with | some c => wpC Tryz.prog Tryz.f199.ntmps V199_ann c 0 (resQ Tryz.prog Tryz.f199.ntmps Tryz.f199.results.toList Q) (argsF [.pointer x1, .slice x2 x3 x4]) w | none => False) = V199 x1 x2 x3 x4 w Q := by kernel_rfl
theorem V199_sound (x1 : Option Addr) (x2 : Option Addr) (x3 : Nat) (x4 : Nat) (w : World) (Q : Value → World → Prop) (h : V199 x1 x2 x3 x4 w Q) : Calls Tryz.prog 199 #[.pointer x1, .slice x2 x3 x4] w fun e w' => ∃ v, e = .returned v ∧ Q v w' :=
  sound_of Tryz.func199 V199_ann rfl ((V199_eq x1 x2 x3 x4 w Q).mpr h)

def V258 (x1 : Option Addr) (x2 : Nat) (x3 : Nat) (x4 : Int) (w : World) (Q : Value → World → Prop) : Prop :=
Calls Tryz.prog 314 #[.slice x1 x2 x3, .int .i64 x4] w fun e5 w6 => ∃ t7 : Int, e5 = .returned (.int .i64 t7) ∧
Q (.bool (decide (t7 ≥ 0))) w6

def V258_ann : Nat → Ann := fun _ => ⟨[], []⟩
theorem V258_eq (x1 : Option Addr) (x2 : Nat) (x3 : Nat) (x4 : Int) (w : World) (Q : Value → World → Prop) : (match Tryz.f258.body with | some c => wpC Tryz.prog Tryz.f258.ntmps V258_ann c 0 (resQ Tryz.prog Tryz.f258.ntmps Tryz.f258.results.toList Q) (argsF [.slice x1 x2 x3, .int .i64 x4]) w | none => False) = V258 x1 x2 x3 x4 w Q := by kernel_rfl
theorem V258_sound (x1 : Option Addr) (x2 : Nat) (x3 : Nat) (x4 : Int) (w : World) (Q : Value → World → Prop) (h : V258 x1 x2 x3 x4 w Q) : Calls Tryz.prog 258 #[.slice x1 x2 x3, .int .i64 x4] w fun e w' => ∃ v, e = .returned v ∧ Q v w' :=
  sound_of Tryz.func258 V258_ann rfl ((V258_eq x1 x2 x3 x4 w Q).mpr h)

def V259J1 (I6 : Int → World → Prop) (μ7 : Int → World → Nat) (i8 : Int) (w9 : World) (x20 : Option Addr) (x21 : Value) (x22 : Int) (x23 : Option Addr) (x24 : Nat) (x25 : Nat) (x26 : Int) (x27 : Int) (w28 : World) : Prop :=
CallV Tryz.prog x21 #[.int .i64 x22] w28 fun e29 w30 => ∃ t31 : Value, e29 = .returned (t31) ∧
(I6 (IntKind.wrap .i64 (x27 + 1)) w30 ∧ μ7 (IntKind.wrap .i64 (x27 + 1)) w30 < μ7 i8 w9)

def V259 (x1 : Option Addr) (x2 : Option Addr) (x3 : Nat) (x4 : Nat) (x5 : Value) (w : World) (Q : Value → World → Prop) : Prop :=
∃ (I6 : Int → World → Prop) (μ7 : Int → World → Nat), I6 0 w ∧ ∀ (j10 : Fr) (i8 : Int) (w9 : World), I6 i8 w9 →
bsel (decide (i8 < (x3 : Int))) (
idxK x2 x3 i8 1 fun a11 =>
∃ t12 : Int, w9.cell? a11 = some (.int .i64 t12) ∧
nilK x1 fun a13 =>
∃ t14 : Bool, w9.cell? (a13.add 3) = some (.bool t14) ∧
bsel (!t14) (
Q (.tuple #[]) w9) (
bsel (decide (i8 > 0)) (
newK w9 #[.string (⟨#[44, 32]⟩ : ByteArray)] 9 fun a15 w16 =>
Calls Tryz.prog 199 #[.pointer x1, .slice (some a15) 1 1] w16 fun e17 w18 => ∃ t19 : Value, e17 = .returned (t19) ∧
V259J1 I6 μ7 i8 w9 x1 x5 t12 x2 x3 x4 (x3 : Int) i8 w18) (
V259J1 I6 μ7 i8 w9 x1 x5 t12 x2 x3 x4 (x3 : Int) i8 w9))) (
Q (.tuple #[]) w9)

def V259_ann : Nat → Ann := fun k => match k with | 0 => ⟨[0, 2, 8, 9], [(10, .int .i64)]⟩ | _ => ⟨[], []⟩
theorem V259_eq (x1 : Option Addr) (x2 : Option Addr) (x3 : Nat) (x4 : Nat) (x5 : Value) (w : World) (Q : Value → World → Prop) : (match Tryz.f259.body with | some c => wpC Tryz.prog Tryz.f259.ntmps V259_ann c 0 (resQ Tryz.prog Tryz.f259.ntmps Tryz.f259.results.toList Q) (argsF [.pointer x1, .slice x2 x3 x4, x5]) w | none => False) = V259 x1 x2 x3 x4 x5 w Q := by kernel_rfl
theorem V259_sound (x1 : Option Addr) (x2 : Option Addr) (x3 : Nat) (x4 : Nat) (x5 : Value) (w : World) (Q : Value → World → Prop) (h : V259 x1 x2 x3 x4 x5 w Q) : Calls Tryz.prog 259 #[.pointer x1, .slice x2 x3 x4, x5] w fun e w' => ∃ v, e = .returned v ∧ Q v w' :=
  sound_of Tryz.func259 V259_ann rfl ((V259_eq x1 x2 x3 x4 x5 w Q).mpr h)

def V314 (x1 : Option Addr) (x2 : Nat) (x3 : Nat) (x4 : Int) (w : World) (Q : Value → World → Prop) : Prop :=
∃ (I5 : Int → World → Prop) (μ6 : Int → World → Nat), I5 0 w ∧ ∀ (j9 : Fr) (i7 : Int) (w8 : World), I5 i7 w8 →
bsel (decide (i7 < (x2 : Int))) (
idxK x1 x2 i7 1 fun a10 =>
∃ t11 : Int, w8.cell? a10 = some (.int .i64 t11) ∧
bsel (x4 == t11) (
Q (.int .i64 i7) w8) (
(I5 (IntKind.wrap .i64 (i7 + 1)) w8 ∧ μ6 (IntKind.wrap .i64 (i7 + 1)) w8 < μ6 i7 w8))) (
Q (.int .i64 (-1)) w8)

def V314_ann : Nat → Ann := fun k => match k with | 0 => ⟨[0, 1, 7], [(8, .int .i64)]⟩ | _ => ⟨[], []⟩
theorem V314_eq (x1 : Option Addr) (x2 : Nat) (x3 : Nat) (x4 : Int) (w : World) (Q : Value → World → Prop) : (match Tryz.f314.body with | some c => wpC Tryz.prog Tryz.f314.ntmps V314_ann c 0 (resQ Tryz.prog Tryz.f314.ntmps Tryz.f314.results.toList Q) (argsF [.slice x1 x2 x3, .int .i64 x4]) w | none => False) = V314 x1 x2 x3 x4 w Q := by kernel_rfl
theorem V314_sound (x1 : Option Addr) (x2 : Nat) (x3 : Nat) (x4 : Int) (w : World) (Q : Value → World → Prop) (h : V314 x1 x2 x3 x4 w Q) : Calls Tryz.prog 314 #[.slice x1 x2 x3, .int .i64 x4] w fun e w' => ∃ v, e = .returned v ∧ Q v w' :=
  sound_of Tryz.func314 V314_ann rfl ((V314_eq x1 x2 x3 x4 w Q).mpr h)

end Go.Fw

set_option autoImplicit false
namespace Go.Fw

/-! The text of simple values, in plain words: pieces, and what becomes of them. -/
abbrev Out := List UInt8 × Bool
def dots : List UInt8 := [46, 46, 46]
/-- A piece is handed out: a text that has its bound is cut. -/
def emit (s : List UInt8) (o : Out) : Out := match o.2 with
  | true => if 4096 ≤ o.1.length then (o.1 ++ dots, false) else (o.1 ++ s, true)
  | false => o

inductive SV where
  | leaf (t : List UInt8)
  | row (tup : Bool) (kids : List Nat)

def tellL (tell : Nat → Out → Out) : Bool → List Nat → Out → Out
  | _, [], o => o
  | first, k :: ks, o => match o.2 with
    | true => tellL tell false ks (tell k (if first then o else emit [44, 32] o))
    | false => o

def opens (tup : Bool) : List UInt8 := if tup then [40] else [91]
def shuts (tup : Bool) (n : Nat) : List UInt8 := if tup then (if n = 1 then [44, 41] else [41]) else [93]

/-- What a value tells, where so many more may be open. -/
def tellV (G : Nat → SV) : Nat → List Nat → Nat → Out → Out
  | f, op, v, o => match o.2 with
    | false => o
    | true => match G v with
      | .leaf t => emit t o
      | .row tup kids => match f with
        | 0 => emit dots o
        | f + 1 => if v ∈ op then emit dots o else
          emit (shuts tup kids.length) (tellL (fun k o => tellV G f (op ++ [v]) k o) true kids (emit (opens tup) o))

theorem emit_off (s : List UInt8) (o : Out) (h : o.2 = false) : emit s o = o := by unfold emit; rw [h]
theorem emit_on (s acc : List UInt8) (h : acc.length < 4096) : emit s (acc, true) = (acc ++ s, true) := by
  unfold emit; simp only; rw [if_neg (by omega)]

theorem tellV_leaf {G : Nat → SV} {v : Nat} {t : List UInt8} (h : G v = .leaf t) (f : Nat) (op : List Nat) (o : Out) : tellV G f op v o = emit t o := by
  unfold tellV
  obtain ⟨a, b⟩ := o
  cases b
  · exact (emit_off _ _ rfl).symm
  · simp only [h]

theorem foldl_emit_off : ∀ (ps : List (List UInt8)) (o : Out), o.2 = false → ps.foldl (fun o s => emit s o) o = o
  | [], _, _ => rfl
  | p :: ps, o, h => by rw [List.foldl_cons, emit_off p o h]; exact foldl_emit_off ps o h

/-- What stays below the bound is told whole. -/
theorem emits_all : ∀ (ps : List (List UInt8)) (acc : List UInt8), (∀ p ∈ ps, 0 < p.length) → acc.length + ps.flatten.length ≤ 4096 →
    ps.foldl (fun o s => emit s o) (acc, true) = (acc ++ ps.flatten, true)
  | [], acc, _, _ => by simp
  | p :: ps, acc, hp, hl => by
    simp only [List.flatten_cons, List.length_append] at hl
    have := hp p (by simp)
    rw [List.foldl_cons, emit_on _ _ (by omega), emits_all ps _ (fun q hq => hp q (by simp [hq])) (by rw [List.length_append]; omega)]
    simp

/-- What grows beyond its bound is cut just there. -/
theorem emits_cut : ∀ (ps : List (List UInt8)) (acc : List UInt8), (∀ p ∈ ps, p.length ≤ 4) → (∀ p, ps.getLast? = some p → p.length = 1) → acc.length ≤ 4099 → ps ≠ [] → 4096 < acc.length + ps.flatten.length →
    ∃ x : List UInt8, ps.foldl (fun o s => emit s o) (acc, true) = (x ++ dots, false) ∧ 4096 ≤ x.length ∧ x.length ≤ 4099
  | [], _, _, _, _, h, _ => absurd rfl h
  | p :: ps, acc, h4, h1, hacc, _, hl => by
    rw [List.foldl_cons]
    by_cases hc : 4096 ≤ acc.length
    · have he : emit p (acc, true) = (acc ++ dots, false) := by unfold emit; simp only; rw [if_pos hc]
      rw [he, foldl_emit_off _ _ rfl]
      exact ⟨acc, rfl, hc, hacc⟩
    · rw [emit_on _ _ (by omega)]
      have hp := h4 p (by simp)
      cases ps with
      | nil =>
        have := h1 p rfl
        simp at hl
        omega
      | cons q qs =>
        exact emits_cut (q :: qs) (acc ++ p) (fun r hr => h4 r (by simp [hr])) (fun r hr => h1 r (by rw [List.getLast?_cons_cons]; exact hr)) (by simp; omega) (by simp) (by simp at hl ⊢; omega)

/-! A list within itself. -/
theorem rep_succ (n : Nat) (x : UInt8) : List.replicate n x ++ [x] = x :: List.replicate n x := by
  rw [← List.replicate_succ', List.replicate_succ]

theorem tell_loops (n : Nat) (h1 : 1 ≤ n) (h2 : n < 20) (r : Nat → Nat) (hr : ∀ i j, i < n → j < n → r i = r j → i = j) (G : Nat → SV) (hG : ∀ i, i < n → G (r i) = .row false [r ((i + 1) % n)]) :
    ∀ (m k : Nat) (acc : List UInt8), k + m = n → acc.length ≤ k → tellV G (20 - k) ((List.range k).map r) (r (k % n)) (acc, true) = (acc ++ List.replicate m 91 ++ dots ++ List.replicate m 93, true)
  | 0, k, acc, hk, ha => by
    obtain rfl : k = n := by omega
    have e : r (k % k) = r 0 := by rw [Nat.mod_self]
    obtain ⟨f, hf⟩ : ∃ f, 20 - k = f + 1 := ⟨20 - k - 1, by omega⟩
    rw [e, hf]
    unfold tellV
    simp only [hG 0 (by omega)]
    rw [if_pos (List.mem_map.2 ⟨0, by simp; omega, rfl⟩), emit_on _ _ (by omega)]
    simp
  | m + 1, k, acc, hk, ha => by
    have hkn : k % n = k := Nat.mod_eq_of_lt (by omega)
    obtain ⟨f, hf⟩ : ∃ f, 20 - k = f + 1 := ⟨20 - k - 1, by omega⟩
    rw [hkn, hf]
    unfold tellV
    simp only [hG k (by omega)]
    rw [if_neg]
    · rw [emit_on _ _ (by omega)]
      simp only [tellL, if_true]
      have e : (List.range k).map r ++ [r k] = (List.range (k + 1)).map r := by rw [List.range_succ, List.map_append]; rfl
      have ef : f = 20 - (k + 1) := by omega
      rw [e, ef, tell_loops n h1 h2 r hr G hG m (k + 1) _ (by omega) (by simp [opens]; omega)]
      rw [emit_on _ _ (by simp [opens, dots]; omega)]
      simp only [opens, shuts, Bool.false_eq_true, if_false]
      simp only [List.append_assoc, Prod.mk.injEq, and_true]
      rw [rep_succ]
      simp [List.replicate_succ]
    · intro hm
      obtain ⟨i, hi, he⟩ := List.mem_map.1 hm
      simp at hi
      have := hr i k (by omega) (by omega) he
      omega

/-! A row of leaves in so many lists. -/
def pcs : Nat → List UInt8 → Bool → List (List UInt8)
  | 0, _, _ => []
  | n + 1, t, first => (if first then [] else [[44, 32]]) ++ [t] ++ pcs n t false

theorem pcs_succ (n : Nat) (t : List UInt8) (first : Bool) : pcs (n + 1) t first = (if first then [] else [[44, 32]]) ++ [t] ++ pcs n t false := rfl
theorem tellL_leaves {tell : Nat → Out → Out} {k : Nat} {t : List UInt8} (h : ∀ o, tell k o = emit t o) : ∀ (n : Nat) (first : Bool) (o : Out), tellL tell first (List.replicate n k) o = (pcs n t first).foldl (fun o s => emit s o) o
  | 0, first, o => rfl
  | n + 1, first, o => by
    rw [List.replicate_succ]
    obtain ⟨a, b⟩ := o
    cases b
    · rw [foldl_emit_off _ _ rfl]
      simp only [tellL]
    · simp only [tellL]
      rw [tellL_leaves h n, h]
      rw [pcs_succ]
      cases first
      · simp
      · simp

def nestPcs (n : Nat) (t : List UInt8) : Nat → List (List UInt8)
  | 0 => [[40]] ++ pcs n t true ++ [shuts true n]
  | d + 1 => [[91]] ++ nestPcs n t d ++ [[93]]

theorem tell_nest (n deep : Nat) (t : List UInt8) (z : Nat) (r : Nat → Nat) (hr : ∀ i j, i ≤ deep → j ≤ deep → r i = r j → i = j) (G : Nat → SV) (hz : G z = .leaf t) (h0 : G (r 0) = .row true (List.replicate n z)) (hG : ∀ i, i < deep → G (r (i + 1)) = .row false [r i]) :
    ∀ (d f : Nat) (op : List Nat) (o : Out), d ≤ deep → d < f → (∀ i, i ≤ d → r i ∉ op) → tellV G f op (r d) o = (nestPcs n t d).foldl (fun o s => emit s o) o
  | 0, f, op, (a, b), hd, hf, hop => by
    obtain ⟨f, rfl⟩ : ∃ g, f = g + 1 := ⟨f - 1, by omega⟩
    cases b
    · rw [foldl_emit_off _ _ rfl]; unfold tellV; simp only
    · unfold tellV
      simp only [h0, if_neg (hop 0 (Nat.le_refl _)), List.length_replicate]
      rw [tellL_leaves (t := t) (fun o => tellV_leaf hz _ _ _)]
      simp [nestPcs, opens]
  | d + 1, f, op, (a, b), hd, hf, hop => by
    obtain ⟨f, rfl⟩ : ∃ g, f = g + 1 := ⟨f - 1, by omega⟩
    cases b
    · rw [foldl_emit_off _ _ rfl]; unfold tellV; simp only
    · unfold tellV
      simp only [hG d (by omega), if_neg (hop (d + 1) (Nat.le_refl _))]
      have hin := fun o => tell_nest n deep t z r hr G hz h0 hG d f (op ++ [r (d + 1)]) o (by omega) (by omega) (fun i hi hm => by
        rcases List.mem_append.1 hm with hm | hm
        · exact hop i (by omega) hm
        · have := hr i (d + 1) (by omega) (by omega) (by simpa using hm)
          omega)
      have e : ∀ o : Out, tellL (fun k o => tellV G f (op ++ [r (d + 1)]) k o) true [r d] o = (nestPcs n t d).foldl (fun o s => emit s o) o := by
        rintro ⟨a, b⟩
        cases b
        · rw [foldl_emit_off _ _ rfl]; simp only [tellL]
        · simp only [tellL, if_true]; exact hin _
      rw [e]
      simp [nestPcs, opens, shuts]

/-- Too deep. -/
theorem tell_deep (n deep : Nat) (z : Nat) (r : Nat → Nat) (hr : ∀ i j, i ≤ deep → j ≤ deep → r i = r j → i = j) (G : Nat → SV) (hG : ∀ i, i < deep → G (r (i + 1)) = .row false [r i]) (h0 : ∃ tup ks, G (r 0) = .row tup ks) :
    ∀ (f d : Nat) (op : List Nat) (acc : List UInt8), d ≤ deep → f ≤ d → f ≤ 20 → (∀ i, i ≤ d → r i ∉ op) → acc.length ≤ 20 - f → tellV G f op (r d) (acc, true) = (acc ++ List.replicate f 91 ++ dots ++ List.replicate f 93, true)
  | 0, d, op, acc, hd, hf, hf2, hop, ha => by
    have : ∃ tup ks, G (r d) = .row tup ks := by
      cases d with
      | zero => exact h0
      | succ d => exact ⟨_, _, hG d (by omega)⟩
    obtain ⟨tup, ks, hg⟩ := this
    unfold tellV
    simp only [hg]
    rw [emit_on _ _ (by omega)]
    simp
  | f + 1, d, op, acc, hd, hf, hf2, hop, ha => by
    obtain ⟨d, rfl⟩ : ∃ e, d = e + 1 := ⟨d - 1, by omega⟩
    unfold tellV
    simp only [hG d (by omega), if_neg (hop (d + 1) (Nat.le_refl _))]
    rw [emit_on _ _ (by omega)]
    simp only [tellL, if_true]
    rw [tell_deep n deep z r hr G hG h0 f d (op ++ [r (d + 1)]) _ (by omega) (by omega) (by omega) (fun i hi hm => by
        rcases List.mem_append.1 hm with hm | hm
        · exact hop i (by omega) hm
        · have := hr i (d + 1) (by omega) (by omega) (by simpa using hm)
          omega) (by simp [opens]; omega)]
    rw [emit_on _ _ (by simp [opens, dots]; omega)]
    simp only [opens, shuts, Bool.false_eq_true, if_false]
    simp only [List.append_assoc, Prod.mk.injEq, and_true]
    rw [rep_succ]
    simp [List.replicate_succ]

theorem pcs_len (n : Nat) (first : Bool) : (pcs n [78, 111, 110, 101] first).flatten.length = if first && n != 0 then 6 * n - 2 else 6 * n := by
  induction n generalizing first with
  | zero => simp [pcs]
  | succ n ih =>
    unfold pcs
    have := ih false
    simp at this
    cases first
    · simp [this]; omega
    · simp [this]; omega
theorem pcs_le (n : Nat) (first : Bool) : ∀ p ∈ pcs n [78, 111, 110, 101] first, 0 < p.length ∧ p.length ≤ 4 := by
  induction n generalizing first with
  | zero => intro p hp; simp [pcs] at hp
  | succ n ih =>
    intro p hp
    unfold pcs at hp
    rcases List.mem_append.1 hp with hp | hp
    · cases first
      · simp at hp; rcases hp with rfl | rfl <;> decide
      · simp at hp; subst hp; decide
    · exact ih false p hp

abbrev noneT : List UInt8 := [78, 111, 110, 101]
def sizeOf' (n deep : Nat) : Nat := if n < 2 then 2 * deep + 2 + 5 * n else 2 * deep + 2 + 6 * n - 2
theorem nest_len (n : Nat) : ∀ d, (nestPcs n noneT d).flatten.length = sizeOf' n d
  | 0 => by
    simp only [nestPcs, List.flatten_append, List.length_append]
    rw [pcs_len]
    unfold sizeOf' shuts
    by_cases h : n = 0
    · subst h; simp
    · by_cases h1 : n = 1
      · subst h1; simp
      · have h2 : ¬ n < 2 := by omega
        simp [h, h1, h2]; omega
  | d + 1 => by
    have := nest_len n d
    simp only [nestPcs, List.flatten_append, List.length_append, this]
    unfold sizeOf'
    split <;> simp <;> omega
theorem nest_le (n : Nat) : ∀ d, ∀ p ∈ nestPcs n noneT d, 0 < p.length ∧ p.length ≤ 4
  | 0, p, hp => by
    simp only [nestPcs, List.mem_append, List.mem_singleton] at hp
    rcases hp with (rfl | hp) | rfl
    · decide
    · exact pcs_le n true p hp
    · unfold shuts
      split
      · split <;> decide
      · decide
  | d + 1, p, hp => by
    simp only [nestPcs, List.mem_append, List.mem_singleton] at hp
    rcases hp with (rfl | hp) | rfl
    · decide
    · exact nest_le n d p hp
    · decide
theorem nest_last (n d : Nat) : (nestPcs n noneT d).getLast? = some (if d = 0 then shuts true n else [93]) := by
  cases d with
  | zero => rw [nestPcs, List.getLast?_append]; rfl
  | succ d => rw [nestPcs, List.getLast?_append]; rfl
theorem nest_ends (n d : Nat) : ∃ l x, (nestPcs n noneT d).flatten = l ++ [x] ∧ x ≠ 46 := by
  cases d with
  | zero =>
    simp only [nestPcs, List.flatten_append]
    unfold shuts
    by_cases h1 : n = 1
    · refine ⟨[[40]].flatten ++ (pcs n noneT true).flatten ++ [44], 41, ?_, by decide⟩
      simp [h1]
    · refine ⟨[[40]].flatten ++ (pcs n noneT true).flatten, 41, ?_, by decide⟩
      simp [h1]
  | succ d =>
    refine ⟨[[91]].flatten ++ (nestPcs n noneT d).flatten, 93, ?_, by decide⟩
    simp [nestPcs]

/-- The law's answer, of a row in less than 20 lists. -/
theorem nest_law (n d : Nat) (o : Out) (h : o = (nestPcs n noneT d).foldl (fun o s => emit s o) ([], true)) :
    (sizeOf' n d ≤ 4096 → o.1.length = sizeOf' n d ∧ ∃ l x, o.1 = l ++ [x] ∧ x ≠ 46) ∧ (4096 < sizeOf' n d → d < 20 → o.1.length ≤ 4102 ∧ ∃ l, o.1 = l ++ dots ∧ l.length ≥ 1) := by
  subst h
  constructor
  · intro hs
    rw [emits_all _ _ (fun p hp => (nest_le n d p hp).1) (by rw [nest_len]; simpa using hs)]
    obtain ⟨l, x, h1, h2⟩ := nest_ends n d
    exact ⟨by rw [List.nil_append, nest_len], l, x, by simpa using h1, h2⟩
  · intro hs hd
    obtain ⟨x, hx, h1, h2⟩ := emits_cut (nestPcs n noneT d) [] (fun p hp => (nest_le n d p hp).2) (fun p hp => by
        rw [nest_last] at hp
        cases hp
        split
        · rename_i h0
          subst h0
          unfold shuts
          have : n ≠ 1 := by rintro rfl; simp [sizeOf'] at hs
          simp [this]
        · rfl) (by simp) (by cases d <;> simp [nestPcs]) (by rw [nest_len]; simpa using hs)
    rw [hx]
    exact ⟨by simp [dots]; omega, x, rfl, by omega⟩
end Go.Fw
