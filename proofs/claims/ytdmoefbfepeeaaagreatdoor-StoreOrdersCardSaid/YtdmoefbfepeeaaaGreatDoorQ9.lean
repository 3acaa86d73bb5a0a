/- Part of a proof over the given program: texts of lemmas (conditions: none beyond each lemma as stated). -/
import Derived.Test.YtdmoefbfepeeaaaGreatDoorQ8
import Derived.Lib.RuneCount
set_option linter.unnecessarySimpa false
set_option linter.unusedVariables false
set_option linter.unusedSimpArgs false

set_option autoImplicit false
set_option linter.unusedVariables false
set_option maxRecDepth 100000
namespace Go.Fw
open Go.Proofs Go.RowKit
theorem Keep.of_below {w w' : World} (h : Below w.heap.size w w') : Keep No w w' := ⟨h.os, h.tape, h.output, h.size, fun k hk _ => h.block k hk⟩
def IterAt (w : World) (r : Nat) (s : ByteArray) (pos : Nat) : Prop := w.heap[r]? = some (.stringIter s pos)
theorem IterAt.lt {w : World} {r pos : Nat} {s : ByteArray} (h : IterAt w r s pos) : r < w.heap.size := (Array.getElem?_eq_some_iff.1 h).1
theorem IterAt.etype {w : World} {r pos : Nat} {s : ByteArray} (h : IterAt w r s pos) : Fw.etype w r = none := by
  unfold IterAt at h
  simp [Fw.etype, h]
theorem Keep.iter {fp : Nat → Prop} {w w' : World} {r pos : Nat} {s : ByteArray} (hk : Keep fp w w') (h : IterAt w r s pos) (hn : ¬ fp r) : IterAt w' r s pos := (hk.block r h.lt hn).trans h
theorem range_of {w : World} {s : ByteArray} {K : World → Option Addr → Prop} (h : ∀ r w', IterAt w' r s 0 → Keep No w w' → r = w.heap.size → K w' (some ⟨r, 0, none⟩)) :
    ∃ w' : World, ∃ p : Option Addr, (Instr.range 9 (.string s)).run Tryz.prog w = .ok (.pointer p) w' ∧ K w' p :=
  ⟨_, _, run_range_string w 9 s Tryz.underlying9, h _ _ (World.iter_heap w s 0) (Keep.fresh w _) rfl⟩
theorem nextSK_of {w : World} {r pos : Nat} {s : ByteArray} {Kd : World → Prop} {K : Int → Int → World → Prop} (h : IterAt w r s pos)
    (h1 : pos < s.size → ∀ w', IterAt w' r s (pos + (Utf8.decode s pos).2) → Keep (fun k => k = r) w w' → K pos (Utf8.decode s pos).1 w') (h2 : ¬ pos < s.size → Kd w) : nextSK (.pointer (some ⟨r, 0, none⟩)) w Kd K := by
  refine ⟨r, s, pos, ⟨rfl, h⟩, fun hp => h1 hp _ ?_ ?_, h2⟩
  · unfold IterAt
    simp [h.lt]
  · refine ⟨rfl, rfl, rfl, by simp, fun k hk hn => ?_⟩
    simp only
    rw [Array.getElem?_setIfInBounds_ne (fun e => hn e.symm)]
theorem runeCountFrom_fuel (s : ByteArray) : ∀ (f g pos : Nat), s.size ≤ f + pos → s.size ≤ g + pos → Lib.runeCountFrom s f pos = Lib.runeCountFrom s g pos
  | 0, g, pos, hf, _ => by rw [Lib.runeCountFrom_end s 0 pos (by omega), Lib.runeCountFrom_end s g pos (by omega)]
  | f + 1, 0, pos, _, hg => by rw [Lib.runeCountFrom_end s 0 pos (by omega), Lib.runeCountFrom_end s (f + 1) pos (by omega)]
  | f + 1, g + 1, pos, hf, hg => by
    by_cases hp : pos < s.size
    · have := Lib.decode_width_pos s pos hp
      show (if pos < s.size then _ else _) = (if pos < s.size then _ else _)
      rw [if_pos hp, if_pos hp, runeCountFrom_fuel s f g _ (by omega) (by omega)]
    · rw [Lib.runeCountFrom_end s _ pos hp, Lib.runeCountFrom_end s _ pos hp]
theorem C71 (s : ByteArray) (hs : s.size < 1000000000000000) (w : World) : Calls Tryz.prog 71 #[.string s] w fun e w' => e = .returned (.int .i64 (Lib.runeCount s)) ∧ Keep No w w' := by
  refine ret_mono (V71_sound s w (fun r w' => r = .int .i64 (Lib.runeCount s) ∧ Keep No w w') ?_) (by rintro _ _ ⟨rfl, h⟩; exact ⟨rfl, h⟩)
  unfold V71
  refine range_of fun r w1 hi hk hr => ?_
  refine ⟨fun n w' => 0 ≤ n ∧ ∃ pos, IterAt w' r s pos ∧ n ≤ pos ∧ n + Lib.runeCountFrom s s.size pos = Lib.runeCount s ∧ (n : Int) ≤ s.size ∧ Keep No w w', fun n _ => s.size - n.toNat, ⟨by omega, 0, hi, by omega, by simp [Lib.runeCount], by omega, hk⟩, ?_⟩
  rintro j n w2 ⟨hn0, pos, hi, hnp, hn, hns, hk⟩
  have hle := Lib.runeCountFrom_le s s.size pos
  have hle2 := Lib.runeCount_le s
  refine nextSK_of hi (fun hp w3 hi3 hk3 => ?_) fun hp => ?_
  · have hw := Lib.decode_width_pos s pos hp
    have hstep : Lib.runeCountFrom s s.size pos = 1 + Lib.runeCountFrom s s.size (pos + (Utf8.decode s pos).2) := by
      rw [runeCountFrom_fuel s s.size (s.size + 1) pos (by omega) (by omega)]
      show (if pos < s.size then _ else _) = _
      rw [if_pos hp]
    rw [wrap_i64 (by omega)]
    refine ⟨⟨by omega, _, hi3, by omega, by omega, by omega, hk.news hk3 (by rintro k rfl; omega)⟩, by simp only; omega⟩
  · have := Lib.runeCountFrom_end s s.size pos hp
    exact ⟨by congr 1; omega, hk⟩
theorem C70 {w : World} {b B : Nat} {l : List UInt8} (h : BufAt w b B l) (hB : B ≤ w.heap.size) :
    Calls Tryz.prog 70 #[.pointer (some ⟨b, 0, none⟩)] w fun e w' => e = .returned (.string ⟨l.toArray⟩) ∧ Keep (Bfp b B w) w w' := by
  obtain ⟨⟨p, v, h1, h2, h3⟩, hge⟩ := h
  have hat : Lib.BuilderAtF 150 5 B b (.pointer p) (Lib.byteCells l) w := ⟨hge, v, h2, World.ownsRowF_of (by rw [Lib.byteCells_length]; exact h3), ownsRow_ne h3 h2 (by decide)⟩
  refine (Tryz.Builder_String_any_k B b l w ?_ hB).mono ?_
  · rcases h1 with rfl | rfl
    · exact .inl hat
    · exact .inr hat
  · rintro _ w' ⟨rfl, _, hb, ho⟩
    refine ⟨rfl, hb.os, hb.tape, hb.output, hb.size, fun k hk hn => ?_⟩
    by_cases hkB : k < B
    · exact hb.block k hkB
    · cases hc : w.heap[k]? with
      | none => simp at hc; omega
      | some o =>
        refine ho k o hc (fun e => hn (.inl (by simpa using e))) fun c fz e => hn (.inr ⟨by omega, ?_⟩)
        subst e
        unfold etype
        rw [hc]
end Go.Fw


set_option autoImplicit false
set_option linter.unusedVariables false
set_option maxRecDepth 100000
namespace Go.Fw
open Go.Proofs Go.RowKit
theorem conv97 (w : World) : (Go.convert 21 9 (.int .i32 97)).run Tryz.prog w = .ok (.string ⟨#[97]⟩) w := by kernel_rfl
theorem C131_a (w : World) : Calls Tryz.prog 131 #[.int .i32 97] w fun e w' => e = .returned (.string ⟨#[97]⟩) ∧ w' = w := by
  refine ret_mono (V131_sound 97 w (fun r w' => r = .string ⟨#[97]⟩ ∧ w' = w) ?_) (by rintro _ _ ⟨rfl, h⟩; exact ⟨rfl, h⟩)
  unfold V131
  refine bsel_neg rfl ?_
  unfold V131J3
  refine bsel_neg rfl (bsel_neg rfl (bsel_neg rfl (bsel_neg (by decide) ?_)))
  unfold V131J2
  refine bsel_neg rfl (bsel_neg (by decide) (bsel_neg rfl (bsel_neg rfl ?_)))
  unfold V131J1
  exact bsel_neg rfl ⟨_, _, conv97 w, rfl, rfl⟩
theorem Keep.of_bfp {w w1 w2 : World} {b B : Nat} (h : Keep No w w1) (hk : Keep (Bfp b B w1) w1 w2) (hb : w.heap.size ≤ b) (hB : w.heap.size ≤ B) : Keep No w w2 :=
  h.news hk fun k hf => by rcases hf with rfl | ⟨h, _⟩ <;> omega
def iterPos (w : World) (r : Nat) : Nat := match w.heap[r]? with | some (.stringIter _ p) => p | _ => 0
theorem IterAt.pos {w : World} {r pos : Nat} {s : ByteArray} (h : IterAt w r s pos) : iterPos w r = pos := by
  unfold IterAt at h
  simp [iterPos, h]
theorem C76_a (w : World) : Calls Tryz.prog 76 #[.string ⟨#[97]⟩] w fun e w' => e = .returned (.string ⟨#[39, 97, 39]⟩) ∧ Keep No w w' := by
  refine ret_mono (V76_sound _ w (fun r w' => r = .string ⟨#[39, 97, 39]⟩ ∧ Keep No w w') ?_) (by rintro _ _ ⟨rfl, h⟩; exact ⟨rfl, h⟩)
  unfold V76
  refine newK_of fun b w1 hs1 hb1 hk1 => ?_
  have hbu := bufAt_new hb1 (B := w.heap.size) (by omega)
  refine (C130 39 hbu (by simp) hk1.size).mono ?_
  rintro _ w2 ⟨rfl, hbu, hk2⟩
  have hk : Keep No w w2 := hk1.of_bfp hk2 (by omega) (by omega)
  refine ⟨_, rfl, range_of fun r w3 hi hk3 hr => ?_⟩
  replace hbu := hbu.no hk3
  replace hk := hk.no hk3
  refine ⟨fun w' => Keep No w w' ∧ ((IterAt w' r ⟨#[97]⟩ 0 ∧ BufAt w' b w.heap.size [39]) ∨ (IterAt w' r ⟨#[97]⟩ 1 ∧ BufAt w' b w.heap.size [39, 97])), fun w' => 1 - iterPos w' r, ⟨hk, .inl ⟨hi, hbu⟩⟩, ?_⟩
  rintro j w4 ⟨hk, ⟨hi, hbu⟩ | ⟨hi, hbu⟩⟩
  · refine nextSK_of hi (fun hp w5 hi5 hk5 => ?_) fun hp => absurd (by decide) hp
    have hd : Utf8.decode ⟨#[97]⟩ 0 = (97, 1) := by decide
    rw [hd] at hi5 ⊢
    refine (C131_a w5).mono ?_
    rintro _ w5' ⟨rfl, hw5⟩
    subst hw5
    have hrw : w.heap.size ≤ r := by have := hk1.size; have := hk2.size; omega
    have hbu5 := hbu.keep hk5 fun k _ e => by subst e; rw [hi.etype]; exact ⟨by simp, by simp⟩
    replace hk := hk.news hk5 (by rintro k rfl; exact hrw)
    refine ⟨_, rfl, (C69 ⟨#[97]⟩ hbu5 (by decide) hk.size).mono ?_⟩
    rintro _ w6 ⟨rfl, hbu6, hk6⟩
    have hrb : ¬ Bfp b w.heap.size w5' r := by
      rintro (e | ⟨_, e⟩)
      · rw [e] at hi5; have := hi5.etype; rw [hbu5.etype] at this; cases this
      · rw [hi5.etype] at e; cases e
    have hi6 := hk6.iter hi5 hrb
    refine ⟨_, _, rfl, ⟨hk.of_bfp hk6 (by omega) (by omega), .inr ⟨hi6, hbu6⟩⟩, ?_⟩
    simp only
    rw [hi6.pos, hi.pos]
    decide
  · refine nextSK_of hi (fun hp w5 hi5 hk5 => absurd hp (by decide)) fun hp => ?_
    refine (C130 39 hbu (by simp) hk.size).mono ?_
    rintro _ w6 ⟨rfl, hbu6, hk6⟩
    replace hk := hk.of_bfp hk6 (by omega) (by omega)
    refine ⟨_, rfl, (C70 hbu6 hk.size).mono ?_⟩
    rintro _ w7 ⟨rfl, hk7⟩
    exact ⟨_, rfl, rfl, hk.of_bfp hk7 (by omega) (by omega)⟩
theorem C77_1 (w : World) : Calls Tryz.prog 77 #[.int .i64 1] w fun e w' => e = .returned (.string ⟨#[49]⟩) ∧ w' = w := by
  have h := Tryz.strconv_Itoa_small 1 (by decide) w
  rw [show (Lib.decDigits 1).toArray = #[49] by kernel_rfl] at h
  exact h
end Go.Fw


set_option autoImplicit false
set_option linter.unusedVariables false
namespace Go.Fw
open Go.Proofs Go.RowKit
structure Tm where
  kind : Int
  b : Bool
  neg : Bool
  ma : Option Addr
  ml : Nat
  mc : Nat
  text : ByteArray
  ka : Option Addr
  kl : Nat
  kc : Nat
  hash : Bool
  same : Bool
def Tm.cells (t : Tm) : List Value := [.int .i64 t.kind, .bool t.b, .bool t.neg, .slice t.ma t.ml t.mc, .string t.text, .slice t.ka t.kl t.kc, .bool t.hash, .bool t.same]
def TermsAt (w : World) (a : Option Addr) (ts : List Tm) : Prop := ∀ i t, ts[i]? = some t → ∃ p, a = some p ∧ CellsAt w (p.add (i * 8)) t.cells
theorem cellsFrom_keep {fp : Nat → Prop} {w w' : World} (hk : Keep fp w w') {a : Addr} (hn : ¬ fp a.block) : ∀ (vs : List Value) (i : Nat), cellsFrom w a vs i → cellsFrom w' a vs i
  | [], _, _ => trivial
  | v :: vs, i, h => by
    obtain ⟨h1, h2⟩ := cellsFrom_cons.1 h
    have hb : (a.add i).block = a.block := by
      unfold Addr.add
      split <;> rfl
    exact cellsFrom_cons.2 ⟨hk.cell h1 (by rw [hb]; exact hn), cellsFrom_keep hk hn vs (i + 1) h2⟩
theorem Keep.cellsAt {fp : Nat → Prop} {w w' : World} (hk : Keep fp w w') {a : Addr} {vs : List Value} (h : CellsAt w a vs) (hn : ¬ fp a.block) : CellsAt w' a vs := cellsFrom_keep hk hn vs 0 h
theorem add_block (a : Addr) (i : Nat) : (a.add i).block = a.block := by
  unfold Addr.add
  split <;> rfl
theorem TermsAt.keep {fp : Nat → Prop} {w w' : World} {a : Option Addr} {ts : List Tm} (h : TermsAt w a ts) (hk : Keep fp w w') (hn : ∀ p, a = some p → ¬ fp p.block) : TermsAt w' a ts := by
  intro i t ht
  obtain ⟨p, rfl, hc⟩ := h i t ht
  exact ⟨p, rfl, hk.cellsAt hc (by rw [add_block]; exact hn p rfl)⟩
theorem TermsAt.no {w w' : World} {a : Option Addr} {ts : List Tm} (h : TermsAt w a ts) (hk : Keep No w w') : TermsAt w' a ts := h.keep hk fun _ _ => id
theorem termCopy {w : World} {t : Tm} {K : Addr → World → Prop} (h : ∀ b w', Blk w' b 42 t.cells → Keep No w w' → b = w.heap.size → K ⟨b, 0, none⟩ w') :
    newK w #[.int .i64 0, .bool false, .bool false, .slice none 0 0, .string ⟨#[]⟩, .slice none 0 0, .bool false, .bool false] 42 fun a w1 =>
    stK w1 (a.add 0) (.int .i64 t.kind) fun w2 => stK w2 (a.add 1) (.bool t.b) fun w3 => stK w3 (a.add 2) (.bool t.neg) fun w4 => stK w4 (a.add 3) (.slice t.ma t.ml t.mc) fun w5 =>
    stK w5 (a.add 4) (.string t.text) fun w6 => stK w6 (a.add 5) (.slice t.ka t.kl t.kc) fun w7 => stK w7 (a.add 6) (.bool t.hash) fun w8 => stK w8 (a.add 7) (.bool t.same) fun w9 => K a w9 := by
  refine newK_of fun b w1 hs hb hk => ?_
  refine stK_add hb (by simp) fun w2 hb hk2 => ?_
  replace hk := hk.news hk2 (by rintro k rfl; omega)
  refine stK_add hb (by simp) fun w3 hb hk2 => ?_
  replace hk := hk.news hk2 (by rintro k rfl; omega)
  refine stK_add hb (by simp) fun w4 hb hk2 => ?_
  replace hk := hk.news hk2 (by rintro k rfl; omega)
  refine stK_add hb (by simp) fun w5 hb hk2 => ?_
  replace hk := hk.news hk2 (by rintro k rfl; omega)
  refine stK_add hb (by simp) fun w6 hb hk2 => ?_
  replace hk := hk.news hk2 (by rintro k rfl; omega)
  refine stK_add hb (by simp) fun w7 hb hk2 => ?_
  replace hk := hk.news hk2 (by rintro k rfl; omega)
  refine stK_add hb (by simp) fun w8 hb hk2 => ?_
  replace hk := hk.news hk2 (by rintro k rfl; omega)
  refine stK_add hb (by simp) fun w9 hb hk2 => ?_
  replace hk := hk.news hk2 (by rintro k rfl; omega)
  exact h b w9 hb hk hs
def ints (l : List Int) : List Value := l.map (.int .i64)
theorem ints_get {l : List Int} {i : Nat} {n : Int} (h : l[i]? = some n) : (ints l)[i]? = some (.int .i64 n) := by simp [ints, h]
structure Laws (w0 : World) (s b : Nat) (ta : Option Addr) (tc : Nat) (ts : List Tm) (own0 : Nat → Prop) (err : Nat → Int) (Inv : Nat → List Int → (Nat → Prop) → World → Prop) (Fil : Nat → Nat → List Int → (Nat → Prop) → World → Prop) : Prop where
  wrong : ∀ i w, i < ts.length → Keep No w0 w → Blk w b 92 [.pointer (some ⟨s, 0, none⟩), .slice ta ts.length tc, .slice none 0 0] →
    Calls Tryz.prog 39 #[.pointer (some ⟨b, 0, none⟩), .int .i64 i] w fun e w' => e = .returned (.int .i64 (err i)) ∧ Keep No w w'
  stab : ∀ i refs own w w' X, Inv i refs own w → Keep X w w' → (∀ k, X k → k < w.heap.size → (etype w k = some 3 ∨ etype w k = some 92) ∧ ¬ own k) → Inv i refs own w'
  make : ∀ i t refs own w v, (∀ j, j < ts.length → err j = 0) → ts[i]? = some t → refs.length = i → Inv i refs own w → Keep own0 w0 w → TermsAt w ta ts → Blk w b 92 [.pointer (some ⟨s, 0, none⟩), .slice ta ts.length tc, v] → w.ownsRow w0.heap.size 3 1 v i (ints refs) →
    (∀ k, own k → ¬ (k = b ∨ v.ownBlock = some k)) →
    Calls Tryz.prog 40 #[.pointer (some ⟨b, 0, none⟩), .agg t.cells.toArray] w fun e w' => ∃ ref own', e = .returned (.int .i64 ref) ∧ Inv (i + 1) (refs ++ [ref]) own' w' ∧ Keep (fun k => k ≠ b ∧ v.ownBlock ≠ some k ∧ (k < w0.heap.size → own0 k)) w w' ∧ (∀ k, own' k → own k ∨ (w.heap.size ≤ k ∧ k < w'.heap.size))
  start : ∀ refs own w, (∀ j, j < ts.length → err j = 0) → refs.length = ts.length → Inv ts.length refs own w → Fil 0 0 refs own w
  fstab : ∀ i j refs own w w' X, Fil i j refs own w → Keep X w w' → (∀ k, X k → k < w.heap.size → (etype w k = some 3 ∨ etype w k = some 92) ∧ ¬ own k) → Fil i j refs own w'
  get : ∀ i t refs own w ref, (∀ j, j < ts.length → err j = 0) → ts[i]? = some t → refs[i]? = some ref → refs.length = ts.length → Keep own0 w0 w → Fil i 0 refs own w → ∃ x, Calls Tryz.prog 41 #[.pointer (some ⟨s, 0, none⟩), .int .i64 ref] w (fun e w' => e = .returned x ∧ w' = w) ∧
    (((∀ w : World, (Instr.typeAssert x 77 94 true).run Tryz.prog w = .ok (.tuple #[.pointer none, .bool false]) w) ∧ ∀ w1, Fil i 0 refs own w1 → Fil (i + 1) 0 refs own w1) ∨
     (∃ r, x = .iface 94 (.pointer (some ⟨r, 0, none⟩)) ∧ (∀ w1, Fil i t.kl refs own w1 → Fil (i + 1) 0 refs own w1) ∧
       ∀ j w1, j < t.kl → Keep own0 w0 w1 → Keep own w w1 → Fil i j refs own w1 → ∃ g l c p kid, w1.cell? ⟨r, 1, none⟩ = some (.slice (some ⟨g, 0, none⟩) l c) ∧ j < l ∧ own g ∧ w0.heap.size ≤ g ∧ (w1.cell? ⟨g, j, none⟩).isSome = true ∧ w1.frozen? ⟨g, j, none⟩ = false ∧
         t.ka = some p ∧ w1.cell? (p.add j) = some (.int .i64 kid) ∧ 0 ≤ kid ∧ kid < ts.length ∧ ∀ v, refs[kid.toNat]? = some v → Fil i (j + 1) refs own (w1.setCell ⟨g, j, none⟩ (.int .i64 v))))
section
variable {w0 : World} {s b : Nat} {ta : Option Addr} {tc : Nat} {ts : List Tm} {own0 : Nat → Prop} {err : Nat → Int} {Inv : Nat → List Int → (Nat → Prop) → World → Prop} {Fil : Nat → Nat → List Int → (Nat → Prop) → World → Prop}
def BadEnd (w0 : World) (ts : List Tm) (err : Nat → Int) (r : Value) (w' : World) : Prop :=
  ∃ i, i < ts.length ∧ (∀ j, j < i → err j = 0) ∧ err i ≠ 0 ∧ r = .tuple #[.slice none 0 0, .int .i64 (err i)] ∧ Keep No w0 w'
def GoodEnd (w0 : World) (ts : List Tm) (own0 : Nat → Prop) (err : Nat → Int) (Fil : Nat → Nat → List Int → (Nat → Prop) → World → Prop) (r : Value) (w' : World) : Prop :=
  (∀ j, j < ts.length → err j = 0) ∧ ∃ refs own v, refs.length = ts.length ∧ r = .tuple #[v, .int .i64 0] ∧ Fil ts.length 0 refs own w' ∧ Keep own0 w0 w' ∧ w'.ownsRow w0.heap.size 3 1 v ts.length (ints refs) ∧ (∀ k, own k → v.ownBlock ≠ some k)
theorem ownsRow_slice {w : World} {base e size n : Nat} {v : Value} {xs : List Value} (h : w.ownsRow base e size v n xs) : ∃ a c, v = .slice a n c := by
  rcases h.2 with ⟨h1, h2⟩ | ⟨g, cap, cur, h1, _⟩
  · exact ⟨_, _, by rw [h1, h2]⟩
  · exact ⟨_, _, h1⟩
theorem C13_gen (hb : b = w0.heap.size) (hts : TermsAt w0 ta ts) (hta : ∀ p, ta = some p → ¬ own0 p.block) (hn : ts.length < 1000000) (hkl : ∀ (i : Nat) (t : Tm), ts[i]? = some t → t.kl < 1000000000000) (ho0 : ∀ k, own0 k → k < w0.heap.size)
    (hI : Inv 0 [] No w0) (L : Laws w0 s b ta tc ts own0 err Inv Fil) :
    Calls Tryz.prog 13 #[.pointer (some ⟨s, 0, none⟩), .slice ta ts.length tc] w0 fun e w' => ∃ r, e = .returned r ∧ (BadEnd w0 ts err r w' ∨ GoodEnd w0 ts own0 err Fil r w') := by
  refine (V13_sound _ ta ts.length tc w0 (fun r w' => BadEnd w0 ts err r w' ∨ GoodEnd w0 ts own0 err Fil r w') ?_)
  unfold V13
  refine bsel_neg rfl (newK_of fun b' w1 hb' hbb hk1 => ?_)
  obtain rfl : b' = b := by omega
  refine ⟨fun i w => 0 ≤ i ∧ i ≤ ts.length ∧ (∀ j : Nat, (j : Int) < i → err j = 0) ∧ Keep No w0 w ∧ Blk w b' 92 [.pointer (some ⟨s, 0, none⟩), .slice ta ts.length tc, .slice none 0 0], fun i _ => (ts.length - i).toNat,
    ⟨by omega, by omega, fun j hj => by omega, hk1, hbb⟩, ?_⟩
  rintro j0 i w ⟨hi0, hin, herr, hk, hbb⟩
  refine bsel_split (fun hlt => ?_) fun hge => ?_
  · simp at hlt
    obtain ⟨n, rfl⟩ := Int.eq_ofNat_of_zero_le hi0
    refine (L.wrong n w (by omega) hk hbb).mono ?_
    rintro _ w' ⟨rfl, hk'⟩
    refine ⟨_, rfl, bsel_split (fun he => ?_) fun he => ?_⟩
    · refine .inl ⟨n, by omega, fun j hj => herr j (by omega), by simpa using he, rfl, hk.no hk'⟩
    · rw [wrap_i64 (by omega)]
      refine ⟨⟨by omega, by omega, fun j hj => ?_, hk.no hk', hk'.nblk hbb⟩, by simp only; omega⟩
      by_cases hjn : j = n
      · subst hjn; simpa using he
      · exact herr j (by omega)
  simp at hge
  replace herr : ∀ j, j < ts.length → err j = 0 := fun j hj => herr j (by omega)
  clear hi0 hin hge i j0
  -- the second loop
  have hbw : b' < w.heap.size := hbb.lt
  refine ⟨fun i w => 0 ≤ i ∧ i ≤ ts.length ∧ ∃ refs own v, (refs.length : Int) = i ∧ Inv refs.length refs own w ∧ Keep own0 w0 w ∧ Blk w b' 92 [.pointer (some ⟨s, 0, none⟩), .slice ta ts.length tc, v] ∧ w.ownsRow w0.heap.size 3 1 v refs.length (ints refs) ∧
      (∀ k, own k → ¬ (k = b' ∨ v.ownBlock = some k)) ∧ (∀ k, own k → k < w.heap.size), fun i _ => (ts.length - i).toNat,
    ⟨by omega, by omega, [], No, _, rfl, L.stab _ _ _ _ _ _ hI hk (fun _ h => h.elim), Keep.of_no hk, hbb, World.ownsRow_nil _ _ _ _, fun _ h => h.elim, fun _ h => h.elim⟩, ?_⟩
  clear hbb hbw hk w
  rintro j0 i w ⟨hi0, hin, refs, own, v, hrl, hInv, hk, hbb, hrow, hown, hownlt⟩
  have hts' := hts.keep hk hta
  refine bsel_split (fun hlt => ?_) fun hge => ?_
  · simp at hlt
    subst hrl
    obtain ⟨t, ht⟩ : ∃ t, ts[refs.length]? = some t := ⟨_, List.getElem?_eq_getElem (by omega)⟩
    obtain ⟨p, rfl, hc⟩ := hts' _ t ht
    refine idxK_of (by omega) ⟨_, _, _, _, _, _, _, _, _, _, _, _, hc, termCopy fun c w2 hc2 hk2 hcs => ?_⟩
    have hbb2 := hk2.nblk hbb
    obtain ⟨va, vc, rfl⟩ := ownsRow_slice hrow
    refine ⟨_, _, _, hbb2.drew.add 2 rfl, _, _, _, _, _, _, _, _, _, _, _, _, hc2.drew.cells0, ?_⟩
    have hk2 := hk2.no (Keep.drawn w2)
    have hk02 := hk.no hk2
    refine (L.make refs.length t refs own _ _ herr ht rfl (L.stab _ _ _ _ _ _ hInv hk2 fun _ h => h.elim) hk02 (hts.keep hk02 hta) hbb2.drew (hk2.nrow hrow) hown).mono ?_
    rintro _ w3 ⟨ref, own', rfl, hInv3, hk3, hown3⟩
    have hbb3 := hk3.blk hbb2.drew fun h => h.1 rfl
    have hrow3 := hk3.row (hk2.nrow hrow) fun g hg h => h.2.1 hg
    have hk03 : Keep own0 w0 w3 := hk02.trans hk3 fun k h1 h2 => h2.2.2 h1
    refine ⟨_, rfl, hbb3.add 2 rfl, newK_of fun d w4 hd hbd hk4 => ⟨(hk4.nblk hbb3).add 2 rfl, ?_⟩⟩
    have hown3' : ∀ k, own' k → ¬ (k = b' ∨ (Value.slice va refs.length vc).ownBlock = some k) := by
      intro k hk' h
      rcases hown3 k hk' with h' | ⟨h', _⟩
      · exact hown k h' h
      · have h1 := hk2.size
        rcases h with rfl | h
        · have := hbb.lt; omega
        · have := (hrow.lt k h).2; omega
    have hownlt3 : ∀ k, own' k → k < w3.heap.size := by
      intro k hk'
      rcases hown3 k hk' with h' | ⟨_, h'⟩
      · have := hownlt k h'; have := hk2.size; have := hk3.size; omega
      · exact h'
    refine appendRow rowInts (hk4.nrow hrow3) hbd rfl (by omega) (by have := (hk03.no hk4).size; omega) fun g cap w5 hrow5 hk5 hat => ?_
    have hne5 := ownsRow_ne (hk4.nrow hrow3) (hk4.nblk hbb3) (by decide)
    have hbb5 := hk5.blk (hk4.nblk hbb3) fun e => hne5 e
    refine stK_add hbb5 (by simp) fun w6 hbb6 hk6 => ?_
    have hgb : g ≠ b' := fun e => ownsRow_ne hrow5 hbb5 (by decide) (by rw [e]; rfl)
    rw [wrap_i64 (by omega)]
    have hg4 : g = w4.heap.size ∨ (Value.slice va refs.length vc).ownBlock = some g := hat.elim (fun h => .inr h) .inl
    have hInv6 : Inv (refs.length + 1) (refs ++ [ref]) own' w6 := by
      refine L.stab _ _ _ _ _ _ (L.stab _ _ _ _ _ _ (L.stab _ _ _ _ _ _ hInv3 hk4 fun _ h => h.elim) hk5 fun k h _ => ⟨.inl (ownsRow_etype (hk4.nrow hrow3) h), fun h' => hown3' k h' (.inr h)⟩) hk6 fun k h _ => ?_
      subst h
      exact ⟨.inr hbb5.etype, fun h' => hown3' _ h' (.inl rfl)⟩
    have hk06 : Keep own0 w0 w6 := ((hk03.no hk4).news hk5 fun k h => (hrow.lt k h).1).news hk6 fun k h => by subst h; omega
    refine ⟨⟨by omega, by omega, refs ++ [ref], own', _, by simp, by simpa using hInv6, hk06, hbb6, ?_, ?_, ?_⟩, by simp only; omega⟩
    · have := hk6.row hrow5 fun g' hg' e => hgb (by cases hg'; exact e)
      simpa [ints] using this
    · intro k hk' h
      rcases h with h | h
      · exact hown3' k hk' (.inl h)
      · cases h
        rcases hg4 with h | h
        · have := hownlt3 g hk'; have := hk4.size; omega
        · exact hown3' g hk' (.inr h)
    · intro k hk'
      have := hownlt3 k hk'; have := hk4.size; have := hk5.size; have := hk6.size; omega
  simp at hge
  obtain rfl : i = refs.length := by omega
  have hrl : refs.length = ts.length := by omega
  rw [hrl] at hInv hrow
  have hFil := L.start refs own w herr hrl hInv
  clear hInv hi0 hin hge j0 hts'
  obtain ⟨va, vc, rfl⟩ := ownsRow_slice hrow
  have hne := ownsRow_ne hrow hbb (by decide)
  refine ⟨fun i w' => 0 ≤ i ∧ i ≤ ts.length ∧ Fil i.toNat 0 refs own w' ∧ Keep own0 w0 w' ∧ Blk w' b' 92 [.pointer (some ⟨s, 0, none⟩), .slice ta ts.length tc, .slice va ts.length vc] ∧ w'.ownsRow w0.heap.size 3 1 (.slice va ts.length vc) ts.length (ints refs) ∧ w.heap.size ≤ w'.heap.size, fun i _ => (ts.length - i).toNat,
    ⟨by omega, by omega, hFil, hk, hbb, hrow, Nat.le_refl _⟩, ?_⟩
  clear hFil hk hbb hrow
  rintro j0 i w1 ⟨hi0, hin, hFil, hk, hbb, hrow, hsz⟩
  have hts' := hts.keep hk hta
  have hstp : ∀ {w1 w' : World} {X : Nat → Prop} {i j : Nat}, Fil i j refs own w1 → Keep X w1 w' → (∀ k, X k → k < w1.heap.size → (etype w1 k = some 3 ∨ etype w1 k = some 92) ∧ ¬ own k) → Fil i j refs own w' := fun h hk hX => L.fstab _ _ _ _ _ _ _ h hk hX
  refine bsel_split (fun hlt => ?_) fun hge => ?_
  · simp at hlt
    obtain ⟨n, rfl⟩ := Int.eq_ofNat_of_zero_le hi0
    simp only [Int.toNat_natCast] at hFil
    obtain ⟨t, ht⟩ : ∃ t, ts[n]? = some t := ⟨_, List.getElem?_eq_getElem (by omega)⟩
    have hkl' := hkl n t ht
    obtain ⟨ref, href⟩ : ∃ r, refs[n]? = some r := ⟨_, List.getElem?_eq_getElem (by omega)⟩
    obtain ⟨p, rfl, hc⟩ := hts' _ t ht
    refine idxK_of (by omega) ⟨_, _, _, _, _, _, _, _, _, _, _, _, hc, termCopy fun c w2 hc2 hk2 hcs => ?_⟩
    have hbb2 := hk2.nblk hbb
    have hrow2 := hk2.nrow hrow
    have hk02 := hk.no hk2
    have hsz2 : w.heap.size ≤ w2.heap.size := by have := hk2.size; omega
    obtain ⟨g, cap, hv, _, hcell⟩ := row_cell hrow2 (ints_get href)
    have hva : va = some ⟨g, 0, none⟩ ∧ vc = cap := by
      simp at hv
      exact hv
    obtain ⟨rfl, rfl⟩ := hva
    refine ⟨_, _, _, hbb2.add 2 rfl, idxK_of (by omega) ⟨_, by simpa using hcell, ?_⟩⟩
    have hFil2 := hstp hFil hk2 fun _ h => h.elim
    have hnext : ∀ {w' : World} , Fil (n + 1) 0 refs own w' → Keep own0 w0 w' → Blk w' b' 92 [.pointer (some ⟨s, 0, none⟩), .slice (some p) ts.length tc, .slice (some ⟨g, 0, none⟩) ts.length vc] → w'.ownsRow w0.heap.size 3 1 (.slice (some ⟨g, 0, none⟩) ts.length vc) ts.length (ints refs) → w.heap.size ≤ w'.heap.size → True := fun _ _ _ _ _ => trivial
    obtain ⟨x, hget, hx⟩ := L.get n t refs own w2 ref herr ht href hrl hk02 hFil2
    refine hget.mono ?_
    rintro _ w3 ⟨rfl, rfl⟩
    rcases hx with ⟨hno, hf⟩ | ⟨r, rfl, hfin, hstep⟩
    · refine ⟨_, rfl, _, _, hno, bsel_neg rfl ?_⟩
      rw [wrap_i64 (by omega)]
      refine ⟨⟨by omega, by omega, ?_, hk02, hbb2, hrow2, hsz2⟩, by simp only; omega⟩
      have e : ((n : Int) + 1).toNat = n + 1 := by omega
      rw [e]
      exact hf _ hFil2
    · refine ⟨_, rfl, _, _, yes80 _ _, bsel_pos rfl ?_⟩
      refine ⟨_, _, _, hc2.add 5 rfl, ?_⟩
      refine ⟨fun j w' => 0 ≤ j ∧ j ≤ t.kl ∧ Fil n j.toNat refs own w' ∧ Keep own0 w0 w' ∧ Blk w' b' 92 [.pointer (some ⟨s, 0, none⟩), .slice (some p) ts.length tc, .slice (some ⟨g, 0, none⟩) ts.length vc] ∧ w'.ownsRow w0.heap.size 3 1 (.slice (some ⟨g, 0, none⟩) ts.length vc) ts.length (ints refs) ∧ Blk w' c 42 t.cells ∧ w.heap.size ≤ w'.heap.size ∧ Keep own w3 w', fun j _ => (t.kl - j).toNat,
        ⟨by omega, by omega, hFil2, hk02, hbb2, hrow2, hc2, hsz2, Keep.refl _ _⟩, ?_⟩
      clear hFil2 hk02 hbb2 hrow2 hc2 hsz2 hcell hv hget
      rintro j1 j w4 ⟨hj0, hjn, hFil4, hk4, hbb4, hrow4, hc4, hsz4, hko⟩
      refine bsel_split (fun hlt => ?_) fun hge => ?_
      · simp at hlt
        obtain ⟨m, rfl⟩ := Int.eq_ofNat_of_zero_le hj0
        simp only [Int.toNat_natCast] at hFil4
        have hd := Keep.drawn w4
        obtain ⟨g2, l2, c2, q, kid, hg1, hg2, hg3, hg3', hg4, hg5, hq1, hq2, hq3, hq4, hset⟩ := hstep m w4.drew (by omega) (hk4.no hd) (hko.no hd) (hstp hFil4 hd fun _ h => h.elim)
        obtain ⟨kn, rfl⟩ := Int.eq_ofNat_of_zero_le hq3
        simp only [Int.toNat_natCast] at hset
        obtain ⟨v, hv⟩ : ∃ v, refs[kn]? = some v := ⟨_, List.getElem?_eq_getElem (by omega)⟩
        rw [hq1]
        refine idxK_of (by omega) ⟨_, by rw [Nat.mul_one]; exact hq2, ?_⟩
        rw [nilK_some]
        refine ⟨_, _, _, by simpa using hg1, _, _, _, hbb4.drew.add 2 rfl, idxK_of (by omega) ?_⟩
        obtain ⟨g', cap', hv', _, hcell'⟩ := row_cell (hd.nrow hrow4) (ints_get hv)
        have hva : g' = g := by
          simp at hv'
          exact hv'.1.symm
        subst hva
        refine ⟨_, by simpa using hcell', idxK_of hg2 ⟨⟨by simpa using hg4, by simpa using hg5⟩, ?_⟩⟩
        have hset := hset v hv
        have hone := Keep.one w4.drew ⟨g2, m, none⟩ (.int .i64 v)
        simp only [add_mk, Nat.zero_add, Nat.mul_one]
        rw [wrap_i64 (by omega)]
        have hcg : c ≠ g2 := by have := hownlt g2 hg3; have := hc4.lt; omega
        have hbg : b' ≠ g2 := fun e => hown g2 hg3 (.inl e.symm)
        have hgg : g' ≠ g2 := fun e => hown g2 hg3 (.inr (by rw [e]; rfl))
        refine ⟨⟨by omega, by omega, ?_, (hk4.no hd).news hone fun k e => by subst e; exact hg3', hone.blk hbb4.drew hbg, hone.row (hd.nrow hrow4) fun k hk e => hgg (by cases hk; exact e), hone.blk hc4.drew hcg, by have h1 := hone.size; have h2 : w4.drew.heap.size = w4.heap.size := rfl; omega, (hko.no hd).trans hone fun k _ e => by subst e; exact hg3⟩, by omega⟩
        have e : ((m : Int) + 1).toNat = m + 1 := by omega
        rw [e]
        exact hset
      · simp at hge
        have hjm : j = t.kl := by omega
        subst hjm
        rw [wrap_i64 (by omega)]
        refine ⟨⟨by omega, by omega, ?_, hk4, hbb4, hrow4, hsz4⟩, by simp only; omega⟩
        have e : ((n : Int) + 1).toNat = n + 1 := by omega
        rw [e]
        exact hfin _ (by simpa using hFil4)
  · simp at hge
    obtain rfl : i = ts.length := by omega
    simp only [Int.toNat_natCast] at hFil
    have hd := Keep.drawn w1
    refine ⟨_, _, _, hbb.drew.add 2 rfl, _, _, _, hbb.drew.add 2 rfl, ?_⟩
    obtain ⟨i3, hi3, hz3, hs3, hb3⟩ := rowInts.info
    obtain ⟨w2, hr2, ho2, hg2⟩ := run_make_own (P := Tryz.prog) w1.drew w0.heap.size 30 3 i3 _ 1 rowInts.und hi3 hz3 hs3 .i64 .i64 ts.length (by rw [hb3]; omega) (by unfold maxLen; omega) ((hk.no hd).size)
    have hk2 : Keep No w1.drew w2 := (Keep.of_grown hg2).mono fun _ _ h => by cases h
    refine ⟨_, _, _, _, hr2, (hk2.nblk hbb.drew).add 2 rfl, ?_⟩
    have hrow2 := hk2.nrow (hd.nrow hrow)
    have hFil2 := hstp (hstp hFil hd fun _ h => h.elim) hk2 fun _ h => h.elim
    have hk02 := (hk.no hd).no hk2
    rcases hrow2.2 with ⟨hv, h0⟩ | ⟨g, cap, cur, hv, hg, hh, hle, _⟩
    · have hr := run_append_owned_none (P := Tryz.prog) w2 w0.heap.size 30 30 3 i3 1 rowInts.und hi3 _ _ _ ho2
      rw [hv]
      refine ⟨_, _, _, _, hr, .inr ⟨herr, refs, own, _, hrl, rfl, hFil2, hk02, ?_, ?_⟩⟩
      · have : refs = [] := by rw [← List.length_eq_zero_iff]; omega
        subst this
        rw [h0] at ho2 ⊢
        exact ho2
      · intro k hk' h
        cases h
        have := hownlt _ hk'
        simp at this
        omega
    · have hva : va = some ⟨g, 0, none⟩ ∧ vc = cap := by
        simp at hv
        exact hv
      obtain ⟨rfl, rfl⟩ := hva
      obtain ⟨w3, hr3, ho3, hg3⟩ := run_append_fits (P := Tryz.prog) w2 w0.heap.size 30 30 3 i3 1 rowInts.und hi3 hs3 _ _ _ _ ho2 ⟨g, 0, none⟩ ts.length vc (ints refs) (by simp [ints, hrl])
        (fun j u hj => by
          have hjl : j < ts.length := by
            have := (List.getElem?_eq_some_iff.1 hj).1
            simp [ints] at this
            omega
          rw [add_mk, Nat.zero_add, hrow2.cellAt j (by omega), hj]) (fun u hu => by simp [ints] at hu; obtain ⟨_, _, rfl⟩ := hu; rfl) (by omega)
      have hk3 := Keep.of_grown hg3
      refine ⟨_, _, _, _, hr3, .inr ⟨herr, refs, own, _, hrl, rfl, ?_, hk02.news hk3 fun k h => by cases h; have := (hk.no hd).size; exact this, by simp only [Nat.zero_add, List.nil_append] at ho3 ⊢; exact ho3, ?_⟩⟩
      · refine hstp hFil2 hk3 fun k h _ => ⟨.inl (ownsRow_etype ho2 h), fun hk' => ?_⟩
        cases h
        have := hownlt _ hk'
        simp at this
        omega
      · intro k hk' h
        cases h
        have := hownlt _ hk'
        simp at this
        omega
end
end Go.Fw


set_option autoImplicit false
set_option linter.unusedVariables false
namespace Go.Fw
open Go.Proofs Go.RowKit
theorem add_zero' (a : Addr) : a.add 0 = a := by
  simp [Addr.add]
def WordsAt (w : World) (a : Option Addr) (ms : List Int) : Prop := ∀ i m, ms[i]? = some m → ∃ p, a = some p ∧ w.cell? (p.add i) = some (.int .u32 m)
theorem WordsAt.keep {fp : Nat → Prop} {w w' : World} {a : Option Addr} {ms : List Int} (h : WordsAt w a ms) (hk : Keep fp w w') (hn : ∀ p, a = some p → ¬ fp p.block) : WordsAt w' a ms := by
  intro i m hm
  obtain ⟨p, rfl, hc⟩ := h i m hm
  exact ⟨p, rfl, hk.cell hc (by rw [add_block]; exact hn p rfl)⟩
theorem WordsAt.no {w w' : World} {a : Option Addr} {ms : List Int} (h : WordsAt w a ms) (hk : Keep No w w') : WordsAt w' a ms := h.keep hk fun _ _ => id
theorem WordsAt.take {w : World} {a : Option Addr} {ms : List Int} (h : WordsAt w a ms) (n : Nat) : WordsAt w a (ms.take n) := by
  intro i m hm
  rw [List.getElem?_take] at hm
  split at hm
  · exact h i m hm
  · cases hm
def trimN (ms : List Int) : Nat → Nat
  | 0 => 0
  | n + 1 => if ms[n]? = some 0 then trimN ms n else n + 1
def trimmed (ms : List Int) : List Int := ms.take (trimN ms ms.length)
theorem trimN_le (ms : List Int) : ∀ n, trimN ms n ≤ n
  | 0 => Nat.le_refl _
  | n + 1 => by
    unfold trimN
    split
    · have := trimN_le ms n; omega
    · exact Nat.le_refl _
theorem C124 {w : World} {a : Option Addr} {ms : List Int} {c : Nat} (h : WordsAt w a ms) (hc : ms.length ≤ c) (hl : ms.length < 1000000000000) :
    Calls Tryz.prog 124 #[.slice a ms.length c] w fun e w' => e = .returned (.slice a (trimmed ms).length c) ∧ w' = w := by
  refine (V124_sound a ms.length c w (fun r w' => r = .slice a (trimmed ms).length c ∧ w' = w) ?_).mono ?_
  · unfold V124
    refine ⟨fun a' n' c' w' => a' = a ∧ c' = c ∧ w' = w ∧ n' ≤ ms.length ∧ trimN ms n' = trimN ms ms.length, fun _ n _ _ => n, ⟨rfl, rfl, rfl, Nat.le_refl _, rfl⟩, ?_⟩
    rintro _ a' n c' w' ⟨rfl, rfl, rfl, hn, ht⟩
    refine bsel_split (fun hp => ?_) fun hp => ?_
    · simp at hp
      obtain ⟨k, rfl⟩ : ∃ k, n = k + 1 := ⟨n - 1, by omega⟩
      obtain ⟨m, hm⟩ : ∃ m, ms[k]? = some m := ⟨_, List.getElem?_eq_getElem (by omega)⟩
      obtain ⟨p, rfl, hcell⟩ := h k m hm
      have hw : IntKind.wrap .i64 (((k + 1 : Nat) : Int) - 1) = ((k : Nat) : Int) := by rw [wrap_i64 (by omega)]; omega
      rw [hw]
      refine idxK_of (by omega) ⟨m, by simpa using hcell, ?_⟩
      unfold V124J1
      rw [hw]
      refine bsel_split (fun h0 => ?_) fun h0 => ?_
      · simp at h0
        subst h0
        refine ⟨⟨by omega, by omega, by omega⟩, ?_⟩
        refine ⟨⟨?_, by simp, rfl, by simp; omega, ?_⟩, by simp⟩
        · split
          · rfl
          · simp [add_zero']
        · rw [← ht]
          simp only [trimN, hm, if_true]
          congr 1
      · simp at h0
        refine ⟨?_, rfl⟩
        have : (trimmed ms).length = k + 1 := by
          unfold trimmed
          rw [List.length_take, ← ht]
          unfold trimN
          rw [hm, if_neg (by simpa using h0)]
          omega
        rw [this]
    · simp at hp
      subst hp
      unfold V124J1
      refine bsel_neg rfl ⟨?_, rfl⟩
      have : (trimmed ms).length = 0 := by
        unfold trimmed
        rw [List.length_take, ← ht]
        simp [trimN]
      rw [this]
  · rintro e w' ⟨v, rfl, rfl, rfl⟩
    exact ⟨rfl, rfl⟩
def NewWords (B : Nat) (w : World) (v : Value) (ms : List Int) : Prop :=
  ∃ a c, v = .slice a ms.length c ∧ WordsAt w a ms ∧ ms.length ≤ c ∧ ∀ p, a = some p → B ≤ p.block ∧ p.block < w.heap.size ∧ etype w p.block = some 45
theorem NewWords.of_row {B : Nat} {w : World} {v : Value} {ms : List Int} {n : Nat} (h : w.ownsRow B 45 1 v n (ms.map (.int .u32))) (hn : n = ms.length) : NewWords B w v ms := by
  subst hn
  rcases h.2 with ⟨h1, h2⟩ | ⟨g, cap, cur, h1, hB, hg, hc, hm, hs, ht⟩
  · subst h1
    have : ms = [] := List.eq_nil_of_length_eq_zero h2
    subst this
    exact ⟨none, 0, rfl, fun i m hm => by simp at hm, Nat.le_refl _, fun p hp => by cases hp⟩
  · subst h1
    refine ⟨_, _, rfl, fun i m hm => ⟨_, rfl, ?_⟩, hc, ?_⟩
    · rw [add_mk]
      have h1 : (ms.map (Value.int .u32))[i]? = some (.int .u32 m) := by simp [hm]
      rw [← ht, List.getElem?_take] at h1
      split at h1
      · simp only [World.cell?, hg]
        simpa using h1
      · cases h1
    · rintro p hp
      cases hp
      refine ⟨hB, (Array.getElem?_eq_some_iff.1 hg).1, by simp [etype, hg]⟩
theorem infoU32 : ∃ i, Tryz.prog.info? 45 = some i ∧ i.size = 1 ∧ i.bytes = 4 ∧ ∃ z, i.zero = some z ∧ z.cells.size = 1 := by
  obtain ⟨i, hi, hj⟩ := Option.map_eq_some_iff.1 (show (Tryz.prog.info? 45).map (fun i => (i.zero, i.size, i.bytes)) = some (some (.int .u32 0), 1, 4) by kernel_rfl)
  simp at hj
  exact ⟨i, hi, hj.2.1, hj.2.2, _, hj.1, rfl⟩
theorem C123 {w : World} {a : Option Addr} {ms : List Int} {c : Nat} (h : WordsAt w a ms) (hl : ms.length < 1000000000000) :
    Calls Tryz.prog 123 #[.slice a ms.length c] w fun e w' => ∃ v, e = .returned v ∧ NewWords w.heap.size w' v (if a.isNone then [] else ms) ∧ Keep No w w' := by
  refine V123_sound a ms.length c w (fun v w' => NewWords w.heap.size w' v (if a.isNone then [] else ms) ∧ Keep No w w') ?_
  unfold V123
  cases a with
  | none => exact bsel_pos rfl ⟨⟨none, 0, rfl, fun i m hm => by simp at hm, Nat.le_refl _, fun p hp => by cases hp⟩, Keep.refl _ _⟩
  | some p =>
    refine bsel_neg rfl (newK_of fun b w1 hb hbb hk => ?_)
    obtain ⟨i, hi, hi1, hi2, z, hz, hz1⟩ : ∃ i, Tryz.prog.info? 45 = some i ∧ i.size = 1 ∧ i.bytes = 4 ∧ ∃ z, i.zero = some z ∧ z.cells.size = 1 := infoU32
    have hown : w1.ownsRow w.heap.size 45 1 (.slice (some ⟨b, 0, none⟩) 0 0) 0 [] := ⟨rfl, .inr ⟨b, 0, #[], rfl, by omega, hbb, by omega, by simp [maxLen], rfl, rfl⟩⟩
    obtain ⟨v', w', hr, h2, h3, h4, h5⟩ := run_append_own_at (P := Tryz.prog) w1 w.heap.size 38 38 45 i z 1 4 Tryz.underlying38 hi hz hi1 hi2 hz1 (by omega) _ 0 [] hown p ms.length c (ms.map (.int .u32)) (by simp)
      (by
        intro j u hj
        obtain ⟨m, hm, rfl⟩ : ∃ m, ms[j]? = some m ∧ Value.int .u32 m = u := by simpa using hj
        obtain ⟨q, hq, hc⟩ := h j m hm
        cases hq
        exact hk.cell hc id) (by intro u hu; obtain ⟨m, _, rfl⟩ := List.mem_map.1 hu; rfl) (by simp [maxLen]; omega) (by omega) (by have := hk.size; omega)
    rw [Nat.zero_add, List.nil_append] at h2
    obtain ⟨a', c', rfl⟩ := ownsRow_slice h2
    refine ⟨w', _, _, _, hr, NewWords.of_row h2 rfl, ?_⟩
    refine hk.news (Keep.of_grown h3) fun k hk' => ?_
    simp [Value.ownBlock] at hk'
    omega
theorem trimmed_length_le (ms : List Int) : (trimmed ms).length ≤ ms.length := by unfold trimmed; simp; omega
theorem C147 {w : World} {x : Bool} {a : Option Addr} {ms : List Int} {c : Nat} (h : WordsAt w a ms) (hc : ms.length ≤ c) (hl : ms.length < 1000000000000) :
    Calls Tryz.prog 147 #[.bool x, .slice a ms.length c] w fun e w' => e = .returned (if (trimmed ms).length = 0 then .agg #[.bool false, .slice none 0 0] else .agg #[.bool x, .slice a (trimmed ms).length c]) ∧ Keep No w w' := by
  refine (V147_sound x a ms.length c w (fun v w' => v = (if (trimmed ms).length = 0 then .agg #[.bool false, .slice none 0 0] else .agg #[.bool x, .slice a (trimmed ms).length c]) ∧ Keep No w w') ?_).mono (by rintro _ _ ⟨_, rfl, rfl, h⟩; exact ⟨rfl, h⟩)
  unfold V147
  refine newK_of fun b w1 hb hbb hk => ?_
  refine (C124 (h.no hk) hc hl).mono ?_
  rintro _ w2 ⟨rfl, rfl⟩
  refine ⟨_, _, _, rfl, bsel_split (fun h0 => ?_) fun h0 => ?_⟩
  · simp at h0
    refine stK_add hbb (by simp) fun w3 hb3 hk3 => stK_add hb3 (by simp) fun w4 hb4 hk4 => ?_
    refine ⟨_, _, _, _, hb4.cells0, ?_, (hk.news hk3 (by rintro k rfl; omega)).news hk4 (by rintro k rfl; omega)⟩
    rw [if_pos (by simp [h0])]
  · simp at h0
    refine stK_add hbb (by simp) fun w3 hb3 hk3 => stK_add hb3 (by simp) fun w4 hb4 hk4 => ?_
    refine ⟨_, _, _, _, hb4.cells0, ?_, (hk.news hk3 (by rintro k rfl; omega)).news hk4 (by rintro k rfl; omega)⟩
    rw [if_neg (by simpa using h0)]
theorem trimN_succ (ms : List Int) (n : Nat) : trimN ms (n + 1) = if ms[n]? = some 0 then trimN ms n else n + 1 := rfl
theorem trimN_idem (ms : List Int) : ∀ n, n ≤ ms.length → trimN (ms.take (trimN ms n)) (trimN ms n) = trimN ms n
  | 0, _ => rfl
  | n + 1, h => by
    by_cases h0 : ms[n]? = some 0
    · rw [trimN_succ, if_pos h0]
      exact trimN_idem ms n (by omega)
    · have e : (List.take (n + 1) ms)[n]? = ms[n]? := by rw [List.getElem?_take, if_pos (by omega)]
      rw [trimN_succ ms n, if_neg h0, trimN_succ, e, if_neg h0]
theorem trimmed_trimmed (ms : List Int) : trimmed (trimmed ms) = trimmed ms := by
  have hle := trimN_le ms ms.length
  unfold trimmed
  rw [show (ms.take (trimN ms ms.length)).length = trimN ms ms.length by simp; omega, trimN_idem ms ms.length (Nat.le_refl _), List.take_take]
  simp
def FormAt (B : Nat) (w : World) (v : Value) (neg : Bool) (ms : List Int) : Prop :=
  ∃ s, NewWords B w s (trimmed ms) ∧ v = .agg #[.bool (neg && !(trimmed ms).isEmpty), s]
theorem WordsAt.none_nil {w : World} {ms : List Int} (h : WordsAt w none ms) : ms = [] := by
  cases ms with
  | nil => rfl
  | cons m l => obtain ⟨p, hp, _⟩ := h 0 m rfl; cases hp
theorem NewWords.no {B : Nat} {w w' : World} {v : Value} {ms : List Int} (h : NewWords B w v ms) (hk : Keep No w w') : NewWords B w' v ms := by
  obtain ⟨a, c, rfl, h1, h2, h3⟩ := h
  refine ⟨a, c, rfl, h1.no hk, h2, fun p hp => ?_⟩
  obtain ⟨h4, h5, h6⟩ := h3 p hp
  refine ⟨h4, Nat.lt_of_lt_of_le h5 hk.size, ?_⟩
  unfold etype at h6 ⊢
  rw [hk.block _ h5 id]
  exact h6
theorem NewWords.mono {B B' : Nat} {w : World} {v : Value} {ms : List Int} (h : NewWords B w v ms) (hB : B' ≤ B) : NewWords B' w v ms := by
  obtain ⟨a, c, rfl, h1, h2, h3⟩ := h
  exact ⟨a, c, rfl, h1, h2, fun p hp => ⟨Nat.le_trans hB (h3 p hp).1, (h3 p hp).2⟩⟩
theorem C211 {w : World} {x : Bool} {a : Option Addr} {ms : List Int} {c : Nat} (h : WordsAt w a ms) (hc : ms.length ≤ c) (hl : ms.length < 1000000000000) :
    Calls Tryz.prog 211 #[.agg #[.bool x, .slice a ms.length c]] w fun e w' => ∃ v, e = .returned v ∧ FormAt w.heap.size w' v x ms ∧ Keep No w w' := by
  refine V211_sound x a ms.length c w (fun v w' => FormAt w.heap.size w' v x ms ∧ Keep No w w') ?_
  unfold V211
  refine newK_of fun b w1 hb hbb hk => newK_of fun b2 w2 hb2 hbb2 hk2 => ?_
  have hkk := hk.no hk2
  have hbb' := hk2.nblk hbb
  refine ⟨_, hbb'.drew.add 0 rfl, _, _, _, hbb'.drew.add 1 rfl, (C124 ((h.no hkk).no (Keep.drawn w2)) hc hl).mono ?_⟩
  rintro _ w3 ⟨rfl, rfl⟩
  have ht : (trimmed ms).length ≤ ms.length := trimmed_length_le ms
  refine ⟨_, _, _, rfl, hbb'.drew.add 0 rfl, (C123 (ms := trimmed ms) (((h.no hkk).no (Keep.drawn w2)).take _) (by omega)).mono ?_⟩
  rintro _ w4 ⟨v, rfl, hv, hk4⟩
  have hv : NewWords w2.drew.heap.size w4 v (trimmed ms) := by
    cases a with
    | none =>
      have := h.none_nil
      subst this
      exact hv
    | some p => exact hv
  obtain ⟨a', c', rfl, h1, h2, h3⟩ := hv
  have hk5 := (hkk.no (Keep.drawn w2)).no hk4
  refine ⟨_, _, _, rfl, (hk4.nblk hbb'.drew).add 0 rfl, (C147 h1 h2 (by omega)).mono ?_⟩
  rintro _ w5 ⟨rfl, hk6⟩
  have hb5 : Blk w5 b2 40 _ := hk6.nblk (hk4.nblk hbb2.drew)
  have hk7 := hk5.no hk6
  rw [trimmed_trimmed]
  have hsz : w.heap.size ≤ w2.drew.heap.size := hkk.size
  by_cases h0 : (trimmed ms).length = 0
  · rw [if_pos h0]
    have h0' : trimmed ms = [] := List.eq_nil_of_length_eq_zero h0
    refine ⟨_, _, _, _, rfl, stK_add hb5 (by simp) fun w6 hb6 hk8 => stK_add hb6 (by simp) fun w7 hb7 hk9 => ?_⟩
    refine ⟨_, _, _, _, hb7.cells0, ⟨_, ⟨none, 0, rfl, fun i m hm => by rw [h0'] at hm; simp at hm, by omega, fun p hp => by cases hp⟩, by simp [h0']⟩, (hk7.news hk8 (by rintro k rfl; have := hk.size; omega)).news hk9 (by rintro k rfl; have := hk.size; omega)⟩
  · rw [if_neg h0]
    have hne : (trimmed ms).isEmpty = false := by
      cases hq : trimmed ms with
      | nil => rw [hq] at h0; exact absurd rfl h0
      | cons => rfl
    refine ⟨_, _, _, _, rfl, stK_add hb5 (by simp) fun w6 hb6 hk8 => stK_add hb6 (by simp) fun w7 hb7 hk9 => ?_⟩
    have hkn : Keep (fun k => k = b2) w5 w7 := hk8.trans hk9 fun k hk he => he
    refine ⟨_, _, _, _, hb7.cells0, ⟨_, ⟨a', c', rfl, (h1.no hk6).keep hkn (fun p hp e => ?_), h2, fun p hp => ?_⟩, by simp [hne]⟩, (hk7.news hk8 (by rintro k rfl; have := hk.size; omega)).news hk9 (by rintro k rfl; have := hk.size; omega)⟩
    · have := (h3 p hp).1
      have := hbb2.lt
      have : w2.drew.heap.size = w2.heap.size := rfl
      omega
    · obtain ⟨h4, h5, h6⟩ := h3 p hp
      refine ⟨by omega, Nat.lt_of_lt_of_le h5 (Nat.le_trans hk6.size hkn.size), ?_⟩
      unfold etype at h6 ⊢
      rw [hkn.block _ (Nat.lt_of_lt_of_le h5 hk6.size) (by have := hbb2.lt; have : w2.drew.heap.size = w2.heap.size := rfl; omega), hk6.block _ h5 id]
      exact h6
theorem NewWords.keep {fp : Nat → Prop} {B : Nat} {w w' : World} {v : Value} {ms : List Int} (h : NewWords B w v ms) (hk : Keep fp w w') (hn : ∀ k, B ≤ k → etype w k = some 45 → ¬ fp k) : NewWords B w' v ms := by
  obtain ⟨a, c, rfl, h1, h2, h3⟩ := h
  refine ⟨a, c, rfl, h1.keep hk (fun p hp => hn _ (h3 p hp).1 (h3 p hp).2.2), h2, fun p hp => ?_⟩
  obtain ⟨h4, h5, h6⟩ := h3 p hp
  refine ⟨h4, Nat.lt_of_lt_of_le h5 hk.size, ?_⟩
  have := hn _ h4 h6
  unfold etype at h6 ⊢
  rw [hk.block _ h5 this]
  exact h6
theorem NewWords.one {b : Nat} {B : Nat} {w w' : World} {v : Value} {ms : List Int} {cs : List Value} {e : TypeId} (h : NewWords B w v ms) (hb : Blk w b e cs) (he : e ≠ 45) (hk : Keep (fun k => k = b) w w') : NewWords B w' v ms :=
  h.keep hk fun k _ hk' e' => by
    subst e'
    rw [hb.etype] at hk'
    cases hk'
    exact he rfl
theorem FormAt.cells {B : Nat} {w : World} {v : Value} {neg : Bool} {ms : List Int} (h : FormAt B w v neg ms) : ∃ a c, v = .agg #[.bool (neg && !(trimmed ms).isEmpty), .slice a (trimmed ms).length c] ∧ WordsAt w a (trimmed ms) ∧ (trimmed ms).length ≤ c := by
  obtain ⟨_, ⟨a, c, rfl, h1, h2, _⟩, rfl⟩ := h
  exact ⟨a, c, rfl, h1, h2⟩
theorem C147' {B : Nat} {w : World} {y : Bool} {s : Value} {ms : List Int} (h : NewWords B w s (trimmed ms)) (hl : ms.length < 1000000000000) :
    Calls Tryz.prog 147 #[.bool y, s] w fun e w' => ∃ v, e = .returned v ∧ FormAt B w' v y ms ∧ Keep No w w' := by
  have ht : (trimmed ms).length ≤ ms.length := trimmed_length_le ms
  obtain ⟨a, c, rfl, h1, h2, h3⟩ := id h
  refine (C147 h1 h2 (by omega)).mono ?_
  rintro _ w' ⟨rfl, hk⟩
  refine ⟨_, rfl, ?_, hk⟩
  rw [trimmed_trimmed]
  by_cases h0 : (trimmed ms).length = 0
  · have h0' : trimmed ms = [] := List.eq_nil_of_length_eq_zero h0
    rw [if_pos h0]
    exact ⟨_, ⟨none, 0, rfl, fun i m hm => by rw [h0'] at hm; simp at hm, by omega, fun p hp => by cases hp⟩, by simp [h0']⟩
  · rw [if_neg h0]
    have hne : (trimmed ms).isEmpty = false := by
      cases hq : trimmed ms with
      | nil => rw [hq] at h0; exact absurd rfl h0
      | cons => rfl
    exact ⟨_, h.no hk, by simp [hne]⟩
theorem FormAt.one {b : Nat} {B : Nat} {w w' : World} {v : Value} {neg : Bool} {ms : List Int} {cs : List Value} {e : TypeId} (h : FormAt B w v neg ms) (hb : Blk w b e cs) (he : e ≠ 45) (hk : Keep (fun k => k = b) w w') : FormAt B w' v neg ms := by
  obtain ⟨s, h1, h2⟩ := h
  exact ⟨s, h1.one hb he hk, h2⟩
theorem FormAt.mono {B B' : Nat} {w : World} {v : Value} {neg : Bool} {ms : List Int} (h : FormAt B w v neg ms) (hB : B' ≤ B) : FormAt B' w v neg ms := by
  obtain ⟨s, h1, h2⟩ := h
  exact ⟨s, h1.mono hB, h2⟩
theorem C139 {w : World} {x : Bool} {a : Option Addr} {ms : List Int} {c : Nat} (h : WordsAt w a ms) (hc : ms.length ≤ c) (hl : ms.length < 1000000000000) :
    Calls Tryz.prog 139 #[.agg #[.bool x, .slice a ms.length c]] w fun e w' => ∃ v, e = .returned v ∧ FormAt w.heap.size w' v (!x) ms ∧ Keep No w w' := by
  refine V139_sound x a ms.length c w (fun v w' => FormAt w.heap.size w' v (!x) ms ∧ Keep No w w') ?_
  unfold V139
  refine newK_of fun b w1 hb hbb hk => newK_of fun b2 w2 hb2 hbb2 hk2 => ?_
  have hkk := hk.no hk2
  refine ⟨_, _, _, _, (hk2.nblk hbb).cells0, (C211 (h.no hkk) hc hl).mono ?_⟩
  rintro _ w3 ⟨v, rfl, hf, hk3⟩
  obtain ⟨s, hs, rfl⟩ := hf
  obtain ⟨a', c', rfl, _⟩ := id hs
  refine ⟨_, _, _, _, rfl, newK_of fun b4 w4 hb4 hbb4 hk4 => stK_add hbb4 (by simp) fun w5 hb5 hk5 => stK_add hb5 (by simp) fun w6 hb6 hk6 => ?_⟩
  have hkn : Keep No w3 w6 := (hk4.news hk5 (by rintro k rfl; omega)).news hk6 (by rintro k rfl; omega)
  have hs6 := hs.no hkn
  refine ⟨_, hb6.add 0 rfl, _, _, _, hb6.add 1 rfl, (C147' hs6 hl).mono ?_⟩
  rintro _ w7 ⟨v, rfl, hf, hk7⟩
  obtain ⟨a7, c7, hv, _⟩ := hf.cells
  subst hv
  have hbb7 : Blk w7 b2 40 _ := hk7.nblk (hkn.nblk (hk3.nblk hbb2))
  have hK := (((hkk.no hk3).no hkn).no hk7)
  refine ⟨_, _, _, _, rfl, stK_add hbb7 (by simp) fun w8 hb8 hk8 => stK_add hb8 (by simp) fun w9 hb9 hk9 => ?_⟩
  refine ⟨_, _, _, _, hb9.cells0, ?_, (hK.news hk8 (by rintro k rfl; have := hk.size; omega)).news hk9 (by rintro k rfl; have := hk.size; omega)⟩
  have := ((hf.one hbb7 (by decide) hk8).one hb8 (by decide) hk9).mono (B' := w.heap.size) hkk.size
  obtain ⟨s, h1, h2⟩ := this
  refine ⟨s, h1, ?_⟩
  rw [List.set_cons_zero, List.set_cons_succ, List.set_cons_zero] at *
  simp only [Value.agg.injEq, Array.mk.injEq, List.cons.injEq] at h2
  cases (trimmed ms).isEmpty <;> cases x <;> simp_all
theorem C85 {w : World} {x : Bool} {a : Option Addr} {ms : List Int} {c : Nat} (h : WordsAt w a ms) (hc : ms.length ≤ c) (hl : ms.length < 1000000000000) :
    Calls Tryz.prog 85 #[.agg #[.bool x, .slice a ms.length c]] w fun e w' => ∃ v, e = .returned v ∧ FormAt w.heap.size w' v x ms ∧ Keep No w w' := by
  refine V85_sound x a ms.length c w (fun v w' => FormAt w.heap.size w' v x ms ∧ Keep No w w') ?_
  unfold V85
  refine newK_of fun b w1 hb hbb hk => newK_of fun b2 w2 hb2 hbb2 hk2 => ?_
  have hkk := hk.no hk2
  refine ⟨_, _, _, _, (hk2.nblk hbb).cells0, (C139 (h.no hkk) hc hl).mono ?_⟩
  rintro _ w3 ⟨v, rfl, hf, hk3⟩
  obtain ⟨a', c', rfl, h1, h2⟩ := hf.cells
  have ht : (trimmed ms).length ≤ ms.length := trimmed_length_le ms
  refine ⟨_, _, _, _, rfl, (C139 h1 h2 (by omega)).mono ?_⟩
  rintro _ w4 ⟨v, rfl, hf, hk4⟩
  obtain ⟨a7, c7, hv, _⟩ := hf.cells
  subst hv
  have hbb4 : Blk w4 b2 40 _ := hk4.nblk (hk3.nblk hbb2)
  have hK := (hkk.no hk3).no hk4
  refine ⟨_, _, _, _, rfl, stK_add hbb4 (by simp) fun w8 hb8 hk8 => stK_add hb8 (by simp) fun w9 hb9 hk9 => ?_⟩
  refine ⟨_, _, _, _, hb9.cells0, ?_, (hK.news hk8 (by rintro k rfl; have := hk.size; omega)).news hk9 (by rintro k rfl; have := hk.size; omega)⟩
  have hsz : w.heap.size ≤ w3.heap.size := (hkk.no hk3).size
  have := ((hf.one hbb4 (by decide) hk8).one hb8 (by decide) hk9).mono (B' := w.heap.size) hsz
  obtain ⟨s, h1, h2⟩ := this
  rw [trimmed_trimmed] at h1 h2
  refine ⟨s, h1, ?_⟩
  rw [List.set_cons_zero, List.set_cons_succ, List.set_cons_zero] at *
  simp only [trimmed_trimmed]
  rw [h2]
  cases (trimmed ms).isEmpty <;> cases x <;> simp_all
theorem FormAt.no {B : Nat} {w w' : World} {v : Value} {neg : Bool} {ms : List Int} (h : FormAt B w v neg ms) (hk : Keep No w w') : FormAt B w' v neg ms := by
  obtain ⟨s, h1, h2⟩ := h
  exact ⟨s, h1.no hk, h2⟩
theorem C93 (w : World) (one : Bool) :
    Calls Tryz.prog 93 #[.int .i64 (if one then 1 else 0)] w fun e w' => ∃ v, e = .returned v ∧ FormAt w.heap.size w' v false [if one then 1 else 0, 0] ∧ Keep No w w' := by
  refine V93_sound (if one then 1 else 0) w (fun v w' => FormAt w.heap.size w' v false [if one then 1 else 0, 0] ∧ Keep No w w') ?_
  unfold V93
  refine newK_of fun b w1 hb hbb hk => bsel_neg (by cases one <;> rfl) ?_
  unfold V93J1
  refine ⟨by omega, newK_of fun b2 w2 hb2 hbb2 hk2 => ?_⟩
  have hkk := hk.no hk2
  have h0 : (decide ((if one then 1 else 0 : Int) < 0)) = false := by cases one <;> rfl
  rw [h0]
  have hbb2 : Blk w2 b2 45 (([if one then 1 else 0, 0] : List Int).map (.int .u32)) := by cases one <;> exact hbb2
  have hw : WordsAt w2 (some ⟨b2, 0, none⟩) [if one then 1 else 0, 0] := by
    intro i m hm
    exact ⟨_, rfl, hbb2.add i (by simp only [List.getElem?_map, hm]; rfl)⟩
  refine (C147 hw (c := 2) (by simp) (by simp)).mono ?_
  rintro _ w3 ⟨rfl, hk3⟩
  have hbb3 := hk3.nblk (hk2.nblk hbb)
  cases one with
  | true =>
    refine ⟨_, _, _, _, rfl, stK_add hbb3 (by simp) fun w8 hb8 hk8 => stK_add hb8 (by simp) fun w9 hb9 hk9 => ?_⟩
    have hne : b2 ≠ b := by have := hbb.lt; omega
    have hkn : Keep (fun k => k = b) w3 w9 := hk8.trans hk9 fun k hk he => he
    have hb29 : Blk w9 b2 45 _ := hkn.blk (hk3.nblk hbb2) hne
    refine ⟨_, _, _, _, hb9.cells0, ⟨_, ⟨some ⟨b2, 0, none⟩, 2, rfl, fun i m hm => ⟨_, rfl, ?_⟩, by decide, fun p hp => ?_⟩, rfl⟩, ((hkk.no hk3).news hk8 (by rintro k rfl; omega)).news hk9 (by rintro k rfl; omega)⟩
    · refine hb29.add i ?_
      rcases i with _ | i
      · cases hm; rfl
      · simp [trimmed, trimN] at hm
    · cases hp
      exact ⟨by have := hk.size; simp only; omega, hb29.lt, hb29.etype⟩
  | false =>
    refine ⟨_, _, _, _, rfl, stK_add hbb3 (by simp) fun w8 hb8 hk8 => stK_add hb8 (by simp) fun w9 hb9 hk9 => ?_⟩
    refine ⟨_, _, _, _, hb9.cells0, ⟨_, ⟨none, 0, rfl, fun i m hm => ?_, by decide, fun p hp => by cases hp⟩, rfl⟩, ((hkk.no hk3).news hk8 (by rintro k rfl; omega)).news hk9 (by rintro k rfl; omega)⟩
    simp [trimmed, trimN] at hm
def sgnI (neg : Bool) (ms : List Int) : Int := if (trimmed ms).length = 0 then 0 else if neg then -1 else 1
theorem C94 {w : World} {x : Bool} {a : Option Addr} {ms : List Int} {c : Nat} (h : WordsAt w a ms) (hc : ms.length ≤ c) (hl : ms.length < 1000000000000) :
    Calls Tryz.prog 94 #[.agg #[.bool x, .slice a ms.length c]] w fun e w' => e = .returned (.int .i64 (sgnI x ms)) ∧ Keep No w w' := by
  refine (V94_sound x a ms.length c w (fun v w' => v = .int .i64 (sgnI x ms) ∧ Keep No w w') ?_).mono (by rintro _ _ ⟨_, rfl, rfl, h⟩; exact ⟨rfl, h⟩)
  unfold V94
  refine newK_of fun b w1 hb hbb hk => ⟨_, _, _, hbb.add 1 rfl, (C124 (h.no hk) hc hl).mono ?_⟩
  rintro _ w2 ⟨rfl, rfl⟩
  refine ⟨_, _, _, rfl, bsel_split (fun h0 => ?_) fun h0 => ⟨_, hbb.add 0 rfl, bsel_split (fun hx => ?_) fun hx => ?_⟩⟩
  · simp at h0
    exact ⟨by simp [sgnI, h0], hk⟩
  · simp at h0
    exact ⟨by simp [sgnI, h0, hx], hk⟩
  · simp at h0
    exact ⟨by simp [sgnI, h0, hx], hk⟩
theorem C95 {w : World} {a a2 : Option Addr} {ms ms2 : List Int} {c c2 : Nat} (h : WordsAt w a ms) (hc : ms.length ≤ c) (hl : ms.length < 1000000000000) (h2 : WordsAt w a2 ms2) (hc2 : ms2.length ≤ c2) (hl2 : ms2.length < 1000000000000) :
    Calls Tryz.prog 95 #[.slice a ms.length c, .slice a2 ms2.length c2] w fun e w' => ∃ r : Int, e = .returned (.int .i64 r) ∧ (r = 0 ↔ trimmed ms = trimmed ms2) ∧ (-1 ≤ r ∧ r ≤ 1) ∧ Keep No w w' := by
  refine (V95_sound a ms.length c a2 ms2.length c2 w (fun v w' => ∃ r : Int, v = .int .i64 r ∧ (r = 0 ↔ trimmed ms = trimmed ms2) ∧ (-1 ≤ r ∧ r ≤ 1) ∧ Keep No w w') ?_).mono (by rintro _ _ ⟨_, rfl, r, rfl, h⟩; exact ⟨r, rfl, h⟩)
  unfold V95
  refine (C124 h hc hl).mono ?_
  rintro _ w1 ⟨rfl, rfl⟩
  refine ⟨_, _, _, rfl, (C124 h2 hc2 hl2).mono ?_⟩
  rintro _ w2 ⟨rfl, rfl⟩
  have ht1 := trimmed_length_le ms
  have ht2 := trimmed_length_le ms2
  refine ⟨_, _, _, rfl, bsel_split (fun hne => ?_) fun heq => ?_⟩
  · have hne : trimmed ms ≠ trimmed ms2 := by
      intro e
      simp [e] at hne
    exact bsel_split (fun _ => ⟨-1, rfl, by simp [hne], by omega, Keep.refl _ _⟩) fun _ => ⟨1, rfl, by simp [hne], by omega, Keep.refl _ _⟩
  · simp at heq
    replace heq : (trimmed ms).length = (trimmed ms2).length := by omega
    refine ⟨fun i w' => -1 ≤ i ∧ i < (trimmed ms).length ∧ (∀ j : Nat, i < j → (trimmed ms)[j]? = (trimmed ms2)[j]?) ∧ Keep No w2 w', fun i _ => (i + 1).toNat, ⟨?_, ?_, fun j hj => ?_, Keep.refl _ _⟩, ?_⟩
    · rw [wrap_i64 (by omega)]; omega
    · rw [wrap_i64 (by omega)]; omega
    · rw [wrap_i64 (by omega)] at hj
      rw [List.getElem?_eq_none (by omega), List.getElem?_eq_none (by omega)]
    rintro _ i w' ⟨hi1, hi2, hall, hk⟩
    refine bsel_split (fun hge => ?_) fun hlt => ?_
    · simp at hge
      obtain ⟨n, rfl⟩ := Int.eq_ofNat_of_zero_le hge
      have hn : n < (trimmed ms).length := by omega
      obtain ⟨x, hx⟩ : ∃ x, (trimmed ms)[n]? = some x := ⟨_, List.getElem?_eq_getElem hn⟩
      obtain ⟨y, hy⟩ : ∃ y, (trimmed ms2)[n]? = some y := ⟨_, List.getElem?_eq_getElem (by omega)⟩
      obtain ⟨p, rfl, hcx⟩ := h.take (trimN ms ms.length) n x hx
      obtain ⟨q, rfl, hcy⟩ := h2.take (trimN ms2 ms2.length) n y hy
      have hkd := hk.no (Keep.drawn w')
      have hkdd := hkd.no (Keep.drawn w'.drew)
      refine idxK_of hn ⟨x, by simpa using hkd.cell hcx id, idxK_of (by omega) ⟨y, by simpa using hkd.cell hcy id, ?_⟩⟩
      have hne : x ≠ y → trimmed ms ≠ trimmed ms2 := fun hxy e => by
        rw [e, hy] at hx
        exact hxy (Option.some.inj hx).symm
      refine bsel_split (fun hl => ⟨-1, rfl, ?_, by omega, hkd⟩) fun hnl => ?_
      · simp at hl
        simp [hne (by omega)]
      · refine idxK_of hn ⟨x, by simpa using hkdd.cell hcx id, idxK_of (by omega) ⟨y, by simpa using hkdd.cell hcy id, ?_⟩⟩
        refine bsel_split (fun hl => ⟨1, rfl, ?_, by omega, hkdd⟩) fun hng => ?_
        · simp at hl
          simp [hne (by omega)]
        · simp at hnl hng
          have hxy : x = y := by omega
          rw [wrap_i64 (by omega)]
          refine ⟨⟨by omega, by omega, fun j hj => ?_, hkdd⟩, by simp only; omega⟩
          by_cases hjn : j = n
          · subst hjn; rw [hx, hy, hxy]
          · exact hall j (by omega)
    · simp at hlt
      refine ⟨0, rfl, ⟨fun _ => List.ext_getElem? fun j => hall j (by omega), fun _ => rfl⟩, by omega, hk⟩
theorem C43 {w : World} {x x2 : Bool} {a a2 : Option Addr} {ms ms2 : List Int} {c c2 : Nat} (h : WordsAt w a ms) (hc : ms.length ≤ c) (hl : ms.length < 1000000000000) (h2 : WordsAt w a2 ms2) (hc2 : ms2.length ≤ c2) (hl2 : ms2.length < 1000000000000) :
    Calls Tryz.prog 43 #[.agg #[.bool x, .slice a ms.length c], .agg #[.bool x2, .slice a2 ms2.length c2]] w fun e w' => ∃ r : Int, e = .returned (.int .i64 r) ∧ (r = 0 ↔ (sgnI x ms = sgnI x2 ms2 ∧ trimmed ms = trimmed ms2)) ∧ Keep No w w' := by
  refine (V43_sound x a ms.length c x2 a2 ms2.length c2 w (fun v w' => ∃ r : Int, v = .int .i64 r ∧ (r = 0 ↔ (sgnI x ms = sgnI x2 ms2 ∧ trimmed ms = trimmed ms2)) ∧ Keep No w w') ?_).mono (by rintro _ _ ⟨_, rfl, r, rfl, h⟩; exact ⟨r, rfl, h⟩)
  unfold V43
  refine newK_of fun b w1 hb hbb hk => newK_of fun b2 w2 hb2 hbb2 hk2 => ?_
  have hkk := (hk.no hk2).no (Keep.drawn w2)
  have hbb := (hk2.nblk hbb).drew
  have hbb2 := hbb2.drew
  refine ⟨_, _, _, _, hbb.cells0, _, _, _, _, hbb2.cells0, (C94 (h.no hkk) hc hl).mono ?_⟩
  rintro _ w3 ⟨rfl, hk3⟩
  refine ⟨_, rfl, (hk3.nblk hbb2).cells0, (C94 ((h2.no hkk).no hk3) hc2 hl2).mono ?_⟩
  rintro _ w4 ⟨rfl, hk4⟩
  have hk5 := (hkk.no hk3).no hk4
  refine ⟨_, rfl, ?_⟩
  unfold V43J1
  refine bsel_split (fun hlt => ⟨-1, rfl, ?_, hk5⟩) fun hlt => bsel_split (fun hgt => ⟨1, rfl, ?_, hk5⟩) fun hgt => ?_
  · simp at hlt
    constructor
    · intro h; omega
    · rintro ⟨h, _⟩; omega
  · simp at hgt
    constructor
    · intro h; omega
    · rintro ⟨h, _⟩; omega
  · simp at hlt hgt
    have hs : sgnI x ms = sgnI x2 ms2 := by omega
    have hb4 := hk4.nblk (hk3.nblk hbb)
    have hb24 := hk4.nblk (hk3.nblk hbb2)
    refine ⟨_, _, _, hb4.add 1 rfl, _, _, _, hb24.add 1 rfl, (C95 (h.no hk5) hc hl (h2.no hk5) hc2 hl2).mono ?_⟩
    rintro _ w5 ⟨r, rfl, hr, hrb, hk6⟩
    refine ⟨_, rfl, _, rfl, ?_, hk5.no hk6⟩
    have hsb : -1 ≤ sgnI x ms ∧ sgnI x ms ≤ 1 := by unfold sgnI; split; omega; split <;> omega
    have hcase : r = -1 ∨ r = 0 ∨ r = 1 := by omega
    have hm : sgnI x ms * r = 0 ↔ (sgnI x ms = 0 ∨ r = 0) := Int.mul_eq_zero
    rw [wrap_i64 (by rcases hcase with rfl | rfl | rfl <;> omega), hm]
    constructor
    · rintro (h0 | h0)
      · have e1 : (trimmed ms).length = 0 := by
          unfold sgnI at h0
          split at h0
          · assumption
          · split at h0 <;> omega
        have e2 : (trimmed ms2).length = 0 := by
          rw [hs] at h0
          unfold sgnI at h0
          split at h0
          · assumption
          · split at h0 <;> omega
        exact ⟨hs, by rw [List.eq_nil_of_length_eq_zero e1, List.eq_nil_of_length_eq_zero e2]⟩
      · exact ⟨hs, hr.1 h0⟩
    · rintro ⟨_, he⟩
      exact .inr (hr.2 he)
end Go.Fw


set_option autoImplicit false
namespace Go.Fw
theorem Keep.put {w : World} {l : Nat} {x : Obj} : Keep (fun k => k = l) w (w.putObj l x) := by
  refine ⟨rfl, rfl, rfl, by simp [World.putObj], fun k hk hn => ?_⟩
  simp only [World.putObj]
  rw [Array.getElem?_setIfInBounds_ne fun e => hn e.symm]
theorem put_get {w : World} {l : Nat} {x : Obj} (h : l < w.heap.size) : (w.putObj l x).heap[l]? = some x := by
  simp [World.putObj, h]
@[simp] theorem size_put (w : World) (l : Nat) (x : Obj) : (w.putObj l x).heap.size = w.heap.size := by simp [World.putObj]
theorem etype_none {w : World} {l : Nat} {x : Obj} (h : w.heap[l]? = some x) (hx : ∀ c e f, x ≠ .cells c e f) : etype w l = none := by
  unfold etype
  rw [h]
  cases x <;> first | rfl | exact absurd rfl (hx _ _ _)
end Go.Fw


set_option autoImplicit false
set_option linter.unusedVariables false
namespace Go.Fw
open Go.Proofs Go.RowKit
def rstep (r : Nat) (m : Int) : Nat := (r / 4294967296 * 18446744073709551616 + ((r % 4294967296 * 4294967296) ||| u64 m)) % 2305843009213693951
def restW (ms : List Int) : Nat := ms.foldr (fun m r => rstep r m) 0
theorem rstep_lt (r : Nat) (m : Int) : rstep r m < 2305843009213693951 := by unfold rstep; exact Nat.mod_lt _ (by omega)
theorem fold_lt (st : Nat → Int → Nat) (L : Nat) (h : ∀ R m, st R m < L) (h0 : 0 < L) : ∀ l : List Int, l.foldr (fun m r => st r m) 0 < L
  | [] => h0
  | _ :: _ => h _ _
theorem restW_lt (ms : List Int) : restW ms < 2305843009213693951 := by
  have h : ∃ L, L = 2305843009213693951 := ⟨_, rfl⟩
  obtain ⟨L, hL⟩ := h
  have h1 := fold_lt rstep L (fun R m => by rw [hL]; exact rstep_lt R m) (by omega) ms
  rw [← hL]
  exact h1
def hash64 (n : Int) : Int := if n = -1 then -2 else n
def hWhole (neg : Bool) (ms : List Int) : Int := hash64 (if neg then -(restW (trimmed ms) : Int) else restW (trimmed ms))
def fnv (w : Int) : List UInt8 → Int
  | [] => w
  | b :: l => fnv (IntKind.wrap .u64 (bXor .u64 w (IntKind.wrap .u64 b.toNat) * 1099511628211)) l
def hText (s : ByteArray) : Int := hash64 (IntKind.wrap .i64 (fnv 14695981039346656037 s.data.toList))
def hNumber (n : Int) : Int := hash64 (IntKind.wrap .i64 (bOr .u64 (shl .u64 (IntKind.wrap .u64 n) 60) (shr .u64 (IntKind.wrap .u64 n) 4)))
theorem callFunc224 (x : Value) (w : World) : (callFunc 224 #[x]).run Tryz.prog w = .ok (.enter 224 #[x]) w := by kernel_rfl
theorem callFunc202 (x y : Value) (w : World) : (callFunc 202 #[x, y]).run Tryz.prog w = .ok (.enter 202 #[x, y]) w := by kernel_rfl
theorem C157 (n : Int) (w : World) : Calls Tryz.prog 157 #[.int .i64 n] w fun e w' => ∃ a, e = .returned (.func (.func 224) #[] #[.pointer (some ⟨a, 0, none⟩)]) ∧ Blk w' a 3 [.int .i64 n] ∧ Keep No w w' := by
  refine ret_mono (V157_sound n w (fun r w' => ∃ a, r = .func (.func 224) #[] #[.pointer (some ⟨a, 0, none⟩)] ∧ Blk w' a 3 [.int .i64 n] ∧ Keep No w w') ?_) (by rintro _ _ ⟨a, rfl, h⟩; exact ⟨a, rfl, h⟩)
  unfold V157
  exact newK_of fun a w1 hs hb hk => ⟨a, rfl, hb, hk⟩
theorem C156 {x n : Int} {a : Nat} {w : World} (ha : Blk w a 3 [.int .i64 n]) : Calls Tryz.prog 156 #[.int .u64 x, .func (.func 224) #[] #[.pointer (some ⟨a, 0, none⟩)]] w fun e w' => e = .returned (.int .i64 (if IntKind.wrap .i64 x = -1 then n else IntKind.wrap .i64 x)) ∧ w' = w := by
  refine ret_mono (V156_sound x _ w (fun r w' => r = .int .i64 (if IntKind.wrap .i64 x = -1 then n else IntKind.wrap .i64 x) ∧ w' = w) ?_) (by rintro _ _ ⟨rfl, h⟩; exact ⟨rfl, h⟩)
  unfold V156
  refine bsel_split (fun hc => ?_) fun hc => ?_
  · have hc : IntKind.wrap .i64 x = -1 := by simpa using hc
    refine ⟨callFunc224 _ _, (V224_sound ⟨a, 0, none⟩ w (fun r w' => r = .int .i64 n ∧ w' = w) ?_).mono ?_⟩
    · unfold V224
      exact ⟨n, ha.cell rfl, rfl, rfl⟩
    · rintro _ w1 ⟨_, rfl, rfl, rfl⟩
      exact ⟨_, rfl, by rw [if_pos hc], rfl⟩
  · have hc : IntKind.wrap .i64 x ≠ -1 := by simpa using hc
    rw [if_neg hc]
    exact ⟨rfl, rfl⟩
theorem hash_of {x : Int} {w : World} {Q : Value → World → Prop} (h : ∀ w', Keep No w w' → Q (.int .i64 (hash64 (IntKind.wrap .i64 x))) w') :
    Calls Tryz.prog 157 #[.int .i64 (-2)] w fun e17 w18 => ∃ t19 : Value, e17 = .returned (t19) ∧ Calls Tryz.prog 156 #[.int .u64 x, t19] w18 fun e20 w21 => ∃ t22 : Int, e20 = .returned (.int .i64 t22) ∧ Q (.int .i64 t22) w21 := by
  refine (C157 _ w).mono ?_
  rintro _ w1 ⟨a, rfl, ha, hk⟩
  refine ⟨_, rfl, (C156 ha).mono ?_⟩
  rintro _ w2 ⟨rfl, rfl⟩
  exact ⟨_, rfl, h _ hk⟩
theorem C104 (s : ByteArray) (hs : s.size < 9000000000000000000) (w : World) : Calls Tryz.prog 104 #[.string s] w fun e w' => e = .returned (.int .i64 (hText s)) ∧ Keep No w w' := by
  refine ret_mono (V104_sound s w (fun r w' => r = .int .i64 (hText s) ∧ Keep No w w') ?_) (by rintro _ _ ⟨rfl, h⟩; exact ⟨rfl, h⟩)
  unfold V104
  refine ⟨fun x i w' => 0 ≤ i ∧ i ≤ s.size ∧ w' = w ∧ fnv x (s.data.toList.drop i.toNat) = fnv 14695981039346656037 s.data.toList, fun _ i _ => (s.size - i).toNat, ⟨by omega, by omega, rfl, rfl⟩, ?_⟩
  rintro j x i w1 ⟨hi0, hin, rfl, hf⟩
  have hsz : s.size = s.data.toList.length := by rw [Array.length_toList]; rfl
  refine bsel_split (fun hlt => ?_) fun hge => ?_
  · have hlt : i < s.size := by simpa using hlt
    obtain ⟨n, rfl⟩ := Int.eq_ofNat_of_zero_le hi0
    simp only [Int.toNat_natCast] at hf
    have hn : n < s.data.toList.length := by omega
    refine ⟨s.data.toList[n], ⟨by omega, ?_⟩, ?_⟩
    · rw [Int.toNat_natCast]
      exact (getElem?_pos s n (by omega)).trans (by rw [Array.getElem_toList]; rfl)
    rw [wrap_i64 (by omega)]
    refine ⟨⟨by omega, by omega, rfl, ?_⟩, by simp only; omega⟩
    have e1 : ((n : Int) + 1).toNat = n + 1 := by omega
    rw [e1, ← hf, List.drop_eq_getElem_cons hn]
    rfl
  · have hge : (s.size : Int) ≤ i := by simpa using hge
    have : i.toNat = s.data.toList.length := by omega
    rw [this, List.drop_length] at hf
    refine hash_of (Q := fun r w' => r = .int .i64 (hText s) ∧ Keep No w1 w') fun w2 hk => ⟨?_, hk⟩
    unfold hText
    rw [← hf]
    rfl
theorem C230 (n : Int) (w : World) : Calls Tryz.prog 230 #[.int .u64 (IntKind.wrap .u64 n), .int .i64 (-4)] w fun e w' => e = .returned (.int .u64 (bOr .u64 (shl .u64 (IntKind.wrap .u64 n) 60) (shr .u64 (IntKind.wrap .u64 n) 4))) ∧ w' = w := by
  refine ret_mono (V230_sound _ _ w (fun r w' => r = .int .u64 (bOr .u64 (shl .u64 (IntKind.wrap .u64 n) 60) (shr .u64 (IntKind.wrap .u64 n) 4)) ∧ w' = w) ?_) (by rintro _ _ ⟨rfl, h⟩; exact ⟨rfl, h⟩)
  unfold V230
  have e1 : bAnd .u64 (IntKind.wrap .u64 (-4)) 63 = 60 := by rfl
  have e2 : IntKind.wrap .u64 (64 - 60) = 4 := by rfl
  rw [e1, e2]
  exact ⟨by decide, by decide, rfl, rfl⟩
theorem C164 (n : Int) (w : World) : Calls Tryz.prog 164 #[.int .i64 n] w fun e w' => e = .returned (.int .i64 (hNumber n)) ∧ Keep No w w' := by
  refine ret_mono (V164_sound n w (fun r w' => r = .int .i64 (hNumber n) ∧ Keep No w w') ?_) (by rintro _ _ ⟨rfl, h⟩; exact ⟨rfl, h⟩)
  unfold V164
  refine (C230 n w).mono ?_
  rintro _ w1 ⟨rfl, rfl⟩
  exact ⟨_, rfl, hash_of (Q := fun r w' => r = .int .i64 (hNumber n) ∧ Keep No w1 w') fun w2 hk => ⟨rfl, hk⟩⟩
theorem C223 {hi lo : Nat} (h : hi < 2305843009213693951) (hl : lo < 18446744073709551616) (w : World) : Calls Tryz.prog 223 #[.int .u64 hi, .int .u64 lo, .int .u64 2305843009213693951] w fun e w' => e = .returned (.int .u64 (((hi * 18446744073709551616 + lo) % 2305843009213693951 : Nat) : Int)) ∧ Keep No w w' := by
  obtain ⟨res, hres⟩ : ∃ res : Int, res = (((hi * 18446744073709551616 + lo) % 2305843009213693951 : Nat) : Int) := ⟨_, rfl⟩
  rw [← hres]
  refine ret_mono (V223_sound _ _ _ w (fun r w' => r = .int .u64 res ∧ Keep No w w') ?_) (by rintro _ _ ⟨rfl, h⟩; exact ⟨rfl, h⟩)
  unfold V223
  have e : Int.tmod (hi : Int) 2305843009213693951 = hi := by rw [Int.tmod_eq_emod_of_nonneg (by omega)]; omega
  rw [e]
  refine ⟨by decide, (V294_sound hi lo 2305843009213693951 w (fun r w' => ∃ q : Int, r = .tuple #[.int .u64 q, .int .u64 res] ∧ Keep No w w') (V294_m61 hi lo h hl w res hres fun q w' hk => ⟨q, rfl, hk⟩)).mono ?_⟩
  rintro _ w1 ⟨_, rfl, q, rfl, hk⟩
  exact ⟨_, _, rfl, rfl, hk⟩
theorem C126 (a : Option Addr) (n c : Nat) (w : World) : Calls Tryz.prog 126 #[.slice a n c] w fun e w' => ∃ b, e = .returned (.func (.func 202) #[] #[.pointer (some ⟨b, 0, none⟩)]) ∧ Blk w' b 38 [.slice a n c] ∧ w.heap.size ≤ b ∧ Keep No w w' := by
  refine ret_mono (V126_sound a n c w (fun r w' => ∃ b, r = .func (.func 202) #[] #[.pointer (some ⟨b, 0, none⟩)] ∧ Blk w' b 38 [.slice a n c] ∧ w.heap.size ≤ b ∧ Keep No w w') ?_) (by rintro _ _ ⟨b, rfl, h⟩; exact ⟨b, rfl, h⟩)
  unfold V126
  exact newK_of fun b w1 hs hb hk => ⟨b, rfl, hb, by omega, hk⟩
theorem C202 {l b : Nat} {a : Option Addr} {ms : List Int} {c : Nat} {w : World} (hl : ms.length < 1000000000000) (Inv : Nat → World → Prop) (h0 : Inv 0 w) (hsame : ∀ k w1, Inv k w1 → w1.cell? ⟨b, 0, none⟩ = some (.slice a ms.length c) ∧ WordsAt w1 a ms)
    (hstep : ∀ k w1 m, k < ms.length → Inv k w1 → ms[ms.length - 1 - k]? = some m → RoundK Tryz.prog l #[.int .i64 (ms.length - 1 - k : Nat), .int .u32 m] w1 fun r w2 => r = true ∧ Inv (k + 1) w2) :
    Calls Tryz.prog 202 #[.func (.yield l) #[] #[], .pointer (some ⟨b, 0, none⟩)] w fun e w' => e = .returned (.tuple #[]) ∧ Inv ms.length w' := by
  refine ret_mono (V202_sound _ ⟨b, 0, none⟩ w (fun r w' => r = .tuple #[] ∧ Inv ms.length w') ?_) (by rintro _ _ ⟨rfl, h⟩; exact ⟨rfl, h⟩)
  unfold V202
  refine ⟨_, _, _, (hsame 0 w h0).1, fun i w' => ∃ k : Nat, k ≤ ms.length ∧ i = ms.length - 1 - (k : Int) ∧ Inv k w', fun i _ => (i + 1).toNat, ⟨0, by omega, by rw [wrap_i64 (by omega)]; omega, h0⟩, ?_⟩
  rintro j i w1 ⟨k, hk, rfl, hI⟩
  refine bsel_split (fun hlt => ?_) fun hge => ?_
  · have hlt : k < ms.length := by simp at hlt; omega
    obtain ⟨m, hm⟩ : ∃ m, ms[ms.length - 1 - k]? = some m := ⟨_, List.getElem?_eq_getElem (by omega)⟩
    obtain ⟨h1, h2⟩ := hsame k w1 hI
    obtain ⟨p, hp, hcell⟩ := h2 _ _ hm
    have ei : (ms.length : Int) - 1 - k = ((ms.length - 1 - k : Nat) : Int) := by omega
    rw [ei]
    refine ⟨_, _, _, h1, ?_⟩
    rw [hp]
    refine idxK_of (by omega) ⟨m, by rw [Nat.mul_one]; exact hcell, ?_⟩
    obtain ⟨f, tmps, assign, body, w2, hy, hround⟩ := hstep k w1 m hlt hI hm
    refine ⟨f, tmps, assign, body, w2, hy, hround.mono ?_⟩
    rintro _ w3 ⟨r, rfl, rfl, hI2⟩
    refine ⟨true, rfl, true, rfl, bsel_neg rfl ⟨⟨k + 1, by omega, ?_, hI2⟩, ?_⟩⟩
    · rw [wrap_i64 (by omega)]; omega
    · simp only
      rw [wrap_i64 (by omega)]; omega
  · have : k = ms.length := by simp at hge; omega
    subst this
    exact ⟨rfl, hI⟩
theorem fold_drop (st : Nat → Int → Nat) (ms : List Int) {k : Nat} {m : Int} (h : ms[k]? = some m) : (ms.drop k).foldr (fun m r => st r m) 0 = st ((ms.drop (k + 1)).foldr (fun m r => st r m) 0) m := by
  obtain ⟨hk, he⟩ := List.getElem?_eq_some_iff.1 h
  rw [List.drop_eq_getElem_cons hk, he]
  rfl
theorem C155g (y : Int) (L : Nat) (st : Nat → Int → Nat) (hy1 : decide (y < 1) = false) (hy2 : decide (y > 4611686018427387904) = false) (hL0 : 0 < L) (hst : ∀ R m w, R < L → Calls Tryz.prog 223 #[.int .u64 (shr .u64 R 32), .int .u64 (bOr .u64 (shl .u64 R 32) (IntKind.wrap .u64 m)), .int .u64 (IntKind.wrap .u64 y)] w fun e w' => e = .returned (.int .u64 (st R m)) ∧ Keep No w w')
    (hlt : ∀ R m, R < L → st R m < L) (hL : ∀ R : Nat, R < L → IntKind.wrap .i64 (R : Int) = R) {w : World} {a : Option Addr} {ms : List Int} {c : Nat} (h : WordsAt w a ms) (hc : ms.length ≤ c) (hl : ms.length < 1000000000000) :
    Calls Tryz.prog 155 #[.agg #[.bool false, .slice a ms.length c], .int .i64 y] w fun e w' => e = .returned (.tuple #[.int .i64 ((trimmed ms).foldr (fun m r => st r m) 0 : Nat), .int .i64 0]) ∧ Keep No w w' := by
  have hfl : ∀ l : List Int, l.foldr (fun m r => st r m) 0 < L := by
    intro l
    induction l with
    | nil => exact hL0
    | cons m l ih => exact hlt _ _ ih
  refine ret_mono (V155_sound false a ms.length c y w (fun r w' => r = .tuple #[.int .i64 ((trimmed ms).foldr (fun m r => st r m) 0 : Nat), .int .i64 0] ∧ Keep No w w') ?_) (by rintro _ _ ⟨rfl, h⟩; exact ⟨rfl, h⟩)
  unfold V155
  refine newK_of fun b6 w1 hs1 h6 hk1 => newK_of fun b8 w2 hs2 h8 hk2 => ⟨_, h8.cell rfl, bsel_neg hy1 ⟨_, h8.cell rfl, ?_⟩⟩
  replace h6 := hk2.nblk h6
  have hk02 := hk1.no hk2
  unfold V155J3
  refine bsel_neg hy2 (newK_of fun r w3 hs3 hr hk3 => ?_)
  rw [show (⟨r, 0, none⟩ : Addr) = (⟨r, 0, none⟩ : Addr).add 0 by simp]
  refine stK_add hr (by simp) fun w4 hr4 hk4 => ?_
  have hk23 : Keep No w2 w4 := hk3.news hk4 fun k e => by omega
  have h64 := hk23.nblk h6
  have h84 := hk23.nblk h8
  have hk04 := hk02.no hk23
  refine ⟨_, _, _, h64.add 1 rfl, (C124 (h.no hk04) hc hl).mono ?_⟩
  rintro _ w5 ⟨rfl, rfl⟩
  refine ⟨_, _, _, rfl, (C126 _ _ _ _).mono ?_⟩
  rintro _ W ⟨bb, rfl, hbb, hbbs, hkW⟩
  have hkW0 := hk04.no hkW
  have htl : (trimmed ms).length < 1000000000000 := by have := trimmed_length_le ms; omega
  have hW : WordsAt W a (trimmed ms) := (h.no hkW0).take _
  have h6W := hkW.nblk h64
  have h8W := hkW.nblk h84
  have hrW := hkW.nblk hr4
  refine ⟨_, rfl, ?_⟩
  intro Rec hnc hround
  generalize hw3 : (W.alloc (.deferred (some []))).alloc (Rec .ready none) = W' at *
  have hkd : Keep No W W' := by subst hw3; exact (Keep.fresh W _).no (Keep.fresh _ _)
  have hl' : W'.heap[W.heap.size + 1]? = some (Rec .ready none) := by
    subst hw3
    rw [heap_alloc, if_pos (by simp)]
  have hdf : W'.heap[W.heap.size]? = some (.deferred (some [])) := by
    subst hw3
    rw [heap_alloc, if_neg (by simp), heap_alloc, if_pos rfl]
  clear hw3
  have hrlt := hrW.lt
  have hs0 := hk02.size
  have hrw : w.heap.size ≤ r := by omega
  have hbne : bb ≠ r := hbb.ne hrW (by decide)
  have hb8ne : b8 ≠ r := by have := h8.lt; omega
  have hpn : ∀ p, a = some p → p.block < w.heap.size ∨ trimmed ms = [] := by
    intro p hp
    cases hm : trimmed ms with
    | nil => exact .inr rfl
    | cons m l =>
      obtain ⟨q, hq, hcell⟩ := h.take (trimN ms ms.length) 0 m (by
        have : (trimmed ms)[0]? = some m := by rw [hm]; rfl
        exact this)
      rw [hp] at hq
      cases hq
      exact .inl (by simpa [add_block] using World.block_lt_of_cell? w _ hcell)
  let Inv : Nat → World → Prop := fun k w1 => w1.heap[W.heap.size + 1]? = some (Rec .ready none) ∧ Blk w1 r 44 [.int .u64 (((trimmed ms).drop ((trimmed ms).length - k)).foldr (fun m r => st r m) 0 : Nat)] ∧ Keep (fun x => x = W.heap.size + 1 ∨ x = r) W' w1
  have hInvs : ∀ k w1, Inv k w1 → w1.cell? ⟨bb, 0, none⟩ = some (.slice a (trimmed ms).length c) ∧ WordsAt w1 a (trimmed ms) := by
    rintro k w1 ⟨_, _, hk1⟩
    refine ⟨(hk1.blk (hkd.nblk hbb) ?_).cell rfl, ?_⟩
    · rintro (e | e)
      · have := hbb.lt; omega
      · exact hbne e
    · intro i m hm
      obtain ⟨p, hp, hcell⟩ := (hW.no hkd) i m hm
      refine ⟨p, hp, hk1.cell hcell ?_⟩
      rw [add_block]
      rcases hpn p hp with q | q
      · have := hkW0.size
        rintro (e | e) <;> omega
      · rw [q] at hm; simp at hm
  refine ⟨callFunc202 _ _ _, (C202 htl Inv ⟨hl', by rw [Nat.sub_zero, List.drop_length]; exact hkd.nblk hrW, Keep.refl _ _⟩ hInvs ?_).mono ?_⟩
  · rintro k w1 m hk ⟨hI1, hI2, hI3⟩ hm
    refine hround w1 _ hI1 _ _ ⟨hI1, ?_⟩
    have hll := (Array.getElem?_eq_some_iff.1 hI1).1
    have hkp := Keep.put (w := w1) (l := W.heap.size + 1) (x := Rec .busy none)
    have hbusy := put_get (x := Rec .busy none) hll
    have hk2 : Keep (fun x => x = W.heap.size + 1 ∨ x = r) W' (w1.putObj (W.heap.size + 1) (Rec .busy none)) := hI3.trans hkp fun _ _ e => .inl e
    have hr2 := hkp.blk hI2 (by omega)
    generalize w1.putObj (W.heap.size + 1) (Rec .busy none) = w2 at *
    have h82 := hk2.blk (hkd.nblk h8W) (by
      rintro (e | e)
      · have := h8W.lt; omega
      · exact hb8ne e)
    have hRlt := hfl ((trimmed ms).drop ((trimmed ms).length - k))
    have estep := fold_drop st (trimmed ms) hm
    rw [show (trimmed ms).length - 1 - k + 1 = (trimmed ms).length - k by omega] at estep
    rw [show (trimmed ms).length - 1 - k = (trimmed ms).length - (k + 1) by omega] at estep
    generalize ((trimmed ms).drop ((trimmed ms).length - k)).foldr (fun m r => st r m) 0 = R at *
    refine ⟨_, hr2.cell rfl, by decide, _, hr2.cell rfl, by decide, _, h82.cell rfl, (hst R m w2 hRlt).mono ?_⟩
    rintro _ w3 ⟨rfl, hk3⟩
    have hr3 := hk3.nblk hr2
    refine ⟨_, rfl, ?_⟩
    rw [show (⟨r, 0, none⟩ : Addr) = (⟨r, 0, none⟩ : Addr).add 0 by simp]
    refine stK_add hr3 (by simp) fun w4 hr4 hk4 => ?_
    have hb4 : w4.heap[W.heap.size + 1]? = some (Rec .busy none) := by
      rw [hk4.block _ (by have := hk3.size; have := (Array.getElem?_eq_some_iff.1 hbusy).1; omega) (by omega), hk3.block _ (Array.getElem?_eq_some_iff.1 hbusy).1 id, hbusy]
    have hp5 := Keep.put (w := w4) (l := W.heap.size + 1) (x := Rec .ready none)
    refine ⟨⟨_, _, hb4⟩, rfl, put_get (Array.getElem?_eq_some_iff.1 hb4).1, ?_, ?_⟩
    · have := hp5.blk hr4 (by omega)
      rw [estep]
      exact this
    · exact ((hk2.no hk3).trans hk4 fun x _ e => .inr e).trans hp5 fun x _ e => .inl e
  · rintro _ w5 ⟨rfl, hI1, hI2, hI3⟩
    rw [Nat.sub_self, List.drop_zero] at hI2
    have hp6 := Keep.put (w := w5) (l := W.heap.size + 1) (x := Rec .exhausted none)
    have hk6 : Keep (fun x => x = W.heap.size + 1 ∨ x = r) W' (w5.putObj (W.heap.size + 1) (Rec .exhausted none)) := hI3.trans hp6 fun _ _ e => .inl e
    have hr6 := hp6.blk hI2 (by omega)
    generalize w5.putObj (W.heap.size + 1) (Rec .exhausted none) = w6 at *
    have h66 := hk6.blk (hkd.nblk h6W) (by
      rintro (e | e)
      · have := h6W.lt; omega
      · have := h6.lt; omega)
    refine ⟨⟨_, rfl⟩, .inl ⟨hI1, _, h66.add 0 rfl, bsel_neg rfl ?_⟩⟩
    unfold V155J2
    refine bsel_neg rfl ?_
    unfold V155J1
    have hsz : W'.heap.size ≤ w6.heap.size := hk6.size
    have hd6 : w6.heap[W.heap.size]? = some (.deferred (some [])) := by
      rw [hk6.block _ (Array.getElem?_eq_some_iff.1 hdf).1 (by rintro (e | e) <;> omega), hdf]
    refine ⟨_, hr6.cell rfl, hd6, ?_, ?_⟩
    · rw [hL _ (hfl _)]
    · have hsW := hkW0.size
      exact ((hkW0.no hkd).news hk6 fun x e => by rcases e with e | e <;> omega).news Keep.put fun x e => by omega
theorem C223_word (R : Nat) (m : Int) (w : World) (hR : R < 2305843009213693951) : Calls Tryz.prog 223 #[.int .u64 (shr .u64 R 32), .int .u64 (bOr .u64 (shl .u64 R 32) (IntKind.wrap .u64 m)), .int .u64 (IntKind.wrap .u64 2305843009213693951)] w fun e w' => e = .returned (.int .u64 (rstep R m)) ∧ Keep No w w' := by
  have e1 : shr .u64 R 32 = ((R / 4294967296 : Nat) : Int) := by
    rw [show (32 : Int) = ((32 : Nat) : Int) from rfl, shrn _ 32 (by decide)]; omega
  have e2 : shl .u64 R 32 = ((R % 4294967296 * 4294967296 : Nat) : Int) := by
    rw [show (32 : Int) = ((32 : Nat) : Int) from rfl, shln _ 32 (by decide)]; omega
  have e3 : IntKind.wrap .u64 2305843009213693951 = 2305843009213693951 := wu _ (by decide)
  have hu := u64_lt' m
  have h1 : R % 4294967296 * 4294967296 < 18446744073709551616 := by omega
  rw [e1, e2, e3, wrap_hash, bOr_nat _ _ h1 hu]
  have hor : (R % 4294967296 * 4294967296) ||| u64 m < 18446744073709551616 := Nat.or_lt_two_pow (n := 64) h1 hu
  exact C223 (by omega) hor w
theorem C155 {w : World} {a : Option Addr} {ms : List Int} {c : Nat} (h : WordsAt w a ms) (hc : ms.length ≤ c) (hl : ms.length < 1000000000000) :
    Calls Tryz.prog 155 #[.agg #[.bool false, .slice a ms.length c], .int .i64 2305843009213693951] w fun e w' => e = .returned (.tuple #[.int .i64 (restW (trimmed ms)), .int .i64 0]) ∧ Keep No w w' :=
  C155g 2305843009213693951 2305843009213693951 rstep (by decide) (by decide) (by decide) C223_word (fun _ _ _ => rstep_lt _ _) (fun R hR => wrap_i64 (by omega)) h hc hl
theorem C103 {w : World} {neg : Bool} {a : Option Addr} {ms : List Int} {c : Nat} (h : WordsAt w a ms) (hc : ms.length ≤ c) (hl : ms.length < 1000000000000) :
    Calls Tryz.prog 103 #[.agg #[.bool neg, .slice a ms.length c]] w fun e w' => e = .returned (.int .i64 (hWhole neg ms)) ∧ Keep No w w' := by
  refine ret_mono (V103_sound neg a ms.length c w (fun r w' => r = .int .i64 (hWhole neg ms) ∧ Keep No w w') ?_) (by rintro _ _ ⟨rfl, h⟩; exact ⟨rfl, h⟩)
  unfold V103
  refine newK_of fun b w1 hs1 hb hk1 => ⟨_, _, _, hb.add 1 rfl, (C155 (h.no hk1) hc hl).mono ?_⟩
  rintro _ w2 ⟨rfl, hk2⟩
  have hlt := restW_lt (trimmed ms)
  have ew : ∀ x : Int, -2305843009213693951 < x ∧ x < 2305843009213693951 → IntKind.wrap .i64 (IntKind.wrap .u64 x) = x := by
    intro x hx
    rw [wrap_u64]
    have h1 : IntKind.bits .i64 = 64 := rfl
    have h2 : IntKind.signed .i64 = true := rfl
    unfold IntKind.wrap
    simp only [h1, h2, Bool.true_and, decide_eq_true_eq]
    split <;> omega
  refine ⟨_, _, rfl, _, (hk2.nblk hb).add 0 rfl, bsel_split (fun hn => ?_) fun hn => ?_⟩
  · unfold V103J1
    refine hash_of (Q := fun r w' => r = .int .i64 (hWhole neg ms) ∧ Keep No w w') fun w3 hk3 => ⟨?_, (hk1.no hk2).no hk3⟩
    rw [wrap_i64 (n := 0 - (restW (trimmed ms) : Int)) (by omega), ew _ (by omega)]
    unfold hWhole
    rw [if_pos hn, Int.zero_sub]
  · unfold V103J1
    refine hash_of (Q := fun r w' => r = .int .i64 (hWhole neg ms) ∧ Keep No w w') fun w3 hk3 => ⟨?_, (hk1.no hk2).no hk3⟩
    rw [ew _ (by omega)]
    unfold hWhole
    rw [if_neg (by simp [hn])]
end Go.Fw


set_option autoImplicit false
set_option linter.unusedVariables false
namespace Go.Fw
open Go.Proofs Go.RowKit
theorem wrap_u32 (n : Int) : IntKind.wrap .u32 n = n % 4294967296 := by
  have h1 : IntKind.bits .u32 = 32 := rfl
  have h2 : IntKind.signed .u32 = false := rfl
  unfold IntKind.wrap
  simp only [h1, h2, Bool.false_and]
  rfl
theorem wrap_u8 (n : Int) : IntKind.wrap .u8 n = n % 256 := by
  have h1 : IntKind.bits .u8 = 8 := rfl
  have h2 : IntKind.signed .u8 = false := rfl
  unfold IntKind.wrap
  simp only [h1, h2, Bool.false_and]
  rfl
theorem C125_bil {hi lo : Nat} (h : hi < 1000000000) (hl : lo < 4294967296) (w : World) : Calls Tryz.prog 125 #[.int .u32 hi, .int .u32 lo, .int .u32 1000000000] w fun e w' => e = .returned (.tuple #[.int .u32 (((hi * 4294967296 + lo) / 1000000000 : Nat) : Int), .int .u32 (((hi * 4294967296 + lo) % 1000000000 : Nat) : Int)]) ∧ Keep No w w' := by
  refine ret_mono (V125_sound _ _ _ w (fun r w' => r = .tuple #[.int .u32 (((hi * 4294967296 + lo) / 1000000000 : Nat) : Int), .int .u32 (((hi * 4294967296 + lo) % 1000000000 : Nat) : Int)] ∧ Keep No w w') ?_) (by rintro _ _ ⟨rfl, h⟩; exact ⟨rfl, h⟩)
  unfold V125
  refine bsel_pos rfl ?_
  unfold V125J2
  refine bsel_neg (by simp; omega) ?_
  unfold V125J1
  have e1 : shl .u64 (IntKind.wrap .u64 (hi : Int)) 32 = ((hi * 4294967296 : Nat) : Int) := by
    rw [wu _ (by omega), show (32 : Int) = ((32 : Nat) : Int) from rfl, shln _ 32 (by decide)]; omega
  have e2 : bOr .u64 (shl .u64 (IntKind.wrap .u64 (hi : Int)) 32) (IntKind.wrap .u64 (lo : Int)) = ((hi * 4294967296 + lo : Nat) : Int) := by
    rw [e1, wu _ (by omega), bOr_nat _ _ (by omega) (by omega)]
    have := or_add hi lo 32 (by omega)
    rw [show (2 : Nat) ^ 32 = 4294967296 from rfl] at this
    rw [this]
  have e3 : IntKind.wrap .u64 1000000000 = 1000000000 := rfl
  rw [e2, e3]
  have hb : hi * 4294967296 + lo < 4294967296000000000 := by omega
  generalize hi * 4294967296 + lo = N at hb ⊢
  refine ⟨by decide, by decide, by decide, ?_, Keep.drawn w⟩
  rw [Int.tdiv_eq_ediv_of_nonneg (by omega), Int.tmod_eq_emod_of_nonneg (by omega), wu _ (by omega), wrap_u32, wrap_u32]
  have h1 : ((N : Int) / 1000000000) % 4294967296 = ((N / 1000000000 : Nat) : Int) := by omega
  have h2 : ((N : Int) % 1000000000) % 4294967296 = ((N % 1000000000 : Nat) : Int) := by omega
  rw [h1, h2]
def digC (n i : Nat) : List Value := (List.range 9).map fun p => if 9 - i ≤ p then .int .u8 ((48 + n / 10 ^ (8 - p) % 10 : Nat) : Int) else .int .u8 0
theorem digC_set (n i : Nat) (hi : i < 9) : (digC n i).set (8 - i) (.int .u8 ((48 + n / 10 ^ i % 10 : Nat) : Int)) = digC n (i + 1) := by
  apply List.ext_getElem?
  intro p
  unfold digC
  rw [List.getElem?_set]
  by_cases hp : p < 9
  · by_cases he : 8 - i = p
    · subst he
      rw [if_pos rfl, if_pos (by simp; omega), List.getElem?_map, List.getElem?_range (by omega), Option.map_some, if_pos (by omega)]
      have : 8 - (8 - i) = i := by omega
      rw [this]
    · rw [if_neg he]
      simp [hp]
      by_cases hc : 9 ≤ p + i
      · rw [if_pos hc, if_pos (by omega)]
      · rw [if_neg hc, if_neg (by omega)]
  · have : ¬ 8 - i = p := by omega
    rw [if_neg this]
    simp [hp]
theorem C127 {n : Nat} (hn : n < 4294967296) (w : World) : Calls Tryz.prog 127 #[.int .u32 n] w fun e w' => e = .returned (.agg (digC n 9).toArray) ∧ Keep No w w' := by
  refine ret_mono (V127_sound _ w (fun r w' => r = .agg (digC n 9).toArray ∧ Keep No w w') ?_) (by rintro _ _ ⟨rfl, h⟩; exact ⟨rfl, h⟩)
  unfold V127
  refine newK_of fun a w1 hs1 ha hk1 => newK_of fun b w2 hs2 hb hk2 => ?_
  refine ⟨fun x i w' => ∃ m : Nat, i = m ∧ m ≤ 9 ∧ x = ((n / 10 ^ m : Nat) : Int) ∧ Blk w' b 246 (digC n m) ∧ Keep (fun k => k = b) w2 w', fun _ i _ => (9 - i).toNat, ⟨0, rfl, by omega, by simp, by exact hb, Keep.refl _ _⟩, ?_⟩
  rintro j x i w3 ⟨m, rfl, hm, rfl, hb3, hk3⟩
  have hlt10 : n / 10 ^ m ≤ n := Nat.div_le_self _ _
  refine bsel_split (fun hlt => ?_) fun hge => ?_
  · have hlt : m < 9 := by simp at hlt; omega
    refine ⟨by decide, ?_, ?_⟩
    · rw [wrap_i64 (by omega)]; omega
    have ew : (IntKind.wrap .i64 (8 - (m : Int))).toNat * 1 = 8 - m := by rw [wrap_i64 (by omega)]; omega
    rw [ew]
    refine stK_add hb3 (by simp [digC]; omega) fun w4 hb4 hk4 => ⟨by decide, ?_⟩
    have e1 : IntKind.wrap .u8 (IntKind.wrap .u32 (48 + Int.tmod ((n / 10 ^ m : Nat) : Int) 10)) = ((48 + n / 10 ^ m % 10 : Nat) : Int) := by
      obtain ⟨q, hq⟩ : ∃ q, n / 10 ^ m = q := ⟨_, rfl⟩
      rw [hq] at hlt10 ⊢
      rw [Int.tmod_eq_emod_of_nonneg (Int.natCast_nonneg _), wrap_u32, wrap_u8]
      clear hb4 hk4 hb3 hk3 hq
      omega
    have e2 : IntKind.wrap .u32 (Int.tdiv ((n / 10 ^ m : Nat) : Int) 10) = ((n / 10 ^ (m + 1) : Nat) : Int) := by
      rw [Nat.pow_succ, ← Nat.div_div_eq_div_mul]
      obtain ⟨q, hq⟩ : ∃ q, n / 10 ^ m = q := ⟨_, rfl⟩
      rw [hq] at hlt10 ⊢
      rw [Int.tdiv_eq_ediv_of_nonneg (Int.natCast_nonneg _), wrap_u32]
      clear hb4 hk4 hb3 hk3 hq e1
      omega
    rw [e1, digC_set n m hlt] at hb4
    rw [e2, wrap_i64 (by omega)]
    exact ⟨⟨m + 1, by omega, by omega, rfl, hb4, hk3.trans hk4 fun _ _ e => e⟩, by simp only; omega⟩
  · have : m = 9 := by simp at hge; omega
    subst this
    have ha3 := hk3.blk (hk2.nblk ha) (by have := ha.lt; omega)
    refine ⟨_, _, _, _, _, _, _, _, _, hb3.cells0, ?_⟩
    refine stK_add ha3 (by simp) fun w4 hb4 hk4 => stK_add hb4 (by simp) fun w5 hb5 hk5 => stK_add hb5 (by simp) fun w6 hb6 hk6 => stK_add hb6 (by simp) fun w7 hb7 hk7 => stK_add hb7 (by simp) fun w8 hb8 hk8 => stK_add hb8 (by simp) fun w9 hb9 hk9 => stK_add hb9 (by simp) fun w10 hb10 hk10 => stK_add hb10 (by simp) fun w11 hb11 hk11 => stK_add hb11 (by simp) fun w12 hb12 hk12 => ?_
    refine ⟨_, _, _, _, _, _, _, _, _, hb12.cells0, rfl, ?_⟩
    have hs := hk1.size
    have hk03 : Keep No w w3 := (hk1.no hk2).news hk3 fun k e => by omega
    exact ((((((((hk03.news hk4 fun k e => by omega).news hk5 fun k e => by omega).news hk6 fun k e => by omega).news hk7 fun k e => by omega).news hk8 fun k e => by omega).news hk9 fun k e => by omega).news hk10 fun k e => by omega).news hk11 fun k e => by omega).news hk12 fun k e => by omega
end Go.Fw


set_option autoImplicit false
set_option linter.unusedVariables false
namespace Go.Fw
open Go.RowKit
theorem flat_get {α : Type} {f : α → List Value} {n : Nat} (hf : ∀ a, (f a).length = n) {k : Nat} (hk : k < n) : ∀ (L : List α) (i : Nat) (a : α), L[i]? = some a → (L.flatMap f)[i * n + k]? = (f a)[k]?
  | [], i, a, h => by simp at h
  | b :: L, 0, a, h => by
    simp at h
    subst h
    rw [List.flatMap_cons, Nat.zero_mul, Nat.zero_add, List.getElem?_append_left (by rw [hf]; exact hk)]
  | b :: L, i + 1, a, h => by
    have := flat_get hf hk L i a (by simpa using h)
    rw [List.flatMap_cons, List.getElem?_append_right (by rw [hf, Nat.add_mul]; omega), hf, show (i + 1) * n + k - n = i * n + k by rw [Nat.add_mul]; omega, this]
theorem flat_set {α : Type} {f : α → List Value} {n : Nat} (hf : ∀ a, (f a).length = n) {k : Nat} (hk : k < n) {u : Value} : ∀ (L : List α) (i : Nat) (a a' : α), L[i]? = some a → f a' = (f a).set k u → (L.flatMap f).set (i * n + k) u = (L.set i a').flatMap f
  | [], i, a, a', h, _ => by simp at h
  | b :: L, 0, a, a', h, he => by
    simp at h
    subst h
    rw [List.flatMap_cons, List.set_cons_zero, List.flatMap_cons, he, Nat.zero_mul, Nat.zero_add, List.set_append_left _ _ (by rw [hf]; exact hk)]
  | b :: L, i + 1, a, a', h, he => by
    have := flat_set hf hk (u := u) L i a a' (by simpa using h) he
    rw [List.flatMap_cons, List.set_cons_succ, List.flatMap_cons, List.set_append_right _ _ (by rw [hf, Nat.add_mul]; omega), hf, show (i + 1) * n + k - n = i * n + k by rw [Nat.add_mul]; omega, this]
theorem row_at {w : World} {base e size n j : Nat} {v : Value} {xs : List Value} {x : Value} (h : w.ownsRow base e size v n xs) (hx : xs[j]? = some x) : ∃ g cap, v = .slice (some ⟨g, 0, none⟩) n cap ∧ base ≤ g ∧ w.cell? ⟨g, j, none⟩ = some x ∧ w.frozen? ⟨g, j, none⟩ = false := by
  have hj : j < n * size := by
    have := (List.getElem?_eq_some_iff.1 hx).1
    have := h.1
    omega
  rcases h.2 with ⟨_, h0⟩ | ⟨g, cap, cur, rfl, hb, hg, hc, hm, hs, ht⟩
  · subst h0; omega
  · exact ⟨g, cap, rfl, hb, by rw [h.cellAt j hj, hx], h.frozenAt j⟩
theorem row_set {w : World} {base e size n j g cap : Nat} {xs : List Value} {u : Value} (h : w.ownsRow base e size (.slice (some ⟨g, 0, none⟩) n cap) n xs) :
    (w.setCell ⟨g, j, none⟩ u).ownsRow base e size (.slice (some ⟨g, 0, none⟩) n cap) n (xs.set j u) := (h.stored j u).1
theorem stRow {w : World} {base e size n j g cap : Nat} {xs : List Value} {u x : Value} {K : World → Prop} (h : w.ownsRow base e size (.slice (some ⟨g, 0, none⟩) n cap) n xs) (hx : xs[j]? = some x)
    (hK : ∀ w', w'.ownsRow base e size (.slice (some ⟨g, 0, none⟩) n cap) n (xs.set j u) → Keep (fun k => k = g) w w' → K w') : stK w ⟨g, j, none⟩ u K := by
  obtain ⟨g', cap', hv, _, hc, hf⟩ := row_at h hx
  cases hv
  exact ⟨⟨by rw [hc]; rfl, hf⟩, hK _ (row_set h) (Keep.one w ⟨g, j, none⟩ u)⟩
theorem appendN {P : Program} {t e : TypeId} {i : TypeInfo} {z : Value} {size bytes : Nat} (ht : P.underlying t = some (.slice e)) (hi : P.info? e = some i) (hz : i.zero = some z) (hsize : i.size = size) (hby : i.bytes = bytes) (hzs : z.cells.size = size) (hsz : 0 < size)
    {w : World} {base : Nat} {v : Value} {n m c : Nat} {xs news : List Value} (hown : w.ownsRow base e size v n xs) {b : Nat} {e' : TypeId} (hb : Blk w b e' news) (hl : news.length = m * size) (h1 : ∀ u ∈ news, u.oneCell' = true) (hm : 0 < m)
    (hbytes : (n + m) * bytes ≤ 140737488355328) (hbp : 0 < bytes) (hbase : base ≤ w.heap.size) {K : World → Option Addr → Nat → Nat → Prop}
    (h : ∀ g cap w', w'.ownsRow base e size (.slice (some ⟨g, 0, none⟩) (n + m) cap) (n + m) (xs ++ news) → Keep (fun k => v.ownBlock = some k) w w' → (v.ownBlock = some g ∨ g = w.heap.size) → K w' (some ⟨g, 0, none⟩) (n + m) cap) :
    ∃ w' : World, ∃ a : Option Addr, ∃ l : Nat, ∃ c' : Nat, (vcEff.bltV .append #[t, t] t #[v, .slice (some ⟨b, 0, none⟩) m c]).run P w = .ok (.slice a l c') w' ∧ K w' a l c' := by
  have h63 : n + m ≤ maxLen := by
    have h1 : (n + m) * 1 ≤ (n + m) * bytes := Nat.mul_le_mul_left _ hbp
    unfold maxLen; omega
  obtain ⟨g, cap, w', hr, ho, hg, hat, hlt⟩ := run_append_lies (P := P) w t t base e i z size bytes ht hi hz hsize hby hzs hsz v n xs hown ⟨b, 0, none⟩ m c news hl
    (by intro j u hj
        rw [add_mk, Nat.zero_add]
        exact hb.cell hj)
    h1 hm h63 hbytes hbase _ rfl
  refine ⟨w', _, _, _, hr, h g cap w' ho (Keep.of_grown hg) hat⟩
theorem cellsFrom_get {w : World} {a : Addr} : ∀ {vs : List Value} {i : Nat}, cellsFrom w a vs i → ∀ {j : Nat} {v : Value}, vs[j]? = some v → w.cell? (a.add (i + j)) = some v
  | [], _, _, j, v, hj => by simp at hj
  | u :: vs, i, h, j, v, hj => by
    obtain ⟨h1, h2⟩ := cellsFrom_cons.1 h
    rcases j with _ | j
    · cases hj; exact h1
    · have := cellsFrom_get h2 (j := j) (by simpa using hj)
      rw [show i + (j + 1) = i + 1 + j by omega]
      exact this
theorem CellsAt.get {w : World} {a : Addr} {vs : List Value} (h : CellsAt w a vs) (j : Nat) {v : Value} (hj : vs[j]? = some v) : w.cell? (a.add j) = some v := by
  simpa using cellsFrom_get h hj
theorem add_add (a : Addr) (n m : Nat) : (a.add n).add m = a.add (n + m) := by
  unfold Addr.add
  by_cases hn : n = 0
  · subst hn; simp
  · by_cases hm : m = 0
    · subst hm; simp
    · simp [hn, hm, Nat.add_assoc]
theorem CellsAt.get2 {w : World} {a : Addr} {vs : List Value} (h : CellsAt w a vs) (j k : Nat) {v : Value} (hj : vs[j + k]? = some v) : w.cell? ((a.add j).add k) = some v := by
  rw [add_add]; exact h.get (j + k) hj
end Go.Fw


set_option autoImplicit false
set_option linter.unusedVariables false
namespace Go.Fw
open Go.Proofs Go.RowKit
theorem u8_info : ∃ i z, Tryz.prog.info? 5 = some i ∧ i.zero = some z ∧ i.size = 1 ∧ i.bytes = 1 ∧ z.cells.size = 1 := by
  have h : (Tryz.prog.info? 5).map (fun i => (i.zero.map (fun z => z.cells.size), i.size, i.bytes)) = some (some 1, 1, 1) := by kernel_rfl
  obtain ⟨i, hi, hj⟩ := Option.map_eq_some_iff.1 h
  simp at hj
  obtain ⟨⟨z, hz, hzz⟩, h1, h2⟩ := hj
  exact ⟨i, z, hi, hz, h1, h2, by simpa using hzz⟩
theorem C128 {w : World} {b B g : Nat} {l bs : List UInt8} {e' : TypeId} {c : Nat} (h : BufAt w b B l) (hg : Blk w g e' (Lib.byteCells bs)) (hne : g ≠ b) (hbs : 0 < bs.length) (hl : l.length + bs.length < 100000000000000) (hB : B ≤ w.heap.size) :
    Calls Tryz.prog 128 #[.pointer (some ⟨b, 0, none⟩), .slice (some ⟨g, 0, none⟩) bs.length c] w fun e w' => e = .returned (.tuple #[.int .i64 bs.length, .nilIface]) ∧ BufAt w' b B (l ++ bs) ∧ Keep (Bfp b B w) w w' := by
  refine (V128_sound _ _ _ _ w (fun r w' => r = .tuple #[.int .i64 bs.length, .nilIface] ∧ BufAt w' b B (l ++ bs) ∧ Keep (Bfp b B w) w w') ?_).mono (by rintro _ _ ⟨_, rfl, rfl, h⟩; exact ⟨rfl, h⟩)
  have hge := h.ge
  unfold V128
  refine (C120 h).mono ?_
  rintro _ w1 ⟨rfl, ⟨v, hb1, ho1⟩, hk1⟩
  refine ⟨_, rfl, ?_⟩
  simp only [nilK_some]
  obtain ⟨a, cp, rfl⟩ := ownsRow_slice ho1
  refine ⟨_, _, _, hb1.add 1 rfl, ?_⟩
  have hg1 := hk1.blk hg hne
  obtain ⟨i, z, q1, q2, q3, q4, q5⟩ := u8_info
  have hkk : Keep (Bfp b B w) w w1 := hk1.mono fun _ _ e => .inl e
  refine appendN (m := bs.length) Tryz.underlying148 q1 q2 q3 q4 q5 (by decide) ho1 hg1 (by rw [Nat.mul_one]; simp [Lib.byteCells]) (by intro u hu; simp [Lib.byteCells] at hu; obtain ⟨_, _, rfl⟩ := hu; rfl) hbs (by omega) (by decide) (by have := hkk.size; omega) fun g' cap w3 ho3 hk3 hat => ?_
  have hb3 := hk3.blk hb1 fun e => ownsRow_ne ho1 hb1 (by decide) e
  refine stK_add hb3 (by simp) fun w4 hb4 hk4 => ⟨trivial, ⟨⟨_, _, .inr rfl, hb4, ?_⟩, hge⟩, ?_⟩
  · have := hk4.row ho3 fun g hg e => ownsRow_ne ho3 hb3 (by decide) (e ▸ hg)
    rw [List.length_append, Lib.byteCells_append]
    exact this
  · refine (hkk.bfp (hk3.mono fun k _ hg => .inr ⟨(ho1.lt k hg).1, ?_⟩)).trans hk4 fun _ _ e => .inl e
    exact ownsRow_etype ho1 hg
end Go.Fw


set_option autoImplicit false
set_option linter.unusedVariables false
namespace Go.Fw
open Go.Proofs Go.RowKit
def u32s (ws : List Nat) : List Int := ws.map fun m => ((m : Nat) : Int)
theorem u32s_len (ws : List Nat) : (u32s ws).length = ws.length := by simp [u32s]
theorem row_shrink {w : World} {B e n n' : Nat} {a : Option Addr} {c : Nat} {xs : List Value} (h : w.ownsRow B e 1 (.slice a n c) n xs) (hn : n' ≤ n) : w.ownsRow B e 1 (.slice a n' c) n' (xs.take n') := by
  refine ⟨by simp [h.1]; omega, ?_⟩
  rcases h.2 with ⟨h1, h2⟩ | ⟨g, cap, cur, h1, hB, hg, hc, hm, hs, ht⟩
  · subst h2
    have : n' = 0 := by omega
    subst this
    exact .inl ⟨h1, rfl⟩
  · cases h1
    refine .inr ⟨g, c, cur, rfl, hB, hg, by omega, hm, hs, ?_⟩
    rw [← ht, List.take_take, Nat.mul_one, Nat.mul_one, Nat.min_eq_left hn]
theorem row_uniq {w : World} {B B' e size n : Nat} {v : Value} {xs xs' : List Value} (h : w.ownsRow B e size v n xs) (h' : w.ownsRow B' e size v n xs') : xs = xs' := by
  rcases h.2 with ⟨h1, h2⟩ | ⟨g, cap, cur, h1, hB, hg, hc, hm, hs, ht⟩
  · have e1 := h.1
    have e2 := h'.1
    rw [h2, Nat.zero_mul] at e1 e2
    rw [List.length_eq_zero_iff.1 e1, List.length_eq_zero_iff.1 e2]
  · rcases h'.2 with ⟨h1', h2'⟩ | ⟨g', cap', cur', h1', hB', hg', hc', hm', hs', ht'⟩
    · rw [h1] at h1'; cases h1'
    · rw [h1] at h1'
      cases h1'
      rw [hg] at hg'
      cases hg'
      rw [← ht, ← ht']
theorem C123_row {w : World} {a : Option Addr} {ms : List Int} {c : Nat} (h : WordsAt w a ms) (hl : ms.length < 1000000000000) :
    Calls Tryz.prog 123 #[.slice a ms.length c] w fun e w' => ∃ v, e = .returned v ∧ w'.ownsRow w.heap.size 45 1 v ms.length (ms.map (.int .u32)) ∧ Keep No w w' := by
  refine V123_sound a ms.length c w (fun v w' => w'.ownsRow w.heap.size 45 1 v ms.length (ms.map (.int .u32)) ∧ Keep No w w') ?_
  unfold V123
  cases a with
  | none =>
    have := h.none_nil
    subst this
    exact bsel_pos rfl ⟨World.ownsRow_nil _ _ _ _, Keep.refl _ _⟩
  | some p =>
    refine bsel_neg rfl (newK_of fun b w1 hb hbb hk => ?_)
    obtain ⟨i, hi, hi1, hi2, z, hz, hz1⟩ : ∃ i, Tryz.prog.info? 45 = some i ∧ i.size = 1 ∧ i.bytes = 4 ∧ ∃ z, i.zero = some z ∧ z.cells.size = 1 := infoU32
    have hown : w1.ownsRow w.heap.size 45 1 (.slice (some ⟨b, 0, none⟩) 0 0) 0 [] := ⟨rfl, .inr ⟨b, 0, #[], rfl, by omega, hbb, by omega, by simp [maxLen], rfl, rfl⟩⟩
    obtain ⟨v', w', hr, h2, h3, h4, h5⟩ := run_append_own_at (P := Tryz.prog) w1 w.heap.size 38 38 45 i z 1 4 Tryz.underlying38 hi hz hi1 hi2 hz1 (by omega) _ 0 [] hown p ms.length c (ms.map (.int .u32)) (by simp)
      (by
        intro j u hj
        obtain ⟨m, hm, rfl⟩ : ∃ m, ms[j]? = some m ∧ Value.int .u32 m = u := by simpa using hj
        obtain ⟨q, hq, hc⟩ := h j m hm
        cases hq
        exact hk.cell hc id) (by intro u hu; obtain ⟨m, _, rfl⟩ := List.mem_map.1 hu; rfl) (by simp [maxLen]; omega) (by omega) (by have := hk.size; omega)
    rw [Nat.zero_add, List.nil_append] at h2
    obtain ⟨a', c', rfl⟩ := ownsRow_slice h2
    refine ⟨w', _, _, _, hr, h2, ?_⟩
    refine hk.news (Keep.of_grown h3) fun k hk' => ?_
    simp [Value.ownBlock] at hk'
    omega
theorem row_words {w : World} {B n : Nat} {a : Option Addr} {c : Nat} {ms : List Int} (h : w.ownsRow B 45 1 (.slice a n c) n (ms.map (.int .u32))) : WordsAt w a ms ∧ n = ms.length ∧ ms.length ≤ c := by
  have hl : n = ms.length := by have := h.1; simp at this; omega
  refine ⟨fun i m hm => ?_, hl, ?_⟩
  · obtain ⟨g, cap, hv, hi, hc⟩ := row_cell h (i := i) (x := .int .u32 m) (by simp [hm])
    cases hv
    exact ⟨_, rfl, by rw [add_mk, Nat.zero_add]; exact hc⟩
  · rcases h.2 with ⟨h1, h2⟩ | ⟨g, cap, cur, h1, hB, hg, hc, hm, hs, ht⟩
    · omega
    · cases h1; omega
theorem take_pass {ws : List Nat} {i m : Nat} (h : ws[i]? = some m) : (ws.take (i + 1) ++ (pass (ws.drop (i + 1))).1).set i (((pass (ws.drop (i + 1))).2 * 4294967296 + m) / 1000000000) = ws.take i ++ (pass (ws.drop i)).1 ∧ (pass (ws.drop i)).2 = ((pass (ws.drop (i + 1))).2 * 4294967296 + m) % 1000000000 := by
  obtain ⟨hi, he⟩ := List.getElem?_eq_some_iff.1 h
  have hd : ws.drop i = m :: ws.drop (i + 1) := by rw [List.drop_eq_getElem_cons hi, he]
  rw [hd]
  refine ⟨?_, rfl⟩
  rw [List.take_succ_eq_append_getElem hi, List.append_assoc, List.set_append_right _ _ (by simp; omega), List.length_take, Nat.min_eq_left (by omega), Nat.sub_self]
  rfl
theorem inner_pass {w w0 : World} {B n : Nat} {a : Option Addr} {c : Nat} {ws : List Nat} (hrow : w.ownsRow B 45 1 (.slice a n c) n ((u32s ws).map (.int .u32))) (hn : n = ws.length) (hl : n < 1000000000000) (hr : ∀ m ∈ ws, m < 4294967296) (hB : w0.heap.size ≤ B) (hk0 : Keep No w0 w) {K : Int → World → Prop}
    (hK : ∀ w', w'.ownsRow B 45 1 (.slice a n c) n ((u32s (pass ws).1).map (.int .u32)) → Keep (fun k => (Value.slice a n c).ownBlock = some k) w w' → K ((pass ws).2 : Nat) w') :
    ∃ (I30 : Int → Int → World → Prop) (μ31 : Int → Int → World → Nat), I30 0 (IntKind.wrap .i64 ((n : Int) - 1)) w ∧ ∀ (j35 : Fr) (i32 : Int) (i33 : Int) (w34 : World), I30 i32 i33 w34 →
    bsel (decide (i33 ≥ 0)) (
    idxK a n i33 1 fun a36 =>
    ∃ t37 : Int, w34.cell? a36 = some (.int .u32 t37) ∧
    Calls Tryz.prog 125 #[.int .u32 i32, .int .u32 t37, .int .u32 1000000000] w34 fun e38 w39 => ∃ t40 : Int, ∃ t41 : Int, e38 = .returned (.tuple #[.int .u32 t40, .int .u32 t41]) ∧
    idxK a n i33 1 fun a42 =>
    stK w39 a42 (.int .u32 t40) fun w43 =>
    (I30 t41 (IntKind.wrap .i64 (i33 - 1)) w43 ∧ μ31 t41 (IntKind.wrap .i64 (i33 - 1)) w43 < μ31 i32 i33 w34)) (K i32 w34) := by
  refine ⟨fun r i w' => ∃ k : Nat, k ≤ n ∧ i = (k : Int) - 1 ∧ r = ((pass (ws.drop k)).2 : Nat) ∧ w'.ownsRow B 45 1 (.slice a n c) n ((u32s (ws.take k ++ (pass (ws.drop k)).1)).map (.int .u32)) ∧ Keep (fun k => (Value.slice a n c).ownBlock = some k) w w', fun _ i _ => (i + 1).toNat, ⟨n, Nat.le_refl _, by rw [wrap_i64 (by omega)], ?_, ?_, Keep.refl _ _⟩, ?_⟩
  · rw [hn, List.drop_length]; rfl
  · rw [hn, List.drop_length, List.take_length]
    simpa [pass, hn] using hrow
  rintro j r i w1 ⟨k, hk, rfl, rfl, hrow1, hk1⟩
  refine bsel_split (fun hge => ?_) fun hlt => ?_
  · obtain ⟨i, rfl⟩ : ∃ i, k = i + 1 := ⟨k - 1, by simp at hge; omega⟩
    obtain ⟨m, hm⟩ : ∃ m, ws[i]? = some m := ⟨_, List.getElem?_eq_getElem (by omega)⟩
    have hml := hr m (List.mem_of_getElem? hm)
    have hei : ((i + 1 : Nat) : Int) - 1 = (i : Int) := by omega
    rw [hei]
    have hget : ((u32s (ws.take (i + 1) ++ (pass (ws.drop (i + 1))).1)).map (Value.int .u32))[i]? = some (.int .u32 (m : Nat)) := by
      unfold u32s
      rw [List.getElem?_map, List.getElem?_map, List.getElem?_append_left (by simp; omega), List.getElem?_take, if_pos (by omega), hm]
      rfl
    obtain ⟨g, cap, hv, _, hcell⟩ := row_cell hrow1 hget
    cases hv
    have hplt := (pass_lt (ws.drop (i + 1)) fun x hx => hr x (List.mem_of_mem_drop hx)).1
    obtain ⟨t1, t2⟩ := take_pass hm
    refine idxK_of (by omega) ⟨_, by rw [add_mk, Nat.mul_one, Nat.zero_add]; exact hcell, (C125_bil hplt hml w1).mono ?_⟩
    rintro _ w2 ⟨rfl, hk2⟩
    refine ⟨_, _, rfl, idxK_of (by omega) ?_⟩
    rw [add_mk, Nat.mul_one, Nat.zero_add]
    refine stRow (hk2.nrow hrow1) hget fun w3 hrow3 hk3 => ⟨⟨i, by omega, by rw [wrap_i64 (by omega)], by rw [t2], ?_, (hk1.no hk2).trans hk3 fun k _ e => by rw [e]; rfl⟩, ?_⟩
    · have e : ((u32s (ws.take (i + 1) ++ (pass (ws.drop (i + 1))).1)).map (Value.int .u32)).set i (.int .u32 ((((pass (ws.drop (i + 1))).2 * 4294967296 + m) / 1000000000 : Nat) : Int)) = (u32s (ws.take i ++ (pass (ws.drop i)).1)).map (Value.int .u32) := by
        rw [← t1]
        unfold u32s
        rw [List.map_set, List.map_set]
      rw [← e]; exact hrow3
    · simp only
      rw [wrap_i64 (by omega)]; omega
  · have : k = 0 := by simp at hlt; omega
    subst this
    rw [List.take_zero, List.nil_append, List.drop_zero] at hrow1
    exact hK w1 hrow1 hk1
end Go.Fw


set_option autoImplicit false
set_option linter.unusedVariables false
namespace Go.Fw
open Go.Proofs Go.RowKit
theorem valW_append : ∀ l r : List Nat, valW (l ++ r) = valW l + 4294967296 ^ l.length * valW r
  | [], r => by simp [valW]
  | m :: l, r => by
    have := valW_append l r
    simp only [List.cons_append, valW, this, List.length_cons, Nat.pow_succ]
    rw [Nat.mul_add, Nat.mul_comm (4294967296 ^ l.length) 4294967296, Nat.mul_assoc]
    omega
theorem valW_zero : ∀ l : List Nat, (∀ m ∈ l, m = 0) → valW l = 0
  | [], _ => rfl
  | m :: l, h => by
    have h1 := h m (by simp)
    have h2 := valW_zero l fun x hx => h x (by simp [hx])
    simp [valW, h1, h2]
theorem valW_lt : ∀ l : List Nat, (∀ m ∈ l, m < 4294967296) → valW l < 2 ^ (32 * l.length)
  | [], _ => by simp [valW]
  | m :: l, h => by
    have h1 := h m (by simp)
    have h2 := valW_lt l fun x hx => h x (by simp [hx])
    have e : 2 ^ (32 * (m :: l).length) = 4294967296 * 2 ^ (32 * l.length) := by
      rw [List.length_cons, Nat.mul_add, Nat.pow_add, Nat.mul_comm]
    rw [e]
    simp only [valW]
    omega
theorem trimN_zero (ms : List Int) : ∀ n, n ≤ ms.length → ∀ i, trimN ms n ≤ i → i < n → ms[i]? = some 0
  | 0, _, i, _, h => by omega
  | n + 1, hn, i, h1, h2 => by
    rw [trimN_succ] at h1
    split at h1
    · rename_i hz
      by_cases hi : i = n
      · subst hi; exact hz
      · exact trimN_zero ms n (by omega) i h1 (by omega)
    · omega
theorem trimN_last (ms : List Int) : ∀ n j, trimN ms n = j + 1 → ms[j]? ≠ some 0
  | 0, j, h => by cases h
  | n + 1, j, h => by
    rw [trimN_succ] at h
    split at h
    · exact trimN_last ms n j h
    · rename_i hz
      have : n = j := by omega
      subst this
      exact hz
def tw (p : List Nat) : List Nat := p.take (trimN (u32s p) p.length)
theorem tw_u32 (p : List Nat) : trimmed (u32s p) = u32s (tw p) := by
  unfold trimmed tw
  rw [u32s_len]
  unfold u32s
  rw [List.map_take]
theorem tw_val (p : List Nat) : valW (tw p) = valW p := by
  have h := valW_append (p.take (trimN (u32s p) p.length)) (p.drop (trimN (u32s p) p.length))
  rw [List.take_append_drop] at h
  have hz : valW (p.drop (trimN (u32s p) p.length)) = 0 := by
    refine valW_zero _ fun m hm => ?_
    obtain ⟨i, hi⟩ := List.getElem?_of_mem hm
    rw [List.getElem?_drop] at hi
    have hlt := (List.getElem?_eq_some_iff.1 hi).1
    have := trimN_zero (u32s p) p.length (by rw [u32s_len]; omega) (trimN (u32s p) p.length + i) (by omega) hlt
    unfold u32s at this hi
    rw [List.getElem?_map, hi] at this
    simpa using this
  rw [hz, Nat.mul_zero, Nat.add_zero] at h
  exact h.symm
theorem tw_ne (p : List Nat) (h : tw p ≠ []) : valW (tw p) ≠ 0 := by
  obtain ⟨j, hj⟩ : ∃ j, trimN (u32s p) p.length = j + 1 := by
    cases hc : trimN (u32s p) p.length with
    | zero => exact absurd (by unfold tw; rw [hc]; rfl) h
    | succ j => exact ⟨j, rfl⟩
  have hle := trimN_le (u32s p) p.length
  have hl := trimN_last (u32s p) p.length j hj
  obtain ⟨m, hm⟩ : ∃ m, p[j]? = some m := ⟨_, List.getElem?_eq_getElem (by omega)⟩
  have hm0 : m ≠ 0 := by
    intro e
    apply hl
    unfold u32s
    rw [List.getElem?_map, hm, e]; rfl
  have e : tw p = p.take j ++ [m] := by
    unfold tw
    obtain ⟨hlt, he⟩ := List.getElem?_eq_some_iff.1 hm
    rw [hj, List.take_succ_eq_append_getElem hlt, he]
  rw [e, valW_append]
  have hp : 0 < 4294967296 ^ (p.take j).length := Nat.pow_pos (by decide)
  have : valW [m] = m := by simp [valW]
  rw [this]
  have := Nat.mul_pos hp (Nat.pos_of_ne_zero hm0)
  omega
theorem tw_lt {p : List Nat} (h : ∀ m ∈ p, m < 4294967296) : ∀ m ∈ tw p, m < 4294967296 := fun m hm => h m (List.mem_of_mem_take hm)
theorem u32s_inj {a b : List Nat} (h : (u32s a).map (Value.int .u32) = (u32s b).map (Value.int .u32)) : a = b := by
  unfold u32s at h
  rw [List.map_map, List.map_map] at h
  refine List.map_inj_right (f := Value.int IntKind.u32 ∘ fun (m : Nat) => (m : Int)) (fun x y hxy => ?_) |>.1 h
  have hxy : (x : Int) = (y : Int) := by simpa using hxy
  exact Int.ofNat_inj.1 hxy
theorem piece_bound {V n k : Nat} (hV : V < 2 ^ (32 * n)) (h : ∀ j, j < k → pieceAt V j ≠ 0) : k ≤ 32 * n := by
  apply Classical.byContradiction
  intro hc
  exact h (32 * n) (by omega) (pieceAt_zero V _ hV)
end Go.Fw


set_option autoImplicit false
set_option linter.unusedVariables false
set_option maxRecDepth 100000
namespace Go.Fw
open Go.Proofs
def V324J1 (Q : Value → World → Prop) (x2 : Int) (x3 : Bool) (w4 : World) : Prop :=
bsel x3 (
Q (.tuple #[.pointer none, .int .i64 1]) w4) (
Calls Tryz.prog 359 #[.int .i64 x2] w4 fun e5 w6 => ∃ t7 : Value, e5 = .returned (t7) ∧
plK t7 (
newK w6 #[.int .i64 x2, t7] 440 fun a8 w9 =>
∃ t10 : Value, w9.cell? (a8.add 1) = some (t10) ∧
InvK Tryz.prog t10 "lexicon/cells.len" #[] w9 fun e11 w12 => ∃ t13 : Int, e11 = .returned (.int .i64 t13) ∧
∃ (I14 : Int → World → Prop) (μ15 : Int → World → Nat), I14 0 w12 ∧ ∀ (j18 : Fr) (i16 : Int) (w17 : World), I14 i16 w17 →
bsel (decide (i16 < t13)) (
∃ t19 : Value, w17.cell? (a8.add 1) = some (t19) ∧
InvK Tryz.prog t19 "lexicon/cells.set" #[.int .i64 i16, .int .i64 (-1)] w17 fun e20 w21 => ∃ t22 : Value, e20 = .returned (t22) ∧
(I14 (IntKind.wrap .i64 (i16 + 1)) w21 ∧ μ15 (IntKind.wrap .i64 (i16 + 1)) w21 < μ15 i16 w17)) (
Q (.tuple #[.pointer (some a8), .int .i64 0]) w17)))
def V324 (x1 : Int) (w : World) (Q : Value → World → Prop) : Prop :=
bsel (decide (x1 < 3)) (
V324J1 Q x1 true w) (
V324J1 Q x1 (decide (x1 > 20)) w)
def V324_ann : Nat → Ann := fun k => match k with | 0 => ⟨[4, 21], [(22, .int .i64)]⟩ | _ => ⟨[], []⟩
theorem V324_eq (x1 : Int) (w : World) (Q : Value → World → Prop) : (match Tryz.f324.body with | some c => wpC Tryz.prog Tryz.f324.ntmps V324_ann c 0 (resQ Tryz.prog Tryz.f324.ntmps Tryz.f324.results.toList Q) (argsF [.int .i64 x1]) w | none => False) = V324 x1 w Q := by kernel_rfl
theorem V324_sound (x1 : Int) (w : World) (Q : Value → World → Prop) (h : V324 x1 w Q) : Calls Tryz.prog 324 #[.int .i64 x1] w fun e w' => ∃ v, e = .returned v ∧ Q v w' :=
  sound_of Tryz.func324 V324_ann rfl ((V324_eq x1 w Q).mpr h)
def V359 (x1 : Int) (w : World) (Q : Value → World → Prop) : Prop :=
bsel (decide (x1 ≤ 7)) (
((0 : Int) ≤ x1) ∧
∃ w2 : World, ∃ t3 : Option Addr, ∃ t4 : Nat, ∃ t5 : Nat, (Instr.makeSlice 470 (.int .i64 (shl .i64 1 x1)) (.int .i64 (shl .i64 1 x1))).run Tryz.prog w = .ok (.slice t3 t4 t5) w2 ∧
Q (.iface 472 (.agg #[.slice t3 t4 t5, .int .i64 1])) w2) (
bsel (decide (x1 ≤ 15)) (
((0 : Int) ≤ x1) ∧
∃ w6 : World, ∃ t7 : Option Addr, ∃ t8 : Nat, ∃ t9 : Nat, (Instr.makeSlice 473 (.int .i64 (shl .i64 1 x1)) (.int .i64 (shl .i64 1 x1))).run Tryz.prog w = .ok (.slice t7 t8 t9) w6 ∧
Q (.iface 475 (.agg #[.slice t7 t8 t9, .int .i64 2])) w6) (
((0 : Int) ≤ x1) ∧
∃ w10 : World, ∃ t11 : Option Addr, ∃ t12 : Nat, ∃ t13 : Nat, (Instr.makeSlice 365 (.int .i64 (shl .i64 1 x1)) (.int .i64 (shl .i64 1 x1))).run Tryz.prog w = .ok (.slice t11 t12 t13) w10 ∧
Q (.iface 477 (.agg #[.slice t11 t12 t13, .int .i64 4])) w10))
def V359_ann : Nat → Ann := fun _ => ⟨[], []⟩
theorem V359_eq (x1 : Int) (w : World) (Q : Value → World → Prop) : (match Tryz.f359.body with | some c => wpC Tryz.prog Tryz.f359.ntmps V359_ann c 0 (resQ Tryz.prog Tryz.f359.ntmps Tryz.f359.results.toList Q) (argsF [.int .i64 x1]) w | none => False) = V359 x1 w Q := by kernel_rfl
theorem V359_sound (x1 : Int) (w : World) (Q : Value → World → Prop) (h : V359 x1 w Q) : Calls Tryz.prog 359 #[.int .i64 x1] w fun e w' => ∃ v, e = .returned v ∧ Q v w' :=
  sound_of Tryz.func359 V359_ann rfl ((V359_eq x1 w Q).mpr h)
def V334 (x1 : Option Addr) (w : World) (Q : Value → World → Prop) : Prop :=
bsel (Option.isNone x1) (
Q (.bool true) w) (
nilK x1 fun a4 =>
∃ t5 : Value, w.cell? (a4.add 1) = some (t5) ∧
eqNilI t5 fun b6 =>
Q (.bool b6) w)
def V334_ann : Nat → Ann := fun _ => ⟨[], []⟩
theorem V334_eq (x1 : Option Addr) (w : World) (Q : Value → World → Prop) : (match Tryz.f334.body with | some c => wpC Tryz.prog Tryz.f334.ntmps V334_ann c 0 (resQ Tryz.prog Tryz.f334.ntmps Tryz.f334.results.toList Q) (argsF [.pointer x1]) w | none => False) = V334 x1 w Q := by kernel_rfl
theorem V334_sound (x1 : Option Addr) (w : World) (Q : Value → World → Prop) (h : V334 x1 w Q) : Calls Tryz.prog 334 #[.pointer x1] w fun e w' => ∃ v, e = .returned v ∧ Q v w' :=
  sound_of Tryz.func334 V334_ann rfl ((V334_eq x1 w Q).mpr h)
def V335 (x1 : Option Addr) (x2 : Int) (w : World) (Q : Value → World → Prop) : Prop :=
Calls Tryz.prog 334 #[.pointer x1] w fun e3 w4 => ∃ t5 : Bool, e3 = .returned (.bool t5) ∧
bsel t5 (
Q (.int .i64 1) w4) (
bsel (decide (x2 < 0)) (
Q (.int .i64 5) w4) (
Calls Tryz.prog 362 #[.pointer x1] w4 fun e8 w9 => ∃ t10 : Int, e8 = .returned (.int .i64 t10) ∧
bsel (decide (x2 ≥ t10)) (
Q (.int .i64 5) w9) (
Q (.int .i64 0) w9)))
def V335_ann : Nat → Ann := fun _ => ⟨[], []⟩
theorem V335_eq (x1 : Option Addr) (x2 : Int) (w : World) (Q : Value → World → Prop) : (match Tryz.f335.body with | some c => wpC Tryz.prog Tryz.f335.ntmps V335_ann c 0 (resQ Tryz.prog Tryz.f335.ntmps Tryz.f335.results.toList Q) (argsF [.pointer x1, .int .i64 x2]) w | none => False) = V335 x1 x2 w Q := by kernel_rfl
theorem V335_sound (x1 : Option Addr) (x2 : Int) (w : World) (Q : Value → World → Prop) (h : V335 x1 x2 w Q) : Calls Tryz.prog 335 #[.pointer x1, .int .i64 x2] w fun e w' => ∃ v, e = .returned v ∧ Q v w' :=
  sound_of Tryz.func335 V335_ann rfl ((V335_eq x1 x2 w Q).mpr h)
def V289 (x1 : Option Addr) (w : World) (Q : Value → World → Prop) : Prop :=
Calls Tryz.prog 334 #[.pointer x1] w fun e2 w3 => ∃ t4 : Bool, e2 = .returned (.bool t4) ∧
bsel t4 (
Q (.int .i64 0) w3) (
nilK x1 fun a5 =>
∃ t6 : Int, w3.cell? (a5.add 0) = some (.int .i64 t6) ∧
Q (.int .i64 t6) w3)
def V289_ann : Nat → Ann := fun _ => ⟨[], []⟩
theorem V289_eq (x1 : Option Addr) (w : World) (Q : Value → World → Prop) : (match Tryz.f289.body with | some c => wpC Tryz.prog Tryz.f289.ntmps V289_ann c 0 (resQ Tryz.prog Tryz.f289.ntmps Tryz.f289.results.toList Q) (argsF [.pointer x1]) w | none => False) = V289 x1 w Q := by kernel_rfl
theorem V289_sound (x1 : Option Addr) (w : World) (Q : Value → World → Prop) (h : V289 x1 w Q) : Calls Tryz.prog 289 #[.pointer x1] w fun e w' => ∃ v, e = .returned v ∧ Q v w' :=
  sound_of Tryz.func289 V289_ann rfl ((V289_eq x1 w Q).mpr h)
def V362 (x1 : Option Addr) (w : World) (Q : Value → World → Prop) : Prop :=
Calls Tryz.prog 334 #[.pointer x1] w fun e2 w3 => ∃ t4 : Bool, e2 = .returned (.bool t4) ∧
bsel t4 (
Q (.int .i64 0) w3) (
nilK x1 fun a5 =>
∃ t6 : Value, w3.cell? (a5.add 1) = some (t6) ∧
InvK Tryz.prog t6 "lexicon/cells.len" #[] w3 fun e7 w8 => ∃ t9 : Int, e7 = .returned (.int .i64 t9) ∧
Q (.int .i64 t9) w8)
def V362_ann : Nat → Ann := fun _ => ⟨[], []⟩
theorem V362_eq (x1 : Option Addr) (w : World) (Q : Value → World → Prop) : (match Tryz.f362.body with | some c => wpC Tryz.prog Tryz.f362.ntmps V362_ann c 0 (resQ Tryz.prog Tryz.f362.ntmps Tryz.f362.results.toList Q) (argsF [.pointer x1]) w | none => False) = V362 x1 w Q := by kernel_rfl
theorem V362_sound (x1 : Option Addr) (w : World) (Q : Value → World → Prop) (h : V362 x1 w Q) : Calls Tryz.prog 362 #[.pointer x1] w fun e w' => ∃ v, e = .returned v ∧ Q v w' :=
  sound_of Tryz.func362 V362_ann rfl ((V362_eq x1 w Q).mpr h)
def V328 (x1 : Option Addr) (w : World) (Q : Value → World → Prop) : Prop :=
Calls Tryz.prog 362 #[.pointer x1] w fun e2 w3 => ∃ t4 : Int, e2 = .returned (.int .i64 t4) ∧
((3 : Int) ≠ 0) ∧
Q (.int .i64 (IntKind.wrap .i64 (Int.tdiv (IntKind.wrap .i64 (2 * t4)) 3))) w3
def V328_ann : Nat → Ann := fun _ => ⟨[], []⟩
theorem V328_eq (x1 : Option Addr) (w : World) (Q : Value → World → Prop) : (match Tryz.f328.body with | some c => wpC Tryz.prog Tryz.f328.ntmps V328_ann c 0 (resQ Tryz.prog Tryz.f328.ntmps Tryz.f328.results.toList Q) (argsF [.pointer x1]) w | none => False) = V328 x1 w Q := by kernel_rfl
theorem V328_sound (x1 : Option Addr) (w : World) (Q : Value → World → Prop) (h : V328 x1 w Q) : Calls Tryz.prog 328 #[.pointer x1] w fun e w' => ∃ v, e = .returned v ∧ Q v w' :=
  sound_of Tryz.func328 V328_ann rfl ((V328_eq x1 w Q).mpr h)
def V290 (x1 : Option Addr) (x2 : Int) (w : World) (Q : Value → World → Prop) : Prop :=
Calls Tryz.prog 335 #[.pointer x1, .int .i64 x2] w fun e3 w4 => ∃ t5 : Int, e3 = .returned (.int .i64 t5) ∧
bsel (t5 != 0) (
Q (.tuple #[.int .i64 0, .int .i64 t5]) w4) (
nilK x1 fun a6 =>
∃ t7 : Value, w4.cell? (a6.add 1) = some (t7) ∧
InvK Tryz.prog t7 "lexicon/cells.get" #[.int .i64 x2] w4 fun e8 w9 => ∃ t10 : Int, e8 = .returned (.int .i64 t10) ∧
Q (.tuple #[.int .i64 t10, .int .i64 0]) w9)
def V290_ann : Nat → Ann := fun _ => ⟨[], []⟩
theorem V290_eq (x1 : Option Addr) (x2 : Int) (w : World) (Q : Value → World → Prop) : (match Tryz.f290.body with | some c => wpC Tryz.prog Tryz.f290.ntmps V290_ann c 0 (resQ Tryz.prog Tryz.f290.ntmps Tryz.f290.results.toList Q) (argsF [.pointer x1, .int .i64 x2]) w | none => False) = V290 x1 x2 w Q := by kernel_rfl
theorem V290_sound (x1 : Option Addr) (x2 : Int) (w : World) (Q : Value → World → Prop) (h : V290 x1 x2 w Q) : Calls Tryz.prog 290 #[.pointer x1, .int .i64 x2] w fun e w' => ∃ v, e = .returned v ∧ Q v w' :=
  sound_of Tryz.func290 V290_ann rfl ((V290_eq x1 x2 w Q).mpr h)
def V327 (x1 : Option Addr) (x2 : Int) (x3 : Int) (w : World) (Q : Value → World → Prop) : Prop :=
Calls Tryz.prog 335 #[.pointer x1, .int .i64 x2] w fun e4 w5 => ∃ t6 : Int, e4 = .returned (.int .i64 t6) ∧
bsel (t6 != 0) (
Q (.int .i64 t6) w5) (
Calls Tryz.prog 361 #[.pointer x1, .int .i64 x3] w5 fun e7 w8 => ∃ t9 : Bool, e7 = .returned (.bool t9) ∧
bsel (!t9) (
Q (.int .i64 1) w8) (
nilK x1 fun a10 =>
∃ t11 : Value, w8.cell? (a10.add 1) = some (t11) ∧
InvK Tryz.prog t11 "lexicon/cells.set" #[.int .i64 x2, .int .i64 x3] w8 fun e12 w13 => ∃ t14 : Value, e12 = .returned (t14) ∧
Q (.int .i64 0) w13))
def V327_ann : Nat → Ann := fun _ => ⟨[], []⟩
theorem V327_eq (x1 : Option Addr) (x2 : Int) (x3 : Int) (w : World) (Q : Value → World → Prop) : (match Tryz.f327.body with | some c => wpC Tryz.prog Tryz.f327.ntmps V327_ann c 0 (resQ Tryz.prog Tryz.f327.ntmps Tryz.f327.results.toList Q) (argsF [.pointer x1, .int .i64 x2, .int .i64 x3]) w | none => False) = V327 x1 x2 x3 w Q := by kernel_rfl
theorem V327_sound (x1 : Option Addr) (x2 : Int) (x3 : Int) (w : World) (Q : Value → World → Prop) (h : V327 x1 x2 x3 w Q) : Calls Tryz.prog 327 #[.pointer x1, .int .i64 x2, .int .i64 x3] w fun e w' => ∃ v, e = .returned v ∧ Q v w' :=
  sound_of Tryz.func327 V327_ann rfl ((V327_eq x1 x2 x3 w Q).mpr h)
def V361 (x1 : Option Addr) (x2 : Int) (w : World) (Q : Value → World → Prop) : Prop :=
bsel (x2 == (-1)) (
Q (.bool true) w) (
bsel (x2 == (-2)) (
Q (.bool true) w) (
bsel (decide (x2 ≥ 0)) (
Calls Tryz.prog 328 #[.pointer x1] w fun e5 w6 => ∃ t7 : Int, e5 = .returned (.int .i64 t7) ∧
Q (.bool (decide (x2 < t7))) w6) (
Q (.bool false) w)))
def V361_ann : Nat → Ann := fun _ => ⟨[], []⟩
theorem V361_eq (x1 : Option Addr) (x2 : Int) (w : World) (Q : Value → World → Prop) : (match Tryz.f361.body with | some c => wpC Tryz.prog Tryz.f361.ntmps V361_ann c 0 (resQ Tryz.prog Tryz.f361.ntmps Tryz.f361.results.toList Q) (argsF [.pointer x1, .int .i64 x2]) w | none => False) = V361 x1 x2 w Q := by kernel_rfl
theorem V361_sound (x1 : Option Addr) (x2 : Int) (w : World) (Q : Value → World → Prop) (h : V361 x1 x2 w Q) : Calls Tryz.prog 361 #[.pointer x1, .int .i64 x2] w fun e w' => ∃ v, e = .returned v ∧ Q v w' :=
  sound_of Tryz.func361 V361_ann rfl ((V361_eq x1 x2 w Q).mpr h)
def V276 (x1 : Option Addr) (x2 : Int) (w : World) (Q : Value → World → Prop) : Prop :=
Calls Tryz.prog 324 #[.int .i64 x2] w fun e3 w4 => ∃ t5 : Option Addr, ∃ t6 : Int, e3 = .returned (.tuple #[.pointer t5, .int .i64 t6]) ∧
nilK x1 fun a7 =>
stK w4 (a7.add 2) (.pointer t5) fun w8 =>
nilK x1 fun a9 =>
∃ t10 : Int, w8.cell? (a9.add 5) = some (.int .i64 t10) ∧
nilK x1 fun a11 =>
stK w8 (a11.add 5) (.int .i64 (IntKind.wrap .i64 (t10 + 1))) fun w12 =>
nilK x1 fun a13 =>
∃ t14 : Option Addr, w12.cell? (a13.add 0) = some (.pointer t14) ∧
Calls Tryz.prog 325 #[.pointer t14] w12 fun e15 w16 => ∃ t17 : Value, e15 = .returned (t17) ∧
Q (.tuple #[]) w16
def V276_ann : Nat → Ann := fun _ => ⟨[], []⟩
theorem V276_eq (x1 : Option Addr) (x2 : Int) (w : World) (Q : Value → World → Prop) : (match Tryz.f276.body with | some c => wpC Tryz.prog Tryz.f276.ntmps V276_ann c 0 (resQ Tryz.prog Tryz.f276.ntmps Tryz.f276.results.toList Q) (argsF [.pointer x1, .int .i64 x2]) w | none => False) = V276 x1 x2 w Q := by kernel_rfl
theorem V276_sound (x1 : Option Addr) (x2 : Int) (w : World) (Q : Value → World → Prop) (h : V276 x1 x2 w Q) : Calls Tryz.prog 276 #[.pointer x1, .int .i64 x2] w fun e w' => ∃ v, e = .returned v ∧ Q v w' :=
  sound_of Tryz.func276 V276_ann rfl ((V276_eq x1 x2 w Q).mpr h)
def V325 (x1 : Option Addr) (w : World) (Q : Value → World → Prop) : Prop :=
Calls Tryz.prog 336 #[.pointer x1, .int .i64 0, .int .i64 1] w fun e2 w3 => ∃ t4 : Value, e2 = .returned (t4) ∧
Q (.tuple #[]) w3
def V325_ann : Nat → Ann := fun _ => ⟨[], []⟩
theorem V325_eq (x1 : Option Addr) (w : World) (Q : Value → World → Prop) : (match Tryz.f325.body with | some c => wpC Tryz.prog Tryz.f325.ntmps V325_ann c 0 (resQ Tryz.prog Tryz.f325.ntmps Tryz.f325.results.toList Q) (argsF [.pointer x1]) w | none => False) = V325 x1 w Q := by kernel_rfl
theorem V325_sound (x1 : Option Addr) (w : World) (Q : Value → World → Prop) (h : V325 x1 w Q) : Calls Tryz.prog 325 #[.pointer x1] w fun e w' => ∃ v, e = .returned v ∧ Q v w' :=
  sound_of Tryz.func325 V325_ann rfl ((V325_eq x1 w Q).mpr h)
def V336J1 (Q : Value → World → Prop) (x4 : Option Addr) (x5 : Int) (x6 : Int) (x7 : Bool) (w8 : World) : Prop :=
bsel x7 (
nilK x4 fun a9 =>
aidxK (a9.add 0) 4 x5 1 fun a10 =>
Calls Tryz.prog 363 #[.pointer (some a10), .int .i64 x6] w8 fun e11 w12 => ∃ t13 : Int, e11 = .returned (.int .i64 t13) ∧
Q (.tuple #[]) w12) (
Q (.tuple #[]) w8)
def V336 (x1 : Option Addr) (x2 : Int) (x3 : Int) (w : World) (Q : Value → World → Prop) : Prop :=
bsel (!(Option.isNone x1)) (
bsel (decide (x3 ≥ 1)) (
V336J1 Q x1 x2 x3 (decide (x3 ≤ 2147483647)) w) (
V336J1 Q x1 x2 x3 false w)) (
V336J1 Q x1 x2 x3 false w)
def V336_ann : Nat → Ann := fun _ => ⟨[], []⟩
theorem V336_eq (x1 : Option Addr) (x2 : Int) (x3 : Int) (w : World) (Q : Value → World → Prop) : (match Tryz.f336.body with | some c => wpC Tryz.prog Tryz.f336.ntmps V336_ann c 0 (resQ Tryz.prog Tryz.f336.ntmps Tryz.f336.results.toList Q) (argsF [.pointer x1, .int .i64 x2, .int .i64 x3]) w | none => False) = V336 x1 x2 x3 w Q := by kernel_rfl
theorem V336_sound (x1 : Option Addr) (x2 : Int) (x3 : Int) (w : World) (Q : Value → World → Prop) (h : V336 x1 x2 x3 w Q) : Calls Tryz.prog 336 #[.pointer x1, .int .i64 x2, .int .i64 x3] w fun e w' => ∃ v, e = .returned v ∧ Q v w' :=
  sound_of Tryz.func336 V336_ann rfl ((V336_eq x1 x2 x3 w Q).mpr h)
def V287 (x1 : Option Addr) (w : World) (Q : Value → World → Prop) : Prop :=
nilK x1 fun a2 =>
∃ t3 : Option Addr, w.cell? (a2.add 2) = some (.pointer t3) ∧
bsel (Option.isNone t3) (
Calls Tryz.prog 276 #[.pointer x1, .int .i64 3] w fun e4 w5 => ∃ t6 : Value, e4 = .returned (t6) ∧
Q (.tuple #[]) w5) (
Q (.tuple #[]) w)
def V287_ann : Nat → Ann := fun _ => ⟨[], []⟩
theorem V287_eq (x1 : Option Addr) (w : World) (Q : Value → World → Prop) : (match Tryz.f287.body with | some c => wpC Tryz.prog Tryz.f287.ntmps V287_ann c 0 (resQ Tryz.prog Tryz.f287.ntmps Tryz.f287.results.toList Q) (argsF [.pointer x1]) w | none => False) = V287 x1 w Q := by kernel_rfl
theorem V287_sound (x1 : Option Addr) (w : World) (Q : Value → World → Prop) (h : V287 x1 w Q) : Calls Tryz.prog 287 #[.pointer x1] w fun e w' => ∃ v, e = .returned v ∧ Q v w' :=
  sound_of Tryz.func287 V287_ann rfl ((V287_eq x1 w Q).mpr h)
def V214 (x1 : Option Addr) (w : World) (Q : Value → World → Prop) : Prop :=
newK w #[.pointer x1, .slice none 0 0, .pointer none, .int .i64 0, .int .i64 0, .int .i64 0, .int .i64 0] 315 fun a2 w3 =>
Calls Tryz.prog 276 #[.pointer (some a2), .int .i64 3] w3 fun e4 w5 => ∃ t6 : Value, e4 = .returned (t6) ∧
Q (.pointer (some a2)) w5
def V214_ann : Nat → Ann := fun _ => ⟨[], []⟩
theorem V214_eq (x1 : Option Addr) (w : World) (Q : Value → World → Prop) : (match Tryz.f214.body with | some c => wpC Tryz.prog Tryz.f214.ntmps V214_ann c 0 (resQ Tryz.prog Tryz.f214.ntmps Tryz.f214.results.toList Q) (argsF [.pointer x1]) w | none => False) = V214 x1 w Q := by kernel_rfl
theorem V214_sound (x1 : Option Addr) (w : World) (Q : Value → World → Prop) (h : V214 x1 w Q) : Calls Tryz.prog 214 #[.pointer x1] w fun e w' => ∃ v, e = .returned v ∧ Q v w' :=
  sound_of Tryz.func214 V214_ann rfl ((V214_eq x1 w Q).mpr h)
def V288J1 (Q : Value → World → Prop) (x3 : Int) (x4 : Int) (x5 : Bool) (w6 : World) : Prop :=
bsel x5 (
Q (.int .i64 0) w6) (
((0 : Int) ≤ x4) ∧
Q (.int .i64 (IntKind.wrap .i64 (bAnd .u64 (IntKind.wrap .u64 x3) (IntKind.wrap .u64 (shl .u64 1 x4 - 1))))) w6)
def V288 (x1 : Int) (x2 : Int) (w : World) (Q : Value → World → Prop) : Prop :=
bsel (decide (x2 < 0)) (
V288J1 Q x1 x2 true w) (
V288J1 Q x1 x2 (decide (x2 > 20)) w)
def V288_ann : Nat → Ann := fun _ => ⟨[], []⟩
theorem V288_eq (x1 : Int) (x2 : Int) (w : World) (Q : Value → World → Prop) : (match Tryz.f288.body with | some c => wpC Tryz.prog Tryz.f288.ntmps V288_ann c 0 (resQ Tryz.prog Tryz.f288.ntmps Tryz.f288.results.toList Q) (argsF [.int .i64 x1, .int .i64 x2]) w | none => False) = V288 x1 x2 w Q := by kernel_rfl
theorem V288_sound (x1 : Int) (x2 : Int) (w : World) (Q : Value → World → Prop) (h : V288 x1 x2 w Q) : Calls Tryz.prog 288 #[.int .i64 x1, .int .i64 x2] w fun e w' => ∃ v, e = .returned v ∧ Q v w' :=
  sound_of Tryz.func288 V288_ann rfl ((V288_eq x1 x2 w Q).mpr h)
def V218 (x1 : Option Addr) (x2 : Int) (w : World) (Q : Value → World → Prop) : Prop :=
bsel (Option.isNone x1) (
Q (.pointer none) w) (
Calls Tryz.prog 287 #[.pointer x1] w fun e3 w4 => ∃ t5 : Value, e3 = .returned (t5) ∧
nilK x1 fun a6 =>
∃ t7 : Option Addr, w4.drew.cell? (a6.add 2) = some (.pointer t7) ∧
nilK x1 fun a8 =>
∃ t9 : Int, w4.drew.cell? (a8.add 6) = some (.int .i64 t9) ∧
Calls Tryz.prog 289 #[.pointer t7] w4.drew fun e10 w11 => ∃ t12 : Int, e10 = .returned (.int .i64 t12) ∧
(w11.cell? (a8.add 6) = some (.int .i64 t9)) ∧
Calls Tryz.prog 288 #[.int .i64 x2, .int .i64 t12] w11 fun e13 w14 => ∃ t15 : Int, e13 = .returned (.int .i64 t15) ∧
(w14.cell? (a8.add 6) = some (.int .i64 t9)) ∧
newK w14 #[.pointer x1, .int .i64 x2, .int .i64 t15, .int .u64 (IntKind.wrap .u64 x2), .int .i64 t9, .int .i64 0, .int .i64 (-1), .bool false] 395 fun a16 w17 =>
Q (.pointer (some a16)) w17)
def V218_ann : Nat → Ann := fun _ => ⟨[], []⟩
theorem V218_eq (x1 : Option Addr) (x2 : Int) (w : World) (Q : Value → World → Prop) : (match Tryz.f218.body with | some c => wpC Tryz.prog Tryz.f218.ntmps V218_ann c 0 (resQ Tryz.prog Tryz.f218.ntmps Tryz.f218.results.toList Q) (argsF [.pointer x1, .int .i64 x2]) w | none => False) = V218 x1 x2 w Q := by kernel_rfl
theorem V218_sound (x1 : Option Addr) (x2 : Int) (w : World) (Q : Value → World → Prop) (h : V218 x1 x2 w Q) : Calls Tryz.prog 218 #[.pointer x1, .int .i64 x2] w fun e w' => ∃ v, e = .returned v ∧ Q v w' :=
  sound_of Tryz.func218 V218_ann rfl ((V218_eq x1 x2 w Q).mpr h)
def V292 (x1 : Option Addr) (w : World) (Q : Value → World → Prop) : Prop :=
nilK x1 fun a2 =>
∃ t3 : Int, w.cell? (a2.add 3) = some (.int .u64 t3) ∧
((0 : Int) ≤ 5) ∧
nilK x1 fun a4 =>
stK w (a4.add 3) (.int .u64 (shr .u64 t3 5)) fun w5 =>
nilK x1 fun a6 =>
∃ t7 : Int, w5.drew.cell? (a6.add 2) = some (.int .i64 t7) ∧
nilK x1 fun a8 =>
∃ t9 : Int, w5.drew.cell? (a8.add 3) = some (.int .u64 t9) ∧
nilK x1 fun a10 =>
∃ t11 : Option Addr, w5.drew.cell? (a10.add 0) = some (.pointer t11) ∧
nilK t11 fun a12 =>
∃ t13 : Option Addr, w5.drew.cell? (a12.add 2) = some (.pointer t13) ∧
Calls Tryz.prog 289 #[.pointer t13] w5.drew fun e14 w15 => ∃ t16 : Int, e14 = .returned (.int .i64 t16) ∧
(w15.cell? (a8.add 3) = some (.int .u64 t9)) ∧
(w15.cell? (a6.add 2) = some (.int .i64 t7)) ∧
((0 : Int) ≤ t16) ∧
nilK x1 fun a17 =>
stK w15 (a17.add 2) (.int .i64 (IntKind.wrap .i64 (bAnd .u64 (IntKind.wrap .u64 (IntKind.wrap .u64 (IntKind.wrap .u64 (5 * IntKind.wrap .u64 t7) + t9) + 1)) (IntKind.wrap .u64 (shl .u64 1 t16 - 1))))) fun w18 =>
Q (.tuple #[]) w18
def V292_ann : Nat → Ann := fun _ => ⟨[], []⟩
theorem V292_eq (x1 : Option Addr) (w : World) (Q : Value → World → Prop) : (match Tryz.f292.body with | some c => wpC Tryz.prog Tryz.f292.ntmps V292_ann c 0 (resQ Tryz.prog Tryz.f292.ntmps Tryz.f292.results.toList Q) (argsF [.pointer x1]) w | none => False) = V292 x1 w Q := by kernel_rfl
theorem V292_sound (x1 : Option Addr) (w : World) (Q : Value → World → Prop) (h : V292 x1 w Q) : Calls Tryz.prog 292 #[.pointer x1] w fun e w' => ∃ v, e = .returned v ∧ Q v w' :=
  sound_of Tryz.func292 V292_ann rfl ((V292_eq x1 w Q).mpr h)
def V291 (x1 : Option Addr) (x2 : Int) (w : World) (Q : Value → World → Prop) : Prop :=
Calls Tryz.prog 336 #[.pointer x1, .int .i64 1, .int .i64 x2] w fun e3 w4 => ∃ t5 : Value, e3 = .returned (t5) ∧
Q (.tuple #[]) w4
def V291_ann : Nat → Ann := fun _ => ⟨[], []⟩
theorem V291_eq (x1 : Option Addr) (x2 : Int) (w : World) (Q : Value → World → Prop) : (match Tryz.f291.body with | some c => wpC Tryz.prog Tryz.f291.ntmps V291_ann c 0 (resQ Tryz.prog Tryz.f291.ntmps Tryz.f291.results.toList Q) (argsF [.pointer x1, .int .i64 x2]) w | none => False) = V291 x1 x2 w Q := by kernel_rfl
theorem V291_sound (x1 : Option Addr) (x2 : Int) (w : World) (Q : Value → World → Prop) (h : V291 x1 x2 w Q) : Calls Tryz.prog 291 #[.pointer x1, .int .i64 x2] w fun e w' => ∃ v, e = .returned v ∧ Q v w' :=
  sound_of Tryz.func291 V291_ann rfl ((V291_eq x1 x2 w Q).mpr h)
def V220J1 (Q : Value → World → Prop) (x9 : Option Addr) (w10 : World) : Prop :=
∃ (I11 : World → Prop) (μ12 : World → Nat), I11  w10 ∧ ∀ (j14 : Fr)  (w13 : World), I11  w13 →
nilK x9 fun a15 =>
∃ t16 : Bool, w13.cell? (a15.add 7) = some (.bool t16) ∧
bsel (!t16) (
nilK x9 fun a17 =>
∃ t18 : Option Addr, w13.drew.cell? (a17.add 0) = some (.pointer t18) ∧
nilK t18 fun a19 =>
∃ t20 : Option Addr, w13.drew.cell? (a19.add 2) = some (.pointer t20) ∧
nilK x9 fun a21 =>
∃ t22 : Int, w13.drew.cell? (a21.add 2) = some (.int .i64 t22) ∧
Calls Tryz.prog 290 #[.pointer t20, .int .i64 t22] w13.drew fun e23 w24 => ∃ t25 : Int, ∃ t26 : Int, e23 = .returned (.tuple #[.int .i64 t25, .int .i64 t26]) ∧
nilK x9 fun a27 =>
∃ t28 : Int, w24.cell? (a27.add 5) = some (.int .i64 t28) ∧
nilK x9 fun a29 =>
stK w24 (a29.add 5) (.int .i64 (IntKind.wrap .i64 (t28 + 1))) fun w30 =>
nilK x9 fun a31 =>
∃ t32 : Option Addr, w30.cell? (a31.add 0) = some (.pointer t32) ∧
nilK t32 fun a33 =>
∃ t34 : Option Addr, w30.cell? (a33.add 0) = some (.pointer t34) ∧
Calls Tryz.prog 291 #[.pointer t34, .int .i64 1] w30 fun e35 w36 => ∃ t37 : Value, e35 = .returned (t37) ∧
bsel (t25 == (-1)) (
nilK x9 fun a38 =>
stK w36 (a38.add 7) (.bool true) fun w39 =>
Q (.tuple #[.int .i64 (-1), .bool false]) w39) (
Calls Tryz.prog 292 #[.pointer x9] w36 fun e41 w42 => ∃ t43 : Value, e41 = .returned (t43) ∧
nilK x9 fun a44 =>
∃ t45 : Int, w42.drew.cell? (a44.add 6) = some (.int .i64 t45) ∧
bsel (decide (t25 > t45)) (
nilK x9 fun a46 =>
∃ t47 : Option Addr, w42.drew.cell? (a46.add 0) = some (.pointer t47) ∧
nilK t47 fun a48 =>
∃ t49 : Option Addr, ∃ t50 : Nat, ∃ t51 : Nat, w42.drew.cell? (a48.add 1) = some (.slice t49 t50 t51) ∧
idxK t49 t50 t25 5 fun a52 =>
∃ t53 : Int, w42.drew.cell? (a52.add 1) = some (.int .i64 t53) ∧
nilK x9 fun a54 =>
∃ t55 : Int, w42.drew.cell? (a54.add 1) = some (.int .i64 t55) ∧
bsel (t53 == t55) (
nilK x9 fun a62 =>
stK w42.drew (a62.add 6) (.int .i64 t25) fun w63 =>
Q (.tuple #[.int .i64 t25, .bool true]) w63) (
(I11  w42.drew ∧ μ12  w42.drew < μ12  w13))) (
(I11  w42.drew ∧ μ12  w42.drew < μ12  w13)))) (
Q (.tuple #[.int .i64 (-1), .bool false]) w13)
def V220J2 (Q : Value → World → Prop) (x2 : Option Addr) (x3 : Bool) (w4 : World) : Prop :=
bsel x3 (
Q (.tuple #[.int .i64 (-1), .bool false]) w4) (
nilK x2 fun a5 =>
∃ t6 : Bool, w4.drew.cell? (a5.add 7) = some (.bool t6) ∧
bsel t6 (
nilK x2 fun a7 =>
stK w4.drew (a7.add 7) (.bool true) fun w8 =>
V220J1 Q x2 w8) (
nilK x2 fun a64 =>
∃ t65 : Int, w4.drew.cell? (a64.add 4) = some (.int .i64 t65) ∧
nilK x2 fun a66 =>
∃ t67 : Option Addr, w4.drew.cell? (a66.add 0) = some (.pointer t67) ∧
nilK t67 fun a68 =>
∃ t69 : Int, w4.drew.cell? (a68.add 6) = some (.int .i64 t69) ∧
nilK x2 fun a70 =>
stK w4.drew (a70.add 7) (.bool (t65 != t69)) fun w71 =>
V220J1 Q x2 w71))
def V220 (x1 : Option Addr) (w : World) (Q : Value → World → Prop) : Prop :=
bsel (Option.isNone x1) (
V220J2 Q x1 true w) (
nilK x1 fun a72 =>
∃ t73 : Option Addr, w.cell? (a72.add 0) = some (.pointer t73) ∧
V220J2 Q x1 (Option.isNone t73) w)
def V220_ann : Nat → Ann := fun k => match k with | 0 => ⟨[0], []⟩ | _ => ⟨[], []⟩
theorem V220_eq (x1 : Option Addr) (w : World) (Q : Value → World → Prop) : (match Tryz.f220.body with | some c => wpC Tryz.prog Tryz.f220.ntmps V220_ann c 0 (resQ Tryz.prog Tryz.f220.ntmps Tryz.f220.results.toList Q) (argsF [.pointer x1]) w | none => False) = V220 x1 w Q := by kernel_rfl
theorem V220_sound (x1 : Option Addr) (w : World) (Q : Value → World → Prop) (h : V220 x1 w Q) : Calls Tryz.prog 220 #[.pointer x1] w fun e w' => ∃ v, e = .returned v ∧ Q v w' :=
  sound_of Tryz.func220 V220_ann rfl ((V220_eq x1 w Q).mpr h)
def V121 (x1 : Option Addr) (w : World) (Q : Value → World → Prop) : Prop :=
bsel (Option.isNone x1) (
Q (.int .i64 0) w) (
nilK x1 fun a2 =>
∃ t3 : Int, w.cell? (a2.add 3) = some (.int .i64 t3) ∧
Q (.int .i64 t3) w)
def V121_ann : Nat → Ann := fun _ => ⟨[], []⟩
theorem V121_eq (x1 : Option Addr) (w : World) (Q : Value → World → Prop) : (match Tryz.f121.body with | some c => wpC Tryz.prog Tryz.f121.ntmps V121_ann c 0 (resQ Tryz.prog Tryz.f121.ntmps Tryz.f121.results.toList Q) (argsF [.pointer x1]) w | none => False) = V121 x1 w Q := by kernel_rfl
theorem V121_sound (x1 : Option Addr) (w : World) (Q : Value → World → Prop) (h : V121 x1 w Q) : Calls Tryz.prog 121 #[.pointer x1] w fun e w' => ∃ v, e = .returned v ∧ Q v w' :=
  sound_of Tryz.func121 V121_ann rfl ((V121_eq x1 w Q).mpr h)
def V293 (x1 : Option Addr) (x2 : Int) (w : World) (Q : Value → World → Prop) : Prop :=
bsel (Option.isNone x1) (
Q (.int .i64 1) w) (
bsel (decide (x2 < 0)) (
Q (.int .i64 7) w) (
nilK x1 fun a5 =>
∃ t6 : Option Addr, ∃ t7 : Nat, ∃ t8 : Nat, w.cell? (a5.add 1) = some (.slice t6 t7 t8) ∧
bsel (decide (x2 ≥ (t7 : Int))) (
Q (.int .i64 7) w) (
nilK x1 fun a9 =>
∃ t10 : Option Addr, ∃ t11 : Nat, ∃ t12 : Nat, w.cell? (a9.add 1) = some (.slice t10 t11 t12) ∧
idxK t10 t11 x2 5 fun a13 =>
∃ t14 : Bool, w.cell? (a13.add 0) = some (.bool t14) ∧
bsel (!t14) (
Q (.int .i64 7) w) (
Q (.int .i64 0) w))))
def V293_ann : Nat → Ann := fun _ => ⟨[], []⟩
theorem V293_eq (x1 : Option Addr) (x2 : Int) (w : World) (Q : Value → World → Prop) : (match Tryz.f293.body with | some c => wpC Tryz.prog Tryz.f293.ntmps V293_ann c 0 (resQ Tryz.prog Tryz.f293.ntmps Tryz.f293.results.toList Q) (argsF [.pointer x1, .int .i64 x2]) w | none => False) = V293 x1 x2 w Q := by kernel_rfl
theorem V293_sound (x1 : Option Addr) (x2 : Int) (w : World) (Q : Value → World → Prop) (h : V293 x1 x2 w Q) : Calls Tryz.prog 293 #[.pointer x1, .int .i64 x2] w fun e w' => ∃ v, e = .returned v ∧ Q v w' :=
  sound_of Tryz.func293 V293_ann rfl ((V293_eq x1 x2 w Q).mpr h)
def V222 (x1 : Option Addr) (x2 : Int) (w : World) (Q : Value → World → Prop) : Prop :=
newK w #[.bool false, .int .i64 0, .int .i64 0, .int .i64 0, .int .i64 0] 295 fun a3 w4 =>
Calls Tryz.prog 293 #[.pointer x1, .int .i64 x2] w4 fun e5 w6 => ∃ t7 : Int, e5 = .returned (.int .i64 t7) ∧
bsel (t7 != 0) (
stK w6 (a3.add 0) (.bool false) fun w8 =>
stK w8 (a3.add 1) (.int .i64 0) fun w9 =>
stK w9 (a3.add 2) (.int .i64 0) fun w10 =>
stK w10 (a3.add 3) (.int .i64 0) fun w11 =>
stK w11 (a3.add 4) (.int .i64 0) fun w12 =>
∃ t13 : Bool, ∃ t14 : Int, ∃ t15 : Int, ∃ t16 : Int, ∃ t17 : Int, CellsAt w12 a3 [.bool t13, .int .i64 t14, .int .i64 t15, .int .i64 t16, .int .i64 t17] ∧
Q (.tuple #[.agg #[.bool t13, .int .i64 t14, .int .i64 t15, .int .i64 t16, .int .i64 t17], .int .i64 t7]) w12) (
nilK x1 fun a18 =>
∃ t19 : Option Addr, ∃ t20 : Nat, ∃ t21 : Nat, w6.cell? (a18.add 1) = some (.slice t19 t20 t21) ∧
idxK t19 t20 x2 5 fun a22 =>
∃ t23 : Bool, ∃ t24 : Int, ∃ t25 : Int, ∃ t26 : Int, ∃ t27 : Int, CellsAt w6 a22 [.bool t23, .int .i64 t24, .int .i64 t25, .int .i64 t26, .int .i64 t27] ∧
stK w6 (a3.add 0) (.bool t23) fun w28 =>
stK w28 (a3.add 1) (.int .i64 t24) fun w29 =>
stK w29 (a3.add 2) (.int .i64 t25) fun w30 =>
stK w30 (a3.add 3) (.int .i64 t26) fun w31 =>
stK w31 (a3.add 4) (.int .i64 t27) fun w32 =>
∃ t33 : Bool, ∃ t34 : Int, ∃ t35 : Int, ∃ t36 : Int, ∃ t37 : Int, CellsAt w32 a3 [.bool t33, .int .i64 t34, .int .i64 t35, .int .i64 t36, .int .i64 t37] ∧
Q (.tuple #[.agg #[.bool t33, .int .i64 t34, .int .i64 t35, .int .i64 t36, .int .i64 t37], .int .i64 0]) w32)
def V222_ann : Nat → Ann := fun _ => ⟨[], []⟩
theorem V222_eq (x1 : Option Addr) (x2 : Int) (w : World) (Q : Value → World → Prop) : (match Tryz.f222.body with | some c => wpC Tryz.prog Tryz.f222.ntmps V222_ann c 0 (resQ Tryz.prog Tryz.f222.ntmps Tryz.f222.results.toList Q) (argsF [.pointer x1, .int .i64 x2]) w | none => False) = V222 x1 x2 w Q := by kernel_rfl
theorem V222_sound (x1 : Option Addr) (x2 : Int) (w : World) (Q : Value → World → Prop) (h : V222 x1 x2 w Q) : Calls Tryz.prog 222 #[.pointer x1, .int .i64 x2] w fun e w' => ∃ v, e = .returned v ∧ Q v w' :=
  sound_of Tryz.func222 V222_ann rfl ((V222_eq x1 x2 w Q).mpr h)
def V280 (x1 : Option Addr) (x2 : Int) (x3 : Int) (w : World) (Q : Value → World → Prop) : Prop :=
Calls Tryz.prog 293 #[.pointer x1, .int .i64 x2] w fun e4 w5 => ∃ t6 : Int, e4 = .returned (.int .i64 t6) ∧
bsel (t6 == 0) (
nilK x1 fun a7 =>
∃ t8 : Option Addr, ∃ t9 : Nat, ∃ t10 : Nat, w5.cell? (a7.add 1) = some (.slice t8 t9 t10) ∧
idxK t8 t9 x2 5 fun a11 =>
stK w5 (a11.add 3) (.int .i64 x3) fun w12 =>
Q (.int .i64 t6) w12) (
Q (.int .i64 t6) w5)
def V280_ann : Nat → Ann := fun _ => ⟨[], []⟩
theorem V280_eq (x1 : Option Addr) (x2 : Int) (x3 : Int) (w : World) (Q : Value → World → Prop) : (match Tryz.f280.body with | some c => wpC Tryz.prog Tryz.f280.ntmps V280_ann c 0 (resQ Tryz.prog Tryz.f280.ntmps Tryz.f280.results.toList Q) (argsF [.pointer x1, .int .i64 x2, .int .i64 x3]) w | none => False) = V280 x1 x2 x3 w Q := by kernel_rfl
theorem V280_sound (x1 : Option Addr) (x2 : Int) (x3 : Int) (w : World) (Q : Value → World → Prop) (h : V280 x1 x2 x3 w Q) : Calls Tryz.prog 280 #[.pointer x1, .int .i64 x2, .int .i64 x3] w fun e w' => ∃ v, e = .returned v ∧ Q v w' :=
  sound_of Tryz.func280 V280_ann rfl ((V280_eq x1 x2 x3 w Q).mpr h)
def V326 (x1 : Int) (x2 : Int) (w : World) (Q : Value → World → Prop) : Prop :=
newK w #[.int .i64 x1] 3 fun a3 w4 =>
newK w4 #[.int .i64 x2] 3 fun a5 w6 =>
Q (.func (.func 360) #[] #[.pointer (some a5), .pointer (some a3)]) w6
def V326_ann : Nat → Ann := fun _ => ⟨[], []⟩
theorem V326_eq (x1 : Int) (x2 : Int) (w : World) (Q : Value → World → Prop) : (match Tryz.f326.body with | some c => wpC Tryz.prog Tryz.f326.ntmps V326_ann c 0 (resQ Tryz.prog Tryz.f326.ntmps Tryz.f326.results.toList Q) (argsF [.int .i64 x1, .int .i64 x2]) w | none => False) = V326 x1 x2 w Q := by kernel_rfl
theorem V326_sound (x1 : Int) (x2 : Int) (w : World) (Q : Value → World → Prop) (h : V326 x1 x2 w Q) : Calls Tryz.prog 326 #[.int .i64 x1, .int .i64 x2] w fun e w' => ∃ v, e = .returned v ∧ Q v w' :=
  sound_of Tryz.func326 V326_ann rfl ((V326_eq x1 x2 w Q).mpr h)
def V360J1 (Q : Value → World → Prop) (x5 : Value) (x6 : Addr) (x7 : Addr) (x8 : Bool) (w9 : World) : Prop :=
bsel x8 (
Q (.tuple #[]) w9) (
∃ t10 : Int, w9.cell? x6 = some (.int .i64 t10) ∧
((0 : Int) ≤ t10) ∧
∃ t11 : Int, w9.cell? x7 = some (.int .i64 t11) ∧
∃ t12 : Int, w9.cell? x6 = some (.int .i64 t12) ∧
((0 : Int) ≤ t12) ∧
∃ (I13 : Int → Int → Int → World → Prop) (μ14 : Int → Int → Int → World → Nat), I13 (IntKind.wrap .u64 t11) (bAnd .u64 (IntKind.wrap .u64 t11) (IntKind.wrap .u64 (shl .u64 1 t10 - 1))) 0 w9 ∧ ∀ (j19 : Fr) (i15 : Int) (i16 : Int) (i17 : Int) (w18 : World), I13 i15 i16 i17 w18 →
bsel (decide (i17 < IntKind.wrap .i64 (shl .i64 1 t12 + 13))) (
CallV Tryz.prog x5 #[.int .i64 (IntKind.wrap .i64 i16)] w18 fun e20 w21 => ∃ t22 : Bool, e20 = .returned (.bool t22) ∧
bsel (!t22) (
Q (.tuple #[]) w21) (
((0 : Int) ≤ 5) ∧
(I13 (shr .u64 i15 5) (bAnd .u64 (IntKind.wrap .u64 (IntKind.wrap .u64 (IntKind.wrap .u64 (5 * i16) + shr .u64 i15 5) + 1)) (IntKind.wrap .u64 (shl .u64 1 t10 - 1))) (IntKind.wrap .i64 (i17 + 1)) w21 ∧ μ14 (shr .u64 i15 5) (bAnd .u64 (IntKind.wrap .u64 (IntKind.wrap .u64 (IntKind.wrap .u64 (5 * i16) + shr .u64 i15 5) + 1)) (IntKind.wrap .u64 (shl .u64 1 t10 - 1))) (IntKind.wrap .i64 (i17 + 1)) w21 < μ14 i15 i16 i17 w18))) (
Q (.tuple #[]) w18))
def V360 (x1 : Value) (x2 : Addr) (x3 : Addr) (w : World) (Q : Value → World → Prop) : Prop :=
∃ t4 : Int, w.cell? x2 = some (.int .i64 t4) ∧
bsel (decide (t4 < 0)) (
V360J1 Q x1 x2 x3 true w) (
∃ t23 : Int, w.cell? x2 = some (.int .i64 t23) ∧
V360J1 Q x1 x2 x3 (decide (t23 > 20)) w)
def V360_ann : Nat → Ann := fun k => match k with | 0 => ⟨[0, 4, 23], [(5, .int .u64), (6, .int .u64), (24, .int .i64)]⟩ | _ => ⟨[], []⟩
theorem V360_eq (x1 : Value) (x2 : Addr) (x3 : Addr) (w : World) (Q : Value → World → Prop) : (match Tryz.f360.body with | some c => wpC Tryz.prog Tryz.f360.ntmps V360_ann c 0 (resQ Tryz.prog Tryz.f360.ntmps Tryz.f360.results.toList Q) (argsF [x1, .pointer (some x2), .pointer (some x3)]) w | none => False) = V360 x1 x2 x3 w Q := by kernel_rfl
theorem V360_sound (x1 : Value) (x2 : Addr) (x3 : Addr) (w : World) (Q : Value → World → Prop) (h : V360 x1 x2 x3 w Q) : Calls Tryz.prog 360 #[x1, .pointer (some x2), .pointer (some x3)] w fun e w' => ∃ v, e = .returned v ∧ Q v w' :=
  sound_of Tryz.func360 V360_ann rfl ((V360_eq x1 x2 x3 w Q).mpr h)
def V333J1 (Q : Value → World → Prop) (x24 : Addr) (x25 : Addr) (x26 : Value) (w27 : World) : Prop :=
∀ Rec28 : LoopState → Option Code → Obj, (∀ s p c e f, Rec28 s p ≠ .cells c e f) →
(∀ (w29 : World) (K30 : Bool → World → Prop), w29.heap[(w27.heap.size + 1)]? = some (Rec28 .ready none) → ∀ (y31 : Int), (
w29.heap[(w27.heap.size + 1)]? = some (Rec28 .ready none) ∧
∃ t32 : Option Addr, (w29.putObj (w27.heap.size + 1) (Rec28 .busy none)).cell? x24 = some (.pointer t32) ∧
nilK t32 fun a33 =>
∃ t34 : Option Addr, (w29.putObj (w27.heap.size + 1) (Rec28 .busy none)).cell? (a33.add 2) = some (.pointer t34) ∧
Calls Tryz.prog 290 #[.pointer t34, .int .i64 y31] (w29.putObj (w27.heap.size + 1) (Rec28 .busy none)) fun e35 w36 => ∃ t37 : Int, ∃ t38 : Int, e35 = .returned (.tuple #[.int .i64 t37, .int .i64 t38]) ∧
bsel (t37 == (-1)) (
∃ t39 : Option Addr, w36.drew.cell? x24 = some (.pointer t39) ∧
nilK t39 fun a40 =>
∃ t41 : Option Addr, w36.drew.cell? (a40.add 2) = some (.pointer t41) ∧
∃ t42 : Int, w36.drew.cell? x25 = some (.int .i64 t42) ∧
Calls Tryz.prog 327 #[.pointer t41, .int .i64 y31, .int .i64 t42] w36.drew fun e43 w44 => ∃ t45 : Int, e43 = .returned (.int .i64 t45) ∧
((∃ s p, w44.heap[(w27.heap.size + 1)]? = some (Rec28 s p)) ∧ K30 false (w44.putObj (w27.heap.size + 1) (Rec28 .done (some (.exit 0)))))) (
((∃ s p, w36.heap[(w27.heap.size + 1)]? = some (Rec28 s p)) ∧ K30 true (w36.putObj (w27.heap.size + 1) (Rec28 .ready none))))) → RoundK Tryz.prog (w27.heap.size + 1) #[.int .i64 y31] w29 K30) →
CallG Tryz.prog x26 #[.func (.yield (w27.heap.size + 1)) #[] #[]] ((w27.alloc (.deferred (some []))).alloc (Rec28 .ready none)) fun e46 w47 => (∃ v48, e46 = .returned v48) ∧ ((w47.heap[(w27.heap.size + 1)]? = some (Rec28 .ready none) ∧
(((w47.putObj (w27.heap.size + 1) (Rec28 .exhausted none)).heap[w27.heap.size]? = some (.deferred (some []))) ∧ Q (.tuple #[]) ((w47.putObj (w27.heap.size + 1) (Rec28 .exhausted none)).putObj w27.heap.size (.deferred none)))) ∨
(w47.heap[(w27.heap.size + 1)]? = some (Rec28 .done (some (.exit 0))) ∧
(((w47.putObj (w27.heap.size + 1) (Rec28 .exhausted (some (.exit 0)))).heap[w27.heap.size]? = some (.deferred (some []))) ∧ Q (.tuple #[]) ((w47.putObj (w27.heap.size + 1) (Rec28 .exhausted (some (.exit 0)))).putObj w27.heap.size (.deferred none)))) ∨ False)
def V333 (x1 : Option Addr) (x2 : Int) (w : World) (Q : Value → World → Prop) : Prop :=
newK w #[.pointer x1] 233 fun a3 w4 =>
newK w4 #[.int .i64 x2] 3 fun a5 w6 =>
∃ t7 : Option Addr, w6.drew.cell? a3 = some (.pointer t7) ∧
nilK t7 fun a8 =>
∃ t9 : Option Addr, ∃ t10 : Nat, ∃ t11 : Nat, w6.drew.cell? (a8.add 1) = some (.slice t9 t10 t11) ∧
∃ t12 : Int, w6.drew.cell? a5 = some (.int .i64 t12) ∧
idxK t9 t10 t12 5 fun a13 =>
∃ t14 : Int, w6.drew.cell? (a13.add 1) = some (.int .i64 t14) ∧
∃ t15 : Option Addr, w6.drew.cell? a3 = some (.pointer t15) ∧
nilK t15 fun a16 =>
∃ t17 : Option Addr, w6.drew.cell? (a16.add 2) = some (.pointer t17) ∧
Calls Tryz.prog 289 #[.pointer t17] w6.drew fun e18 w19 => ∃ t20 : Int, e18 = .returned (.int .i64 t20) ∧
(w19.cell? (a13.add 1) = some (.int .i64 t14)) ∧
(w19.cell? a5 = some (.int .i64 t12)) ∧
(w19.cell? (a8.add 1) = some (.slice t9 t10 t11)) ∧
(w19.cell? a3 = some (.pointer t7)) ∧
Calls Tryz.prog 326 #[.int .i64 t14, .int .i64 t20] w19 fun e21 w22 => ∃ t23 : Value, e21 = .returned (t23) ∧
V333J1 Q a3 a5 t23 w22
def V333_sh : Nat → List (Nat × Shape) := fun k => match k with | 0 => [(21, .one (.int .i64))] | _ => []
def V333_ann : Nat → Ann := fun _ => ⟨[], []⟩
theorem V333_eq (x1 : Option Addr) (x2 : Int) (w : World) (Q : Value → World → Prop) : (match Tryz.f333.body with | some c => wpM Tryz.prog Tryz.f333.ntmps V333_ann V333_sh c 0 [] (resM Tryz.prog Tryz.f333.ntmps Tryz.f333.results.toList Q) (argsF [.pointer x1, .int .i64 x2]) w | none => False) = V333 x1 x2 w Q := by kernel_rfl
theorem V333_sound (x1 : Option Addr) (x2 : Int) (w : World) (Q : Value → World → Prop) (h : V333 x1 x2 w Q) : Calls Tryz.prog 333 #[.pointer x1, .int .i64 x2] w fun e w' => ∃ v, e = .returned v ∧ Q v w' :=
  sound_ofM Tryz.func333 V333_ann V333_sh rfl ((V333_eq x1 x2 w Q).mpr h)
def V332 (x1 : Option Addr) (w : World) (Q : Value → World → Prop) : Prop :=
nilK x1 fun a2 =>
∃ t3 : Option Addr, ∃ t4 : Nat, ∃ t5 : Nat, w.cell? (a2.add 1) = some (.slice t3 t4 t5) ∧
∃ (I6 : Int → World → Prop) (μ7 : Int → World → Nat), I6 0 w ∧ ∀ (j10 : Fr) (i8 : Int) (w9 : World), I6 i8 w9 →
bsel (decide (i8 < (t4 : Int))) (
Calls Tryz.prog 333 #[.pointer x1, .int .i64 i8] w9 fun e11 w12 => ∃ t13 : Value, e11 = .returned (t13) ∧
(I6 (IntKind.wrap .i64 (i8 + 1)) w12 ∧ μ7 (IntKind.wrap .i64 (i8 + 1)) w12 < μ7 i8 w9)) (
Q (.tuple #[]) w9)
def V332_ann : Nat → Ann := fun k => match k with | 0 => ⟨[0, 7], [(8, .int .i64)]⟩ | _ => ⟨[], []⟩
theorem V332_eq (x1 : Option Addr) (w : World) (Q : Value → World → Prop) : (match Tryz.f332.body with | some c => wpC Tryz.prog Tryz.f332.ntmps V332_ann c 0 (resQ Tryz.prog Tryz.f332.ntmps Tryz.f332.results.toList Q) (argsF [.pointer x1]) w | none => False) = V332 x1 w Q := by kernel_rfl
theorem V332_sound (x1 : Option Addr) (w : World) (Q : Value → World → Prop) (h : V332 x1 w Q) : Calls Tryz.prog 332 #[.pointer x1] w fun e w' => ∃ v, e = .returned v ∧ Q v w' :=
  sound_of Tryz.func332 V332_ann rfl ((V332_eq x1 w Q).mpr h)
def V331 (x1 : Option Addr) (w : World) (Q : Value → World → Prop) : Prop :=
nilK x1 fun a2 =>
∃ t3 : Option Addr, ∃ t4 : Nat, ∃ t5 : Nat, w.cell? (a2.add 1) = some (.slice t3 t4 t5) ∧
∃ (I6 : Int → Int → World → Prop) (μ7 : Int → Int → World → Nat), I6 0 0 w ∧ ∀ (j11 : Fr) (i8 : Int) (i9 : Int) (w10 : World), I6 i8 i9 w10 →
bsel (decide (i9 < (t4 : Int))) (
idxK t3 t4 i9 5 fun a12 =>
∃ t13 : Bool, ∃ t14 : Int, ∃ t15 : Int, ∃ t16 : Int, ∃ t17 : Int, CellsAt w10 a12 [.bool t13, .int .i64 t14, .int .i64 t15, .int .i64 t16, .int .i64 t17] ∧
newK w10 #[.bool false, .int .i64 0, .int .i64 0, .int .i64 0, .int .i64 0] 295 fun a18 w19 =>
stK w19 (a18.add 0) (.bool t13) fun w20 =>
stK w20 (a18.add 1) (.int .i64 t14) fun w21 =>
stK w21 (a18.add 2) (.int .i64 t15) fun w22 =>
stK w22 (a18.add 3) (.int .i64 t16) fun w23 =>
stK w23 (a18.add 4) (.int .i64 t17) fun w24 =>
∃ t25 : Bool, w24.cell? (a18.add 0) = some (.bool t25) ∧
bsel t25 (
nilK x1 fun a26 =>
∃ t27 : Option Addr, ∃ t28 : Nat, ∃ t29 : Nat, w24.drew.cell? (a26.add 1) = some (.slice t27 t28 t29) ∧
slcK t27 t29 i8 (IntKind.wrap .i64 (i8 + 1)) 5 fun t30 t31 t32 =>
nilK x1 fun a33 =>
∃ t34 : Option Addr, ∃ t35 : Nat, ∃ t36 : Nat, w24.drew.cell? (a33.add 1) = some (.slice t34 t35 t36) ∧
slcK t34 t36 i9 (IntKind.wrap .i64 (i9 + 1)) 5 fun t37 t38 t39 =>
∃ w40 : World, ∃ t41 : Int, (vcEff.bltV .copy #[292, 292] 3 #[.slice t30 t31 t32, .slice t37 t38 t39]).run Tryz.prog w24.drew = .ok (.int .i64 t41) w40 ∧
(I6 (IntKind.wrap .i64 (i8 + t41)) (IntKind.wrap .i64 (i9 + 1)) w40 ∧ μ7 (IntKind.wrap .i64 (i8 + t41)) (IntKind.wrap .i64 (i9 + 1)) w40 < μ7 i8 i9 w10)) (
(I6 i8 (IntKind.wrap .i64 (i9 + 1)) w24 ∧ μ7 i8 (IntKind.wrap .i64 (i9 + 1)) w24 < μ7 i8 i9 w10))) (
nilK x1 fun a50 =>
∃ t51 : Option Addr, ∃ t52 : Nat, ∃ t53 : Nat, w10.cell? (a50.add 1) = some (.slice t51 t52 t53) ∧
slcK t51 t53 i8 t52 5 fun t54 t55 t56 =>
∃ w57 : World, ∃ t58 : Value, (vcEff.bltV .clear #[292] 0 #[.slice t54 t55 t56]).run Tryz.prog w10 = .ok (t58) w57 ∧
nilK x1 fun a59 =>
∃ t60 : Option Addr, ∃ t61 : Nat, ∃ t62 : Nat, w57.cell? (a59.add 1) = some (.slice t60 t61 t62) ∧
slcK t60 t62 0 i8 5 fun t63 t64 t65 =>
nilK x1 fun a66 =>
stK w57 (a66.add 1) (.slice t63 t64 t65) fun w67 =>
Q (.tuple #[]) w67)
def V331_ann : Nat → Ann := fun k => match k with | 0 => ⟨[0, 8, 9], [(2, .int .i64), (10, .int .i64)]⟩ | _ => ⟨[], []⟩
theorem V331_eq (x1 : Option Addr) (w : World) (Q : Value → World → Prop) : (match Tryz.f331.body with | some c => wpC Tryz.prog Tryz.f331.ntmps V331_ann c 0 (resQ Tryz.prog Tryz.f331.ntmps Tryz.f331.results.toList Q) (argsF [.pointer x1]) w | none => False) = V331 x1 w Q := by kernel_rfl
theorem V331_sound (x1 : Option Addr) (w : World) (Q : Value → World → Prop) (h : V331 x1 w Q) : Calls Tryz.prog 331 #[.pointer x1] w fun e w' => ∃ v, e = .returned v ∧ Q v w' :=
  sound_of Tryz.func331 V331_ann rfl ((V331_eq x1 w Q).mpr h)
def V329 (x1 : Value) (w : World) (Q : Value → World → Prop) : Prop :=
∃ (I2 : Int → World → Prop) (μ3 : Int → World → Nat), I2 3 w ∧ ∀ (j6 : Fr) (i4 : Int) (w5 : World), I2 i4 w5 →
bsel (decide (i4 ≤ 20)) (
CallV Tryz.prog x1 #[.int .i64 i4] w5 fun e7 w8 => ∃ t9 : Bool, e7 = .returned (.bool t9) ∧
bsel (!t9) (
(I2 (IntKind.wrap .i64 (i4 + 1)) w8 ∧ μ3 (IntKind.wrap .i64 (i4 + 1)) w8 < μ3 i4 w5)) (
Q (.int .i64 i4) w8)) (
Q (.int .i64 i4) w5)
def V329_ann : Nat → Ann := fun k => match k with | 0 => ⟨[0], [(3, .int .i64)]⟩ | _ => ⟨[], []⟩
theorem V329_eq (x1 : Value) (w : World) (Q : Value → World → Prop) : (match Tryz.f329.body with | some c => wpC Tryz.prog Tryz.f329.ntmps V329_ann c 0 (resQ Tryz.prog Tryz.f329.ntmps Tryz.f329.results.toList Q) (argsF [x1]) w | none => False) = V329 x1 w Q := by kernel_rfl
theorem V329_sound (x1 : Value) (w : World) (Q : Value → World → Prop) (h : V329 x1 w Q) : Calls Tryz.prog 329 #[x1] w fun e w' => ∃ v, e = .returned v ∧ Q v w' :=
  sound_of Tryz.func329 V329_ann rfl ((V329_eq x1 w Q).mpr h)
def V330 (x1 : Int) (x2 : Addr) (w : World) (Q : Value → World → Prop) : Prop :=
((0 : Int) ≤ x1) ∧
∃ t3 : Option Addr, w.drew.cell? x2 = some (.pointer t3) ∧
nilK t3 fun a4 =>
∃ t5 : Int, w.drew.cell? (a4.add 3) = some (.int .i64 t5) ∧
Q (.bool (decide (shl .i64 1 x1 ≥ IntKind.wrap .i64 (3 * t5)))) w.drew
def V330_ann : Nat → Ann := fun _ => ⟨[], []⟩
theorem V330_eq (x1 : Int) (x2 : Addr) (w : World) (Q : Value → World → Prop) : (match Tryz.f330.body with | some c => wpC Tryz.prog Tryz.f330.ntmps V330_ann c 0 (resQ Tryz.prog Tryz.f330.ntmps Tryz.f330.results.toList Q) (argsF [.int .i64 x1, .pointer (some x2)]) w | none => False) = V330 x1 x2 w Q := by kernel_rfl
theorem V330_sound (x1 : Int) (x2 : Addr) (w : World) (Q : Value → World → Prop) (h : V330 x1 x2 w Q) : Calls Tryz.prog 330 #[.int .i64 x1, .pointer (some x2)] w fun e w' => ∃ v, e = .returned v ∧ Q v w' :=
  sound_of Tryz.func330 V330_ann rfl ((V330_eq x1 x2 w Q).mpr h)
def V286J1 (Q : Value → World → Prop) (x65 : Addr) (x66 : Int) (w67 : World) : Prop :=
∃ t68 : Option Addr, w67.cell? x65 = some (.pointer t68) ∧
Calls Tryz.prog 333 #[.pointer t68, .int .i64 x66] w67 fun e69 w70 => ∃ t71 : Value, e69 = .returned (t71) ∧
∃ t72 : Option Addr, w70.cell? x65 = some (.pointer t72) ∧
nilK t72 fun a73 =>
∃ t74 : Int, w70.cell? (a73.add 4) = some (.int .i64 t74) ∧
nilK t72 fun a75 =>
stK w70 (a75.add 4) (.int .i64 (IntKind.wrap .i64 (t74 + 1))) fun w76 =>
∃ t77 : Option Addr, w76.cell? x65 = some (.pointer t77) ∧
nilK t77 fun a78 =>
∃ t79 : Int, w76.cell? (a78.add 3) = some (.int .i64 t79) ∧
nilK t77 fun a80 =>
stK w76 (a80.add 3) (.int .i64 (IntKind.wrap .i64 (t79 + 1))) fun w81 =>
∃ t82 : Option Addr, w81.cell? x65 = some (.pointer t82) ∧
nilK t82 fun a83 =>
∃ t84 : Int, w81.cell? (a83.add 6) = some (.int .i64 t84) ∧
nilK t82 fun a85 =>
stK w81 (a85.add 6) (.int .i64 (IntKind.wrap .i64 (t84 + 1))) fun w86 =>
Q (.tuple #[.int .i64 x66, .int .i64 0]) w86
def V286J2 (Q : Value → World → Prop) (x38 : Int) (x39 : Int) (x40 : Int) (x41 : Addr) (w42 : World) : Prop :=
∃ t43 : Option Addr, w42.cell? x41 = some (.pointer t43) ∧
nilK t43 fun a44 =>
∃ t45 : Option Addr, ∃ t46 : Nat, ∃ t47 : Nat, w42.cell? (a44.add 1) = some (.slice t45 t46 t47) ∧
∃ t48 : Option Addr, w42.drew.cell? x41 = some (.pointer t48) ∧
∃ t49 : Option Addr, w42.drew.cell? x41 = some (.pointer t49) ∧
nilK t49 fun a50 =>
∃ t51 : Option Addr, ∃ t52 : Nat, ∃ t53 : Nat, w42.drew.cell? (a50.add 1) = some (.slice t51 t52 t53) ∧
∃ t54 : Option Addr, w42.drew.cell? x41 = some (.pointer t54) ∧
nilK t54 fun a55 =>
∃ t56 : Int, w42.drew.cell? (a55.add 4) = some (.int .i64 t56) ∧
newK w42.drew #[.bool true, .int .i64 x38, .int .i64 x39, .int .i64 x40, .int .i64 t56] 295 fun a57 w58 =>
(w58.cell? (a50.add 1) = some (.slice t51 t52 t53)) ∧
(w58.cell? x41 = some (.pointer t49)) ∧
(w58.cell? x41 = some (.pointer t48)) ∧
∃ w59 : World, ∃ t60 : Option Addr, ∃ t61 : Nat, ∃ t62 : Nat, (vcEff.bltV .append #[292, 292] 292 #[.slice t51 t52 t53, .slice (some a57) 1 1]).run Tryz.prog w58 = .ok (.slice t60 t61 t62) w59 ∧
(w59.cell? x41 = some (.pointer t48)) ∧
nilK t48 fun a63 =>
stK w59 (a63.add 1) (.slice t60 t61 t62) fun w64 =>
V286J1 Q x41 (t46 : Int) w64
def V286 (x1 : Option Addr) (x2 : Int) (x3 : Int) (x4 : Int) (w : World) (Q : Value → World → Prop) : Prop :=
newK w #[.pointer x1] 233 fun a5 w6 =>
∃ t7 : Option Addr, w6.cell? a5 = some (.pointer t7) ∧
bsel (Option.isNone t7) (
Q (.tuple #[.int .i64 0, .int .i64 1]) w6) (
∃ t8 : Option Addr, w6.cell? a5 = some (.pointer t8) ∧
Calls Tryz.prog 287 #[.pointer t8] w6 fun e9 w10 => ∃ t11 : Value, e9 = .returned (t11) ∧
∃ t12 : Option Addr, w10.drew.cell? a5 = some (.pointer t12) ∧
nilK t12 fun a13 =>
∃ t14 : Option Addr, ∃ t15 : Nat, ∃ t16 : Nat, w10.drew.cell? (a13.add 1) = some (.slice t14 t15 t16) ∧
∃ t17 : Option Addr, w10.drew.cell? a5 = some (.pointer t17) ∧
nilK t17 fun a18 =>
∃ t19 : Option Addr, w10.drew.cell? (a18.add 2) = some (.pointer t19) ∧
Calls Tryz.prog 328 #[.pointer t19] w10.drew fun e20 w21 => ∃ t22 : Int, e20 = .returned (.int .i64 t22) ∧
(w21.cell? (a13.add 1) = some (.slice t14 t15 t16)) ∧
(w21.cell? a5 = some (.pointer t12)) ∧
bsel ((t15 : Int) == t22) (
Calls Tryz.prog 329 #[.func (.func 330) #[] #[.pointer (some a5)]] w21 fun e23 w24 => ∃ t25 : Int, e23 = .returned (.int .i64 t25) ∧
bsel (decide (t25 > 20)) (
Q (.tuple #[.int .i64 0, .int .i64 3]) w24) (
∃ t26 : Option Addr, w24.cell? a5 = some (.pointer t26) ∧
Calls Tryz.prog 331 #[.pointer t26] w24 fun e27 w28 => ∃ t29 : Value, e27 = .returned (t29) ∧
∃ t30 : Option Addr, w28.cell? a5 = some (.pointer t30) ∧
Calls Tryz.prog 276 #[.pointer t30, .int .i64 t25] w28 fun e31 w32 => ∃ t33 : Value, e31 = .returned (t33) ∧
∃ t34 : Option Addr, w32.cell? a5 = some (.pointer t34) ∧
Calls Tryz.prog 332 #[.pointer t34] w32 fun e35 w36 => ∃ t37 : Value, e35 = .returned (t37) ∧
V286J2 Q x2 x3 x4 a5 w36)) (
V286J2 Q x2 x3 x4 a5 w21))
def V286_ann : Nat → Ann := fun _ => ⟨[], []⟩
theorem V286_eq (x1 : Option Addr) (x2 : Int) (x3 : Int) (x4 : Int) (w : World) (Q : Value → World → Prop) : (match Tryz.f286.body with | some c => wpC Tryz.prog Tryz.f286.ntmps V286_ann c 0 (resQ Tryz.prog Tryz.f286.ntmps Tryz.f286.results.toList Q) (argsF [.pointer x1, .int .i64 x2, .int .i64 x3, .int .i64 x4]) w | none => False) = V286 x1 x2 x3 x4 w Q := by kernel_rfl
theorem V286_sound (x1 : Option Addr) (x2 : Int) (x3 : Int) (x4 : Int) (w : World) (Q : Value → World → Prop) (h : V286 x1 x2 x3 x4 w Q) : Calls Tryz.prog 286 #[.pointer x1, .int .i64 x2, .int .i64 x3, .int .i64 x4] w fun e w' => ∃ v, e = .returned v ∧ Q v w' :=
  sound_of Tryz.func286 V286_ann rfl ((V286_eq x1 x2 x3 x4 w Q).mpr h)
end Go.Fw


set_option autoImplicit false
set_option linter.unusedVariables false
set_option maxRecDepth 100000
namespace Go.Fw
open Go.Proofs
def V442 (x1 : Option Addr) (x2 : Nat) (x3 : Nat) (x4 : Int) (x5 : Int) (w : World) (Q : Value → World → Prop) : Prop :=
newK w #[.slice x1 x2 x3, .int .i64 x4] 472 fun a6 w7 =>
∃ t8 : Option Addr, ∃ t9 : Nat, ∃ t10 : Nat, w7.cell? (a6.add 0) = some (.slice t8 t9 t10) ∧
idxK t8 t9 x5 1 fun a11 =>
∃ t12 : Int, w7.cell? a11 = some (.int .i8 t12) ∧
Q (.int .i64 (IntKind.wrap .i64 t12)) w7
def V442_ann : Nat → Ann := fun _ => ⟨[], []⟩
theorem V442_eq (x1 : Option Addr) (x2 : Nat) (x3 : Nat) (x4 : Int) (x5 : Int) (w : World) (Q : Value → World → Prop) : (match Tryz.f442.body with | some c => wpC Tryz.prog Tryz.f442.ntmps V442_ann c 0 (resQ Tryz.prog Tryz.f442.ntmps Tryz.f442.results.toList Q) (argsF [.agg #[.slice x1 x2 x3, .int .i64 x4], .int .i64 x5]) w | none => False) = V442 x1 x2 x3 x4 x5 w Q := by kernel_rfl
theorem V442_sound (x1 : Option Addr) (x2 : Nat) (x3 : Nat) (x4 : Int) (x5 : Int) (w : World) (Q : Value → World → Prop) (h : V442 x1 x2 x3 x4 x5 w Q) : Calls Tryz.prog 442 #[.agg #[.slice x1 x2 x3, .int .i64 x4], .int .i64 x5] w fun e w' => ∃ v, e = .returned v ∧ Q v w' :=
  sound_of Tryz.func442 V442_ann rfl ((V442_eq x1 x2 x3 x4 x5 w Q).mpr h)
def V443 (x1 : Option Addr) (x2 : Nat) (x3 : Nat) (x4 : Int) (w : World) (Q : Value → World → Prop) : Prop :=
newK w #[.slice x1 x2 x3, .int .i64 x4] 472 fun a5 w6 =>
∃ t7 : Option Addr, ∃ t8 : Nat, ∃ t9 : Nat, w6.cell? (a5.add 0) = some (.slice t7 t8 t9) ∧
Q (.int .i64 (t8 : Int)) w6
def V443_ann : Nat → Ann := fun _ => ⟨[], []⟩
theorem V443_eq (x1 : Option Addr) (x2 : Nat) (x3 : Nat) (x4 : Int) (w : World) (Q : Value → World → Prop) : (match Tryz.f443.body with | some c => wpC Tryz.prog Tryz.f443.ntmps V443_ann c 0 (resQ Tryz.prog Tryz.f443.ntmps Tryz.f443.results.toList Q) (argsF [.agg #[.slice x1 x2 x3, .int .i64 x4]]) w | none => False) = V443 x1 x2 x3 x4 w Q := by kernel_rfl
theorem V443_sound (x1 : Option Addr) (x2 : Nat) (x3 : Nat) (x4 : Int) (w : World) (Q : Value → World → Prop) (h : V443 x1 x2 x3 x4 w Q) : Calls Tryz.prog 443 #[.agg #[.slice x1 x2 x3, .int .i64 x4]] w fun e w' => ∃ v, e = .returned v ∧ Q v w' :=
  sound_of Tryz.func443 V443_ann rfl ((V443_eq x1 x2 x3 x4 w Q).mpr h)
def V444 (x1 : Option Addr) (x2 : Nat) (x3 : Nat) (x4 : Int) (x5 : Int) (x6 : Int) (w : World) (Q : Value → World → Prop) : Prop :=
newK w #[.slice x1 x2 x3, .int .i64 x4] 472 fun a7 w8 =>
∃ t9 : Option Addr, ∃ t10 : Nat, ∃ t11 : Nat, w8.cell? (a7.add 0) = some (.slice t9 t10 t11) ∧
idxK t9 t10 x5 1 fun a12 =>
stK w8 a12 (.int .i8 (IntKind.wrap .i8 x6)) fun w13 =>
Q (.tuple #[]) w13
def V444_ann : Nat → Ann := fun _ => ⟨[], []⟩
theorem V444_eq (x1 : Option Addr) (x2 : Nat) (x3 : Nat) (x4 : Int) (x5 : Int) (x6 : Int) (w : World) (Q : Value → World → Prop) : (match Tryz.f444.body with | some c => wpC Tryz.prog Tryz.f444.ntmps V444_ann c 0 (resQ Tryz.prog Tryz.f444.ntmps Tryz.f444.results.toList Q) (argsF [.agg #[.slice x1 x2 x3, .int .i64 x4], .int .i64 x5, .int .i64 x6]) w | none => False) = V444 x1 x2 x3 x4 x5 x6 w Q := by kernel_rfl
theorem V444_sound (x1 : Option Addr) (x2 : Nat) (x3 : Nat) (x4 : Int) (x5 : Int) (x6 : Int) (w : World) (Q : Value → World → Prop) (h : V444 x1 x2 x3 x4 x5 x6 w Q) : Calls Tryz.prog 444 #[.agg #[.slice x1 x2 x3, .int .i64 x4], .int .i64 x5, .int .i64 x6] w fun e w' => ∃ v, e = .returned v ∧ Q v w' :=
  sound_of Tryz.func444 V444_ann rfl ((V444_eq x1 x2 x3 x4 x5 x6 w Q).mpr h)
def V446 (x1 : Option Addr) (x2 : Nat) (x3 : Nat) (x4 : Int) (x5 : Int) (w : World) (Q : Value → World → Prop) : Prop :=
newK w #[.slice x1 x2 x3, .int .i64 x4] 475 fun a6 w7 =>
∃ t8 : Option Addr, ∃ t9 : Nat, ∃ t10 : Nat, w7.cell? (a6.add 0) = some (.slice t8 t9 t10) ∧
idxK t8 t9 x5 1 fun a11 =>
∃ t12 : Int, w7.cell? a11 = some (.int .i16 t12) ∧
Q (.int .i64 (IntKind.wrap .i64 t12)) w7
def V446_ann : Nat → Ann := fun _ => ⟨[], []⟩
theorem V446_eq (x1 : Option Addr) (x2 : Nat) (x3 : Nat) (x4 : Int) (x5 : Int) (w : World) (Q : Value → World → Prop) : (match Tryz.f446.body with | some c => wpC Tryz.prog Tryz.f446.ntmps V446_ann c 0 (resQ Tryz.prog Tryz.f446.ntmps Tryz.f446.results.toList Q) (argsF [.agg #[.slice x1 x2 x3, .int .i64 x4], .int .i64 x5]) w | none => False) = V446 x1 x2 x3 x4 x5 w Q := by kernel_rfl
theorem V446_sound (x1 : Option Addr) (x2 : Nat) (x3 : Nat) (x4 : Int) (x5 : Int) (w : World) (Q : Value → World → Prop) (h : V446 x1 x2 x3 x4 x5 w Q) : Calls Tryz.prog 446 #[.agg #[.slice x1 x2 x3, .int .i64 x4], .int .i64 x5] w fun e w' => ∃ v, e = .returned v ∧ Q v w' :=
  sound_of Tryz.func446 V446_ann rfl ((V446_eq x1 x2 x3 x4 x5 w Q).mpr h)
def V447 (x1 : Option Addr) (x2 : Nat) (x3 : Nat) (x4 : Int) (w : World) (Q : Value → World → Prop) : Prop :=
newK w #[.slice x1 x2 x3, .int .i64 x4] 475 fun a5 w6 =>
∃ t7 : Option Addr, ∃ t8 : Nat, ∃ t9 : Nat, w6.cell? (a5.add 0) = some (.slice t7 t8 t9) ∧
Q (.int .i64 (t8 : Int)) w6
def V447_ann : Nat → Ann := fun _ => ⟨[], []⟩
theorem V447_eq (x1 : Option Addr) (x2 : Nat) (x3 : Nat) (x4 : Int) (w : World) (Q : Value → World → Prop) : (match Tryz.f447.body with | some c => wpC Tryz.prog Tryz.f447.ntmps V447_ann c 0 (resQ Tryz.prog Tryz.f447.ntmps Tryz.f447.results.toList Q) (argsF [.agg #[.slice x1 x2 x3, .int .i64 x4]]) w | none => False) = V447 x1 x2 x3 x4 w Q := by kernel_rfl
theorem V447_sound (x1 : Option Addr) (x2 : Nat) (x3 : Nat) (x4 : Int) (w : World) (Q : Value → World → Prop) (h : V447 x1 x2 x3 x4 w Q) : Calls Tryz.prog 447 #[.agg #[.slice x1 x2 x3, .int .i64 x4]] w fun e w' => ∃ v, e = .returned v ∧ Q v w' :=
  sound_of Tryz.func447 V447_ann rfl ((V447_eq x1 x2 x3 x4 w Q).mpr h)
def V448 (x1 : Option Addr) (x2 : Nat) (x3 : Nat) (x4 : Int) (x5 : Int) (x6 : Int) (w : World) (Q : Value → World → Prop) : Prop :=
newK w #[.slice x1 x2 x3, .int .i64 x4] 475 fun a7 w8 =>
∃ t9 : Option Addr, ∃ t10 : Nat, ∃ t11 : Nat, w8.cell? (a7.add 0) = some (.slice t9 t10 t11) ∧
idxK t9 t10 x5 1 fun a12 =>
stK w8 a12 (.int .i16 (IntKind.wrap .i16 x6)) fun w13 =>
Q (.tuple #[]) w13
def V448_ann : Nat → Ann := fun _ => ⟨[], []⟩
theorem V448_eq (x1 : Option Addr) (x2 : Nat) (x3 : Nat) (x4 : Int) (x5 : Int) (x6 : Int) (w : World) (Q : Value → World → Prop) : (match Tryz.f448.body with | some c => wpC Tryz.prog Tryz.f448.ntmps V448_ann c 0 (resQ Tryz.prog Tryz.f448.ntmps Tryz.f448.results.toList Q) (argsF [.agg #[.slice x1 x2 x3, .int .i64 x4], .int .i64 x5, .int .i64 x6]) w | none => False) = V448 x1 x2 x3 x4 x5 x6 w Q := by kernel_rfl
theorem V448_sound (x1 : Option Addr) (x2 : Nat) (x3 : Nat) (x4 : Int) (x5 : Int) (x6 : Int) (w : World) (Q : Value → World → Prop) (h : V448 x1 x2 x3 x4 x5 x6 w Q) : Calls Tryz.prog 448 #[.agg #[.slice x1 x2 x3, .int .i64 x4], .int .i64 x5, .int .i64 x6] w fun e w' => ∃ v, e = .returned v ∧ Q v w' :=
  sound_of Tryz.func448 V448_ann rfl ((V448_eq x1 x2 x3 x4 x5 x6 w Q).mpr h)
def V450 (x1 : Option Addr) (x2 : Nat) (x3 : Nat) (x4 : Int) (x5 : Int) (w : World) (Q : Value → World → Prop) : Prop :=
newK w #[.slice x1 x2 x3, .int .i64 x4] 477 fun a6 w7 =>
∃ t8 : Option Addr, ∃ t9 : Nat, ∃ t10 : Nat, w7.cell? (a6.add 0) = some (.slice t8 t9 t10) ∧
idxK t8 t9 x5 1 fun a11 =>
∃ t12 : Int, w7.cell? a11 = some (.int .i32 t12) ∧
Q (.int .i64 (IntKind.wrap .i64 t12)) w7
def V450_ann : Nat → Ann := fun _ => ⟨[], []⟩
theorem V450_eq (x1 : Option Addr) (x2 : Nat) (x3 : Nat) (x4 : Int) (x5 : Int) (w : World) (Q : Value → World → Prop) : (match Tryz.f450.body with | some c => wpC Tryz.prog Tryz.f450.ntmps V450_ann c 0 (resQ Tryz.prog Tryz.f450.ntmps Tryz.f450.results.toList Q) (argsF [.agg #[.slice x1 x2 x3, .int .i64 x4], .int .i64 x5]) w | none => False) = V450 x1 x2 x3 x4 x5 w Q := by kernel_rfl
theorem V450_sound (x1 : Option Addr) (x2 : Nat) (x3 : Nat) (x4 : Int) (x5 : Int) (w : World) (Q : Value → World → Prop) (h : V450 x1 x2 x3 x4 x5 w Q) : Calls Tryz.prog 450 #[.agg #[.slice x1 x2 x3, .int .i64 x4], .int .i64 x5] w fun e w' => ∃ v, e = .returned v ∧ Q v w' :=
  sound_of Tryz.func450 V450_ann rfl ((V450_eq x1 x2 x3 x4 x5 w Q).mpr h)
def V451 (x1 : Option Addr) (x2 : Nat) (x3 : Nat) (x4 : Int) (w : World) (Q : Value → World → Prop) : Prop :=
newK w #[.slice x1 x2 x3, .int .i64 x4] 477 fun a5 w6 =>
∃ t7 : Option Addr, ∃ t8 : Nat, ∃ t9 : Nat, w6.cell? (a5.add 0) = some (.slice t7 t8 t9) ∧
Q (.int .i64 (t8 : Int)) w6
def V451_ann : Nat → Ann := fun _ => ⟨[], []⟩
theorem V451_eq (x1 : Option Addr) (x2 : Nat) (x3 : Nat) (x4 : Int) (w : World) (Q : Value → World → Prop) : (match Tryz.f451.body with | some c => wpC Tryz.prog Tryz.f451.ntmps V451_ann c 0 (resQ Tryz.prog Tryz.f451.ntmps Tryz.f451.results.toList Q) (argsF [.agg #[.slice x1 x2 x3, .int .i64 x4]]) w | none => False) = V451 x1 x2 x3 x4 w Q := by kernel_rfl
theorem V451_sound (x1 : Option Addr) (x2 : Nat) (x3 : Nat) (x4 : Int) (w : World) (Q : Value → World → Prop) (h : V451 x1 x2 x3 x4 w Q) : Calls Tryz.prog 451 #[.agg #[.slice x1 x2 x3, .int .i64 x4]] w fun e w' => ∃ v, e = .returned v ∧ Q v w' :=
  sound_of Tryz.func451 V451_ann rfl ((V451_eq x1 x2 x3 x4 w Q).mpr h)
def V452 (x1 : Option Addr) (x2 : Nat) (x3 : Nat) (x4 : Int) (x5 : Int) (x6 : Int) (w : World) (Q : Value → World → Prop) : Prop :=
newK w #[.slice x1 x2 x3, .int .i64 x4] 477 fun a7 w8 =>
∃ t9 : Option Addr, ∃ t10 : Nat, ∃ t11 : Nat, w8.cell? (a7.add 0) = some (.slice t9 t10 t11) ∧
idxK t9 t10 x5 1 fun a12 =>
stK w8 a12 (.int .i32 (IntKind.wrap .i32 x6)) fun w13 =>
Q (.tuple #[]) w13
def V452_ann : Nat → Ann := fun _ => ⟨[], []⟩
theorem V452_eq (x1 : Option Addr) (x2 : Nat) (x3 : Nat) (x4 : Int) (x5 : Int) (x6 : Int) (w : World) (Q : Value → World → Prop) : (match Tryz.f452.body with | some c => wpC Tryz.prog Tryz.f452.ntmps V452_ann c 0 (resQ Tryz.prog Tryz.f452.ntmps Tryz.f452.results.toList Q) (argsF [.agg #[.slice x1 x2 x3, .int .i64 x4], .int .i64 x5, .int .i64 x6]) w | none => False) = V452 x1 x2 x3 x4 x5 x6 w Q := by kernel_rfl
theorem V452_sound (x1 : Option Addr) (x2 : Nat) (x3 : Nat) (x4 : Int) (x5 : Int) (x6 : Int) (w : World) (Q : Value → World → Prop) (h : V452 x1 x2 x3 x4 x5 x6 w Q) : Calls Tryz.prog 452 #[.agg #[.slice x1 x2 x3, .int .i64 x4], .int .i64 x5, .int .i64 x6] w fun e w' => ∃ v, e = .returned v ∧ Q v w' :=
  sound_of Tryz.func452 V452_ann rfl ((V452_eq x1 x2 x3 x4 x5 x6 w Q).mpr h)
end Go.Fw


set_option autoImplicit false
set_option linter.unusedVariables false
namespace Go.Fw
open Go.Proofs Go.RowKit
def wT (log : Nat) : TypeId := if log ≤ 7 then 472 else if log ≤ 15 then 475 else 477
def wE (log : Nat) : TypeId := if log ≤ 7 then 505 else if log ≤ 15 then 506 else 21
def wK (log : Nat) : IntKind := if log ≤ 7 then .i8 else if log ≤ 15 then .i16 else .i32
def wB (log : Nat) : Int := if log ≤ 7 then 1 else if log ≤ 15 then 2 else 4
theorem rowI8 : RowT 470 505 1 (.int .i8 0) := ⟨by kernel_rfl, info_of (by kernel_rfl), rfl, by decide⟩
theorem rowI16 : RowT 473 506 2 (.int .i16 0) := ⟨by kernel_rfl, info_of (by kernel_rfl), rfl, by decide⟩
theorem rowI32 : RowT 365 21 4 (.int .i32 0) := ⟨by kernel_rfl, info_of (by kernel_rfl), rfl, by decide⟩
theorem room_bound {log : Nat} (h : log ≤ 20) : (log ≤ 7 → room log < 128) ∧ (log ≤ 15 → room log < 32768) ∧ room log < 2147483648 := by
  have hr : ∀ k, log ≤ k → room log ≤ 2 * 2 ^ k / 3 := fun k hk => by
    have := Nat.pow_le_pow_right (n := 2) (by decide) hk
    unfold room; omega
  refine ⟨fun hk => ?_, fun hk => ?_, ?_⟩
  · have := hr 7 hk; omega
  · have := hr 15 hk; omega
  · have := hr 20 h; omega
def fits (log : Nat) (v : Int) : Prop := -2 ≤ v ∧ v < room log
theorem wrapK {log : Nat} (h : log ≤ 20) {v : Int} (hv : fits log v) : IntKind.wrap (wK log) v = v := by
  obtain ⟨h1, h2, h3⟩ := room_bound h
  obtain ⟨v1, v2⟩ := hv
  generalize room log = r at *
  unfold wK
  have hb8 : IntKind.bits .i8 = 8 := rfl
  have hb16 : IntKind.bits .i16 = 16 := rfl
  have hb32 : IntKind.bits .i32 = 32 := rfl
  have s8 : IntKind.signed .i8 = true := rfl
  have s16 : IntKind.signed .i16 = true := rfl
  have s32 : IntKind.signed .i32 = true := rfl
  split
  · unfold IntKind.wrap
    simp only [hb8, s8, Bool.true_and, decide_eq_true_eq]
    split <;> omega
  · split
    · unfold IntKind.wrap
      simp only [hb16, s16, Bool.true_and, decide_eq_true_eq]
      split <;> omega
    · unfold IntKind.wrap
      simp only [hb32, s32, Bool.true_and, decide_eq_true_eq]
      split <;> omega
theorem fits_i64 {log : Nat} (h : log ≤ 20) {v : Int} (hv : fits log v) : IntKind.wrap .i64 v = v := by
  obtain ⟨h1, h2, h3⟩ := room_bound h
  obtain ⟨v1, v2⟩ := hv
  exact wrap_i64 (by omega)
structure CellsOk (w : World) (R c g log : Nat) (cells : List Int) : Prop where
  lg : 3 ≤ log ∧ log ≤ 20
  blk : Blk w c 440 [.int .i64 log, .iface (wT log) (.agg #[.slice (some ⟨g, 0, none⟩) (2 ^ log) (2 ^ log), .int .i64 (wB log)])]
  row : Blk w g (wE log) (cells.map (.int (wK log)))
  len : cells.length = 2 ^ log
  rng : ∀ v ∈ cells, fits log v
  ge : R ≤ c ∧ R ≤ g
section
variable {w w' : World} {R c g log : Nat} {cells : List Int} {fp : Nat → Prop}
theorem CellsOk.keep (h : CellsOk w R c g log cells) (hk : Keep fp w w') (h1 : ¬ fp c) (h2 : ¬ fp g) : CellsOk w' R c g log cells := ⟨h.lg, hk.blk h.blk h1, hk.blk h.row h2, h.len, h.rng, h.ge⟩
theorem CellsOk.no (h : CellsOk w R c g log cells) (hk : Keep No w w') : CellsOk w' R c g log cells := h.keep hk id id
theorem CellsOk.ne (h : CellsOk w R c g log cells) : c ≠ g := h.blk.ne h.row (by unfold wE; split <;> (try split) <;> decide)
theorem len_inv {a : Option Addr} {n cap : Nat} {b : Int} {Q : Ending → World → Prop} (h : ∀ w', Keep No w w' → Q (.returned (.int .i64 n)) w') :
    InvK Tryz.prog (.iface (wT log) (.agg #[.slice a n cap, .int .i64 b])) "lexicon/cells.len" #[] w Q := by
  unfold wT
  split
  · refine ⟨443, _, (by kernel_rfl : (callMethod (.iface 472 (.agg #[.slice a n cap, .int .i64 b])) "lexicon/cells.len" #[]).run Tryz.prog w = .ok (.enter 443 (#[.agg #[.slice a n cap, .int .i64 b]] ++ #[])) w), ?_⟩
    refine (V443_sound a n cap b w (fun r w' => Q (.returned r) w') ?_).mono (by rintro _ _ ⟨v, rfl, h⟩; exact h)
    unfold V443
    exact newK_of fun d w1 hs hb hk => ⟨_, _, _, hb.add 0 rfl, h w1 hk⟩
  split
  · refine ⟨447, _, (by kernel_rfl : (callMethod (.iface 475 (.agg #[.slice a n cap, .int .i64 b])) "lexicon/cells.len" #[]).run Tryz.prog w = .ok (.enter 447 (#[.agg #[.slice a n cap, .int .i64 b]] ++ #[])) w), ?_⟩
    refine (V447_sound a n cap b w (fun r w' => Q (.returned r) w') ?_).mono (by rintro _ _ ⟨v, rfl, h⟩; exact h)
    unfold V447
    exact newK_of fun d w1 hs hb hk => ⟨_, _, _, hb.add 0 rfl, h w1 hk⟩
  · refine ⟨451, _, (by kernel_rfl : (callMethod (.iface 477 (.agg #[.slice a n cap, .int .i64 b])) "lexicon/cells.len" #[]).run Tryz.prog w = .ok (.enter 451 (#[.agg #[.slice a n cap, .int .i64 b]] ++ #[])) w), ?_⟩
    refine (V451_sound a n cap b w (fun r w' => Q (.returned r) w') ?_).mono (by rintro _ _ ⟨v, rfl, h⟩; exact h)
    unfold V451
    exact newK_of fun d w1 hs hb hk => ⟨_, _, _, hb.add 0 rfl, h w1 hk⟩
theorem get_inv {n cap i : Nat} {b v : Int} {cs : List Value} (hlog : log ≤ 20) (hg : Blk w g (wE log) cs) (hi : i < n) (hv : cs[i]? = some (.int (wK log) v)) (hf : fits log v) {Q : Ending → World → Prop} (h : ∀ w', Keep No w w' → Q (.returned (.int .i64 v)) w') :
    InvK Tryz.prog (.iface (wT log) (.agg #[.slice (some ⟨g, 0, none⟩) n cap, .int .i64 b])) "lexicon/cells.get" #[.int .i64 i] w Q := by
  have hw := fits_i64 hlog hf
  unfold wT wE wK at *
  split
  · rename_i hc
    rw [if_pos hc] at hg hv
    refine ⟨442, _, (by kernel_rfl : (callMethod (.iface 472 (.agg #[.slice (some ⟨g, 0, none⟩) n cap, .int .i64 b])) "lexicon/cells.get" #[.int .i64 i]).run Tryz.prog w = .ok (.enter 442 (#[.agg #[.slice (some ⟨g, 0, none⟩) n cap, .int .i64 b]] ++ #[.int .i64 i])) w), ?_⟩
    refine (V442_sound _ n cap b i w (fun r w' => Q (.returned r) w') ?_).mono (by rintro _ _ ⟨v, rfl, h⟩; exact h)
    unfold V442
    refine newK_of fun d w1 hs hb hk => ⟨_, _, _, hb.add 0 rfl, idxK_of hi ⟨v, by rw [Nat.mul_one]; exact (hk.nblk hg).add _ hv, ?_⟩⟩
    rw [hw]; exact h w1 hk
  rename_i hc0
  rw [if_neg hc0] at hg hv
  split
  · rename_i hc
    rw [if_pos hc] at hg hv
    refine ⟨446, _, (by kernel_rfl : (callMethod (.iface 475 (.agg #[.slice (some ⟨g, 0, none⟩) n cap, .int .i64 b])) "lexicon/cells.get" #[.int .i64 i]).run Tryz.prog w = .ok (.enter 446 (#[.agg #[.slice (some ⟨g, 0, none⟩) n cap, .int .i64 b]] ++ #[.int .i64 i])) w), ?_⟩
    refine (V446_sound _ n cap b i w (fun r w' => Q (.returned r) w') ?_).mono (by rintro _ _ ⟨v, rfl, h⟩; exact h)
    unfold V446
    refine newK_of fun d w1 hs hb hk => ⟨_, _, _, hb.add 0 rfl, idxK_of hi ⟨v, by rw [Nat.mul_one]; exact (hk.nblk hg).add _ hv, ?_⟩⟩
    rw [hw]; exact h w1 hk
  · rename_i hc
    rw [if_neg hc] at hg hv
    refine ⟨450, _, (by kernel_rfl : (callMethod (.iface 477 (.agg #[.slice (some ⟨g, 0, none⟩) n cap, .int .i64 b])) "lexicon/cells.get" #[.int .i64 i]).run Tryz.prog w = .ok (.enter 450 (#[.agg #[.slice (some ⟨g, 0, none⟩) n cap, .int .i64 b]] ++ #[.int .i64 i])) w), ?_⟩
    refine (V450_sound _ n cap b i w (fun r w' => Q (.returned r) w') ?_).mono (by rintro _ _ ⟨v, rfl, h⟩; exact h)
    unfold V450
    refine newK_of fun d w1 hs hb hk => ⟨_, _, _, hb.add 0 rfl, idxK_of hi ⟨v, by rw [Nat.mul_one]; exact (hk.nblk hg).add _ hv, ?_⟩⟩
    rw [hw]; exact h w1 hk
theorem set_inv {n cap i : Nat} {b v : Int} {cs : List Value} (hlog : log ≤ 20) (hg : Blk w g (wE log) cs) (hi : i < n) (hcs : i < cs.length) (hf : fits log v) {Q : Ending → World → Prop} (h : ∀ w', Blk w' g (wE log) (cs.set i (.int (wK log) v)) → Keep (fun k => k = g) w w' → Q (.returned (.tuple #[])) w') :
    InvK Tryz.prog (.iface (wT log) (.agg #[.slice (some ⟨g, 0, none⟩) n cap, .int .i64 b])) "lexicon/cells.set" #[.int .i64 i, .int .i64 v] w Q := by
  have hw := wrapK hlog hf
  unfold wT wE wK at *
  split
  · rename_i hc
    rw [if_pos hc] at hg hw h
    rw [if_pos hc] at h
    refine ⟨444, _, (by kernel_rfl : (callMethod (.iface 472 (.agg #[.slice (some ⟨g, 0, none⟩) n cap, .int .i64 b])) "lexicon/cells.set" #[.int .i64 i, .int .i64 v]).run Tryz.prog w = .ok (.enter 444 (#[.agg #[.slice (some ⟨g, 0, none⟩) n cap, .int .i64 b]] ++ #[.int .i64 i, .int .i64 v])) w), ?_⟩
    refine (V444_sound _ n cap b i v w (fun r w' => Q (.returned r) w') ?_).mono (by rintro _ _ ⟨v, rfl, h⟩; exact h)
    unfold V444
    refine newK_of fun d w1 hs hb hk => ⟨_, _, _, hb.add 0 rfl, idxK_of hi ?_⟩
    rw [hw, Nat.mul_one]
    exact stK_add (hk.nblk hg) hcs fun w2 hb2 hk2 => h w2 hb2 ((Keep.of_no hk).trans hk2 fun _ _ e => e)
  rename_i hc0
  rw [if_neg hc0] at hg hw h
  rw [if_neg hc0] at h
  split
  · rename_i hc
    rw [if_pos hc] at hg hw h
    rw [if_pos hc] at h
    refine ⟨448, _, (by kernel_rfl : (callMethod (.iface 475 (.agg #[.slice (some ⟨g, 0, none⟩) n cap, .int .i64 b])) "lexicon/cells.set" #[.int .i64 i, .int .i64 v]).run Tryz.prog w = .ok (.enter 448 (#[.agg #[.slice (some ⟨g, 0, none⟩) n cap, .int .i64 b]] ++ #[.int .i64 i, .int .i64 v])) w), ?_⟩
    refine (V448_sound _ n cap b i v w (fun r w' => Q (.returned r) w') ?_).mono (by rintro _ _ ⟨v, rfl, h⟩; exact h)
    unfold V448
    refine newK_of fun d w1 hs hb hk => ⟨_, _, _, hb.add 0 rfl, idxK_of hi ?_⟩
    rw [hw, Nat.mul_one]
    exact stK_add (hk.nblk hg) hcs fun w2 hb2 hk2 => h w2 hb2 ((Keep.of_no hk).trans hk2 fun _ _ e => e)
  · rename_i hc
    rw [if_neg hc] at hg hw h
    rw [if_neg hc] at h
    refine ⟨452, _, (by kernel_rfl : (callMethod (.iface 477 (.agg #[.slice (some ⟨g, 0, none⟩) n cap, .int .i64 b])) "lexicon/cells.set" #[.int .i64 i, .int .i64 v]).run Tryz.prog w = .ok (.enter 452 (#[.agg #[.slice (some ⟨g, 0, none⟩) n cap, .int .i64 b]] ++ #[.int .i64 i, .int .i64 v])) w), ?_⟩
    refine (V452_sound _ n cap b i v w (fun r w' => Q (.returned r) w') ?_).mono (by rintro _ _ ⟨v, rfl, h⟩; exact h)
    unfold V452
    refine newK_of fun d w1 hs hb hk => ⟨_, _, _, hb.add 0 rfl, idxK_of hi ?_⟩
    rw [hw, Nat.mul_one]
    exact stK_add (hk.nblk hg) hcs fun w2 hb2 hk2 => h w2 hb2 ((Keep.of_no hk).trans hk2 fun _ _ e => e)
theorem C334 (h : CellsOk w R c g log cells) : Calls Tryz.prog 334 #[.pointer (some ⟨c, 0, none⟩)] w fun e w' => e = .returned (.bool false) ∧ w' = w := by
  refine ret_mono (V334_sound _ w (fun r w' => r = .bool false ∧ w' = w) ?_) (by rintro _ _ ⟨rfl, h⟩; exact ⟨rfl, h⟩)
  unfold V334
  refine bsel_neg rfl ?_
  rw [nilK_some]
  exact ⟨_, h.blk.add 1 rfl, rfl, rfl⟩
theorem C289 (h : CellsOk w R c g log cells) : Calls Tryz.prog 289 #[.pointer (some ⟨c, 0, none⟩)] w fun e w' => e = .returned (.int .i64 log) ∧ w' = w := by
  refine ret_mono (V289_sound _ w (fun r w' => r = .int .i64 log ∧ w' = w) ?_) (by rintro _ _ ⟨rfl, h⟩; exact ⟨rfl, h⟩)
  unfold V289
  refine (C334 h).mono ?_
  rintro _ w1 ⟨rfl, rfl⟩
  refine ⟨_, rfl, bsel_neg rfl ?_⟩
  rw [nilK_some]
  exact ⟨_, h.blk.add 0 rfl, rfl, rfl⟩
theorem C362 (h : CellsOk w R c g log cells) : Calls Tryz.prog 362 #[.pointer (some ⟨c, 0, none⟩)] w fun e w' => e = .returned (.int .i64 (2 ^ log : Nat)) ∧ Keep No w w' := by
  refine ret_mono (V362_sound _ w (fun r w' => r = .int .i64 (2 ^ log : Nat) ∧ Keep No w w') ?_) (by rintro _ _ ⟨rfl, h⟩; exact ⟨rfl, h⟩)
  unfold V362
  refine (C334 h).mono ?_
  rintro _ w1 ⟨rfl, rfl⟩
  refine ⟨_, rfl, bsel_neg rfl ?_⟩
  rw [nilK_some]
  exact ⟨_, h.blk.add 1 rfl, len_inv fun w' hk => ⟨_, rfl, rfl, hk⟩⟩
theorem C328 (h : CellsOk w R c g log cells) : Calls Tryz.prog 328 #[.pointer (some ⟨c, 0, none⟩)] w fun e w' => e = .returned (.int .i64 (room log)) ∧ Keep No w w' := by
  refine ret_mono (V328_sound _ w (fun r w' => r = .int .i64 (room log) ∧ Keep No w w') ?_) (by rintro _ _ ⟨rfl, h⟩; exact ⟨rfl, h⟩)
  unfold V328
  refine (C362 h).mono ?_
  rintro _ w1 ⟨rfl, hk⟩
  refine ⟨_, rfl, by decide, ?_, hk⟩
  have hp := pow_le20 h.lg.2
  unfold room
  generalize 2 ^ log = a at *
  rw [wrap_i64 (n := 2 * (a : Int)) (by omega), Int.tdiv_eq_ediv_of_nonneg (by omega), wrap_i64 (by omega)]
  congr 1
theorem C335_in (h : CellsOk w R c g log cells) {i : Nat} (hi : i < 2 ^ log) : Calls Tryz.prog 335 #[.pointer (some ⟨c, 0, none⟩), .int .i64 i] w fun e w' => e = .returned (.int .i64 0) ∧ Keep No w w' := by
  refine ret_mono (V335_sound _ _ w (fun r w' => r = .int .i64 0 ∧ Keep No w w') ?_) (by rintro _ _ ⟨rfl, h⟩; exact ⟨rfl, h⟩)
  unfold V335
  refine (C334 h).mono ?_
  rintro _ w1 ⟨rfl, rfl⟩
  refine ⟨_, rfl, bsel_neg rfl (bsel_neg (by simp) ((C362 h).mono ?_))⟩
  rintro _ w2 ⟨rfl, hk⟩
  exact ⟨_, rfl, bsel_neg (by simp only [ge_iff_le, decide_eq_false_iff_not, Int.not_le]; exact Int.ofNat_lt.2 hi) ⟨rfl, hk⟩⟩
theorem C290 (h : CellsOk w R c g log cells) {i : Nat} {v : Int} (hv : cells[i]? = some v) : Calls Tryz.prog 290 #[.pointer (some ⟨c, 0, none⟩), .int .i64 i] w fun e w' => e = .returned (.tuple #[.int .i64 v, .int .i64 0]) ∧ Keep No w w' := by
  have hi : i < 2 ^ log := by have := (List.getElem?_eq_some_iff.1 hv).1; rw [h.len] at this; exact this
  refine ret_mono (V290_sound _ _ w (fun r w' => r = .tuple #[.int .i64 v, .int .i64 0] ∧ Keep No w w') ?_) (by rintro _ _ ⟨rfl, h⟩; exact ⟨rfl, h⟩)
  unfold V290
  refine (C335_in h hi).mono ?_
  rintro _ w1 ⟨rfl, hk⟩
  have h1 := h.no hk
  refine ⟨_, rfl, bsel_neg rfl ?_⟩
  rw [nilK_some]
  exact ⟨_, h1.blk.add 1 rfl, get_inv h.lg.2 h1.row hi (by rw [List.getElem?_map, hv]; rfl) (h.rng v (List.mem_of_getElem? hv)) fun w' hk' => ⟨_, rfl, rfl, hk.no hk'⟩⟩
theorem C361 (h : CellsOk w R c g log cells) {v : Int} (hv : fits log v) : Calls Tryz.prog 361 #[.pointer (some ⟨c, 0, none⟩), .int .i64 v] w fun e w' => e = .returned (.bool true) ∧ Keep No w w' := by
  refine ret_mono (V361_sound _ _ w (fun r w' => r = .bool true ∧ Keep No w w') ?_) (by rintro _ _ ⟨rfl, h⟩; exact ⟨rfl, h⟩)
  unfold V361
  refine bsel_split (fun _ => ⟨rfl, Keep.refl _ _⟩) fun h1 => bsel_split (fun _ => ⟨rfl, Keep.refl _ _⟩) fun h2 => ?_
  simp at h1 h2
  obtain ⟨v1, v2⟩ := hv
  refine bsel_pos (by simp; omega) ((C328 h).mono ?_)
  rintro _ w1 ⟨rfl, hk⟩
  exact ⟨_, rfl, by simp [v2], hk⟩
theorem C327 (h : CellsOk w R c g log cells) {i : Nat} {v : Int} (hi : i < 2 ^ log) (hv : fits log v) : Calls Tryz.prog 327 #[.pointer (some ⟨c, 0, none⟩), .int .i64 i, .int .i64 v] w fun e w' => e = .returned (.int .i64 0) ∧ CellsOk w' R c g log (cells.set i v) ∧ Keep (fun k => k = g) w w' := by
  refine ret_mono (V327_sound _ _ _ w (fun r w' => r = .int .i64 0 ∧ CellsOk w' R c g log (cells.set i v) ∧ Keep (fun k => k = g) w w') ?_) (by rintro _ _ ⟨rfl, h⟩; exact ⟨rfl, h⟩)
  unfold V327
  refine (C335_in h hi).mono ?_
  rintro _ w1 ⟨rfl, hk⟩
  refine ⟨_, rfl, bsel_neg rfl ((C361 (h.no hk) hv).mono ?_)⟩
  rintro _ w2 ⟨rfl, hk2⟩
  have h2 := (h.no hk).no hk2
  refine ⟨_, rfl, bsel_neg rfl ?_⟩
  rw [nilK_some]
  refine ⟨_, h2.blk.add 1 rfl, set_inv h.lg.2 h2.row hi (by rw [List.length_map, h2.len]; exact hi) hv fun w3 hb3 hk3 => ⟨_, rfl, rfl, ⟨h.lg, hk3.blk h2.blk h2.ne, ?_, by rw [List.length_set, h.len], fun x hx => ?_, h.ge⟩, (Keep.of_no (hk.no hk2)).trans hk3 fun _ _ e => e⟩⟩
  · rw [List.map_set]; exact hb3
  · rcases List.mem_or_eq_of_mem_set hx with hx | hx
    · exact h.rng x hx
    · subst hx; exact hv
theorem made_run {T e : TypeId} {by' : Nat} {k : IntKind} (T1 : RowT T e by' (.int k 0)) (hb4 : by' ≤ 4) {log : Nat} (hl : log ≤ 20) {K : World → Option Addr → Nat → Nat → Prop}
    (h : ∀ w', Blk w' w.heap.size e (List.replicate (2 ^ log) (.int k 0)) → Keep No w w' → K w' (some ⟨w.heap.size, 0, none⟩) (2 ^ log) (2 ^ log)) :
    ∃ w' : World, ∃ a : Option Addr, ∃ l : Nat, ∃ c : Nat, (Instr.makeSlice T (.int .i64 (shl .i64 1 log)) (.int .i64 (shl .i64 1 log))).run Tryz.prog w = .ok (.slice a l c) w' ∧ K w' a l c := by
  obtain ⟨i, hi, hz, hs, hb⟩ := T1.info
  have hp := pow_le20 hl
  rw [shl_i64 hl]
  have hr := run_make (P := Tryz.prog) w T e i _ T1.und hi hz .i64 .i64 (2 ^ log : Nat) (2 ^ log : Nat) (Int.natCast_nonneg _) (Int.le_refl _)
    (by
      have hm : by' * 2 ^ log ≤ 4 * 1048576 := Nat.mul_le_mul hb4 hp
      rw [hb, ← Int.natCast_mul]
      generalize by' * 2 ^ log = a at *
      omega) (by generalize 2 ^ log = a at *; omega)
  refine ⟨_, _, _, _, hr, ?_⟩
  have e1 : (madeCells (Value.int k 0).cells (((2 ^ log : Nat) : Int).toNat * i.size)).toList = List.replicate (2 ^ log) (.int k 0) := by
    rw [hs, Nat.mul_one, Int.toNat_natCast]
    exact toList_madeCells_one _ _
  have hB := Blk.new w (madeCells (Value.int k 0).cells (((2 ^ log : Nat) : Int).toNat * i.size)) e
  rw [e1] at hB
  exact h _ hB (Keep.fresh w _)
theorem C359 (hl : log ≤ 20) (w : World) : Calls Tryz.prog 359 #[.int .i64 log] w fun e w' => e = .returned (.iface (wT log) (.agg #[.slice (some ⟨w.heap.size, 0, none⟩) (2 ^ log) (2 ^ log), .int .i64 (wB log)])) ∧ Blk w' w.heap.size (wE log) (List.replicate (2 ^ log) (.int (wK log) 0)) ∧ Keep No w w' := by
  refine ret_mono (V359_sound _ w (fun r w' => r = .iface (wT log) (.agg #[.slice (some ⟨w.heap.size, 0, none⟩) (2 ^ log) (2 ^ log), .int .i64 (wB log)]) ∧ Blk w' w.heap.size (wE log) (List.replicate (2 ^ log) (.int (wK log) 0)) ∧ Keep No w w') ?_) (by rintro _ _ ⟨rfl, h⟩; exact ⟨rfl, h⟩)
  unfold V359 wT wE wK wB
  by_cases h7 : log ≤ 7
  · simp only [if_pos h7]
    exact bsel_pos (by simp; omega) ⟨by omega, made_run rowI8 (by decide) hl fun w1 hb hk => ⟨rfl, hb, hk⟩⟩
  · simp only [if_neg h7]
    refine bsel_neg (by simp; omega) ?_
    by_cases h15 : log ≤ 15
    · simp only [if_pos h15]
      exact bsel_pos (by simp; omega) ⟨by omega, made_run rowI16 (by decide) hl fun w1 hb hk => ⟨rfl, hb, hk⟩⟩
    · simp only [if_neg h15]
      exact bsel_neg (by simp; omega) ⟨by omega, made_run rowI32 (by decide) hl fun w1 hb hk => ⟨rfl, hb, hk⟩⟩
theorem room_pos {log : Nat} (h : 3 ≤ log) : 5 ≤ room log := by
  have := Nat.pow_le_pow_right (n := 2) (by decide) h
  unfold room; omega
theorem rep_set (n k : Nat) (a b : Int) (h : k < n) : (List.replicate k a ++ List.replicate (n - k) b).set k a = List.replicate (k + 1) a ++ List.replicate (n - (k + 1)) b := by
  rw [List.set_append_right _ _ (by simp), List.length_replicate, Nat.sub_self]
  obtain ⟨m, hm⟩ : ∃ m, n - k = m + 1 := ⟨n - k - 1, by omega⟩
  rw [hm, List.replicate_succ, List.set_cons_zero, show n - (k + 1) = m by omega, List.replicate_succ', List.append_assoc]
  rfl
theorem C324 (hl : 3 ≤ log ∧ log ≤ 20) (w : World) : Calls Tryz.prog 324 #[.int .i64 log] w fun e w' => ∃ c g, e = .returned (.tuple #[.pointer (some ⟨c, 0, none⟩), .int .i64 0]) ∧ CellsOk w' w.heap.size c g log (List.replicate (2 ^ log) (-1)) ∧ Keep No w w' := by
  refine ret_mono (V324_sound _ w (fun r w' => ∃ c g, r = .tuple #[.pointer (some ⟨c, 0, none⟩), .int .i64 0] ∧ CellsOk w' w.heap.size c g log (List.replicate (2 ^ log) (-1)) ∧ Keep No w w') ?_) (by rintro _ _ ⟨c, g, rfl, h⟩; exact ⟨c, g, rfl, h⟩)
  unfold V324
  refine bsel_neg (by simp; omega) ?_
  unfold V324J1
  refine bsel_neg (by simp; omega) ((C359 hl.2 w).mono ?_)
  rintro _ w1 ⟨rfl, hg, hk1⟩
  have hroom := room_pos hl.1
  refine ⟨_, rfl, plK_of rfl (newK_of fun c w2 hs2 hc hk2 => ⟨_, hc.add 1 rfl, len_inv fun w3 hk3 => ⟨_, rfl, ?_⟩⟩)⟩
  have hcw : w.heap.size ≤ c := by have := hk1.size; omega
  have h0 : CellsOk w3 w.heap.size c w.heap.size log (List.replicate 0 (-1) ++ List.replicate (2 ^ log - 0) 0) := ⟨hl, hk3.nblk hc, by simpa using hk3.nblk (hk2.nblk hg), by simp, fun v hv => by
    simp at hv; rw [hv]; exact ⟨by omega, by omega⟩, hcw, Nat.le_refl _⟩
  have hp := pow_le20 hl.2
  refine ⟨fun i w' => 0 ≤ i ∧ i ≤ (2 ^ log : Nat) ∧ CellsOk w' w.heap.size c w.heap.size log (List.replicate i.toNat (-1) ++ List.replicate (2 ^ log - i.toNat) 0) ∧ Keep No w w', fun i _ => ((2 ^ log : Nat) - i).toNat,
    ⟨by omega, Int.natCast_nonneg _, h0, (hk1.no hk2).no hk3⟩, ?_⟩
  rintro j i w4 ⟨hi0, hin, h4, hk4⟩
  refine bsel_split (fun hlt => ?_) fun hge => ?_
  · obtain ⟨n, rfl⟩ := Int.eq_ofNat_of_zero_le hi0
    have hn : n < 2 ^ log := by simp only [decide_eq_true_eq] at hlt; exact Int.ofNat_lt.1 hlt
    simp only [Int.toNat_natCast] at h4
    refine ⟨_, h4.blk.add 1 rfl, set_inv hl.2 h4.row hn (by rw [List.length_map, h4.len]; exact hn) (v := -1) ⟨by omega, by omega⟩ fun w5 hb5 hk5 => ⟨_, rfl, ?_⟩⟩
    rw [wrap_i64 (by generalize 2 ^ log = a at *; omega)]
    have e1 : ((n : Int) + 1).toNat = n + 1 := by omega
    refine ⟨⟨by omega, by generalize 2 ^ log = a at *; omega, ?_, hk4.news hk5 fun k e => by subst e; exact Nat.le_refl _⟩, by simp only; generalize 2 ^ log = a at *; omega⟩
    rw [e1, ← rep_set _ _ _ _ hn]
    refine ⟨hl, hk5.blk h4.blk h4.ne, by rw [List.map_set]; exact hb5, by rw [List.length_set, h4.len], fun x hx => ?_, h4.ge⟩
    rcases List.mem_or_eq_of_mem_set hx with hx | hx
    · exact h4.rng x hx
    · subst hx; exact ⟨by omega, by omega⟩
  · have hi : i = (2 ^ log : Nat) := by simp only [decide_eq_false_iff_not, Int.not_lt] at hge; omega
    subst hi
    rw [Int.toNat_natCast, Nat.sub_self, List.replicate_zero, List.append_nil] at h4
    exact ⟨c, w.heap.size, rfl, h4, hk4⟩
end
end Go.Fw


set_option autoImplicit false
set_option linter.unusedVariables false
namespace Go.Fw
open Go.Proofs Go.RowKit
def Ent.cells (e : Ent) : List Value := [.bool e.live, .int .i64 e.hash, .int .i64 e.key, .int .i64 e.value, .int .i64 e.birth]
theorem ent_len (e : Ent) : e.cells.length = 5 := rfl
structure Tb where
  ev : Value
  c : Nat
  cg : Nat
  log : Nat
  es : List Ent
  cells : List Int
  live : Int
  births : Int
  made : Int
  turns : Int
def Tb.own (T : Tb) (t : Nat) : Nat → Prop := fun k => k = t ∨ T.ev.ownBlock = some k ∨ k = T.c ∨ k = T.cg
def Tb.all (T : Tb) : List Value := [.pointer none, T.ev, .pointer (some ⟨T.c, 0, none⟩), .int .i64 T.live, .int .i64 T.births, .int .i64 T.made, .int .i64 T.turns]
structure TabAt (w : World) (R t : Nat) (T : Tb) : Prop where
  blk : Blk w t 315 T.all
  row : w.ownsRow R 295 5 T.ev T.es.length (T.es.flatMap Ent.cells)
  cel : CellsOk w R T.c T.cg T.log T.cells
  ge : R ≤ t
  len : T.es.length ≤ room T.log
section
variable {w w' : World} {R t : Nat} {T : Tb} {fp : Nat → Prop}
theorem TabAt.keep (h : TabAt w R t T) (hk : Keep fp w w') (hn : ∀ k, T.own t k → ¬ fp k) : TabAt w' R t T :=
  ⟨hk.blk h.blk (hn t (.inl rfl)), hk.row h.row fun g hg => hn g (.inr (.inl hg)), h.cel.keep hk (hn _ (.inr (.inr (.inl rfl)))) (hn _ (.inr (.inr (.inr rfl)))), h.ge, h.len⟩
theorem TabAt.no (h : TabAt w R t T) (hk : Keep No w w') : TabAt w' R t T := h.keep hk fun _ _ => id
def tabTy : List TypeId := [315, 295, 440, 505, 506, 21]
theorem TabAt.ty (h : TabAt w R t T) {k : Nat} (hk : T.own t k) : R ≤ k ∧ k < w.heap.size ∧ ∃ e, etype w k = some e ∧ e ∈ tabTy := by
  rcases hk with rfl | hk | rfl | rfl
  · exact ⟨h.ge, h.blk.lt, _, h.blk.etype, by decide⟩
  · exact ⟨(h.row.lt k hk).1, (h.row.lt k hk).2, _, ownsRow_etype h.row hk, by decide⟩
  · exact ⟨h.cel.ge.1, h.cel.blk.lt, _, h.cel.blk.etype, by decide⟩
  · exact ⟨h.cel.ge.2, h.cel.row.lt, _, h.cel.row.etype, by unfold wE; split <;> (try split) <;> decide⟩
theorem TabAt.not_own (h : TabAt w R t T) {b : Nat} {x : Option TypeId} (hb : etype w b = x) (hx : ∀ e, x = some e → e ∉ tabTy) : ¬ T.own t b := fun hk => by
  obtain ⟨_, _, e, he, hm⟩ := h.ty hk
  rw [he] at hb
  exact hx e hb.symm hm
theorem TabAt.ne_t (h : TabAt w R t T) : T.ev.ownBlock ≠ some t ∧ T.c ≠ t ∧ T.cg ≠ t := by
  refine ⟨ownsRow_ne h.row h.blk (by decide), h.cel.blk.ne h.blk (by decide), h.cel.row.ne h.blk (by unfold wE; split <;> (try split) <;> decide)⟩
theorem TabAt.ne_ev (h : TabAt w R t T) : T.ev.ownBlock ≠ some T.c ∧ T.ev.ownBlock ≠ some T.cg := by
  refine ⟨ownsRow_ne h.row h.cel.blk (by decide), ownsRow_ne h.row h.cel.row (by unfold wE; split <;> (try split) <;> decide)⟩
theorem TabAt.ent (h : TabAt w R t T) {i : Nat} {e : Ent} (he : T.es[i]? = some e) : ∃ g cap, T.ev = .slice (some ⟨g, 0, none⟩) T.es.length cap ∧ i < T.es.length ∧ CellsAt w ⟨g, i * 5, none⟩ e.cells := by
  have hi := (List.getElem?_eq_some_iff.1 he).1
  have hf : ∀ k, k < 5 → (T.es.flatMap Ent.cells)[i * 5 + k]? = e.cells[k]? := fun k hk => flat_get ent_len hk _ _ _ he
  obtain ⟨g, cap, hv, _, hc, _⟩ := row_at h.row (hf 0 (by decide))
  refine ⟨g, cap, hv, hi, ?_⟩
  have hx : ∀ k v, k < 5 → e.cells[k]? = some v → w.cell? ⟨g, i * 5 + k, none⟩ = some v := by
    intro k v hk hv'
    obtain ⟨g', cap', hv2, _, hc2, _⟩ := row_at h.row ((hf k hk).trans hv')
    rw [hv] at hv2
    cases hv2
    exact hc2
  have key : ∀ (l : List Value) (j : Nat), (∀ m v, l[m]? = some v → w.cell? ⟨g, i * 5 + (j + m), none⟩ = some v) → cellsFrom w ⟨g, i * 5, none⟩ l j := by
    intro l
    induction l with
    | nil => intro j _; trivial
    | cons v l ih =>
      intro j hm
      refine cellsFrom_cons.2 ⟨?_, ih (j + 1) fun m u hu => ?_⟩
      · rw [add_mk]; exact hm 0 v rfl
      · have := hm (m + 1) u (by simpa using hu)
        rw [← this]; congr 2; omega
  refine key _ 0 fun m v hm => ?_
  have hm5 : m < 5 := (List.getElem?_eq_some_iff.1 hm).1
  rw [Nat.zero_add]
  exact hx m v hm5 hm
theorem TabAt.ent_add (h : TabAt w R t T) {i : Nat} {e : Ent} (he : T.es[i]? = some e) : ∃ g cap, T.ev = .slice (some ⟨g, 0, none⟩) T.es.length cap ∧ i < T.es.length ∧ CellsAt w ((⟨g, 0, none⟩ : Addr).add (i * 5)) e.cells := by
  obtain ⟨g, cap, h1, h2, h3⟩ := h.ent he
  exact ⟨g, cap, h1, h2, by rw [add_mk, Nat.zero_add]; exact h3⟩
theorem copy5 {e : TypeId} {z0 z1 z2 z3 z4 v0 v1 v2 v3 v4 : Value} {K : Addr → World → Prop} (h : ∀ b w', Blk w' b e [v0, v1, v2, v3, v4] → Keep No w w' → b = w.heap.size → K ⟨b, 0, none⟩ w') :
    newK w #[z0, z1, z2, z3, z4] e fun a w1 => stK w1 (a.add 0) v0 fun w2 => stK w2 (a.add 1) v1 fun w3 => stK w3 (a.add 2) v2 fun w4 => stK w4 (a.add 3) v3 fun w5 => stK w5 (a.add 4) v4 fun w6 => K a w6 := by
  refine newK_of fun b w1 hs hb hk => ?_
  refine stK_add hb (by simp) fun w2 hb hk2 => ?_
  replace hk := hk.news hk2 (by rintro k rfl; omega)
  refine stK_add hb (by simp) fun w3 hb hk2 => ?_
  replace hk := hk.news hk2 (by rintro k rfl; omega)
  refine stK_add hb (by simp) fun w4 hb hk2 => ?_
  replace hk := hk.news hk2 (by rintro k rfl; omega)
  refine stK_add hb (by simp) fun w5 hb hk2 => ?_
  replace hk := hk.news hk2 (by rintro k rfl; omega)
  refine stK_add hb (by simp) fun w6 hb hk2 => ?_
  replace hk := hk.news hk2 (by rintro k rfl; omega)
  exact h b w6 hb hk hs
theorem set5 {b : Nat} {e : TypeId} {z0 z1 z2 z3 z4 v0 v1 v2 v3 v4 : Value} {K : World → Prop} (hb : Blk w b e [z0, z1, z2, z3, z4]) (h : ∀ w', Blk w' b e [v0, v1, v2, v3, v4] → Keep (fun k => k = b) w w' → K w') :
    stK w ((⟨b, 0, none⟩ : Addr).add 0) v0 fun w2 => stK w2 ((⟨b, 0, none⟩ : Addr).add 1) v1 fun w3 => stK w3 ((⟨b, 0, none⟩ : Addr).add 2) v2 fun w4 => stK w4 ((⟨b, 0, none⟩ : Addr).add 3) v3 fun w5 => stK w5 ((⟨b, 0, none⟩ : Addr).add 4) v4 fun w6 => K w6 := by
  refine stK_add hb (by simp) fun w2 hb hk => ?_
  refine stK_add hb (by simp) fun w3 hb hk2 => ?_
  replace hk := hk.trans hk2 fun _ _ e => e
  refine stK_add hb (by simp) fun w4 hb hk2 => ?_
  replace hk := hk.trans hk2 fun _ _ e => e
  refine stK_add hb (by simp) fun w5 hb hk2 => ?_
  replace hk := hk.trans hk2 fun _ _ e => e
  refine stK_add hb (by simp) fun w6 hb hk2 => ?_
  replace hk := hk.trans hk2 fun _ _ e => e
  exact h w6 hb hk
theorem C326 (h l : Int) (w : World) : Calls Tryz.prog 326 #[.int .i64 h, .int .i64 l] w fun e w' => ∃ a b, e = .returned (.func (.func 360) #[] #[.pointer (some ⟨b, 0, none⟩), .pointer (some ⟨a, 0, none⟩)]) ∧ Blk w' a 3 [.int .i64 h] ∧ Blk w' b 3 [.int .i64 l] ∧ w.heap.size ≤ a ∧ w.heap.size ≤ b ∧ Keep No w w' := by
  refine ret_mono (V326_sound h l w (fun r w' => ∃ a b, r = .func (.func 360) #[] #[.pointer (some ⟨b, 0, none⟩), .pointer (some ⟨a, 0, none⟩)] ∧ Blk w' a 3 [.int .i64 h] ∧ Blk w' b 3 [.int .i64 l] ∧ w.heap.size ≤ a ∧ w.heap.size ≤ b ∧ Keep No w w') ?_) (by rintro _ _ ⟨a, b, rfl, h⟩; exact ⟨a, b, rfl, h⟩)
  unfold V326
  exact newK_of fun a w1 hs ha hk1 => newK_of fun b w2 hs2 hb hk2 => ⟨a, b, rfl, hk2.nblk ha, hb, by omega, by have := hk1.size; omega, hk1.no hk2⟩
theorem C360 {l a b log : Nat} {hash : Int} (hl : 3 ≤ log ∧ log ≤ 20) (ha : Blk w a 3 [.int .i64 hash]) (hb : Blk w b 3 [.int .i64 log]) (Inv : Nat → World → Prop) (Done : World → Prop) (h0 : Inv 0 w)
    (hstep : ∀ n w1, n < 2 ^ log + 13 → Inv n w1 → RoundK Tryz.prog l #[.int .i64 (trAt log (u64 hash) n)] w1 fun r w2 => if r then Inv (n + 1) w2 else Done w2) :
    Calls Tryz.prog 360 #[.func (.yield l) #[] #[], .pointer (some ⟨b, 0, none⟩), .pointer (some ⟨a, 0, none⟩)] w fun e w' => e = .returned (.tuple #[]) ∧ (Done w' ∨ Inv (2 ^ log + 13) w') := by
  refine ret_mono (V360_sound _ ⟨b, 0, none⟩ ⟨a, 0, none⟩ w (fun r w' => r = .tuple #[] ∧ (Done w' ∨ Inv (2 ^ log + 13) w')) ?_) (by rintro _ _ ⟨rfl, h⟩; exact ⟨rfl, h⟩)
  unfold V360
  refine ⟨_, hb.cell rfl, bsel_neg (by simp) ⟨_, hb.cell rfl, ?_⟩⟩
  unfold V360J1
  have hp := pow_le20 hl.2
  have h0p := pow_pos' log
  refine bsel_neg (by simp; omega) ⟨_, hb.cell rfl, by omega, _, ha.cell rfl, _, hb.cell rfl, by omega, ?_⟩
  rw [wrap_hash, shl_i64 hl.2]
  refine ⟨fun i c n w' => ∃ m : Nat, n = m ∧ m ≤ 2 ^ log + 13 ∧ i = (trFrom log (trStart log hash) m).2 ∧ c = (trFrom log (trStart log hash) m).1 ∧ Inv m w', fun _ _ n _ => (((2 ^ log + 13 : Nat) : Int) - n).toNat, ⟨0, rfl, by omega, rfl, ?_, h0⟩, ?_⟩
  · rw [bAnd_mask hl.2 (u64_lt' hash)]; rfl
  rintro j i c n w1 ⟨m, rfl, hm, rfl, rfl, hI⟩
  have hw : IntKind.wrap .i64 (((2 ^ log : Nat) : Int) + 13) = ((2 ^ log + 13 : Nat) : Int) := by
    generalize 2 ^ log = x at *
    rw [wrap_i64 (by omega)]; omega
  rw [hw]
  refine bsel_split (fun hlt => ?_) fun hge => ?_
  · have hlt : m < 2 ^ log + 13 := by simp only [decide_eq_true_eq] at hlt; exact Int.ofNat_lt.1 hlt
    have hf := trFrom_fst (log := log) hash m
    rw [wrap_i64 (by generalize 2 ^ log = x at *; omega)]
    have hr := hstep m w1 hlt hI
    obtain ⟨f, tmps, assign, body, w2, hy, hround⟩ := hr
    refine ⟨f, tmps, assign, body, w2, hy, hround.mono ?_⟩
    rintro _ w3 ⟨r, rfl, hr⟩
    refine ⟨r, rfl, r, rfl, ?_⟩
    cases r
    · exact bsel_pos rfl ⟨rfl, .inl hr⟩
    · refine bsel_neg rfl ⟨by omega, ⟨m + 1, ?_, by omega, ?_, ?_, hr⟩, ?_⟩
      · generalize 2 ^ log = x at *
        rw [wrap_i64 (by omega)]; omega
      · rw [shr_five (trFrom_snd hash m)]; rfl
      · rw [shr_five (trFrom_snd hash m), next_mask hl.2]; rfl
      · simp only
        generalize 2 ^ log = x at *
        rw [wrap_i64 (n := (m : Int) + 1) (by omega)]; omega
  · have : m = 2 ^ log + 13 := by
      simp only [decide_eq_false_iff_not, Int.not_lt] at hge
      have := Int.ofNat_le.1 hge
      omega
    subst this
    exact ⟨rfl, .inr hI⟩
end
end Go.Fw


set_option autoImplicit false
set_option linter.unusedVariables false
namespace Go.Fw
open Go.Proofs Go.RowKit
theorem callFunc360 (x y z : Value) (w : World) : (callFunc 360 #[x, y, z]).run Tryz.prog w = .ok (.enter 360 #[x, y, z]) w := by kernel_rfl
theorem Keep.ett {fp : Nat → Prop} {w w' : World} (h : Keep fp w w') {k : Nat} (hk : k < w.heap.size) (hn : ¬ fp k) : etype w' k = etype w k := by
  unfold etype
  rw [h.block k hk hn]
section
variable {w w' : World} {R t : Nat} {T : Tb}
theorem fits_of_lt {log : Nat} {i : Nat} (h : i < room log) : fits log i := ⟨by omega, by omega⟩
theorem C333 (h : TabAt w R t T) {i : Nat} {e : Ent} (he : T.es[i]? = some e) {k : Nat} (hk : k < 2 ^ T.log + 13) (hemp : T.cells[trAt T.log (u64 e.hash) k]? = some (-1)) (ha : Ahead T.cells T.log e.hash k) :
    Calls Tryz.prog 333 #[.pointer (some ⟨t, 0, none⟩), .int .i64 i] w fun r w' => r = .returned (.tuple #[]) ∧ TabAt w' R t { T with cells := lay T.cells T.log e.hash i } ∧ Keep (fun x => x = T.cg) w w' := by
  refine ret_mono (V333_sound _ _ w (fun r w' => r = .tuple #[] ∧ TabAt w' R t { T with cells := lay T.cells T.log e.hash i } ∧ Keep (fun x => x = T.cg) w w') ?_) (by rintro _ _ ⟨rfl, h⟩; exact ⟨rfl, h⟩)
  rw [lay_at hk hemp ha]
  unfold V333
  refine newK_of fun a3 w1 hs3 h3 hk1 => newK_of fun a5 w2 hs5 h5 hk2 => ?_
  replace h3 := hk2.nblk h3
  have hk02 := (hk1.no hk2).no (Keep.drawn w2)
  have h2 := h.no hk02
  obtain ⟨g, cap, hev, hi, hent⟩ := h2.ent_add he
  refine ⟨_, h3.drew.cell rfl, ?_⟩
  rw [nilK_some]
  refine ⟨_, _, _, (h2.blk.add 1 (by rw [Tb.all, hev]; rfl)), _, h5.drew.cell rfl, idxK_of hi ⟨_, hent.get 1 rfl, _, h3.drew.cell rfl, ?_⟩⟩
  rw [nilK_some]
  refine ⟨_, h2.blk.add 2 rfl, (C289 h2.cel).mono ?_⟩
  rintro _ w2' ⟨rfl, rfl⟩
  refine ⟨_, rfl, hent.get 1 rfl, h5.drew.cell rfl, (h2.blk.add 1 (by rw [Tb.all, hev]; rfl)), h3.drew.cell rfl, (C326 _ _ _).mono ?_⟩
  rintro _ W ⟨A, B, rfl, hA, hB, hA1, hB1, hkW⟩
  have hW : TabAt W R t T := h2.no hkW
  have h3W := hkW.nblk h3.drew
  have h5W := hkW.nblk h5.drew
  have hk0W := hk02.no hkW
  refine ⟨_, rfl, ?_⟩
  intro Rec hnc hround
  generalize hw3 : (W.alloc (.deferred (some []))).alloc (Rec .ready none) = W' at *
  have hkd : Keep No W W' := by subst hw3; exact (Keep.fresh W _).no (Keep.fresh _ _)
  have hsz : W'.heap.size = W.heap.size + 2 := by subst hw3; simp
  have hl : W'.heap[W.heap.size + 1]? = some (Rec .ready none) := by
    subst hw3
    rw [heap_alloc, if_pos (by simp)]
  have hdf : W'.heap[W.heap.size]? = some (.deferred (some [])) := by
    subst hw3
    rw [heap_alloc, if_neg (by simp), heap_alloc, if_pos rfl]
  have hT' := hW.no hkd
  have h3' := hkd.nblk h3W
  have h5' := hkd.nblk h5W
  clear hw3
  have hold : ∀ {b : Nat}, b < W.heap.size → b ≠ W.heap.size + 1 := fun hb => by omega
  have htl : ∀ x, T.own t x → x ≠ W.heap.size + 1 := fun x hx => hold (hW.ty hx).2.1
  have hcgne : T.cg ≠ W.heap.size + 1 := htl _ (.inr (.inr (.inr rfl)))
  have h3cg : a3 ≠ T.cg := fun e => hW.not_own h3W.etype (by rintro _ ⟨⟩; decide) (.inr (.inr (.inr e)))
  have h5cg : a5 ≠ T.cg := fun e => hW.not_own h5W.etype (by rintro _ ⟨⟩; decide) (.inr (.inr (.inr e)))
  have hfin : ∀ (w4 : World) (x : Obj) (cs : List Int), CellsOk w4 R T.c T.cg T.log cs → Keep (fun x => x = W.heap.size + 1 ∨ x = T.cg) W' w4 → w4.heap[W.heap.size]? = some (.deferred (some [])) ∧
      ((w4.putObj (W.heap.size + 1) x).heap[W.heap.size]? = some (.deferred (some []))) ∧ TabAt ((w4.putObj (W.heap.size + 1) x).putObj W.heap.size (.deferred none)) R t { T with cells := cs } ∧ Keep (fun x => x = T.cg) w ((w4.putObj (W.heap.size + 1) x).putObj W.heap.size (.deferred none)) := by
    intro w4 x cs hcs hk4
    have hd4 : w4.heap[W.heap.size]? = some (.deferred (some [])) := by
      rw [hk4.block _ (by omega) (by
        rintro (e | e)
        · omega
        · have := hW.cel.row.lt; omega)]
      exact hdf
    have hp1 := Keep.put (w := w4) (l := W.heap.size + 1) (x := x)
    have hp2 := Keep.put (w := w4.putObj (W.heap.size + 1) x) (l := W.heap.size) (x := .deferred none)
    refine ⟨hd4, ?_, ?_, ?_⟩
    · rw [hp1.block _ (Array.getElem?_eq_some_iff.1 hd4).1 (by omega), hd4]
    · have hT4 : TabAt w4 R t { T with cells := cs } := by
        refine ⟨hk4.blk hT'.blk ?_, hk4.row hT'.row ?_, hcs, hT'.ge, hT'.len⟩
        · rintro (e | e)
          · exact htl t (.inl rfl) e
          · exact hW.ne_t.2.2 e.symm
        · rintro g hg (e | e)
          · exact htl g (.inr (.inl hg)) e
          · exact hW.ne_ev.2 (by rw [hg, e])
      have hx : ∀ x, Tb.own { T with cells := cs } t x → x < W.heap.size := fun x hx => (hW.ty hx).2.1
      exact (hT4.keep hp1 fun x hx' e => by have := hx x hx'; omega).keep hp2 fun x hx' e => by have := hx x hx'; omega
    · have hkw := hk0W.no hkd
      have hs0 := hk0W.size
      refine ((hkw.of_no.trans hk4 fun x hx e => ?_).news hp1 fun x e => by omega).news hp2 fun x e => by omega
      rcases e with e | e
      · omega
      · exact e
  have hstep : ∀ (n : Nat) (w1 : World), n < 2 ^ T.log + 13 → (w1.heap[W.heap.size + 1]? = some (Rec .ready none) ∧ Ahead T.cells T.log e.hash n ∧ Keep (fun x => x = W.heap.size + 1) W' w1) →
      RoundK Tryz.prog (W.heap.size + 1) #[.int .i64 (trAt T.log (u64 e.hash) n)] w1 fun r w2 => if r then (w2.heap[W.heap.size + 1]? = some (Rec .ready none) ∧ Ahead T.cells T.log e.hash (n + 1) ∧ Keep (fun x => x = W.heap.size + 1) W' w2) else
        (w2.heap[W.heap.size + 1]? = some (Rec .done (some (.exit 0))) ∧ CellsOk w2 R T.c T.cg T.log (T.cells.set (trAt T.log (u64 e.hash) k) i) ∧ Keep (fun x => x = W.heap.size + 1 ∨ x = T.cg) W' w2) := by
    rintro n w1 hn ⟨hr1, hA1, hk1⟩
    refine hround w1 _ hr1 _ ⟨hr1, ?_⟩
    have hll := (Array.getElem?_eq_some_iff.1 hr1).1
    have hkp := Keep.put (w := w1) (l := W.heap.size + 1) (x := Rec .busy none)
    have hk2 : Keep (fun x => x = W.heap.size + 1) W' (w1.putObj (W.heap.size + 1) (Rec .busy none)) := hk1.trans hkp fun _ _ e => e
    have hbusy := put_get (x := Rec .busy none) hll
    generalize w1.putObj (W.heap.size + 1) (Rec .busy none) = w2 at *
    have hT2 : TabAt w2 R t T := hT'.keep hk2 fun x hx e => htl x hx e
    have h32 := hk2.blk h3' (hold h3W.lt)
    have h52 := hk2.blk h5' (hold h5W.lt)
    refine ⟨_, h32.cell rfl, ?_⟩
    rw [nilK_some]
    obtain ⟨v, hv⟩ : ∃ v, T.cells[trAt T.log (u64 e.hash) n]? = some v := ⟨_, List.getElem?_eq_getElem (by rw [h.cel.len]; exact trAt_lt _ _ _)⟩
    refine ⟨_, hT2.blk.add 2 rfl, (C290 hT2.cel hv).mono ?_⟩
    rintro _ w3 ⟨rfl, hk3⟩
    have hb3 : w3.heap[W.heap.size + 1]? = some (Rec .busy none) := by rw [hk3.block _ (Array.getElem?_eq_some_iff.1 hbusy).1 id, hbusy]
    refine ⟨_, _, rfl, bsel_split (fun hc => ?_) fun hc => ?_⟩
    · have hv1 : v = -1 := by simpa using hc
      subst hv1
      have hnk : n = k := by
        rcases Nat.lt_trichotomy n k with hx | hx | hx
        · exact absurd hv (ha n hx)
        · exact hx
        · exact absurd hemp (hA1 k hx)
      subst hnk
      have hk23 := hk3.no (Keep.drawn w3)
      have hT3 := hT2.no hk23
      refine ⟨_, (hk3.nblk h32).drew.cell rfl, ?_⟩
      rw [nilK_some]
      have hir : i < room T.log := Nat.lt_of_lt_of_le hi h.len
      refine ⟨_, hT3.blk.add 2 rfl, _, (hk3.nblk h52).drew.cell rfl, (C327 hT3.cel (trAt_lt _ _ _) (fits_of_lt hir)).mono ?_⟩
      rintro _ w4 ⟨rfl, hc4, hk4⟩
      have hb4 : w4.heap[W.heap.size + 1]? = some (Rec .busy none) := by
        rw [hk4.block _ (Array.getElem?_eq_some_iff.1 hb3).1 (fun e => hcgne e.symm)]
        exact hb3
      refine ⟨_, rfl, ⟨_, _, hb4⟩, ?_⟩
      have hp5 := Keep.put (w := w4) (l := W.heap.size + 1) (x := Rec .done (some (.exit 0)))
      refine ⟨put_get (Array.getElem?_eq_some_iff.1 hb4).1, hc4.keep hp5 (fun e => htl _ (.inr (.inr (.inl rfl))) e) fun e => hcgne e, ?_⟩
      refine (((hk2.no hk23).mono fun x _ e => .inl e).trans hk4 fun x _ e => .inr e).trans hp5 fun x _ e => .inl e
    · have hv1 : v ≠ -1 := by simpa using hc
      refine ⟨⟨_, _, hb3⟩, put_get (Array.getElem?_eq_some_iff.1 hb3).1, fun j hj => ?_, (hk2.no hk3).trans Keep.put fun x _ e => e⟩
      by_cases hjn : j = n
      · subst hjn; rw [hv]; simpa using hv1
      · exact hA1 j (by omega)
  refine ⟨callFunc360 _ _ _ _, ?_⟩
  refine (C360 h.cel.lg (hkd.nblk hA) (hkd.nblk hB) (fun n w1 => w1.heap[W.heap.size + 1]? = some (Rec .ready none) ∧ Ahead T.cells T.log e.hash n ∧ Keep (fun x => x = W.heap.size + 1) W' w1)
    (fun w2 => w2.heap[W.heap.size + 1]? = some (Rec .done (some (.exit 0))) ∧ CellsOk w2 R T.c T.cg T.log (T.cells.set (trAt T.log (u64 e.hash) k) i) ∧ Keep (fun x => x = W.heap.size + 1 ∨ x = T.cg) W' w2)
    ⟨hl, fun j hj => by omega, Keep.refl _ _⟩ hstep).mono ?_
  rintro _ w4 ⟨rfl, hd | hi'⟩
  · obtain ⟨hd1, hd2, hd3⟩ := hd
    obtain ⟨_, f2, f3, f4⟩ := hfin w4 (Rec .exhausted (some (.exit 0))) _ hd2 hd3
    exact ⟨⟨_, rfl⟩, .inr (.inl ⟨hd1, f2, rfl, f3, f4⟩)⟩
  · exact absurd hemp (hi'.2.1 k hk)
end
end Go.Fw

