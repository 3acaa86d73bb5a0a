/- Part of a proof over the given program: texts of lemmas (conditions: none beyond each lemma as stated). -/
import Derived.Test.YtdmoefbfepeeaaaGreatDoorP9
import Derived.Lib.RuneCount
set_option linter.unnecessarySimpa false
set_option linter.unusedVariables false
set_option linter.unusedSimpArgs false

set_option autoImplicit false
set_option linter.unusedVariables false
set_option maxRecDepth 100000
namespace Go.Fw
open Go.Proofs Go.RowKit

theorem Keep.of_below {w w' : World} (h : Below w.heap.size w w') : Keep No w w' := ⟨h.os, h.tape, h.output, h.size, fun k hk _ => h.block k hk⟩

/-- A range over a string, at a place. -/
def IterAt (w : World) (r : Nat) (s : ByteArray) (pos : Nat) : Prop := w.heap[r]? = some (.stringIter s pos)
theorem IterAt.lt {w : World} {r pos : Nat} {s : ByteArray} (h : IterAt w r s pos) : r < w.heap.size := (Array.getElem?_eq_some_iff.1 h).1
theorem IterAt.etype {w : World} {r pos : Nat} {s : ByteArray} (h : IterAt w r s pos) : Fw.etype w r = none := by
  unfold IterAt at h
  simp [Fw.etype, h]
theorem Keep.iter {fp : Nat → Prop} {w w' : World} {r pos : Nat} {s : ByteArray} (hk : Keep fp w w') (h : IterAt w r s pos) (hn : ¬ fp r) : IterAt w' r s pos := (hk.block r h.lt hn).trans h
theorem range_of {w : World} {s : ByteArray} {K : World → Option Addr → Prop} (h : ∀ r w', IterAt w' r s 0 → Keep No w w' → r = w.heap.size → K w' (some ⟨r, 0, none⟩)) :
    ∃ w' : World, ∃ p : Option Addr, (Instr.range 9 (.string s)).run Tryz.prog w = .ok (.pointer p) w' ∧ K w' p :=
  ⟨_, _, run_range_string w 9 s Tryz.underlying9, h _ _ (World.iter_heap w s 0) (Keep.fresh w _) rfl⟩
theorem nextSK_of {w : World} {r pos : Nat} {s : ByteArray} {Kd : World → Prop} {K : Int → Int → World → Prop} (h : IterAt w r s pos)
    (h1 : pos < s.size → ∀ w', IterAt w' r s (pos + (Utf8.decode s pos).2) → Keep (fun k => k = r) w w' → K pos (Utf8.decode s pos).1 w') (h2 : ¬ pos < s.size → Kd w) : nextSK (.pointer (some ⟨r, 0, none⟩)) w Kd K := by
  refine ⟨r, s, pos, ⟨rfl, h⟩, fun hp => h1 hp _ ?_ ?_, h2⟩
  · unfold IterAt
    simp [h.lt]
  · refine ⟨rfl, rfl, rfl, by simp, fun k hk hn => ?_⟩
    simp only
    rw [Array.getElem?_setIfInBounds_ne (fun e => hn e.symm)]

theorem runeCountFrom_step {s : ByteArray} {f pos : Nat} (hp : pos < s.size) (hf : s.size ≤ f + pos + 1) : Lib.runeCountFrom s (f + 1) pos = 1 + Lib.runeCountFrom s f (pos + (Utf8.decode s pos).2) := by
  show (if pos < s.size then _ else _) = _
  rw [if_pos hp]
theorem runeCountFrom_fuel (s : ByteArray) : ∀ (f g pos : Nat), s.size ≤ f + pos → s.size ≤ g + pos → Lib.runeCountFrom s f pos = Lib.runeCountFrom s g pos
  | 0, g, pos, hf, _ => by rw [Lib.runeCountFrom_end s 0 pos (by omega), Lib.runeCountFrom_end s g pos (by omega)]
  | f + 1, 0, pos, _, hg => by rw [Lib.runeCountFrom_end s 0 pos (by omega), Lib.runeCountFrom_end s (f + 1) pos (by omega)]
  | f + 1, g + 1, pos, hf, hg => by
    by_cases hp : pos < s.size
    · have := Lib.decode_width_pos s pos hp
      show (if pos < s.size then _ else _) = (if pos < s.size then _ else _)
      rw [if_pos hp, if_pos hp, runeCountFrom_fuel s f g _ (by omega) (by omega)]
    · rw [Lib.runeCountFrom_end s _ pos hp, Lib.runeCountFrom_end s _ pos hp]

/-- letters.Len: how many runes. -/
theorem C71 (s : ByteArray) (hs : s.size < 1000000000000000) (w : World) : Calls Tryz.prog 71 #[.string s] w fun e w' => e = .returned (.int .i64 (Lib.runeCount s)) ∧ Keep No w w' := by
  refine ret_mono (V71_sound s w (fun r w' => r = .int .i64 (Lib.runeCount s) ∧ Keep No w w') ?_) (by rintro _ _ ⟨rfl, h⟩; exact ⟨rfl, h⟩)
  unfold V71
  refine range_of fun r w1 hi hk hr => ?_
  refine ⟨fun n w' => 0 ≤ n ∧ ∃ pos, IterAt w' r s pos ∧ n ≤ pos ∧ n + Lib.runeCountFrom s s.size pos = Lib.runeCount s ∧ (n : Int) ≤ s.size ∧ Keep No w w', fun n _ => s.size - n.toNat, ⟨by omega, 0, hi, by omega, by simp [Lib.runeCount], by omega, hk⟩, ?_⟩
  rintro j n w2 ⟨hn0, pos, hi, hnp, hn, hns, hk⟩
  have hle := Lib.runeCountFrom_le s s.size pos
  have hle2 := Lib.runeCount_le s
  refine nextSK_of hi (fun hp w3 hi3 hk3 => ?_) fun hp => ?_
  · have hw := Lib.decode_width_pos s pos hp
    have hstep : Lib.runeCountFrom s s.size pos = 1 + Lib.runeCountFrom s s.size (pos + (Utf8.decode s pos).2) := by
      rw [runeCountFrom_fuel s s.size (s.size + 1) pos (by omega) (by omega)]
      show (if pos < s.size then _ else _) = _
      rw [if_pos hp]
    rw [wrap_i64 (by omega)]
    refine ⟨⟨by omega, _, hi3, by omega, by omega, by omega, hk.news hk3 (by rintro k rfl; omega)⟩, by simp only; omega⟩
  · have := Lib.runeCountFrom_end s s.size pos hp
    exact ⟨by congr 1; omega, hk⟩

/-- Builder.String. -/
theorem C70 {w : World} {b B : Nat} {l : List UInt8} (h : BufAt w b B l) (hB : B ≤ w.heap.size) :
    Calls Tryz.prog 70 #[.pointer (some ⟨b, 0, none⟩)] w fun e w' => e = .returned (.string ⟨l.toArray⟩) ∧ Keep (Bfp b B w) w w' := by
  obtain ⟨⟨p, v, h1, h2, h3⟩, hge⟩ := h
  have hat : Lib.BuilderAtF 150 5 B b (.pointer p) (Lib.byteCells l) w := ⟨hge, v, h2, World.ownsRowF_of (by rw [Lib.byteCells_length]; exact h3), ownsRow_ne h3 h2 (by decide)⟩
  refine (Tryz.Builder_String_any_k B b l w ?_ hB).mono ?_
  · rcases h1 with rfl | rfl
    · exact .inl hat
    · exact .inr hat
  · rintro _ w' ⟨rfl, _, hb, ho⟩
    refine ⟨rfl, hb.os, hb.tape, hb.output, hb.size, fun k hk hn => ?_⟩
    by_cases hkB : k < B
    · exact hb.block k hkB
    · cases hc : w.heap[k]? with
      | none => simp at hc; omega
      | some o =>
        refine ho k o hc (fun e => hn (.inl (by simpa using e))) fun c fz e => hn (.inr ⟨by omega, ?_⟩)
        subst e
        unfold etype
        rw [hc]
end Go.Fw

set_option autoImplicit false
set_option linter.unusedVariables false
set_option maxRecDepth 100000
namespace Go.Fw
open Go.Proofs Go.RowKit

theorem conv97 (w : World) : (Go.convert 21 9 (.int .i32 97)).run Tryz.prog w = .ok (.string ⟨#[97]⟩) w := by kernel_rfl

theorem C131_a (w : World) : Calls Tryz.prog 131 #[.int .i32 97] w fun e w' => e = .returned (.string ⟨#[97]⟩) ∧ w' = w := by
  refine ret_mono (V131_sound 97 w (fun r w' => r = .string ⟨#[97]⟩ ∧ w' = w) ?_) (by rintro _ _ ⟨rfl, h⟩; exact ⟨rfl, h⟩)
  unfold V131
  refine bsel_neg rfl ?_
  unfold V131J3
  refine bsel_neg rfl (bsel_neg rfl (bsel_neg rfl (bsel_neg (by decide) ?_)))
  unfold V131J2
  refine bsel_neg rfl (bsel_neg (by decide) (bsel_neg rfl (bsel_neg rfl ?_)))
  unfold V131J1
  exact bsel_neg rfl ⟨_, _, conv97 w, rfl, rfl⟩

theorem Keep.of_bfp {w w1 w2 : World} {b B : Nat} (h : Keep No w w1) (hk : Keep (Bfp b B w1) w1 w2) (hb : w.heap.size ≤ b) (hB : w.heap.size ≤ B) : Keep No w w2 :=
  h.news hk fun k hf => by rcases hf with rfl | ⟨h, _⟩ <;> omega

def iterPos (w : World) (r : Nat) : Nat := match w.heap[r]? with | some (.stringIter _ p) => p | _ => 0
theorem IterAt.pos {w : World} {r pos : Nat} {s : ByteArray} (h : IterAt w r s pos) : iterPos w r = pos := by
  unfold IterAt at h
  simp [iterPos, h]

/-- letters.Quote of "a". -/
theorem C76_a (w : World) : Calls Tryz.prog 76 #[.string ⟨#[97]⟩] w fun e w' => e = .returned (.string ⟨#[39, 97, 39]⟩) ∧ Keep No w w' := by
  refine ret_mono (V76_sound _ w (fun r w' => r = .string ⟨#[39, 97, 39]⟩ ∧ Keep No w w') ?_) (by rintro _ _ ⟨rfl, h⟩; exact ⟨rfl, h⟩)
  unfold V76
  refine newK_of fun b w1 hs1 hb1 hk1 => ?_
  have hbu := bufAt_new hb1 (B := w.heap.size) (by omega)
  refine (C130 39 hbu (by simp) hk1.size).mono ?_
  rintro _ w2 ⟨rfl, hbu, hk2⟩
  have hk : Keep No w w2 := hk1.of_bfp hk2 (by omega) (by omega)
  refine ⟨_, rfl, range_of fun r w3 hi hk3 hr => ?_⟩
  replace hbu := hbu.no hk3
  replace hk := hk.no hk3
  refine ⟨fun w' => Keep No w w' ∧ ((IterAt w' r ⟨#[97]⟩ 0 ∧ BufAt w' b w.heap.size [39]) ∨ (IterAt w' r ⟨#[97]⟩ 1 ∧ BufAt w' b w.heap.size [39, 97])), fun w' => 1 - iterPos w' r, ⟨hk, .inl ⟨hi, hbu⟩⟩, ?_⟩
  rintro j w4 ⟨hk, ⟨hi, hbu⟩ | ⟨hi, hbu⟩⟩
  · refine nextSK_of hi (fun hp w5 hi5 hk5 => ?_) fun hp => absurd (by decide) hp
    have hd : Utf8.decode ⟨#[97]⟩ 0 = (97, 1) := by decide
    rw [hd] at hi5 ⊢
    refine (C131_a w5).mono ?_
    rintro _ w5' ⟨rfl, hw5⟩
    subst hw5
    have hrw : w.heap.size ≤ r := by have := hk1.size; have := hk2.size; omega
    have hbu5 := hbu.keep hk5 fun k _ e => by subst e; rw [hi.etype]; exact ⟨by simp, by simp⟩
    replace hk := hk.news hk5 (by rintro k rfl; exact hrw)
    refine ⟨_, rfl, (C69 ⟨#[97]⟩ hbu5 (by decide) hk.size).mono ?_⟩
    rintro _ w6 ⟨rfl, hbu6, hk6⟩
    have hrb : ¬ Bfp b w.heap.size w5' r := by
      rintro (e | ⟨_, e⟩)
      · rw [e] at hi5; have := hi5.etype; rw [hbu5.etype] at this; cases this
      · rw [hi5.etype] at e; cases e
    have hi6 := hk6.iter hi5 hrb
    refine ⟨_, _, rfl, ⟨hk.of_bfp hk6 (by omega) (by omega), .inr ⟨hi6, hbu6⟩⟩, ?_⟩
    simp only
    rw [hi6.pos, hi.pos]
    decide
  · refine nextSK_of hi (fun hp w5 hi5 hk5 => absurd hp (by decide)) fun hp => ?_
    refine (C130 39 hbu (by simp) hk.size).mono ?_
    rintro _ w6 ⟨rfl, hbu6, hk6⟩
    replace hk := hk.of_bfp hk6 (by omega) (by omega)
    refine ⟨_, rfl, (C70 hbu6 hk.size).mono ?_⟩
    rintro _ w7 ⟨rfl, hk7⟩
    exact ⟨_, rfl, rfl, hk.of_bfp hk7 (by omega) (by omega)⟩

/-- Itoa of 1. -/
theorem C77_1 (w : World) : Calls Tryz.prog 77 #[.int .i64 1] w fun e w' => e = .returned (.string ⟨#[49]⟩) ∧ w' = w := by
  have h := Tryz.strconv_Itoa_small 1 (by decide) w
  rw [show (Lib.decDigits 1).toArray = #[49] by kernel_rfl] at h
  exact h
end Go.Fw

set_option autoImplicit false
set_option linter.unusedVariables false
namespace Go.Fw
open Go.Proofs Go.RowKit

/-- A term, as its eight fields lie. -/
structure Tm where
  kind : Int
  b : Bool
  neg : Bool
  ma : Option Addr
  ml : Nat
  mc : Nat
  text : ByteArray
  ka : Option Addr
  kl : Nat
  kc : Nat
  hash : Bool
  same : Bool
def Tm.cells (t : Tm) : List Value := [.int .i64 t.kind, .bool t.b, .bool t.neg, .slice t.ma t.ml t.mc, .string t.text, .slice t.ka t.kl t.kc, .bool t.hash, .bool t.same]

/-- A row of terms. -/
def TermsAt (w : World) (a : Option Addr) (ts : List Tm) : Prop := ∀ i t, ts[i]? = some t → ∃ p, a = some p ∧ CellsAt w (p.add (i * 8)) t.cells

theorem cellsFrom_keep {fp : Nat → Prop} {w w' : World} (hk : Keep fp w w') {a : Addr} (hn : ¬ fp a.block) : ∀ (vs : List Value) (i : Nat), cellsFrom w a vs i → cellsFrom w' a vs i
  | [], _, _ => trivial
  | v :: vs, i, h => by
    obtain ⟨h1, h2⟩ := cellsFrom_cons.1 h
    have hb : (a.add i).block = a.block := by
      unfold Addr.add
      split <;> rfl
    exact cellsFrom_cons.2 ⟨hk.cell h1 (by rw [hb]; exact hn), cellsFrom_keep hk hn vs (i + 1) h2⟩
theorem Keep.cellsAt {fp : Nat → Prop} {w w' : World} (hk : Keep fp w w') {a : Addr} {vs : List Value} (h : CellsAt w a vs) (hn : ¬ fp a.block) : CellsAt w' a vs := cellsFrom_keep hk hn vs 0 h
theorem add_block (a : Addr) (i : Nat) : (a.add i).block = a.block := by
  unfold Addr.add
  split <;> rfl
theorem TermsAt.keep {fp : Nat → Prop} {w w' : World} {a : Option Addr} {ts : List Tm} (h : TermsAt w a ts) (hk : Keep fp w w') (hn : ∀ p, a = some p → ¬ fp p.block) : TermsAt w' a ts := by
  intro i t ht
  obtain ⟨p, rfl, hc⟩ := h i t ht
  exact ⟨p, rfl, hk.cellsAt hc (by rw [add_block]; exact hn p rfl)⟩
theorem TermsAt.no {w w' : World} {a : Option Addr} {ts : List Tm} (h : TermsAt w a ts) (hk : Keep No w w') : TermsAt w' a ts := h.keep hk fun _ _ => id

/-- A term's copy in a variable of its own. -/
theorem termCopy {w : World} {t : Tm} {K : Addr → World → Prop} (h : ∀ b w', Blk w' b 42 t.cells → Keep No w w' → b = w.heap.size → K ⟨b, 0, none⟩ w') :
    newK w #[.int .i64 0, .bool false, .bool false, .slice none 0 0, .string ⟨#[]⟩, .slice none 0 0, .bool false, .bool false] 42 fun a w1 =>
    stK w1 (a.add 0) (.int .i64 t.kind) fun w2 => stK w2 (a.add 1) (.bool t.b) fun w3 => stK w3 (a.add 2) (.bool t.neg) fun w4 => stK w4 (a.add 3) (.slice t.ma t.ml t.mc) fun w5 =>
    stK w5 (a.add 4) (.string t.text) fun w6 => stK w6 (a.add 5) (.slice t.ka t.kl t.kc) fun w7 => stK w7 (a.add 6) (.bool t.hash) fun w8 => stK w8 (a.add 7) (.bool t.same) fun w9 => K a w9 := by
  refine newK_of fun b w1 hs hb hk => ?_
  refine stK_add hb (by simp) fun w2 hb hk2 => ?_
  replace hk := hk.news hk2 (by rintro k rfl; omega)
  refine stK_add hb (by simp) fun w3 hb hk2 => ?_
  replace hk := hk.news hk2 (by rintro k rfl; omega)
  refine stK_add hb (by simp) fun w4 hb hk2 => ?_
  replace hk := hk.news hk2 (by rintro k rfl; omega)
  refine stK_add hb (by simp) fun w5 hb hk2 => ?_
  replace hk := hk.news hk2 (by rintro k rfl; omega)
  refine stK_add hb (by simp) fun w6 hb hk2 => ?_
  replace hk := hk.news hk2 (by rintro k rfl; omega)
  refine stK_add hb (by simp) fun w7 hb hk2 => ?_
  replace hk := hk.news hk2 (by rintro k rfl; omega)
  refine stK_add hb (by simp) fun w8 hb hk2 => ?_
  replace hk := hk.news hk2 (by rintro k rfl; omega)
  refine stK_add hb (by simp) fun w9 hb hk2 => ?_
  replace hk := hk.news hk2 (by rintro k rfl; omega)
  exact h b w9 hb hk hs

def ints (l : List Int) : List Value := l.map (.int .i64)
theorem ints_get {l : List Int} {i : Nat} {n : Int} (h : l[i]? = some n) : (ints l)[i]? = some (.int .i64 n) := by simp [ints, h]

/-- What Build asks of 'wrong' and of 'make': the laws of one Store, in whatever words ('Inv': how the Store stands when i values have been made; 'Fil': when besides the rows of i terms, and j cells of the next one's, are filled). -/
structure Laws (w0 : World) (s b : Nat) (ta : Option Addr) (tc : Nat) (ts : List Tm) (own0 : Nat → Prop) (err : Nat → Int) (Inv : Nat → List Int → (Nat → Prop) → World → Prop) (Fil : Nat → Nat → List Int → (Nat → Prop) → World → Prop) : Prop where
  wrong : ∀ i w, i < ts.length → Keep No w0 w → Blk w b 92 [.pointer (some ⟨s, 0, none⟩), .slice ta ts.length tc, .slice none 0 0] →
    Calls Tryz.prog 39 #[.pointer (some ⟨b, 0, none⟩), .int .i64 i] w fun e w' => e = .returned (.int .i64 (err i)) ∧ Keep No w w'
  stab : ∀ i refs own w w' X, Inv i refs own w → Keep X w w' → (∀ k, X k → k < w.heap.size → (etype w k = some 3 ∨ etype w k = some 92) ∧ ¬ own k) → Inv i refs own w'
  make : ∀ i t refs own w v, (∀ j, j < ts.length → err j = 0) → ts[i]? = some t → refs.length = i → Inv i refs own w → Keep own0 w0 w → TermsAt w ta ts → Blk w b 92 [.pointer (some ⟨s, 0, none⟩), .slice ta ts.length tc, v] → w.ownsRow w0.heap.size 3 1 v i (ints refs) →
    (∀ k, own k → ¬ (k = b ∨ v.ownBlock = some k)) →
    Calls Tryz.prog 40 #[.pointer (some ⟨b, 0, none⟩), .agg t.cells.toArray] w fun e w' => ∃ ref own', e = .returned (.int .i64 ref) ∧ Inv (i + 1) (refs ++ [ref]) own' w' ∧ Keep (fun k => k ≠ b ∧ v.ownBlock ≠ some k ∧ (k < w0.heap.size → own0 k)) w w' ∧ (∀ k, own' k → own k ∨ (w.heap.size ≤ k ∧ k < w'.heap.size))
  start : ∀ refs own w, (∀ j, j < ts.length → err j = 0) → refs.length = ts.length → Inv ts.length refs own w → Fil 0 0 refs own w
  fstab : ∀ i j refs own w w' X, Fil i j refs own w → Keep X w w' → (∀ k, X k → k < w.heap.size → (etype w k = some 3 ∨ etype w k = some 92) ∧ ¬ own k) → Fil i j refs own w'
  get : ∀ i t refs own w ref, (∀ j, j < ts.length → err j = 0) → ts[i]? = some t → refs[i]? = some ref → refs.length = ts.length → Keep own0 w0 w → Fil i 0 refs own w → ∃ x, Calls Tryz.prog 41 #[.pointer (some ⟨s, 0, none⟩), .int .i64 ref] w (fun e w' => e = .returned x ∧ w' = w) ∧
    (((∀ w : World, (Instr.typeAssert x 77 94 true).run Tryz.prog w = .ok (.tuple #[.pointer none, .bool false]) w) ∧ ∀ w1, Fil i 0 refs own w1 → Fil (i + 1) 0 refs own w1) ∨
     (∃ r, x = .iface 94 (.pointer (some ⟨r, 0, none⟩)) ∧ (∀ w1, Fil i t.kl refs own w1 → Fil (i + 1) 0 refs own w1) ∧
       ∀ j w1, j < t.kl → Keep own0 w0 w1 → Keep own w w1 → Fil i j refs own w1 → ∃ g l c p kid, w1.cell? ⟨r, 1, none⟩ = some (.slice (some ⟨g, 0, none⟩) l c) ∧ j < l ∧ own g ∧ w0.heap.size ≤ g ∧ (w1.cell? ⟨g, j, none⟩).isSome = true ∧ w1.frozen? ⟨g, j, none⟩ = false ∧
         t.ka = some p ∧ w1.cell? (p.add j) = some (.int .i64 kid) ∧ 0 ≤ kid ∧ kid < ts.length ∧ ∀ v, refs[kid.toNat]? = some v → Fil i (j + 1) refs own (w1.setCell ⟨g, j, none⟩ (.int .i64 v))))

section
variable {w0 : World} {s b : Nat} {ta : Option Addr} {tc : Nat} {ts : List Tm} {own0 : Nat → Prop} {err : Nat → Int} {Inv : Nat → List Int → (Nat → Prop) → World → Prop} {Fil : Nat → Nat → List Int → (Nat → Prop) → World → Prop}

/-- How Build's first loop ends. -/
def BadEnd (w0 : World) (ts : List Tm) (err : Nat → Int) (r : Value) (w' : World) : Prop :=
  ∃ i, i < ts.length ∧ (∀ j, j < i → err j = 0) ∧ err i ≠ 0 ∧ r = .tuple #[.slice none 0 0, .int .i64 (err i)] ∧ Keep No w0 w'
/-- How Build ends where every term is good. -/
def GoodEnd (w0 : World) (ts : List Tm) (own0 : Nat → Prop) (err : Nat → Int) (Fil : Nat → Nat → List Int → (Nat → Prop) → World → Prop) (r : Value) (w' : World) : Prop :=
  (∀ j, j < ts.length → err j = 0) ∧ ∃ refs own v, refs.length = ts.length ∧ r = .tuple #[v, .int .i64 0] ∧ Fil ts.length 0 refs own w' ∧ Keep own0 w0 w' ∧ w'.ownsRow w0.heap.size 3 1 v ts.length (ints refs) ∧ (∀ k, own k → v.ownBlock ≠ some k)

theorem ownsRow_slice {w : World} {base e size n : Nat} {v : Value} {xs : List Value} (h : w.ownsRow base e size v n xs) : ∃ a c, v = .slice a n c := by
  rcases h.2 with ⟨h1, h2⟩ | ⟨g, cap, cur, h1, _⟩
  · exact ⟨_, _, by rw [h1, h2]⟩
  · exact ⟨_, _, h1⟩

theorem C13_gen (hb : b = w0.heap.size) (hts : TermsAt w0 ta ts) (hta : ∀ p, ta = some p → ¬ own0 p.block) (hn : ts.length < 1000000) (hkl : ∀ (i : Nat) (t : Tm), ts[i]? = some t → t.kl < 1000000000000) (ho0 : ∀ k, own0 k → k < w0.heap.size)
    (hI : Inv 0 [] No w0) (L : Laws w0 s b ta tc ts own0 err Inv Fil) :
    Calls Tryz.prog 13 #[.pointer (some ⟨s, 0, none⟩), .slice ta ts.length tc] w0 fun e w' => ∃ r, e = .returned r ∧ (BadEnd w0 ts err r w' ∨ GoodEnd w0 ts own0 err Fil r w') := by
  refine (V13_sound _ ta ts.length tc w0 (fun r w' => BadEnd w0 ts err r w' ∨ GoodEnd w0 ts own0 err Fil r w') ?_)
  unfold V13
  refine bsel_neg rfl (newK_of fun b' w1 hb' hbb hk1 => ?_)
  obtain rfl : b' = b := by omega
  refine ⟨fun i w => 0 ≤ i ∧ i ≤ ts.length ∧ (∀ j : Nat, (j : Int) < i → err j = 0) ∧ Keep No w0 w ∧ Blk w b' 92 [.pointer (some ⟨s, 0, none⟩), .slice ta ts.length tc, .slice none 0 0], fun i _ => (ts.length - i).toNat,
    ⟨by omega, by omega, fun j hj => by omega, hk1, hbb⟩, ?_⟩
  rintro j0 i w ⟨hi0, hin, herr, hk, hbb⟩
  refine bsel_split (fun hlt => ?_) fun hge => ?_
  · simp at hlt
    obtain ⟨n, rfl⟩ := Int.eq_ofNat_of_zero_le hi0
    refine (L.wrong n w (by omega) hk hbb).mono ?_
    rintro _ w' ⟨rfl, hk'⟩
    refine ⟨_, rfl, bsel_split (fun he => ?_) fun he => ?_⟩
    · refine .inl ⟨n, by omega, fun j hj => herr j (by omega), by simpa using he, rfl, hk.no hk'⟩
    · rw [wrap_i64 (by omega)]
      refine ⟨⟨by omega, by omega, fun j hj => ?_, hk.no hk', hk'.nblk hbb⟩, by simp only; omega⟩
      by_cases hjn : j = n
      · subst hjn; simpa using he
      · exact herr j (by omega)
  simp at hge
  replace herr : ∀ j, j < ts.length → err j = 0 := fun j hj => herr j (by omega)
  clear hi0 hin hge i j0
  -- the second loop
  have hbw : b' < w.heap.size := hbb.lt
  refine ⟨fun i w => 0 ≤ i ∧ i ≤ ts.length ∧ ∃ refs own v, (refs.length : Int) = i ∧ Inv refs.length refs own w ∧ Keep own0 w0 w ∧ Blk w b' 92 [.pointer (some ⟨s, 0, none⟩), .slice ta ts.length tc, v] ∧ w.ownsRow w0.heap.size 3 1 v refs.length (ints refs) ∧
      (∀ k, own k → ¬ (k = b' ∨ v.ownBlock = some k)) ∧ (∀ k, own k → k < w.heap.size), fun i _ => (ts.length - i).toNat,
    ⟨by omega, by omega, [], No, _, rfl, L.stab _ _ _ _ _ _ hI hk (fun _ h => h.elim), Keep.of_no hk, hbb, World.ownsRow_nil _ _ _ _, fun _ h => h.elim, fun _ h => h.elim⟩, ?_⟩
  clear hbb hbw hk w
  rintro j0 i w ⟨hi0, hin, refs, own, v, hrl, hInv, hk, hbb, hrow, hown, hownlt⟩
  have hts' := hts.keep hk hta
  refine bsel_split (fun hlt => ?_) fun hge => ?_
  · simp at hlt
    subst hrl
    obtain ⟨t, ht⟩ : ∃ t, ts[refs.length]? = some t := ⟨_, List.getElem?_eq_getElem (by omega)⟩
    obtain ⟨p, rfl, hc⟩ := hts' _ t ht
    refine idxK_of (by omega) ⟨_, _, _, _, _, _, _, _, _, _, _, _, hc, termCopy fun c w2 hc2 hk2 hcs => ?_⟩
    have hbb2 := hk2.nblk hbb
    obtain ⟨va, vc, rfl⟩ := ownsRow_slice hrow
    refine ⟨_, _, _, hbb2.drew.add 2 rfl, _, _, _, _, _, _, _, _, _, _, _, _, hc2.drew.cells0, ?_⟩
    have hk2 := hk2.no (Keep.drawn w2)
    have hk02 := hk.no hk2
    refine (L.make refs.length t refs own _ _ herr ht rfl (L.stab _ _ _ _ _ _ hInv hk2 fun _ h => h.elim) hk02 (hts.keep hk02 hta) hbb2.drew (hk2.nrow hrow) hown).mono ?_
    rintro _ w3 ⟨ref, own', rfl, hInv3, hk3, hown3⟩
    have hbb3 := hk3.blk hbb2.drew fun h => h.1 rfl
    have hrow3 := hk3.row (hk2.nrow hrow) fun g hg h => h.2.1 hg
    have hk03 : Keep own0 w0 w3 := hk02.trans hk3 fun k h1 h2 => h2.2.2 h1
    refine ⟨_, rfl, hbb3.add 2 rfl, newK_of fun d w4 hd hbd hk4 => ⟨(hk4.nblk hbb3).add 2 rfl, ?_⟩⟩
    have hown3' : ∀ k, own' k → ¬ (k = b' ∨ (Value.slice va refs.length vc).ownBlock = some k) := by
      intro k hk' h
      rcases hown3 k hk' with h' | ⟨h', _⟩
      · exact hown k h' h
      · have h1 := hk2.size
        rcases h with rfl | h
        · have := hbb.lt; omega
        · have := (hrow.lt k h).2; omega
    have hownlt3 : ∀ k, own' k → k < w3.heap.size := by
      intro k hk'
      rcases hown3 k hk' with h' | ⟨_, h'⟩
      · have := hownlt k h'; have := hk2.size; have := hk3.size; omega
      · exact h'
    refine appendRow rowInts (hk4.nrow hrow3) hbd rfl (by omega) (by have := (hk03.no hk4).size; omega) fun g cap w5 hrow5 hk5 hat => ?_
    have hne5 := ownsRow_ne (hk4.nrow hrow3) (hk4.nblk hbb3) (by decide)
    have hbb5 := hk5.blk (hk4.nblk hbb3) fun e => hne5 e
    refine stK_add hbb5 (by simp) fun w6 hbb6 hk6 => ?_
    have hgb : g ≠ b' := fun e => ownsRow_ne hrow5 hbb5 (by decide) (by rw [e]; rfl)
    rw [wrap_i64 (by omega)]
    have hg4 : g = w4.heap.size ∨ (Value.slice va refs.length vc).ownBlock = some g := hat.elim (fun h => .inr h) .inl
    have hInv6 : Inv (refs.length + 1) (refs ++ [ref]) own' w6 := by
      refine L.stab _ _ _ _ _ _ (L.stab _ _ _ _ _ _ (L.stab _ _ _ _ _ _ hInv3 hk4 fun _ h => h.elim) hk5 fun k h _ => ⟨.inl (ownsRow_etype (hk4.nrow hrow3) h), fun h' => hown3' k h' (.inr h)⟩) hk6 fun k h _ => ?_
      subst h
      exact ⟨.inr hbb5.etype, fun h' => hown3' _ h' (.inl rfl)⟩
    have hk06 : Keep own0 w0 w6 := ((hk03.no hk4).news hk5 fun k h => (hrow.lt k h).1).news hk6 fun k h => by subst h; omega
    refine ⟨⟨by omega, by omega, refs ++ [ref], own', _, by simp, by simpa using hInv6, hk06, hbb6, ?_, ?_, ?_⟩, by simp only; omega⟩
    · have := hk6.row hrow5 fun g' hg' e => hgb (by cases hg'; exact e)
      simpa [ints] using this
    · intro k hk' h
      rcases h with h | h
      · exact hown3' k hk' (.inl h)
      · cases h
        rcases hg4 with h | h
        · have := hownlt3 g hk'; have := hk4.size; omega
        · exact hown3' g hk' (.inr h)
    · intro k hk'
      have := hownlt3 k hk'; have := hk4.size; have := hk5.size; have := hk6.size; omega
  simp at hge
  obtain rfl : i = refs.length := by omega
  have hrl : refs.length = ts.length := by omega
  rw [hrl] at hInv hrow
  have hFil := L.start refs own w herr hrl hInv
  clear hInv hi0 hin hge j0 hts'
  obtain ⟨va, vc, rfl⟩ := ownsRow_slice hrow
  have hne := ownsRow_ne hrow hbb (by decide)
  refine ⟨fun i w' => 0 ≤ i ∧ i ≤ ts.length ∧ Fil i.toNat 0 refs own w' ∧ Keep own0 w0 w' ∧ Blk w' b' 92 [.pointer (some ⟨s, 0, none⟩), .slice ta ts.length tc, .slice va ts.length vc] ∧ w'.ownsRow w0.heap.size 3 1 (.slice va ts.length vc) ts.length (ints refs) ∧ w.heap.size ≤ w'.heap.size, fun i _ => (ts.length - i).toNat,
    ⟨by omega, by omega, hFil, hk, hbb, hrow, Nat.le_refl _⟩, ?_⟩
  clear hFil hk hbb hrow
  rintro j0 i w1 ⟨hi0, hin, hFil, hk, hbb, hrow, hsz⟩
  have hts' := hts.keep hk hta
  have hstp : ∀ {w1 w' : World} {X : Nat → Prop} {i j : Nat}, Fil i j refs own w1 → Keep X w1 w' → (∀ k, X k → k < w1.heap.size → (etype w1 k = some 3 ∨ etype w1 k = some 92) ∧ ¬ own k) → Fil i j refs own w' := fun h hk hX => L.fstab _ _ _ _ _ _ _ h hk hX
  refine bsel_split (fun hlt => ?_) fun hge => ?_
  · simp at hlt
    obtain ⟨n, rfl⟩ := Int.eq_ofNat_of_zero_le hi0
    simp only [Int.toNat_natCast] at hFil
    obtain ⟨t, ht⟩ : ∃ t, ts[n]? = some t := ⟨_, List.getElem?_eq_getElem (by omega)⟩
    have hkl' := hkl n t ht
    obtain ⟨ref, href⟩ : ∃ r, refs[n]? = some r := ⟨_, List.getElem?_eq_getElem (by omega)⟩
    obtain ⟨p, rfl, hc⟩ := hts' _ t ht
    refine idxK_of (by omega) ⟨_, _, _, _, _, _, _, _, _, _, _, _, hc, termCopy fun c w2 hc2 hk2 hcs => ?_⟩
    have hbb2 := hk2.nblk hbb
    have hrow2 := hk2.nrow hrow
    have hk02 := hk.no hk2
    have hsz2 : w.heap.size ≤ w2.heap.size := by have := hk2.size; omega
    obtain ⟨g, cap, hv, _, hcell⟩ := row_cell hrow2 (ints_get href)
    have hva : va = some ⟨g, 0, none⟩ ∧ vc = cap := by
      simp at hv
      exact hv
    obtain ⟨rfl, rfl⟩ := hva
    refine ⟨_, _, _, hbb2.add 2 rfl, idxK_of (by omega) ⟨_, by simpa using hcell, ?_⟩⟩
    have hFil2 := hstp hFil hk2 fun _ h => h.elim
    have hnext : ∀ {w' : World} , Fil (n + 1) 0 refs own w' → Keep own0 w0 w' → Blk w' b' 92 [.pointer (some ⟨s, 0, none⟩), .slice (some p) ts.length tc, .slice (some ⟨g, 0, none⟩) ts.length vc] → w'.ownsRow w0.heap.size 3 1 (.slice (some ⟨g, 0, none⟩) ts.length vc) ts.length (ints refs) → w.heap.size ≤ w'.heap.size → True := fun _ _ _ _ _ => trivial
    obtain ⟨x, hget, hx⟩ := L.get n t refs own w2 ref herr ht href hrl hk02 hFil2
    refine hget.mono ?_
    rintro _ w3 ⟨rfl, rfl⟩
    rcases hx with ⟨hno, hf⟩ | ⟨r, rfl, hfin, hstep⟩
    · refine ⟨_, rfl, _, _, hno, bsel_neg rfl ?_⟩
      rw [wrap_i64 (by omega)]
      refine ⟨⟨by omega, by omega, ?_, hk02, hbb2, hrow2, hsz2⟩, by simp only; omega⟩
      have e : ((n : Int) + 1).toNat = n + 1 := by omega
      rw [e]
      exact hf _ hFil2
    · refine ⟨_, rfl, _, _, yes80 _ _, bsel_pos rfl ?_⟩
      refine ⟨_, _, _, hc2.add 5 rfl, ?_⟩
      refine ⟨fun j w' => 0 ≤ j ∧ j ≤ t.kl ∧ Fil n j.toNat refs own w' ∧ Keep own0 w0 w' ∧ Blk w' b' 92 [.pointer (some ⟨s, 0, none⟩), .slice (some p) ts.length tc, .slice (some ⟨g, 0, none⟩) ts.length vc] ∧ w'.ownsRow w0.heap.size 3 1 (.slice (some ⟨g, 0, none⟩) ts.length vc) ts.length (ints refs) ∧ Blk w' c 42 t.cells ∧ w.heap.size ≤ w'.heap.size ∧ Keep own w3 w', fun j _ => (t.kl - j).toNat,
        ⟨by omega, by omega, hFil2, hk02, hbb2, hrow2, hc2, hsz2, Keep.refl _ _⟩, ?_⟩
      clear hFil2 hk02 hbb2 hrow2 hc2 hsz2 hcell hv hget
      rintro j1 j w4 ⟨hj0, hjn, hFil4, hk4, hbb4, hrow4, hc4, hsz4, hko⟩
      refine bsel_split (fun hlt => ?_) fun hge => ?_
      · simp at hlt
        obtain ⟨m, rfl⟩ := Int.eq_ofNat_of_zero_le hj0
        simp only [Int.toNat_natCast] at hFil4
        have hd := Keep.drawn w4
        obtain ⟨g2, l2, c2, q, kid, hg1, hg2, hg3, hg3', hg4, hg5, hq1, hq2, hq3, hq4, hset⟩ := hstep m w4.drew (by omega) (hk4.no hd) (hko.no hd) (hstp hFil4 hd fun _ h => h.elim)
        obtain ⟨kn, rfl⟩ := Int.eq_ofNat_of_zero_le hq3
        simp only [Int.toNat_natCast] at hset
        obtain ⟨v, hv⟩ : ∃ v, refs[kn]? = some v := ⟨_, List.getElem?_eq_getElem (by omega)⟩
        rw [hq1]
        refine idxK_of (by omega) ⟨_, by rw [Nat.mul_one]; exact hq2, ?_⟩
        rw [nilK_some]
        refine ⟨_, _, _, by simpa using hg1, _, _, _, hbb4.drew.add 2 rfl, idxK_of (by omega) ?_⟩
        obtain ⟨g', cap', hv', _, hcell'⟩ := row_cell (hd.nrow hrow4) (ints_get hv)
        have hva : g' = g := by
          simp at hv'
          exact hv'.1.symm
        subst hva
        refine ⟨_, by simpa using hcell', idxK_of hg2 ⟨⟨by simpa using hg4, by simpa using hg5⟩, ?_⟩⟩
        have hset := hset v hv
        have hone := Keep.one w4.drew ⟨g2, m, none⟩ (.int .i64 v)
        simp only [add_mk, Nat.zero_add, Nat.mul_one]
        rw [wrap_i64 (by omega)]
        have hcg : c ≠ g2 := by have := hownlt g2 hg3; have := hc4.lt; omega
        have hbg : b' ≠ g2 := fun e => hown g2 hg3 (.inl e.symm)
        have hgg : g' ≠ g2 := fun e => hown g2 hg3 (.inr (by rw [e]; rfl))
        refine ⟨⟨by omega, by omega, ?_, (hk4.no hd).news hone fun k e => by subst e; exact hg3', hone.blk hbb4.drew hbg, hone.row (hd.nrow hrow4) fun k hk e => hgg (by cases hk; exact e), hone.blk hc4.drew hcg, by have h1 := hone.size; have h2 : w4.drew.heap.size = w4.heap.size := rfl; omega, (hko.no hd).trans hone fun k _ e => by subst e; exact hg3⟩, by omega⟩
        have e : ((m : Int) + 1).toNat = m + 1 := by omega
        rw [e]
        exact hset
      · simp at hge
        have hjm : j = t.kl := by omega
        subst hjm
        rw [wrap_i64 (by omega)]
        refine ⟨⟨by omega, by omega, ?_, hk4, hbb4, hrow4, hsz4⟩, by simp only; omega⟩
        have e : ((n : Int) + 1).toNat = n + 1 := by omega
        rw [e]
        exact hfin _ (by simpa using hFil4)
  · simp at hge
    obtain rfl : i = ts.length := by omega
    simp only [Int.toNat_natCast] at hFil
    have hd := Keep.drawn w1
    refine ⟨_, _, _, hbb.drew.add 2 rfl, _, _, _, hbb.drew.add 2 rfl, ?_⟩
    obtain ⟨i3, hi3, hz3, hs3, hb3⟩ := rowInts.info
    obtain ⟨w2, hr2, ho2, hg2⟩ := run_make_own (P := Tryz.prog) w1.drew w0.heap.size 30 3 i3 _ 1 rowInts.und hi3 hz3 hs3 .i64 .i64 ts.length (by rw [hb3]; omega) (by unfold maxLen; omega) ((hk.no hd).size)
    have hk2 : Keep No w1.drew w2 := (Keep.of_grown hg2).mono fun _ _ h => by cases h
    refine ⟨_, _, _, _, hr2, (hk2.nblk hbb.drew).add 2 rfl, ?_⟩
    have hrow2 := hk2.nrow (hd.nrow hrow)
    have hFil2 := hstp (hstp hFil hd fun _ h => h.elim) hk2 fun _ h => h.elim
    have hk02 := (hk.no hd).no hk2
    rcases hrow2.2 with ⟨hv, h0⟩ | ⟨g, cap, cur, hv, hg, hh, hle, _⟩
    · have hr := run_append_owned_none (P := Tryz.prog) w2 w0.heap.size 30 30 3 i3 1 rowInts.und hi3 _ _ _ ho2
      rw [hv]
      refine ⟨_, _, _, _, hr, .inr ⟨herr, refs, own, _, hrl, rfl, hFil2, hk02, ?_, ?_⟩⟩
      · have : refs = [] := by rw [← List.length_eq_zero_iff]; omega
        subst this
        rw [h0] at ho2 ⊢
        exact ho2
      · intro k hk' h
        cases h
        have := hownlt _ hk'
        simp at this
        omega
    · have hva : va = some ⟨g, 0, none⟩ ∧ vc = cap := by
        simp at hv
        exact hv
      obtain ⟨rfl, rfl⟩ := hva
      obtain ⟨w3, hr3, ho3, hg3⟩ := run_append_fits (P := Tryz.prog) w2 w0.heap.size 30 30 3 i3 1 rowInts.und hi3 hs3 _ _ _ _ ho2 ⟨g, 0, none⟩ ts.length vc (ints refs) (by simp [ints, hrl])
        (fun j u hj => by
          have hjl : j < ts.length := by
            have := (List.getElem?_eq_some_iff.1 hj).1
            simp [ints] at this
            omega
          rw [add_mk, Nat.zero_add, hrow2.cellAt j (by omega), hj]) (fun u hu => by simp [ints] at hu; obtain ⟨_, _, rfl⟩ := hu; rfl) (by omega)
      have hk3 := Keep.of_grown hg3
      refine ⟨_, _, _, _, hr3, .inr ⟨herr, refs, own, _, hrl, rfl, ?_, hk02.news hk3 fun k h => by cases h; have := (hk.no hd).size; exact this, by simp only [Nat.zero_add, List.nil_append] at ho3 ⊢; exact ho3, ?_⟩⟩
      · refine hstp hFil2 hk3 fun k h _ => ⟨.inl (ownsRow_etype ho2 h), fun hk' => ?_⟩
        cases h
        have := hownlt _ hk'
        simp at this
        omega
      · intro k hk' h
        cases h
        have := hownlt _ hk'
        simp at this
        omega
end

end Go.Fw

set_option autoImplicit false
set_option linter.unusedVariables false
namespace Go.Fw
open Go.Proofs Go.RowKit

/-- The kids of a term. -/
def KidsAt (w : World) (t : Tm) (ks : List Int) : Prop := ks.length = t.kl ∧ ∀ j k, ks[j]? = some k → ∃ p, t.ka = some p ∧ w.cell? (p.add j) = some (.int .i64 k)
theorem KidsAt.keep {fp : Nat → Prop} {w w' : World} {t : Tm} {ks : List Int} (h : KidsAt w t ks) (hk : Keep fp w w') (hn : ∀ p, t.ka = some p → ¬ fp p.block) : KidsAt w' t ks :=
  ⟨h.1, fun j k hj => by
    obtain ⟨p, hp, hc⟩ := h.2 j k hj
    exact ⟨p, hp, hk.cell hc (by rw [add_block]; exact hn p hp)⟩⟩
theorem KidsAt.no {w w' : World} {t : Tm} {ks : List Int} (h : KidsAt w t ks) (hk : Keep No w w') : KidsAt w' t ks := h.keep hk fun _ _ => id

/-- 'keys' of what has none. -/
theorem C134_none (t : Tm) (h : t.kind ≠ 7 ∧ t.kind ≠ 8 ∧ t.kind ≠ 9) (w : World) : Calls Tryz.prog 134 #[.agg t.cells.toArray] w fun e w' => e = .returned (.slice none 0 0) ∧ Keep No w w' := by
  refine ret_mono (V134_sound t.kind t.b t.neg t.ma t.ml t.mc t.text t.ka t.kl t.kc t.hash t.same w (fun r w' => r = .slice none 0 0 ∧ Keep No w w') ?_) (by rintro _ _ ⟨rfl, h⟩; exact ⟨rfl, h⟩)
  unfold V134
  refine newK_of fun b w1 hs hb hk => ⟨_, hb.add 0 rfl, bsel_neg (by simp; exact h.2.1) ?_⟩
  unfold V134J1
  exact bsel_neg (by simp; exact h.2.2) (bsel_neg (by simp; exact h.1) ⟨rfl, hk⟩)

theorem valid_a (w : World) : Calls Tryz.prog 136 #[.string ⟨#[97]⟩] w fun e w' => e = .returned (.bool true) ∧ Keep No w w' := by
  refine ret_mono (V136_sound _ w (fun r w' => r = .bool true ∧ Keep No w w') ?_) (by rintro _ _ ⟨rfl, h⟩; exact ⟨rfl, h⟩)
  unfold V136
  refine ⟨fun s w' => w' = w ∧ (s = ⟨#[97]⟩ ∨ s = ⟨#[]⟩), fun s _ => s.size, ⟨rfl, .inl rfl⟩, ?_⟩
  rintro j s w1 ⟨rfl, rfl | rfl⟩
  · refine bsel_pos (by decide) ⟨97, ⟨by decide, by decide⟩, bsel_pos (by decide) ⟨⟨by decide, by decide, by decide⟩, ?_⟩⟩
    have e : (⟨#[97]⟩ : ByteArray).extract (1 : Int).toNat ((⟨#[97]⟩ : ByteArray).size : Int).toNat = ⟨#[]⟩ := by decide
    rw [e]
    refine bsel_neg (by decide) ?_
    unfold V136J2
    exact bsel_neg rfl ⟨⟨rfl, .inr rfl⟩, by show (0 : Nat) < 1; decide⟩
  · exact bsel_neg (by decide) ⟨rfl, Keep.refl _ _⟩

theorem C81_a (w : World) : Calls Tryz.prog 81 #[.string ⟨#[97]⟩] w fun e w' => e = .returned (.bool true) ∧ Keep No w w' := by
  refine ret_mono (V81_sound _ w (fun r w' => r = .bool true ∧ Keep No w w') ?_) (by rintro _ _ ⟨rfl, h⟩; exact ⟨rfl, h⟩)
  unfold V81
  refine (valid_a w).mono ?_
  rintro _ w' ⟨rfl, hk⟩
  exact ⟨_, rfl, rfl, hk⟩

section
variable {w : World} {s b : Nat} {ta : Option Addr} {tc : Nat} {ts : List Tm} {rv : Value}

/-- badKids of a tuple, a list, a str whose kids may be. -/
theorem C80_fine (hb : Blk w b 92 [.pointer (some ⟨s, 0, none⟩), .slice ta ts.length tc, rv]) (hts : TermsAt w ta ts) {n : Nat} {t : Tm} (ht : ts[n]? = some t) {ks : List Int} (hks : KidsAt w t ks)
    (hkl : t.kl < 1000000000000) (hk : t.kind = 5 ∨ t.kind = 4 ∧ t.kl = 0) (hr : ∀ (j : Nat) (k : Int), ks[j]? = some k → 0 ≤ k ∧ k < n) :
    Calls Tryz.prog 80 #[.pointer (some ⟨b, 0, none⟩), .int .i64 n] w fun e w' => e = .returned (.bool false) ∧ Keep No w w' := by
  refine ret_mono (V80_sound _ _ w (fun r w' => r = .bool false ∧ Keep No w w') ?_) (by rintro _ _ ⟨rfl, h⟩; exact ⟨rfl, h⟩)
  have hn : n < ts.length := (List.getElem?_eq_some_iff.1 ht).1
  obtain ⟨p, rfl, hc⟩ := hts _ t ht
  unfold V80
  rw [nilK_some]
  refine ⟨_, _, _, hb.add 1 rfl, idxK_of hn ⟨_, _, _, _, _, _, _, _, _, _, _, _, hc, termCopy fun c w1 hc1 hk1 hcs => ⟨_, hc1.add 0 rfl, bsel_neg (by simp; omega) ?_⟩⟩⟩
  unfold V80J3
  refine ⟨_, _, _, hc1.add 5 rfl, fun i w' => 0 ≤ i ∧ i ≤ t.kl ∧ Keep No w w' ∧ Blk w' c 42 t.cells, fun i _ => (t.kl - i).toNat, ⟨by omega, by omega, hk1, hc1⟩, ?_⟩
  rintro j i w2 ⟨hi0, hin, hk2, hc2⟩
  refine bsel_split (fun hlt => ?_) fun hge => ?_
  · simp at hlt
    obtain ⟨m, rfl⟩ := Int.eq_ofNat_of_zero_le hi0
    obtain ⟨k, hkm⟩ : ∃ k, ks[m]? = some k := ⟨_, List.getElem?_eq_getElem (by have := hks.1; omega)⟩
    obtain ⟨q, hq, hqc⟩ := (hks.no hk2).2 m k hkm
    have := hr m k hkm
    rw [hq]
    refine idxK_of (by omega) ⟨k, by rw [Nat.mul_one]; exact hqc, bsel_neg (by simp; omega) (bsel_neg (by simp; omega) ?_)⟩
    rw [wrap_i64 (by omega)]
    exact ⟨⟨by omega, by omega, hk2, hc2⟩, by simp only; omega⟩
  · refine ⟨_, _, _, _, _, _, _, _, _, _, _, _, hc2.cells0, (C134_none t (by omega) w2).mono ?_⟩
    rintro _ w3 ⟨rfl, hk3⟩
    have hc3 := hk3.nblk hc2
    refine ⟨_, _, _, rfl, fun i w' => i = 0 ∧ w' = w3, fun _ _ => 0, ⟨rfl, rfl⟩, ?_⟩
    rintro j i w4 ⟨rfl, rfl⟩
    refine bsel_neg (by decide) ⟨_, hc3.add 0 rfl, ?_⟩
    rcases hk with hk | ⟨hk, hkl0⟩
    · refine bsel_pos (by simp [hk]) ?_
      unfold V80J2
      exact bsel_pos rfl ⟨rfl, hk2.no hk3⟩
    · refine bsel_neg (by simp [hk]) (bsel_neg (by simp [hk]) (bsel_neg (by simp [hk]) ?_))
      unfold V80J2
      refine bsel_neg (by simp [hk]) (bsel_neg (by simp [hk]) (bsel_neg (by simp [hk]) (bsel_neg (by simp [hk]) ?_)))
      unfold V80J1
      refine bsel_neg (by simp [hk]) ⟨_, _, _, hc3.add 5 rfl, by simp [hkl0], hk2.no hk3⟩

/-- tooBig of a tuple, a list, a str that is not. -/
theorem C82_fine (hb : Blk w b 92 [.pointer (some ⟨s, 0, none⟩), .slice ta ts.length tc, rv]) (hts : TermsAt w ta ts) {n : Nat} {t : Tm} (ht : ts[n]? = some t)
    (hk : t.kind = 5 ∧ t.kl ≤ 65536 ∨ t.kind = 4 ∧ t.text.size ≤ 65536) :
    Calls Tryz.prog 82 #[.pointer (some ⟨b, 0, none⟩), .int .i64 n] w fun e w' => e = .returned (.bool false) ∧ Keep No w w' := by
  refine ret_mono (V82_sound _ _ w (fun r w' => r = .bool false ∧ Keep No w w') ?_) (by rintro _ _ ⟨rfl, h⟩; exact ⟨rfl, h⟩)
  have hn : n < ts.length := (List.getElem?_eq_some_iff.1 ht).1
  obtain ⟨p, rfl, hc⟩ := hts _ t ht
  unfold V82
  rw [nilK_some]
  refine ⟨_, _, _, hb.add 1 rfl, idxK_of hn ⟨_, _, _, _, _, _, _, _, _, _, _, _, hc, termCopy fun c w1 hc1 hk1 hcs => ⟨_, hc1.add 0 rfl, ?_⟩⟩⟩
  rcases hk with ⟨hk, hl⟩ | ⟨hk, hl⟩
  · refine bsel_neg (by simp [hk]) (bsel_neg (by simp [hk]) (bsel_pos (by simp [hk]) ?_))
    unfold V82J1
    refine bsel_pos rfl ⟨_, _, _, hc1.add 5 rfl, by simp; omega, hk1⟩
  · refine bsel_pos (by simp [hk]) ⟨_, hc1.add 4 rfl, (C71 t.text (by omega) w1).mono ?_⟩
    rintro _ w2 ⟨rfl, hk2⟩
    have := Lib.runeCount_le t.text
    exact ⟨_, rfl, by simp; omega, hk1.no hk2⟩

/-- wrong of such. -/
theorem C39_fine (hb : Blk w b 92 [.pointer (some ⟨s, 0, none⟩), .slice ta ts.length tc, rv]) (hts : TermsAt w ta ts) {n : Nat} {t : Tm} (ht : ts[n]? = some t) {ks : List Int} (hks : KidsAt w t ks)
    (hk : t.kind = 5 ∧ t.kl ≤ 65536 ∨ t.kind = 4 ∧ t.text = ⟨#[97]⟩ ∧ t.kl = 0) (hr : ∀ (j : Nat) (k : Int), ks[j]? = some k → 0 ≤ k ∧ k < n) :
    Calls Tryz.prog 39 #[.pointer (some ⟨b, 0, none⟩), .int .i64 n] w fun e w' => e = .returned (.int .i64 0) ∧ Keep No w w' := by
  refine ret_mono (V39_sound _ _ w (fun r w' => r = .int .i64 0 ∧ Keep No w w') ?_) (by rintro _ _ ⟨rfl, h⟩; exact ⟨rfl, h⟩)
  have hn : n < ts.length := (List.getElem?_eq_some_iff.1 ht).1
  have hts0 := hts
  obtain ⟨p, rfl, hc⟩ := hts _ t ht
  unfold V39
  rw [nilK_some]
  refine ⟨_, _, _, hb.add 1 rfl, idxK_of hn ⟨_, _, _, _, _, _, _, _, _, _, _, _, hc, termCopy fun c w1 hc1 hk1 hcs => ⟨_, hc1.add 0 rfl, (C79 _ w1).mono ?_⟩⟩⟩
  rintro _ w1' ⟨rfl, rfl⟩
  refine ⟨_, rfl, bsel_neg (by simp; omega) ?_⟩
  refine (C80_fine (hk1.nblk hb) (hts0.no hk1) ht (hks.no hk1) (by omega) (by omega) hr).mono ?_
  rintro _ w2 ⟨rfl, hk2⟩
  have hk02 := hk1.no hk2
  have hend : ∀ w3, Keep No w w3 → V39J1 (fun r w' => r = Value.int .i64 0 ∧ Keep No w w') (some ⟨b, 0, none⟩) n false w3 := by
    intro w3 hk3
    unfold V39J1
    refine bsel_neg rfl ((C82_fine (hk3.nblk hb) (hts0.no hk3) ht ?_).mono ?_)
    · rcases hk with ⟨h1, h2⟩ | ⟨h1, h2, h3⟩
      · exact .inl ⟨h1, h2⟩
      · exact .inr ⟨h1, by rw [h2]; decide⟩
    · rintro _ w4 ⟨rfl, hk4⟩
      exact ⟨_, rfl, bsel_neg rfl ⟨rfl, hk3.no hk4⟩⟩
  refine ⟨_, rfl, bsel_neg rfl ⟨_, (hk2.nblk hc1).add 0 rfl, ?_⟩⟩
  rcases hk with ⟨h1, h2⟩ | ⟨h1, h2, h3⟩
  · exact bsel_neg (by simp [h1]) (hend _ hk02)
  · refine bsel_pos (by simp [h1]) ⟨_, (hk2.nblk hc1).add 4 rfl, ?_⟩
    rw [h2]
    refine (C81_a w2).mono ?_
    rintro _ w3 ⟨rfl, hk3⟩
    exact ⟨_, rfl, hend _ (hk02.no hk3)⟩
end
end Go.Fw

set_option autoImplicit false
set_option linter.unusedVariables false
namespace Go.Fw
open Go.Proofs Go.RowKit

section
variable {w : World} {s b B : Nat} {S : St} {t : Tm} {rest : List Value}

theorem C40_str (h : StAt w s B S) (hb : Blk w b 92 (.pointer (some ⟨s, 0, none⟩) :: rest)) (hl : S.vals.length < 100000000000) (hB : B ≤ w.heap.size) (hk : t.kind = 4) :
    Calls Tryz.prog 40 #[.pointer (some ⟨b, 0, none⟩), .agg t.cells.toArray] w fun e w' => e = .returned (.int .i64 S.vals.length) ∧ ∃ d, StAt w' s B { S with due := d, vals := S.vals ++ [.iface 160 (.agg #[.string t.text])] } ∧ Keep (Ty B storeTy w) w w' := by
  refine ret_mono (V40_sound _ t.kind t.b t.neg t.ma t.ml t.mc t.text t.ka t.kl t.kc t.hash t.same w (fun r w' => r = .int .i64 S.vals.length ∧ ∃ d, StAt w' s B { S with due := d, vals := S.vals ++ [.iface 160 (.agg #[.string t.text])] } ∧ Keep (Ty B storeTy w) w w') ?_) (by rintro _ _ ⟨rfl, h⟩; exact ⟨rfl, h⟩)
  unfold V40
  refine newK_of fun c w1 hs hc hk1 => ⟨_, hc.add 0 rfl, bsel_neg (by simp [hk]) (bsel_neg (by simp [hk]) (bsel_neg (by simp [hk]) (bsel_pos (by simp [hk]) ?_)))⟩
  have hk1' := hk1.no (Keep.drawn w1)
  rw [nilK_some]
  refine ⟨_, (hk1'.nblk hb).add 0 rfl, _, hc.drew.add 4 rfl, (C86 (h.no hk1') hl (by have := hk1'.size; omega)).mono ?_⟩
  rintro _ w2 ⟨rfl, d, h2, hk2⟩
  exact ⟨_, rfl, rfl, d, h2, (Keep.of_no hk1').ty hk2⟩

theorem C40_row (h : StAt w s B S) (hb : Blk w b 92 (.pointer (some ⟨s, 0, none⟩) :: rest)) (hl : S.vals.length < 100000000000) (hB : B ≤ w.heap.size) (hk : t.kind = 5 ∨ t.kind = 6) (hkl : t.kl < 1000000000000) (h1 : 0 ≤ S.last ∧ S.last < 1000000000000) (h2 : -1000000000000 < S.live ∧ S.live < 1000000000000) :
    Calls Tryz.prog 40 #[.pointer (some ⟨b, 0, none⟩), .agg t.cells.toArray] w fun e w' => e = .returned (.int .i64 S.vals.length) ∧ ∃ d r g, w.heap.size ≤ r ∧ w.heap.size ≤ g ∧ Blk w' r 100 [.int .i64 (S.last + 1), .slice (some ⟨g, 0, none⟩) t.kl t.kl, .int .i64 t.kind] ∧ Blk w' g 3 (List.replicate t.kl (.int .i64 0)) ∧
      StAt w' s B { S with due := d, last := S.last + 1, live := S.live + 1, vals := S.vals ++ [.iface 94 (.pointer (some ⟨r, 0, none⟩))] } ∧ Keep (Ty B storeTy w) w w' := by
  refine ret_mono (V40_sound _ t.kind t.b t.neg t.ma t.ml t.mc t.text t.ka t.kl t.kc t.hash t.same w (fun r w' => r = .int .i64 S.vals.length ∧ ∃ d r g, w.heap.size ≤ r ∧ w.heap.size ≤ g ∧ Blk w' r 100 [.int .i64 (S.last + 1), .slice (some ⟨g, 0, none⟩) t.kl t.kl, .int .i64 t.kind] ∧ Blk w' g 3 (List.replicate t.kl (.int .i64 0)) ∧
      StAt w' s B { S with due := d, last := S.last + 1, live := S.live + 1, vals := S.vals ++ [.iface 94 (.pointer (some ⟨r, 0, none⟩))] } ∧ Keep (Ty B storeTy w) w w') ?_) (by rintro _ _ ⟨rfl, h⟩; exact ⟨rfl, h⟩)
  unfold V40
  refine newK_of fun c w1 hs hc hk1 => ⟨_, hc.add 0 rfl, bsel_neg (by simp; omega) (bsel_neg (by simp; omega) (bsel_neg (by simp; omega) (bsel_neg (by simp; omega) ?_)))⟩
  have hgo : V40J4 w (fun r w' => r = .int .i64 S.vals.length ∧ ∃ d r g, w.heap.size ≤ r ∧ w.heap.size ≤ g ∧ Blk w' r 100 [.int .i64 (S.last + 1), .slice (some ⟨g, 0, none⟩) t.kl t.kl, .int .i64 t.kind] ∧ Blk w' g 3 (List.replicate t.kl (.int .i64 0)) ∧
      StAt w' s B { S with due := d, last := S.last + 1, live := S.live + 1, vals := S.vals ++ [.iface 94 (.pointer (some ⟨r, 0, none⟩))] } ∧ Keep (Ty B storeTy w) w w') (some ⟨b, 0, none⟩) ⟨c, 0, none⟩ t.kind true w1 := by
    have hk1' := hk1.no (Keep.drawn w1)
    unfold V40J4
    refine bsel_pos rfl ?_
    rw [nilK_some]
    obtain ⟨i3, hi3, hz3, hs3, hb3⟩ := rowInts.info
    have hr := run_make (P := Tryz.prog) w1.drew 30 3 i3 _ rowInts.und hi3 hz3 .i64 .i64 t.kl t.kl (by omega) (Int.le_refl _) (by rw [hb3]; omega) (by omega)
    refine ⟨_, (hk1'.nblk hb).add 0 rfl, _, hc.drew.add 0 rfl, _, _, _, hc.drew.add 5 rfl, _, _, _, _, hr, ?_⟩
    have hk2 := Keep.fresh w1.drew (.cells (madeCells (Value.int .i64 0).cells ((t.kl : Int).toNat * i3.size)) 3)
    have hg := Blk.new w1.drew (madeCells (Value.int .i64 0).cells ((t.kl : Int).toNat * i3.size)) 3
    have e : (madeCells (Value.int .i64 0).cells ((t.kl : Int).toNat * i3.size)).toList = List.replicate t.kl (.int .i64 0) := by
      rw [hs3, Nat.mul_one, Int.toNat_natCast]
      exact toList_madeCells_one _ _
    rw [e] at hg
    have hk12 := hk1'.no hk2
    refine ⟨(hk2.nblk hc.drew).add 0 rfl, (hk12.nblk hb).add 0 rfl, (C87 (h.no hk12) hl (by have := hk12.size; omega) h1 h2).mono ?_⟩
    rintro _ w3 ⟨rfl, d, r, hr1, hr2, h3, hk3⟩
    exact ⟨_, rfl, rfl, d, r, w1.drew.heap.size, by have := hk12.size; omega, hk1'.size, by simpa using hr2, hk3.tblk hg (by decide), h3, (Keep.of_no hk12).ty hk3⟩
  rcases hk with hk | hk
  · exact bsel_pos (by simp [hk]) hgo
  · exact bsel_neg (by simp [hk]) (by simpa [hk] using hgo)
end
end Go.Fw

set_option autoImplicit false
set_option linter.unusedVariables false
namespace Go.Fw
open Go.Proofs Go.RowKit

theorem StAt.types {w w' : World} {X : Nat → Prop} {s B : Nat} {S : St} (h : StAt w s B S) (hk : Keep X w w') (hX : ∀ k, X k → k < w.heap.size → ∃ e, Fw.etype w k = some e ∧ e ∉ storeTy) : StAt w' s B S :=
  h.keep (hk.mono (fp' := fun k => X k ∧ k < w.heap.size) fun k h1 h2 => ⟨h2, h1⟩) fun k _ ⟨h1, h2⟩ => hX k h1 h2
theorem Keep.xblk {w w' : World} {X : Nat → Prop} (hk : Keep X w w') {b : Nat} {e : TypeId} {cs : List Value} (hb : Blk w b e cs) (hn : b < w.heap.size → ¬ X b) : Blk w' b e cs := hk.blk hb (hn hb.lt)

def tmA : Tm := ⟨4, false, false, none, 0, 0, ⟨#[97]⟩, none, 0, 0, false, false⟩
def tmB (kb : Nat) : Tm := ⟨5, false, false, none, 0, 0, ⟨#[]⟩, some ⟨kb, 0, none⟩, 2, 2, false, false⟩
def strA : Value := .iface 160 (.agg #[.string ⟨#[97]⟩])

section
variable (s B : Nat) (S : St) (w0 : World)
/-- How the Store stands while 'awake' builds. -/
def AwInv (i : Nat) (refs : List Int) (own : Nat → Prop) (w : World) : Prop :=
  (i = 0 ∧ refs = [] ∧ (∀ k, ¬ own k) ∧ ∃ d, StAt w s B { S with due := d }) ∨ (i = 1 ∧ refs = [3] ∧ (∀ k, ¬ own k) ∧ ∃ d, StAt w s B { S with due := d, vals := val0 ++ [strA] }) ∨
  (i = 2 ∧ refs = [3, 4] ∧ ∃ d r g cs, StAt w s B { S with due := d, last := 1, live := 1, vals := val0 ++ [strA, .iface 94 (.pointer (some ⟨r, 0, none⟩))] } ∧ Blk w r 100 [.int .i64 1, .slice (some ⟨g, 0, none⟩) 2 2, .int .i64 5] ∧ Blk w g 3 cs ∧ cs.length = 2 ∧ own g ∧ w0.heap.size ≤ g ∧ (∀ k, own k → k = g))
def AwFil (i j : Nat) (refs : List Int) (own : Nat → Prop) (w : World) : Prop := AwInv s B S w0 2 refs own w

theorem awInv_stab (i : Nat) (refs : List Int) (own : Nat → Prop) (w w' : World) (X : Nat → Prop) (h : AwInv s B S w0 i refs own w) (hk : Keep X w w') (hX : ∀ k, X k → k < w.heap.size → (etype w k = some 3 ∨ etype w k = some 92) ∧ ¬ own k) : AwInv s B S w0 i refs own w' := by
  have hX' : ∀ k, X k → k < w.heap.size → ∃ e, etype w k = some e ∧ e ∉ storeTy := fun k h1 h2 => by
    rcases (hX k h1 h2).1 with h | h
    · exact ⟨3, h, by decide⟩
    · exact ⟨92, h, by decide⟩
  rcases h with ⟨hi, hr, ho, d, h1⟩ | ⟨hi, hr, ho, d, h1⟩ | ⟨hi, hr, d, r, g, cs, h1, h2, h3, h4, h5, h6, h7⟩
  · exact .inl ⟨hi, hr, ho, d, h1.types hk hX'⟩
  · exact .inr (.inl ⟨hi, hr, ho, d, h1.types hk hX'⟩)
  · refine .inr (.inr ⟨hi, hr, d, r, g, cs, h1.types hk hX', hk.xblk h2 fun hl hx => ?_, hk.xblk h3 fun hl hx => (hX g hx hl).2 h5, h4, h5, h6, h7⟩)
    rcases (hX r hx hl).1 with h | h <;> rw [h2.etype] at h <;> cases h
end

theorem aw_laws {w0 : World} {s B b tb kb : Nat} {S : St} (hb : b = w0.heap.size) (hB : B ≤ w0.heap.size) (hS : S.vals = val0) (hl : S.last = 0) (hv : S.live = 0)
    (hkb : Blk w0 kb 3 [.int .i64 0, .int .i64 0]) (htb : Blk w0 tb 42 (tmA.cells ++ (tmB kb).cells)) :
    Laws w0 s b (some ⟨tb, 0, none⟩) 2 [tmA, tmB kb] (fun k => Ty B storeTy w0 k) (fun _ => 0) (AwInv s B S w0) (AwFil s B S w0) := by
  have hts : TermsAt w0 (some ⟨tb, 0, none⟩) [tmA, tmB kb] := by
    intro i t ht
    rcases i with _ | _ | i
    · cases ht
      exact ⟨_, rfl, htb.cellsAdd 0 rfl⟩
    · cases ht
      exact ⟨_, rfl, htb.cellsAdd 8 rfl⟩
    · simp at ht
  have hkA : ∀ w, KidsAt w tmA [] := fun w => ⟨rfl, fun j k h => by simp at h⟩
  have hkB : KidsAt w0 (tmB kb) [0, 0] := ⟨rfl, fun j k h => by
    rcases j with _ | _ | j
    · cases h; exact ⟨_, rfl, hkb.add 0 rfl⟩
    · cases h; exact ⟨_, rfl, hkb.add 1 rfl⟩
    · simp at h⟩
  have hTy : ∀ {w : World} {k : Nat}, Keep (fun k => Ty B storeTy w0 k) w0 w → Ty B storeTy w k → k < w0.heap.size → Ty B storeTy w0 k := by
    intro w k hk ht hlt
    by_cases hc : Ty B storeTy w0 k
    · exact hc
    · obtain ⟨h1, e, h2, h3⟩ := ht
      refine ⟨h1, e, ?_, h3⟩
      rw [← h2]
      unfold etype
      rw [hk.block k hlt hc]
  refine ⟨?_, awInv_stab s B S w0, ?_, fun refs own w _ _ h => h, fun i j => awInv_stab s B S w0 2, ?_⟩
  · intro i w hi hk hbb
    rcases i with _ | _ | i
    · exact C39_fine hbb (hts.no hk) (n := 0) rfl (hkA w) (.inr ⟨rfl, rfl, rfl⟩) (by intro j k h; simp at h)
    · refine C39_fine hbb (hts.no hk) (n := 1) rfl (hkB.no hk) (.inl ⟨rfl, by simp [tmB]⟩) ?_
      intro j k h
      rcases j with _ | _ | j
      · cases h; decide
      · cases h; decide
      · simp at h
    · simp at hi; omega
  · intro i t refs own w v _ ht hrl hInv hk _ hbb hrow hown
    have hsz := hk.size
    have hfoot : ∀ k, Ty B storeTy w k → k ≠ b ∧ v.ownBlock ≠ some k ∧ (k < w0.heap.size → Ty B storeTy w0 k) := by
      intro k hT
      have hT' := hT
      obtain ⟨_, e, he, hm⟩ := hT
      refine ⟨fun h => ?_, fun h => ?_, hTy hk hT'⟩
      · subst h; rw [hbb.etype] at he; cases he; exact absurd hm (by decide)
      · rw [ownsRow_etype hrow h] at he; cases he; exact absurd hm (by decide)
    rcases i with _ | _ | i
    · cases ht
      rcases hInv with ⟨_, rfl, ho, d, h⟩ | ⟨h, _⟩ | ⟨h, _⟩
      rotate_left
      · omega
      · omega
      refine (C40_str h hbb (by simp [hS, val0]) (by omega) rfl).mono ?_
      rintro _ w' ⟨rfl, d', h', hk'⟩
      refine ⟨_, own, rfl, .inr (.inl ⟨rfl, by simp [hS, val0], ho, d', ?_⟩), hk'.mono fun k _ h => hfoot k h, fun k h => .inl h⟩
      simpa [hS, strA, tmA] using h'
    · cases ht
      rcases hInv with ⟨h, _⟩ | ⟨_, rfl, ho, d, h⟩ | ⟨h, _⟩
      · omega
      rotate_left
      · omega
      refine (C40_row h hbb (by simp [val0]) (by omega) (.inl rfl) (by simp [tmB]) (by simp [hl]) (by simp [hv])).mono ?_
      rintro _ w' ⟨rfl, d', r, g, hr, hg, hbr, hbg, h', hk'⟩
      refine ⟨_, fun k => own k ∨ k = g, rfl, .inr (.inr ⟨rfl, by simp [val0], d', r, g, _, ?_, ?_, hbg, by simp [tmB], .inr rfl, by omega, fun k h => h.elim (fun h => absurd h (ho k)) id⟩), hk'.mono fun k _ h => hfoot k h, fun k h => ?_⟩
      · simpa [hl, hv] using h'
      · simpa [hl, tmB] using hbr
      · rcases h with h | rfl
        · exact .inl h
        · exact .inr ⟨hg, hbg.lt⟩
    · simp at ht
  · intro i t refs own w ref _ ht href hrl hk hF
    rcases hF with ⟨h, _⟩ | ⟨h, _⟩ | ⟨_, rfl, d, r, g, cs, h1, h2, h3, h4, h5, h6, h7⟩
    · omega
    · omega
    rcases i with _ | _ | i
    · cases ht
      cases href
      exact ⟨strA, C41_in h1 (i := 3) rfl, .inl ⟨no80 (by decide) _ _, fun w1 h => h⟩⟩
    · cases ht
      cases href
      refine ⟨_, C41_in h1 (i := 4) rfl, .inr ⟨r, rfl, fun w1 h => h, ?_⟩⟩
      intro j w1 hj hk1 hko hF
      have hkb1 : Blk w1 kb 3 [.int .i64 0, .int .i64 0] := hk1.blk hkb fun h => by
        obtain ⟨_, e, he, hm⟩ := h
        rw [hkb.etype] at he; cases he; exact absurd hm (by decide)
      have hr1 := hko.blk h2 fun h => by
        have := h7 r h
        subst this
        have h8 := h2.etype
        rw [h3.etype] at h8
        cases h8
      have hj2 : j < 2 := hj
      have hF0 := hF
      rcases hF with ⟨h, _⟩ | ⟨h, _⟩ | ⟨_, _, d', r', g', cs', h1', h2', h3', h4', h5', h6', h7'⟩
      · omega
      · omega
      have hgg : g' = g := h7 g' h5'
      subst hgg
      obtain ⟨kid, hkid, hk0⟩ : ∃ kid, ([.int .i64 0, .int .i64 0] : List Value)[j]? = some (.int .i64 kid) ∧ kid = 0 := by
        rcases j with _ | _ | j
        · exact ⟨0, rfl, rfl⟩
        · exact ⟨0, rfl, rfl⟩
        · omega
      refine ⟨g', 2, 2, _, kid, hr1.cell rfl, hj2, h5', h6', ?_, h3'.frozen, rfl, by rw [add_mk]; exact hkb1.cell (by simpa using hkid), by omega, by simp [hk0], ?_⟩
      · rw [h3'.cell (List.getElem?_eq_getElem (by omega))]; rfl
      · intro v hv
        have hone := Keep.one w1 ⟨g', j, none⟩ (.int .i64 v)
        refine .inr (.inr ⟨rfl, rfl, d', r', g', _, ?_, ?_, h3'.set, by simp [h4'], h5', h6', h7'⟩)
        · exact h1'.types hone fun k e _ => by subst e; exact ⟨3, h3'.etype, by decide⟩
        · exact hone.blk h2' fun e => by
            have e : r' = g' := e
            have h8 := h2'.etype
            rw [e, h3'.etype] at h8
            cases h8
    · simp at ht
end Go.Fw

set_option autoImplicit false
set_option linter.unusedVariables false
namespace Go.Fw
open Go.Proofs Go.RowKit

/-! Simple terms: None, "a", tuples, lists. -/
def SimpleT (n i : Nat) (t : Tm) (ks : List Int) : Prop :=
  (t.kind = 1 ∧ t.kl = 0) ∨ (t.kind = 4 ∧ t.text = ⟨#[97]⟩ ∧ t.kl = 0) ∨ (t.kind = 5 ∧ t.kl ≤ 65536 ∧ ∀ (j : Nat) (k : Int), ks[j]? = some k → 0 ≤ k ∧ k < i) ∨
  (t.kind = 6 ∧ t.kl ≤ 65536 ∧ ∀ (j : Nat) (k : Int), ks[j]? = some k → 0 ≤ k ∧ k < n)
theorem SimpleT.kl {n i : Nat} {t : Tm} {ks : List Int} (h : SimpleT n i t ks) : t.kl ≤ 65536 := by
  rcases h with h | h | h | h <;> omega
theorem SimpleT.kind {n i : Nat} {t : Tm} {ks : List Int} (h : SimpleT n i t ks) : t.kind = 1 ∨ t.kind = 4 ∨ t.kind = 5 ∨ t.kind = 6 := by
  rcases h with h | h | h | h <;> omega
/-- Up to what number a term's kids may go. -/
def limit (n i : Nat) (t : Tm) : Nat := if t.kind = 6 then n else i
theorem SimpleT.kids {n i : Nat} {t : Tm} {ks : List Int} (h : SimpleT n i t ks) (hl : ks.length = t.kl) : ∀ (j : Nat) (k : Int), ks[j]? = some k → 0 ≤ k ∧ k < limit n i t := by
  intro j k hj
  unfold limit
  rcases h with h | h | h | h
  · have := (List.getElem?_eq_some_iff.1 hj).1; omega
  · have := (List.getElem?_eq_some_iff.1 hj).1; omega
  · rw [if_neg (by omega)]; exact h.2.2 j k hj
  · rw [if_pos h.1]; exact h.2.2 j k hj

section
variable {w : World} {s b : Nat} {ta : Option Addr} {tc : Nat} {ts : List Tm} {rv : Value}

theorem C80_simple (hb : Blk w b 92 [.pointer (some ⟨s, 0, none⟩), .slice ta ts.length tc, rv]) (hts : TermsAt w ta ts) {n : Nat} {t : Tm} (ht : ts[n]? = some t) {ks : List Int} (hks : KidsAt w t ks)
    (hS : SimpleT ts.length n t ks) :
    Calls Tryz.prog 80 #[.pointer (some ⟨b, 0, none⟩), .int .i64 n] w fun e w' => e = .returned (.bool false) ∧ Keep No w w' := by
  refine ret_mono (V80_sound _ _ w (fun r w' => r = .bool false ∧ Keep No w w') ?_) (by rintro _ _ ⟨rfl, h⟩; exact ⟨rfl, h⟩)
  have hn : n < ts.length := (List.getElem?_eq_some_iff.1 ht).1
  have hr := hS.kids hks.1
  have hkl := hS.kl
  have hkd := hS.kind
  obtain ⟨p, rfl, hc⟩ := hts _ t ht
  unfold V80
  rw [nilK_some]
  refine ⟨_, _, _, hb.add 1 rfl, idxK_of hn ⟨_, _, _, _, _, _, _, _, _, _, _, _, hc, termCopy fun c w1 hc1 hk1 hcs => ⟨_, hc1.add 0 rfl, ?_⟩⟩⟩
  have hgo : V80J3 (fun r w' => r = .bool false ∧ Keep No w w') (some ⟨b, 0, none⟩) ⟨c, 0, none⟩ (limit ts.length n t) w1 := by
    unfold V80J3
    refine ⟨_, _, _, hc1.add 5 rfl, fun i w' => 0 ≤ i ∧ i ≤ t.kl ∧ Keep No w w' ∧ Blk w' c 42 t.cells, fun i _ => (t.kl - i).toNat, ⟨by omega, by omega, hk1, hc1⟩, ?_⟩
    rintro j i w2 ⟨hi0, hin, hk2, hc2⟩
    refine bsel_split (fun hlt => ?_) fun hge => ?_
    · simp at hlt
      obtain ⟨m, rfl⟩ := Int.eq_ofNat_of_zero_le hi0
      obtain ⟨k, hkm⟩ : ∃ k, ks[m]? = some k := ⟨_, List.getElem?_eq_getElem (by have := hks.1; omega)⟩
      obtain ⟨q, hq, hqc⟩ := (hks.no hk2).2 m k hkm
      have := hr m k hkm
      rw [hq]
      refine idxK_of (by omega) ⟨k, by rw [Nat.mul_one]; exact hqc, bsel_neg (by simp; omega) (bsel_neg (by simp; omega) ?_)⟩
      rw [wrap_i64 (by omega)]
      exact ⟨⟨by omega, by omega, hk2, hc2⟩, by simp only; omega⟩
    · refine ⟨_, _, _, _, _, _, _, _, _, _, _, _, hc2.cells0, (C134_none t (by omega) w2).mono ?_⟩
      rintro _ w3 ⟨rfl, hk3⟩
      have hc3 := hk3.nblk hc2
      refine ⟨_, _, _, rfl, fun i w' => i = 0 ∧ w' = w3, fun _ _ => 0, ⟨rfl, rfl⟩, ?_⟩
      rintro j i w4 ⟨rfl, rfl⟩
      refine bsel_neg (by decide) ⟨_, hc3.add 0 rfl, ?_⟩
      by_cases h5 : t.kind = 5
      · refine bsel_pos (by simp [h5]) ?_
        unfold V80J2
        exact bsel_pos rfl ⟨rfl, hk2.no hk3⟩
      by_cases h6 : t.kind = 6
      · refine bsel_neg (by simp [h6]) (bsel_pos (by simp [h6]) ?_)
        unfold V80J2
        exact bsel_pos rfl ⟨rfl, hk2.no hk3⟩
      have hkl0 : t.kl = 0 := by rcases hS with h | h | h | h <;> omega
      have h14 : t.kind = 1 ∨ t.kind = 4 := by omega
      refine bsel_neg (by simp [h5]) (bsel_neg (by simp [h6]) (bsel_neg (by simp; omega) ?_))
      unfold V80J2
      refine bsel_neg (by simp; omega) (bsel_neg (by simp; omega) (bsel_neg (by simp; omega) (bsel_neg (by simp; omega) ?_)))
      unfold V80J1
      refine bsel_neg (by simp; omega) ⟨_, _, _, hc3.add 5 rfl, by simp [hkl0], hk2.no hk3⟩
  refine bsel_split (fun h6 => ?_) fun h6 => ?_
  · have h6 : t.kind = 6 := by simpa using h6
    rw [nilK_some]
    refine ⟨_, _, _, (hk1.nblk hb).add 1 rfl, ?_⟩
    unfold limit at hgo
    rwa [if_pos h6] at hgo
  · have h6 : ¬ t.kind = 6 := by simpa using h6
    unfold limit at hgo
    rwa [if_neg h6] at hgo

theorem len_map0 {w : World} {m : Nat} (h : w.heap[m]? = some (.map #[] 0)) : (vcEff.bltV .len #[259] 3 #[.map (some m)]).run Tryz.prog w = .ok (.int .i64 0) w := by
  simp [vcEff.bltV, Builtin.len_, run_underlying Tryz.underlying259, MapKept.run_getObj_map h, goInt, Result.andThen]

theorem C82_row (hb : Blk w b 92 [.pointer (some ⟨s, 0, none⟩), .slice ta ts.length tc, rv]) (hts : TermsAt w ta ts) {n : Nat} {t : Tm} (ht : ts[n]? = some t)
    (hk : t.kind = 5 ∧ t.kl ≤ 65536 ∨ t.kind = 4 ∧ t.text.size ≤ 65536 ∨ t.kind = 6 ∧ t.kl ≤ 65536) :
    Calls Tryz.prog 82 #[.pointer (some ⟨b, 0, none⟩), .int .i64 n] w fun e w' => e = .returned (.bool false) ∧ Keep No w w' := by
  refine ret_mono (V82_sound _ _ w (fun r w' => r = .bool false ∧ Keep No w w') ?_) (by rintro _ _ ⟨rfl, h⟩; exact ⟨rfl, h⟩)
  have hn : n < ts.length := (List.getElem?_eq_some_iff.1 ht).1
  obtain ⟨p, rfl, hc⟩ := hts _ t ht
  unfold V82
  rw [nilK_some]
  refine ⟨_, _, _, hb.add 1 rfl, idxK_of hn ⟨_, _, _, _, _, _, _, _, _, _, _, _, hc, termCopy fun c w1 hc1 hk1 hcs => ⟨_, hc1.add 0 rfl, ?_⟩⟩⟩
  rcases hk with ⟨hk, hl⟩ | ⟨hk, hl⟩ | ⟨hk, hl⟩
  · refine bsel_neg (by simp [hk]) (bsel_neg (by simp [hk]) (bsel_pos (by simp [hk]) ?_))
    unfold V82J1
    refine bsel_pos rfl ⟨_, _, _, hc1.add 5 rfl, by simp; omega, hk1⟩
  · refine bsel_pos (by simp [hk]) ⟨_, hc1.add 4 rfl, (C71 t.text (by omega) w1).mono ?_⟩
    rintro _ w2 ⟨rfl, hk2⟩
    have := Lib.runeCount_le t.text
    exact ⟨_, rfl, by simp; omega, hk1.no hk2⟩
  · refine bsel_neg (by simp [hk]) (bsel_neg (by simp [hk]) (bsel_neg (by simp [hk]) ?_))
    unfold V82J1
    refine bsel_pos (by simp [hk]) ⟨_, _, _, hc1.add 5 rfl, by simp; omega, hk1⟩

/-- tooBig of a simple term. -/
theorem C82_simple (hb : Blk w b 92 [.pointer (some ⟨s, 0, none⟩), .slice ta ts.length tc, rv]) (hts : TermsAt w ta ts) {n : Nat} {t : Tm} (ht : ts[n]? = some t) {ks : List Int} {pairs : Int} (hpairs : ∀ w', Keep No w w' → w'.cell? ⟨s, 1, none⟩ = some (.int .i64 pairs)) (hp : 0 ≤ pairs)
    (hS : SimpleT ts.length n t ks) :
    Calls Tryz.prog 82 #[.pointer (some ⟨b, 0, none⟩), .int .i64 n] w fun e w' => e = .returned (.bool false) ∧ Keep No w w' := by
  by_cases h1 : t.kind = 1
  · refine ret_mono (V82_sound _ _ w (fun r w' => r = .bool false ∧ Keep No w w') ?_) (by rintro _ _ ⟨rfl, h⟩; exact ⟨rfl, h⟩)
    have hn : n < ts.length := (List.getElem?_eq_some_iff.1 ht).1
    obtain ⟨p, rfl, hc⟩ := hts _ t ht
    unfold V82
    rw [nilK_some]
    refine ⟨_, _, _, hb.add 1 rfl, idxK_of hn ⟨_, _, _, _, _, _, _, _, _, _, _, _, hc, termCopy fun c w1 hc1 hk1 hcs => ⟨_, hc1.add 0 rfl, ?_⟩⟩⟩
    refine bsel_neg (by simp [h1]) (bsel_neg (by simp [h1]) (bsel_neg (by simp [h1]) ?_))
    rw [show (t.kind == 6) = false by simp [h1]]
    unfold V82J1
    refine bsel_neg rfl ⟨_, _, run_makeMap _ w1, ?_⟩
    have hkm := Keep.fresh w1 (.map #[] 0)
    have hc2 := hkm.nblk hc1
    refine ⟨_, _, _, _, _, _, _, _, _, _, _, _, hc2.cells0, (C134_none t (by omega) _).mono ?_⟩
    rintro _ w3 ⟨rfl, hk3⟩
    refine ⟨_, _, _, rfl, fun i w' => i = 0 ∧ w' = w3, fun _ _ => 0, ⟨rfl, rfl⟩, ?_⟩
    rintro j i w4 ⟨rfl, rfl⟩
    have hk04 := (hk1.no hkm).no hk3
    refine bsel_neg (by decide) ?_
    rw [nilK_some]
    refine ⟨_, (hk04.nblk hb).drew.add 0 rfl, ?_⟩
    rw [nilK_some]
    have hkd := hk04.no (Keep.drawn w4)
    refine ⟨pairs, by simpa [add_mk] using hpairs _ hkd, ?_⟩
    have hm : w4.drew.heap[w1.heap.size]? = some (.map #[] 0) := by
      have h0 : (w1.alloc (.map #[] 0)).heap[w1.heap.size]? = some (.map #[] 0) := by rw [heap_alloc, if_pos rfl]
      have := (hk3.no (Keep.drawn w4)).block _ (Array.getElem?_eq_some_iff.1 h0).1 id
      rw [this, h0]
    refine ⟨_, _, len_map0 hm, by simpa [add_mk] using hpairs _ hkd, (hk04.nblk hb).drew.add 0 rfl, ?_, hkd⟩
    congr 1
    simp; omega
  · refine C82_row hb hts ht ?_
    rcases hS with h | h | h | h
    · exact absurd h.1 h1
    · exact .inr (.inl ⟨h.1, by rw [h.2.1]; decide⟩)
    · exact .inl ⟨h.1, h.2.1⟩
    · exact .inr (.inr ⟨h.1, h.2.1⟩)

/-- wrong of a simple term. -/
theorem C39_simple (hb : Blk w b 92 [.pointer (some ⟨s, 0, none⟩), .slice ta ts.length tc, rv]) (hts : TermsAt w ta ts) {n : Nat} {t : Tm} (ht : ts[n]? = some t) {ks : List Int} (hks : KidsAt w t ks) {pairs : Int} (hpairs : w.cell? ⟨s, 1, none⟩ = some (.int .i64 pairs)) (hp : 0 ≤ pairs)
    (hS : SimpleT ts.length n t ks) :
    Calls Tryz.prog 39 #[.pointer (some ⟨b, 0, none⟩), .int .i64 n] w fun e w' => e = .returned (.int .i64 0) ∧ Keep No w w' := by
  refine ret_mono (V39_sound _ _ w (fun r w' => r = .int .i64 0 ∧ Keep No w w') ?_) (by rintro _ _ ⟨rfl, h⟩; exact ⟨rfl, h⟩)
  have hn : n < ts.length := (List.getElem?_eq_some_iff.1 ht).1
  have hts0 := hts
  have hkd := hS.kind
  obtain ⟨p, rfl, hc⟩ := hts _ t ht
  unfold V39
  rw [nilK_some]
  refine ⟨_, _, _, hb.add 1 rfl, idxK_of hn ⟨_, _, _, _, _, _, _, _, _, _, _, _, hc, termCopy fun c w1 hc1 hk1 hcs => ⟨_, hc1.add 0 rfl, (C79 _ w1).mono ?_⟩⟩⟩
  rintro _ w1' ⟨rfl, rfl⟩
  refine ⟨_, rfl, bsel_neg (by simp; omega) ?_⟩
  refine (C80_simple (hk1.nblk hb) (hts0.no hk1) ht (hks.no hk1) hS).mono ?_
  rintro _ w2 ⟨rfl, hk2⟩
  have hk02 := hk1.no hk2
  have hend : ∀ w3, Keep No w w3 → V39J1 (fun r w' => r = Value.int .i64 0 ∧ Keep No w w') (some ⟨b, 0, none⟩) n false w3 := by
    intro w3 hk3
    unfold V39J1
    refine bsel_neg rfl ((C82_simple (hk3.nblk hb) (hts0.no hk3) ht (fun w' hk' => (hk3.no hk').cell hpairs id) hp hS).mono ?_)
    rintro _ w4 ⟨rfl, hk4⟩
    exact ⟨_, rfl, bsel_neg rfl ⟨rfl, hk3.no hk4⟩⟩
  refine ⟨_, rfl, bsel_neg rfl ⟨_, (hk2.nblk hc1).add 0 rfl, ?_⟩⟩
  by_cases h4 : t.kind = 4
  · have ht4 : t.text = ⟨#[97]⟩ := by rcases hS with h | h | h | h <;> first | exact h.2.1 | omega
    refine bsel_pos (by simp [h4]) ⟨_, (hk2.nblk hc1).add 4 rfl, ?_⟩
    rw [ht4]
    refine (C81_a w2).mono ?_
    rintro _ w3 ⟨rfl, hk3⟩
    exact ⟨_, rfl, hend _ (hk02.no hk3)⟩
  · exact bsel_neg (by simp [h4]) (hend _ hk02)

theorem C40_none {S : St} {B : Nat} {rest : List Value} {t : Tm} (h : StAt w s B S) (hb : Blk w b 92 (.pointer (some ⟨s, 0, none⟩) :: rest)) (hk : t.kind = 1) :
    Calls Tryz.prog 40 #[.pointer (some ⟨b, 0, none⟩), .agg t.cells.toArray] w fun e w' => e = .returned (.int .i64 0) ∧ Keep No w w' := by
  refine ret_mono (V40_sound _ t.kind t.b t.neg t.ma t.ml t.mc t.text t.ka t.kl t.kc t.hash t.same w (fun r w' => r = .int .i64 0 ∧ Keep No w w') ?_) (by rintro _ _ ⟨rfl, h⟩; exact ⟨rfl, h⟩)
  unfold V40
  exact newK_of fun c w1 hs hc hk1 => ⟨_, hc.add 0 rfl, bsel_pos (by simp [hk]) ⟨rfl, hk1⟩⟩
end
end Go.Fw

set_option autoImplicit false
set_option linter.unusedVariables false
namespace Go.Fw
open Go.Proofs Go.RowKit

/-! The reference's store, as far as simple terms go. -/
structure RV where
  kind : Int
  number : Int
  b : Bool
  text : ByteArray
  items : Value
  n : Nat
  xs : List Value
def RV.cells (v : RV) : List Value := [.int .i64 v.kind, .int .i64 v.number, .bool false, .bool v.b, .bool false, .slice none 0 0, .string v.text, v.items, .pointer none, .int .i64 0, .slice none 0 0, .int .i64 0, .int .i64 0, .int .i64 0, .int .i64 0, .pointer none, .pointer none, .int .i64 0, .pointer none, .bool false, .bool false, .bool false]
theorem RV.cells_len (v : RV) : v.cells.length = 22 := rfl

structure RR where
  pairs : Int
  shared : Int
  m : Option Addr
def RR.cells (R : RR) : List Value := [.int .i64 0, .int .i64 R.pairs, .int .i64 R.shared, .slice none 0 0, .slice none 0 0, .pointer R.m]

structure RSt (w : World) (r B : Nat) (R : RR) (L : List RV) (last : Int) : Prop where
  ex : ∃ lv, Blk w r 220 ([lv, .int .i64 last] ++ R.cells) ∧ w.ownsRow B 226 22 lv L.length (L.flatMap RV.cells)
  items : ∀ (i : Nat) (v : RV), L[i]? = some v → w.ownsRow B 3 1 v.items v.n v.xs
  apart : ∀ (i j : Nat) (v u : RV), i ≠ j → L[i]? = some v → L[j]? = some u → ∀ g, v.items.ownBlock = some g → u.items.ownBlock ≠ some g
  small : L.length < 10000000
  ge : B ≤ r
/-- What making a value may turn. -/
def Rfp (r B : Nat) (w : World) : Nat → Prop := fun k => k = r ∨ (B ≤ k ∧ etype w k = some 226)
theorem Keep.rfp {r B : Nat} {w w' w'' : World} (h : Keep (Rfp r B w) w w') (h' : Keep (Rfp r B w') w' w'') : Keep (Rfp r B w) w w'' :=
  h.trans h' fun k hk hf => by
    by_cases hc : Rfp r B w k
    · exact hc
    · rcases hf with rfl | ⟨hB, he⟩
      · exact .inl rfl
      · refine .inr ⟨hB, ?_⟩
        unfold etype at he ⊢
        rw [← h.block k hk hc]
        exact he
theorem RSt.keep {w w' : World} {X : Nat → Prop} {r B : Nat} {R : RR} {L : List RV} {last : Int} (h : RSt w r B R L last) (hk : Keep X w w') (hn : ∀ k, B ≤ k → X k → etype w k ≠ some 220 ∧ etype w k ≠ some 226 ∧ etype w k ≠ some 3) : RSt w' r B R L last := by
  obtain ⟨⟨lv, h1, h2⟩, h3, h4, h5, h6⟩ := h
  refine ⟨⟨lv, hk.blk h1 fun hx => (hn r h6 hx).1 h1.etype, hk.row h2 fun g hg hx => (hn g (h2.lt g hg).1 hx).2.1 (ownsRow_etype h2 hg)⟩, fun i v hi => hk.row (h3 i v hi) fun g hg hx => (hn g ((h3 i v hi).lt g hg).1 hx).2.2 (ownsRow_etype (h3 i v hi) hg), h4, h5, h6⟩
theorem RSt.no {w w' : World} {r B : Nat} {R : RR} {L : List RV} {last : Int} (h : RSt w r B R L last) (hk : Keep No w w') : RSt w' r B R L last := h.keep hk fun _ _ h => h.elim
theorem RSt.etype {w : World} {r B : Nat} {R : RR} {L : List RV} {last : Int} (h : RSt w r B R L last) : Fw.etype w r = some 220 := by
  obtain ⟨⟨lv, h1, _⟩, _⟩ := h
  exact h1.etype

theorem infoVal : ∃ i z, Tryz.prog.info? 226 = some i ∧ i.zero = some z ∧ i.size = 22 ∧ z.cells.size = 22 ∧ 0 < i.bytes ∧ i.bytes ≤ 1000 := by
  obtain ⟨i, hi, hj⟩ := Option.map_eq_some_iff.1 (show (Tryz.prog.info? 226).map (fun i => (i.zero.map fun z => z.cells.size, i.size, decide (0 < i.bytes ∧ i.bytes ≤ 1000))) = some (some 22, 22, true) by kernel_rfl)
  simp at hj
  obtain ⟨⟨z, hz, hzs⟩, h1, h2, h3⟩ := hj
  exact ⟨i, z, hi, hz, h1, hzs, h2, h3⟩

theorem items_one {w : World} {base e size n : Nat} {v : Value} {xs : List Value} (h : w.ownsRow base e size v n xs) : v.oneCell' = true ∧ plainV v = true := by
  obtain ⟨a, c, rfl⟩ := ownsRow_slice h
  exact ⟨rfl, rfl⟩

/-- Plain: a value more. -/
theorem C245 {w : World} {r B : Nat} {R : RR} {L : List RV} {last : Int} {v : RV} (h : RSt w r B R L last) (hv : w.ownsRow B 3 1 v.items v.n v.xs) (hap : ∀ (i : Nat) (u : RV), L[i]? = some u → ∀ g, u.items.ownBlock = some g → v.items.ownBlock ≠ some g) (hl : L.length < 5000000) (hB : B ≤ w.heap.size) :
    Calls Tryz.prog 245 #[.pointer (some ⟨r, 0, none⟩), .agg v.cells.toArray] w fun e w' => e = .returned (.int .i64 L.length) ∧ RSt w' r B R (L ++ [v]) last ∧ Keep (Rfp r B w) w w' := by
  obtain ⟨vk, vn, vb, vt, vi, vin, vxs⟩ := v
  obtain ⟨a, c, hvi⟩ := ownsRow_slice hv
  have hvi : vi = .slice a vin c := hvi
  subst hvi
  refine ret_mono (V245_sound _ vk vn false vb false none 0 0 vt a vin c none 0 none 0 0 0 0 0 0 none none 0 none false false false w (fun x w' => x = .int .i64 L.length ∧ RSt w' r B R (L ++ [⟨vk, vn, vb, vt, .slice a vin c, vin, vxs⟩]) last ∧ Keep (Rfp r B w) w w') ?_) (by rintro _ _ ⟨rfl, h⟩; exact ⟨rfl, h⟩)
  unfold V245
  refine newK_of fun b1 w1 hs1 hb1 hk1 => ?_
  have hkd : Keep No w w1.drew := hk1.no (Keep.drawn w1)
  have h1 := h.no hkd
  obtain ⟨⟨lv, hr1, hrow1⟩, hit1, hapt, hsm, hge⟩ := id h1
  obtain ⟨la, lc, rfl⟩ := ownsRow_slice hrow1
  rw [nilK_some]
  refine ⟨_, _, _, hr1.add 0 rfl, _, _, _, _, _, _, _, _, _, _, _, _, _, _, _, _, _, _, _, _, _, _, _, _, _, _, _, _, hb1.drew.cells0, newK_of fun b2 w2 hs2 hb2 hk2 => ?_⟩
  have hr2 := hk2.nblk hr1
  refine ⟨hr2.add 0 rfl, ?_⟩
  obtain ⟨i, z, hi, hz, hsz, hzs, hb0, hb9⟩ := infoVal
  have hsz2 : w.heap.size ≤ w2.heap.size := (hkd.no hk2).size
  refine appendN (P := Tryz.prog) (t := 218) (e := 226) Tryz.underlying218 hi hz hsz rfl hzs (by decide) (hk2.nrow hrow1) (m := 1) hb2 rfl ?_ (by decide) ?_ hb0 (by omega) fun g cap w3 hrow3 hk3 hat => ?_
  · intro u hu
    simp at hu
    rcases hu with rfl | rfl | rfl | rfl | rfl | rfl | rfl | rfl | rfl | rfl | rfl | rfl | rfl | rfl | rfl | rfl | rfl | rfl | rfl | rfl | rfl | rfl <;> rfl
  · have : (L.length + 1) * i.bytes ≤ (L.length + 1) * 1000 := Nat.mul_le_mul_left _ hb9
    omega
  have hne3 := ownsRow_ne (hk2.nrow hrow1) hr2 (by decide)
  have hr3 := hk3.blk hr2 fun e => hne3 e
  rw [nilK_some]
  refine stK_add hr3 (by simp) fun w4 hr4 hk4 => ?_
  unfold V245J1
  rw [nilK_some]
  have ewr : IntKind.wrap .i64 (((L.length + 1 : Nat) : Int) - 1) = (L.length : Int) := by rw [wrap_i64 (by omega)]; omega
  refine ⟨_, _, _, hr4.add 0 rfl, by rw [ewr], ?_, ?_⟩
  · have hX : ∀ (q : Value) (n : Nat) (xs : List Value), w.ownsRow B 3 1 q n xs → w4.ownsRow B 3 1 q n xs := by
      intro q n xs hq
      have hq2 := hk2.nrow (hkd.nrow hq)
      have hq3 := hk3.row hq2 fun g' hg' e => ownsRow_ne2 (hk2.nrow hrow1) hq2 (by decide) g' e hg'
      exact hk4.row hq3 fun g' hg' e => ownsRow_ne hq3 hr3 (by decide) (e ▸ hg')
    refine ⟨⟨_, hr4, ?_⟩, ?_, ?_, by simp; omega, hge⟩
    · have := hk4.row hrow3 fun g' hg' e => ownsRow_ne hrow3 hr3 (by decide) (e ▸ hg')
      rw [List.flatMap_append]
      simpa [RV.cells] using this
    · intro j u hj
      by_cases hjl : j < L.length
      · rw [List.getElem?_append_left hjl] at hj
        exact hX _ _ _ (h.items j u hj)
      · rw [List.getElem?_append_right (by omega)] at hj
        have : j - L.length = 0 := by
          have := (List.getElem?_eq_some_iff.1 hj).1
          simp at this; omega
        rw [this] at hj
        simp at hj
        subst hj
        exact hX _ _ _ hv
    · have new : ∀ (j : Nat) (u : RV), ¬ j < L.length → (L ++ [(⟨vk, vn, vb, vt, .slice a vin c, vin, vxs⟩ : RV)])[j]? = some u → j = L.length ∧ u = ⟨vk, vn, vb, vt, .slice a vin c, vin, vxs⟩ := by
        intro j u hjl hj
        have hlt := (List.getElem?_eq_some_iff.1 hj).1
        simp at hlt
        rw [List.getElem?_append_right (by omega)] at hj
        have : j = L.length := by omega
        subst this
        simp at hj
        exact ⟨rfl, hj.symm⟩
      intro x y u u' hxy hx hy g' hg'
      by_cases hxl : x < L.length <;> by_cases hyl : y < L.length
      · rw [List.getElem?_append_left hxl] at hx
        rw [List.getElem?_append_left hyl] at hy
        exact hapt x y u u' hxy hx hy g' hg'
      · rw [List.getElem?_append_left hxl] at hx
        obtain ⟨rfl, rfl⟩ := new y u' hyl hy
        exact hap x u hx g' hg'
      · rw [List.getElem?_append_left hyl] at hy
        obtain ⟨rfl, rfl⟩ := new x u hxl hx
        exact fun hc => hap y u' hy g' hc hg'
      · obtain ⟨rfl, rfl⟩ := new x u hxl hx
        obtain ⟨rfl, rfl⟩ := new y u' hyl hy
        exact absurd rfl hxy
  · refine ((Keep.of_no (hkd.no hk2)).trans (fp' := fun k => (Value.slice la L.length lc).ownBlock = some k) hk3 fun k hk e => ?_).trans hk4 fun k _ e => .inl e
    refine .inr ⟨(hrow1.lt k e).1, ?_⟩
    have h7 := ownsRow_etype hrow1 e
    unfold Fw.etype at h7 ⊢
    rw [← hkd.block k hk id]
    exact h7

/-- Object: a value more, with the next number. -/
theorem C185 {w : World} {r B : Nat} {R : RR} {L : List RV} {last : Int} {v : RV} (h : RSt w r B R L last) (hv : w.ownsRow B 3 1 v.items v.n v.xs) (hap : ∀ (i : Nat) (u : RV), L[i]? = some u → ∀ g, u.items.ownBlock = some g → v.items.ownBlock ≠ some g) (hl : L.length < 5000000) (hB : B ≤ w.heap.size) (hla : 0 ≤ last ∧ last < 1000000000000) :
    Calls Tryz.prog 185 #[.pointer (some ⟨r, 0, none⟩), .agg v.cells.toArray] w fun e w' => e = .returned (.int .i64 L.length) ∧ RSt w' r B R (L ++ [{ v with number := last + 1 }]) (last + 1) ∧ Keep (Rfp r B w) w w' := by
  obtain ⟨vk, vn, vb, vt, vi, vin, vxs⟩ := v
  obtain ⟨a, c, hvi⟩ := ownsRow_slice hv
  have hvi : vi = .slice a vin c := hvi
  subst hvi
  refine ret_mono (V185_sound _ vk vn false vb false none 0 0 vt a vin c none 0 none 0 0 0 0 0 0 none none 0 none false false false w (fun x w' => x = .int .i64 L.length ∧ RSt w' r B R (L ++ [⟨vk, last + 1, vb, vt, .slice a vin c, vin, vxs⟩]) (last + 1) ∧ Keep (Rfp r B w) w w') ?_) (by rintro _ _ ⟨rfl, h⟩; exact ⟨rfl, h⟩)
  unfold V185
  refine newK_of fun b1 w1 hs1 hb1 hk1 => ?_
  obtain ⟨⟨lv, hr0, hrow0⟩, hit0, hapt, hsm, hge⟩ := id h
  have hr1 := hk1.nblk hr0
  simp only [nilK_some]
  refine ⟨_, hr1.add 1 rfl, stK_add hr1 (by simp) fun w2 hr2 hk2 => ⟨_, hr2.add 1 rfl, ?_⟩⟩
  have hbr : b1 ≠ r := fun e => by have := hr0.lt; omega
  have hb2 := hk2.blk hb1 hbr
  refine stK_add hb2 (by simp) fun w3 hb3 hk3 => ?_
  rw [wrap_i64 (by omega)] at hr2 hb3
  have hk03 : Keep (fun k => k = r) w w3 := ((Keep.of_no hk1).trans hk2 fun _ _ e => e).news hk3 (by rintro k rfl; omega)
  have hr3 := hk3.blk hr2 fun e => hbr e.symm
  have X : ∀ {e' size n : Nat} {q : Value} {xs : List Value}, w.ownsRow B e' size q n xs → e' ≠ 220 → w3.ownsRow B e' size q n xs :=
    fun hq h1 => hk03.row hq fun g hg e => ownsRow_ne hq hr0 h1 (e ▸ hg)
  have hst3 : RSt w3 r B R L (last + 1) := ⟨⟨lv, hr3, X hrow0 (by decide)⟩, fun i u hi => X (hit0 i u hi) (by decide), hapt, hsm, hge⟩
  refine ⟨_, _, _, _, _, _, _, _, _, _, _, _, _, _, _, _, _, _, _, _, _, _, _, _, _, _, _, _, hb3.cells0, ?_⟩
  refine (C245 (v := ⟨vk, last + 1, vb, vt, .slice a vin c, vin, vxs⟩) hst3 (X hv (by decide)) hap hl (by have := hk03.size; omega)).mono ?_
  rintro _ w4 ⟨rfl, h4, hk4⟩
  refine ⟨_, rfl, rfl, h4, Keep.rfp (hk03.mono fun k _ e => .inl e) hk4⟩
end Go.Fw

set_option autoImplicit false
set_option linter.unusedVariables false
set_option maxRecDepth 100000
namespace Go.Fw
open Go.Proofs

def V178 (x1 : ByteArray) (w : World) (Q : Value → World → Prop) : Prop :=
Calls Tryz.prog 242 #[.string x1] w fun e2 w3 => ∃ t4 : Option Addr, ∃ t5 : Nat, ∃ t6 : Nat, e2 = .returned (.slice t4 t5 t6) ∧
∃ w7 : World, ∃ t8 : ByteArray, (Go.convert 365 9 (.slice t4 t5 t6)).run Tryz.prog w3 = .ok (.string t8) w7 ∧
Q (.bool (t8.toList == x1.toList)) w7

def V178_ann : Nat → Ann := fun _ => ⟨[], []⟩
theorem V178_eq (x1 : ByteArray) (w : World) (Q : Value → World → Prop) : (match Tryz.f178.body with | some c => wpC Tryz.prog Tryz.f178.ntmps V178_ann c 0 (resQ Tryz.prog Tryz.f178.ntmps Tryz.f178.results.toList Q) (argsF [.string x1]) w | none => False) = V178 x1 w Q := by kernel_rfl
theorem V178_sound (x1 : ByteArray) (w : World) (Q : Value → World → Prop) (h : V178 x1 w Q) : Calls Tryz.prog 178 #[.string x1] w fun e w' => ∃ v, e = .returned v ∧ Q v w' :=
  sound_of Tryz.func178 V178_ann rfl ((V178_eq x1 w Q).mpr h)

def V179 (x1 : ByteArray) (w : World) (Q : Value → World → Prop) : Prop :=
Calls Tryz.prog 242 #[.string x1] w fun e2 w3 => ∃ t4 : Option Addr, ∃ t5 : Nat, ∃ t6 : Nat, e2 = .returned (.slice t4 t5 t6) ∧
Q (.int .i64 (t5 : Int)) w3

def V179_ann : Nat → Ann := fun _ => ⟨[], []⟩
theorem V179_eq (x1 : ByteArray) (w : World) (Q : Value → World → Prop) : (match Tryz.f179.body with | some c => wpC Tryz.prog Tryz.f179.ntmps V179_ann c 0 (resQ Tryz.prog Tryz.f179.ntmps Tryz.f179.results.toList Q) (argsF [.string x1]) w | none => False) = V179 x1 w Q := by kernel_rfl
theorem V179_sound (x1 : ByteArray) (w : World) (Q : Value → World → Prop) (h : V179 x1 w Q) : Calls Tryz.prog 179 #[.string x1] w fun e w' => ∃ v, e = .returned v ∧ Q v w' :=
  sound_of Tryz.func179 V179_ann rfl ((V179_eq x1 w Q).mpr h)

def V242 (x1 : ByteArray) (w : World) (Q : Value → World → Prop) : Prop :=
∃ w2 : World, ∃ t3 : Option Addr, (Instr.range 9 (.string x1)).run Tryz.prog w = .ok (.pointer t3) w2 ∧
∃ (I4 : Option Addr → Nat → Nat → World → Prop) (μ5 : Option Addr → Nat → Nat → World → Nat), I4 none 0 0 w2 ∧ ∀ (j10 : Fr) (i6 : Option Addr) (i7 : Nat) (i8 : Nat) (w9 : World), I4 i6 i7 i8 w9 →
nextSK (.pointer t3) w9 (fun w11 => (
Q (.slice i6 i7 i8) w11)) fun t12 t13 w14 =>
newK w14 #[.int .i32 t13] 21 fun a15 w16 =>
∃ w17 : World, ∃ t18 : Option Addr, ∃ t19 : Nat, ∃ t20 : Nat, (vcEff.bltV .append #[365, 365] 365 #[.slice i6 i7 i8, .slice (some a15) 1 1]).run Tryz.prog w16 = .ok (.slice t18 t19 t20) w17 ∧
(I4 t18 t19 t20 w17 ∧ μ5 t18 t19 t20 w17 < μ5 i6 i7 i8 w9)

def V242_ann : Nat → Ann := fun k => match k with | 0 => ⟨[7], [(3, .slice)]⟩ | _ => ⟨[], []⟩
theorem V242_eq (x1 : ByteArray) (w : World) (Q : Value → World → Prop) : (match Tryz.f242.body with | some c => wpC Tryz.prog Tryz.f242.ntmps V242_ann c 0 (resQ Tryz.prog Tryz.f242.ntmps Tryz.f242.results.toList Q) (argsF [.string x1]) w | none => False) = V242 x1 w Q := by kernel_rfl
theorem V242_sound (x1 : ByteArray) (w : World) (Q : Value → World → Prop) (h : V242 x1 w Q) : Calls Tryz.prog 242 #[.string x1] w fun e w' => ∃ v, e = .returned v ∧ Q v w' :=
  sound_of Tryz.func242 V242_ann rfl ((V242_eq x1 w Q).mpr h)

end Go.Fw
