/- Part of a proof over the given program: a text of lemmas (conditions: none beyond each lemma as stated). -/
import Derived.Test.YtlnpfkmbielifaaGreatDoorStT
set_option linter.unnecessarySimpa false
set_option linter.unusedSimpArgs false
set_option autoImplicit false
set_option linter.unusedVariables false
namespace Go.Fw
open Go.Proofs Go.RowKit

/-- A term, as its eight fields lie. -/
structure Tm where
  kind : Int
  b : Bool
  neg : Bool
  ma : Option Addr
  ml : Nat
  mc : Nat
  text : ByteArray
  ka : Option Addr
  kl : Nat
  kc : Nat
  hash : Bool
  same : Bool
def Tm.cells (t : Tm) : List Value := [.int .i64 t.kind, .bool t.b, .bool t.neg, .slice t.ma t.ml t.mc, .string t.text, .slice t.ka t.kl t.kc, .bool t.hash, .bool t.same]

/-- A row of terms. -/
def TermsAt (w : World) (a : Option Addr) (ts : List Tm) : Prop := ∀ i t, ts[i]? = some t → ∃ p, a = some p ∧ CellsAt w (p.add (i * 8)) t.cells

theorem cellsFrom_keep {fp : Nat → Prop} {w w' : World} (hk : Keep fp w w') {a : Addr} (hn : ¬ fp a.block) : ∀ (vs : List Value) (i : Nat), cellsFrom w a vs i → cellsFrom w' a vs i
  | [], _, _ => trivial
  | v :: vs, i, h => by
    obtain ⟨h1, h2⟩ := cellsFrom_cons.1 h
    have hb : (a.add i).block = a.block := by
      unfold Addr.add
      split <;> rfl
    exact cellsFrom_cons.2 ⟨hk.cell h1 (by rw [hb]; exact hn), cellsFrom_keep hk hn vs (i + 1) h2⟩
theorem Keep.cellsAt {fp : Nat → Prop} {w w' : World} (hk : Keep fp w w') {a : Addr} {vs : List Value} (h : CellsAt w a vs) (hn : ¬ fp a.block) : CellsAt w' a vs := cellsFrom_keep hk hn vs 0 h
theorem add_block (a : Addr) (i : Nat) : (a.add i).block = a.block := by
  unfold Addr.add
  split <;> rfl
theorem TermsAt.keep {fp : Nat → Prop} {w w' : World} {a : Option Addr} {ts : List Tm} (h : TermsAt w a ts) (hk : Keep fp w w') (hn : ∀ p, a = some p → ¬ fp p.block) : TermsAt w' a ts := by
  intro i t ht
  obtain ⟨p, rfl, hc⟩ := h i t ht
  exact ⟨p, rfl, hk.cellsAt hc (by rw [add_block]; exact hn p rfl)⟩
theorem TermsAt.no {w w' : World} {a : Option Addr} {ts : List Tm} (h : TermsAt w a ts) (hk : Keep No w w') : TermsAt w' a ts := h.keep hk fun _ _ => id

/-- A term's copy in a variable of its own. -/
theorem termCopy {w : World} {t : Tm} {K : Addr → World → Prop} (h : ∀ b w', Blk w' b 42 t.cells → Keep No w w' → b = w.heap.size → K ⟨b, 0, none⟩ w') :
    newK w #[.int .i64 0, .bool false, .bool false, .slice none 0 0, .string ⟨#[]⟩, .slice none 0 0, .bool false, .bool false] 42 fun a w1 =>
    stK w1 (a.add 0) (.int .i64 t.kind) fun w2 => stK w2 (a.add 1) (.bool t.b) fun w3 => stK w3 (a.add 2) (.bool t.neg) fun w4 => stK w4 (a.add 3) (.slice t.ma t.ml t.mc) fun w5 =>
    stK w5 (a.add 4) (.string t.text) fun w6 => stK w6 (a.add 5) (.slice t.ka t.kl t.kc) fun w7 => stK w7 (a.add 6) (.bool t.hash) fun w8 => stK w8 (a.add 7) (.bool t.same) fun w9 => K a w9 := by
  refine newK_of fun b w1 hs hb hk => ?_
  refine stK_add hb (by simp) fun w2 hb hk2 => ?_
  replace hk := hk.news hk2 (by rintro k rfl; omega)
  refine stK_add hb (by simp) fun w3 hb hk2 => ?_
  replace hk := hk.news hk2 (by rintro k rfl; omega)
  refine stK_add hb (by simp) fun w4 hb hk2 => ?_
  replace hk := hk.news hk2 (by rintro k rfl; omega)
  refine stK_add hb (by simp) fun w5 hb hk2 => ?_
  replace hk := hk.news hk2 (by rintro k rfl; omega)
  refine stK_add hb (by simp) fun w6 hb hk2 => ?_
  replace hk := hk.news hk2 (by rintro k rfl; omega)
  refine stK_add hb (by simp) fun w7 hb hk2 => ?_
  replace hk := hk.news hk2 (by rintro k rfl; omega)
  refine stK_add hb (by simp) fun w8 hb hk2 => ?_
  replace hk := hk.news hk2 (by rintro k rfl; omega)
  refine stK_add hb (by simp) fun w9 hb hk2 => ?_
  replace hk := hk.news hk2 (by rintro k rfl; omega)
  exact h b w9 hb hk hs

def ints (l : List Int) : List Value := l.map (.int .i64)
theorem ints_get {l : List Int} {i : Nat} {n : Int} (h : l[i]? = some n) : (ints l)[i]? = some (.int .i64 n) := by simp [ints, h]

/-- What Build asks of 'wrong' and of 'make': the laws of one Store, in whatever words ('Inv': how the Store stands when i values have been made; 'Fil': when besides the rows of i terms, and j cells of the next one's, are filled). -/
structure Laws (w0 : World) (s b : Nat) (ta : Option Addr) (tc : Nat) (ts : List Tm) (own0 : Nat → Prop) (err : Nat → Int) (Inv : Nat → List Int → (Nat → Prop) → World → Prop) (Fil : Nat → Nat → List Int → (Nat → Prop) → World → Prop) : Prop where
  wrong : ∀ i w, i < ts.length → Keep No w0 w → Blk w b 77 [.pointer (some ⟨s, 0, none⟩), .slice ta ts.length tc, .slice none 0 0] →
    Calls Tryz.prog 23 #[.pointer (some ⟨b, 0, none⟩), .int .i64 i] w fun e w' => e = .returned (.int .i64 (err i)) ∧ Keep No w w'
  stab : ∀ i refs own w w' X, Inv i refs own w → Keep X w w' → (∀ k, X k → k < w.heap.size → (etype w k = some 3 ∨ etype w k = some 77) ∧ ¬ own k) → Inv i refs own w'
  make : ∀ i t refs own w v, (∀ j, j < ts.length → err j = 0) → ts[i]? = some t → refs.length = i → Inv i refs own w → Keep own0 w0 w → TermsAt w ta ts → Blk w b 77 [.pointer (some ⟨s, 0, none⟩), .slice ta ts.length tc, v] → w.ownsRow w0.heap.size 3 1 v i (ints refs) →
    (∀ k, own k → ¬ (k = b ∨ v.ownBlock = some k)) →
    Calls Tryz.prog 24 #[.pointer (some ⟨b, 0, none⟩), .agg t.cells.toArray] w fun e w' => ∃ ref own', e = .returned (.int .i64 ref) ∧ Inv (i + 1) (refs ++ [ref]) own' w' ∧ Keep (fun k => k ≠ b ∧ v.ownBlock ≠ some k ∧ (k < w0.heap.size → own0 k)) w w' ∧ (∀ k, own' k → own k ∨ (w.heap.size ≤ k ∧ k < w'.heap.size))
  start : ∀ refs own w, (∀ j, j < ts.length → err j = 0) → refs.length = ts.length → Inv ts.length refs own w → Fil 0 0 refs own w
  fstab : ∀ i j refs own w w' X, Fil i j refs own w → Keep X w w' → (∀ k, X k → k < w.heap.size → (etype w k = some 3 ∨ etype w k = some 77) ∧ ¬ own k) → Fil i j refs own w'
  get : ∀ i t refs own w ref, (∀ j, j < ts.length → err j = 0) → ts[i]? = some t → refs[i]? = some ref → refs.length = ts.length → Keep own0 w0 w → Fil i 0 refs own w → ∃ x, Calls Tryz.prog 25 #[.pointer (some ⟨s, 0, none⟩), .int .i64 ref] w (fun e w' => e = .returned x ∧ w' = w) ∧
    (((∀ w : World, (Instr.typeAssert x 63 80 true).run Tryz.prog w = .ok (.tuple #[.pointer none, .bool false]) w) ∧ ∀ w1, Fil i 0 refs own w1 → Fil (i + 1) 0 refs own w1) ∨
     (∃ r, x = .iface 80 (.pointer (some ⟨r, 0, none⟩)) ∧ (∀ w1, Fil i t.kl refs own w1 → Fil (i + 1) 0 refs own w1) ∧
       ∀ j w1, j < t.kl → Keep own0 w0 w1 → Keep own w w1 → Fil i j refs own w1 → ∃ g l c p kid, w1.cell? ⟨r, 1, none⟩ = some (.slice (some ⟨g, 0, none⟩) l c) ∧ j < l ∧ own g ∧ w0.heap.size ≤ g ∧ (w1.cell? ⟨g, j, none⟩).isSome = true ∧ w1.frozen? ⟨g, j, none⟩ = false ∧
         t.ka = some p ∧ w1.cell? (p.add j) = some (.int .i64 kid) ∧ 0 ≤ kid ∧ kid < ts.length ∧ ∀ v, refs[kid.toNat]? = some v → Fil i (j + 1) refs own (w1.setCell ⟨g, j, none⟩ (.int .i64 v))))

section
variable {w0 : World} {s b : Nat} {ta : Option Addr} {tc : Nat} {ts : List Tm} {own0 : Nat → Prop} {err : Nat → Int} {Inv : Nat → List Int → (Nat → Prop) → World → Prop} {Fil : Nat → Nat → List Int → (Nat → Prop) → World → Prop}

/-- How Build's first loop ends. -/
def BadEnd (w0 : World) (ts : List Tm) (err : Nat → Int) (r : Value) (w' : World) : Prop :=
  ∃ i, i < ts.length ∧ (∀ j, j < i → err j = 0) ∧ err i ≠ 0 ∧ r = .tuple #[.slice none 0 0, .int .i64 (err i)] ∧ Keep No w0 w'
/-- How Build ends where every term is good. -/
def GoodEnd (w0 : World) (ts : List Tm) (own0 : Nat → Prop) (err : Nat → Int) (Fil : Nat → Nat → List Int → (Nat → Prop) → World → Prop) (r : Value) (w' : World) : Prop :=
  (∀ j, j < ts.length → err j = 0) ∧ ∃ refs own v, refs.length = ts.length ∧ r = .tuple #[v, .int .i64 0] ∧ Fil ts.length 0 refs own w' ∧ Keep own0 w0 w' ∧ w'.ownsRow w0.heap.size 3 1 v ts.length (ints refs) ∧ (∀ k, own k → v.ownBlock ≠ some k)

theorem ownsRow_slice {w : World} {base e size n : Nat} {v : Value} {xs : List Value} (h : w.ownsRow base e size v n xs) : ∃ a c, v = .slice a n c := by
  rcases h.2 with ⟨h1, h2⟩ | ⟨g, cap, cur, h1, _⟩
  · exact ⟨_, _, by rw [h1, h2]⟩
  · exact ⟨_, _, h1⟩

theorem C9_gen (hb : b = w0.heap.size) (hts : TermsAt w0 ta ts) (hta : ∀ p, ta = some p → ¬ own0 p.block) (hn : ts.length < 1000000) (hkl : ∀ (i : Nat) (t : Tm), ts[i]? = some t → t.kl < 1000000000000) (ho0 : ∀ k, own0 k → k < w0.heap.size)
    (hI : Inv 0 [] No w0) (L : Laws w0 s b ta tc ts own0 err Inv Fil) :
    Calls Tryz.prog 9 #[.pointer (some ⟨s, 0, none⟩), .slice ta ts.length tc] w0 fun e w' => ∃ r, e = .returned r ∧ (BadEnd w0 ts err r w' ∨ GoodEnd w0 ts own0 err Fil r w') := by
  refine (V9_sound _ ta ts.length tc w0 (fun r w' => BadEnd w0 ts err r w' ∨ GoodEnd w0 ts own0 err Fil r w') ?_)
  unfold V9
  refine bsel_neg rfl (newK_of fun b' w1 hb' hbb hk1 => ?_)
  obtain rfl : b' = b := by omega
  refine ⟨fun i w => 0 ≤ i ∧ i ≤ ts.length ∧ (∀ j : Nat, (j : Int) < i → err j = 0) ∧ Keep No w0 w ∧ Blk w b' 77 [.pointer (some ⟨s, 0, none⟩), .slice ta ts.length tc, .slice none 0 0], fun i _ => (ts.length - i).toNat,
    ⟨by omega, by omega, fun j hj => by omega, hk1, hbb⟩, ?_⟩
  rintro j0 i w ⟨hi0, hin, herr, hk, hbb⟩
  refine bsel_split (fun hlt => ?_) fun hge => ?_
  · simp at hlt
    obtain ⟨n, rfl⟩ := Int.eq_ofNat_of_zero_le hi0
    refine (L.wrong n w (by omega) hk hbb).mono ?_
    rintro _ w' ⟨rfl, hk'⟩
    refine ⟨_, rfl, bsel_split (fun he => ?_) fun he => ?_⟩
    · refine .inl ⟨n, by omega, fun j hj => herr j (by omega), by simpa using he, rfl, hk.no hk'⟩
    · rw [wrap_i64 (by omega)]
      refine ⟨⟨by omega, by omega, fun j hj => ?_, hk.no hk', hk'.nblk hbb⟩, by simp only; omega⟩
      by_cases hjn : j = n
      · subst hjn; simpa using he
      · exact herr j (by omega)
  simp at hge
  replace herr : ∀ j, j < ts.length → err j = 0 := fun j hj => herr j (by omega)
  clear hi0 hin hge i j0
  -- the second loop
  have hbw : b' < w.heap.size := hbb.lt
  refine ⟨fun i w => 0 ≤ i ∧ i ≤ ts.length ∧ ∃ refs own v, (refs.length : Int) = i ∧ Inv refs.length refs own w ∧ Keep own0 w0 w ∧ Blk w b' 77 [.pointer (some ⟨s, 0, none⟩), .slice ta ts.length tc, v] ∧ w.ownsRow w0.heap.size 3 1 v refs.length (ints refs) ∧
      (∀ k, own k → ¬ (k = b' ∨ v.ownBlock = some k)) ∧ (∀ k, own k → k < w.heap.size), fun i _ => (ts.length - i).toNat,
    ⟨by omega, by omega, [], No, _, rfl, L.stab _ _ _ _ _ _ hI hk (fun _ h => h.elim), Keep.of_no hk, hbb, World.ownsRow_nil _ _ _ _, fun _ h => h.elim, fun _ h => h.elim⟩, ?_⟩
  clear hbb hbw hk w
  rintro j0 i w ⟨hi0, hin, refs, own, v, hrl, hInv, hk, hbb, hrow, hown, hownlt⟩
  have hts' := hts.keep hk hta
  refine bsel_split (fun hlt => ?_) fun hge => ?_
  · simp at hlt
    subst hrl
    obtain ⟨t, ht⟩ : ∃ t, ts[refs.length]? = some t := ⟨_, List.getElem?_eq_getElem (by omega)⟩
    obtain ⟨p, rfl, hc⟩ := hts' _ t ht
    refine idxK_of (by omega) ⟨_, _, _, _, _, _, _, _, _, _, _, _, hc, termCopy fun c w2 hc2 hk2 hcs => ?_⟩
    have hbb2 := hk2.nblk hbb
    obtain ⟨va, vc, rfl⟩ := ownsRow_slice hrow
    refine ⟨_, _, _, hbb2.drew.add 2 rfl, _, _, _, _, _, _, _, _, _, _, _, _, hc2.drew.cells0, ?_⟩
    have hk2 := hk2.no (Keep.drawn w2)
    have hk02 := hk.no hk2
    refine (L.make refs.length t refs own _ _ herr ht rfl (L.stab _ _ _ _ _ _ hInv hk2 fun _ h => h.elim) hk02 (hts.keep hk02 hta) hbb2.drew (hk2.nrow hrow) hown).mono ?_
    rintro _ w3 ⟨ref, own', rfl, hInv3, hk3, hown3⟩
    have hbb3 := hk3.blk hbb2.drew fun h => h.1 rfl
    have hrow3 := hk3.row (hk2.nrow hrow) fun g hg h => h.2.1 hg
    have hk03 : Keep own0 w0 w3 := hk02.trans hk3 fun k h1 h2 => h2.2.2 h1
    refine ⟨_, rfl, hbb3.add 2 rfl, newK_of fun d w4 hd hbd hk4 => ⟨(hk4.nblk hbb3).add 2 rfl, ?_⟩⟩
    have hown3' : ∀ k, own' k → ¬ (k = b' ∨ (Value.slice va refs.length vc).ownBlock = some k) := by
      intro k hk' h
      rcases hown3 k hk' with h' | ⟨h', _⟩
      · exact hown k h' h
      · have h1 := hk2.size
        rcases h with rfl | h
        · have := hbb.lt; omega
        · have := (hrow.lt k h).2; omega
    have hownlt3 : ∀ k, own' k → k < w3.heap.size := by
      intro k hk'
      rcases hown3 k hk' with h' | ⟨_, h'⟩
      · have := hownlt k h'; have := hk2.size; have := hk3.size; omega
      · exact h'
    refine appendRow rowInts (hk4.nrow hrow3) hbd rfl (by omega) (by have := (hk03.no hk4).size; omega) fun g cap w5 hrow5 hk5 hat => ?_
    have hne5 := ownsRow_ne (hk4.nrow hrow3) (hk4.nblk hbb3) (by decide)
    have hbb5 := hk5.blk (hk4.nblk hbb3) fun e => hne5 e
    refine stK_add hbb5 (by simp) fun w6 hbb6 hk6 => ?_
    have hgb : g ≠ b' := fun e => ownsRow_ne hrow5 hbb5 (by decide) (by rw [e]; rfl)
    rw [wrap_i64 (by omega)]
    have hg4 : g = w4.heap.size ∨ (Value.slice va refs.length vc).ownBlock = some g := hat.elim (fun h => .inr h) .inl
    have hInv6 : Inv (refs.length + 1) (refs ++ [ref]) own' w6 := by
      refine L.stab _ _ _ _ _ _ (L.stab _ _ _ _ _ _ (L.stab _ _ _ _ _ _ hInv3 hk4 fun _ h => h.elim) hk5 fun k h _ => ⟨.inl (ownsRow_etype (hk4.nrow hrow3) h), fun h' => hown3' k h' (.inr h)⟩) hk6 fun k h _ => ?_
      subst h
      exact ⟨.inr hbb5.etype, fun h' => hown3' _ h' (.inl rfl)⟩
    have hk06 : Keep own0 w0 w6 := ((hk03.no hk4).news hk5 fun k h => (hrow.lt k h).1).news hk6 fun k h => by subst h; omega
    refine ⟨⟨by omega, by omega, refs ++ [ref], own', _, by simp, by simpa using hInv6, hk06, hbb6, ?_, ?_, ?_⟩, by simp only; omega⟩
    · have := hk6.row hrow5 fun g' hg' e => hgb (by cases hg'; exact e)
      simpa [ints] using this
    · intro k hk' h
      rcases h with h | h
      · exact hown3' k hk' (.inl h)
      · cases h
        rcases hg4 with h | h
        · have := hownlt3 g hk'; have := hk4.size; omega
        · exact hown3' g hk' (.inr h)
    · intro k hk'
      have := hownlt3 k hk'; have := hk4.size; have := hk5.size; have := hk6.size; omega
  simp at hge
  obtain rfl : i = refs.length := by omega
  have hrl : refs.length = ts.length := by omega
  rw [hrl] at hInv hrow
  have hFil := L.start refs own w herr hrl hInv
  clear hInv hi0 hin hge j0 hts'
  obtain ⟨va, vc, rfl⟩ := ownsRow_slice hrow
  have hne := ownsRow_ne hrow hbb (by decide)
  refine ⟨fun i w' => 0 ≤ i ∧ i ≤ ts.length ∧ Fil i.toNat 0 refs own w' ∧ Keep own0 w0 w' ∧ Blk w' b' 77 [.pointer (some ⟨s, 0, none⟩), .slice ta ts.length tc, .slice va ts.length vc] ∧ w'.ownsRow w0.heap.size 3 1 (.slice va ts.length vc) ts.length (ints refs) ∧ w.heap.size ≤ w'.heap.size, fun i _ => (ts.length - i).toNat,
    ⟨by omega, by omega, hFil, hk, hbb, hrow, Nat.le_refl _⟩, ?_⟩
  clear hFil hk hbb hrow
  rintro j0 i w1 ⟨hi0, hin, hFil, hk, hbb, hrow, hsz⟩
  have hts' := hts.keep hk hta
  have hstp : ∀ {w1 w' : World} {X : Nat → Prop} {i j : Nat}, Fil i j refs own w1 → Keep X w1 w' → (∀ k, X k → k < w1.heap.size → (etype w1 k = some 3 ∨ etype w1 k = some 77) ∧ ¬ own k) → Fil i j refs own w' := fun h hk hX => L.fstab _ _ _ _ _ _ _ h hk hX
  refine bsel_split (fun hlt => ?_) fun hge => ?_
  · simp at hlt
    obtain ⟨n, rfl⟩ := Int.eq_ofNat_of_zero_le hi0
    simp only [Int.toNat_natCast] at hFil
    obtain ⟨t, ht⟩ : ∃ t, ts[n]? = some t := ⟨_, List.getElem?_eq_getElem (by omega)⟩
    have hkl' := hkl n t ht
    obtain ⟨ref, href⟩ : ∃ r, refs[n]? = some r := ⟨_, List.getElem?_eq_getElem (by omega)⟩
    obtain ⟨p, rfl, hc⟩ := hts' _ t ht
    refine idxK_of (by omega) ⟨_, _, _, _, _, _, _, _, _, _, _, _, hc, termCopy fun c w2 hc2 hk2 hcs => ?_⟩
    have hbb2 := hk2.nblk hbb
    have hrow2 := hk2.nrow hrow
    have hk02 := hk.no hk2
    have hsz2 : w.heap.size ≤ w2.heap.size := by have := hk2.size; omega
    obtain ⟨g, cap, hv, _, hcell⟩ := row_cell hrow2 (ints_get href)
    have hva : va = some ⟨g, 0, none⟩ ∧ vc = cap := by
      simp at hv
      exact hv
    obtain ⟨rfl, rfl⟩ := hva
    refine ⟨_, _, _, hbb2.add 2 rfl, idxK_of (by omega) ⟨_, by simpa using hcell, ?_⟩⟩
    have hFil2 := hstp hFil hk2 fun _ h => h.elim
    have hnext : ∀ {w' : World} , Fil (n + 1) 0 refs own w' → Keep own0 w0 w' → Blk w' b' 77 [.pointer (some ⟨s, 0, none⟩), .slice (some p) ts.length tc, .slice (some ⟨g, 0, none⟩) ts.length vc] → w'.ownsRow w0.heap.size 3 1 (.slice (some ⟨g, 0, none⟩) ts.length vc) ts.length (ints refs) → w.heap.size ≤ w'.heap.size → True := fun _ _ _ _ _ => trivial
    obtain ⟨x, hget, hx⟩ := L.get n t refs own w2 ref herr ht href hrl hk02 hFil2
    refine hget.mono ?_
    rintro _ w3 ⟨rfl, rfl⟩
    rcases hx with ⟨hno, hf⟩ | ⟨r, rfl, hfin, hstep⟩
    · refine ⟨_, rfl, _, _, hno, bsel_neg rfl ?_⟩
      rw [wrap_i64 (by omega)]
      refine ⟨⟨by omega, by omega, ?_, hk02, hbb2, hrow2, hsz2⟩, by simp only; omega⟩
      have e : ((n : Int) + 1).toNat = n + 1 := by omega
      rw [e]
      exact hf _ hFil2
    · refine ⟨_, rfl, _, _, yes80 _ _, bsel_pos rfl ?_⟩
      refine ⟨_, _, _, hc2.add 5 rfl, ?_⟩
      refine ⟨fun j w' => 0 ≤ j ∧ j ≤ t.kl ∧ Fil n j.toNat refs own w' ∧ Keep own0 w0 w' ∧ Blk w' b' 77 [.pointer (some ⟨s, 0, none⟩), .slice (some p) ts.length tc, .slice (some ⟨g, 0, none⟩) ts.length vc] ∧ w'.ownsRow w0.heap.size 3 1 (.slice (some ⟨g, 0, none⟩) ts.length vc) ts.length (ints refs) ∧ Blk w' c 42 t.cells ∧ w.heap.size ≤ w'.heap.size ∧ Keep own w3 w', fun j _ => (t.kl - j).toNat,
        ⟨by omega, by omega, hFil2, hk02, hbb2, hrow2, hc2, hsz2, Keep.refl _ _⟩, ?_⟩
      clear hFil2 hk02 hbb2 hrow2 hc2 hsz2 hcell hv hget
      rintro j1 j w4 ⟨hj0, hjn, hFil4, hk4, hbb4, hrow4, hc4, hsz4, hko⟩
      refine bsel_split (fun hlt => ?_) fun hge => ?_
      · simp at hlt
        obtain ⟨m, rfl⟩ := Int.eq_ofNat_of_zero_le hj0
        simp only [Int.toNat_natCast] at hFil4
        have hd := Keep.drawn w4
        obtain ⟨g2, l2, c2, q, kid, hg1, hg2, hg3, hg3', hg4, hg5, hq1, hq2, hq3, hq4, hset⟩ := hstep m w4.drew (by omega) (hk4.no hd) (hko.no hd) (hstp hFil4 hd fun _ h => h.elim)
        obtain ⟨kn, rfl⟩ := Int.eq_ofNat_of_zero_le hq3
        simp only [Int.toNat_natCast] at hset
        obtain ⟨v, hv⟩ : ∃ v, refs[kn]? = some v := ⟨_, List.getElem?_eq_getElem (by omega)⟩
        rw [hq1]
        refine idxK_of (by omega) ⟨_, by rw [Nat.mul_one]; exact hq2, ?_⟩
        rw [nilK_some]
        refine ⟨_, _, _, by simpa using hg1, _, _, _, hbb4.drew.add 2 rfl, idxK_of (by omega) ?_⟩
        obtain ⟨g', cap', hv', _, hcell'⟩ := row_cell (hd.nrow hrow4) (ints_get hv)
        have hva : g' = g := by
          simp at hv'
          exact hv'.1.symm
        subst hva
        refine ⟨_, by simpa using hcell', idxK_of hg2 ⟨⟨by simpa using hg4, by simpa using hg5⟩, ?_⟩⟩
        have hset := hset v hv
        have hone := Keep.one w4.drew ⟨g2, m, none⟩ (.int .i64 v)
        simp only [add_mk, Nat.zero_add, Nat.mul_one]
        rw [wrap_i64 (by omega)]
        have hcg : c ≠ g2 := by have := hownlt g2 hg3; have := hc4.lt; omega
        have hbg : b' ≠ g2 := fun e => hown g2 hg3 (.inl e.symm)
        have hgg : g' ≠ g2 := fun e => hown g2 hg3 (.inr (by rw [e]; rfl))
        refine ⟨⟨by omega, by omega, ?_, (hk4.no hd).news hone fun k e => by subst e; exact hg3', hone.blk hbb4.drew hbg, hone.row (hd.nrow hrow4) fun k hk e => hgg (by cases hk; exact e), hone.blk hc4.drew hcg, by have h1 := hone.size; have h2 : w4.drew.heap.size = w4.heap.size := rfl; omega, (hko.no hd).trans hone fun k _ e => by subst e; exact hg3⟩, by omega⟩
        have e : ((m : Int) + 1).toNat = m + 1 := by omega
        rw [e]
        exact hset
      · simp at hge
        have hjm : j = t.kl := by omega
        subst hjm
        rw [wrap_i64 (by omega)]
        refine ⟨⟨by omega, by omega, ?_, hk4, hbb4, hrow4, hsz4⟩, by simp only; omega⟩
        have e : ((n : Int) + 1).toNat = n + 1 := by omega
        rw [e]
        exact hfin _ (by simpa using hFil4)
  · simp at hge
    obtain rfl : i = ts.length := by omega
    simp only [Int.toNat_natCast] at hFil
    have hd := Keep.drawn w1
    refine ⟨_, _, _, hbb.drew.add 2 rfl, _, _, _, hbb.drew.add 2 rfl, ?_⟩
    obtain ⟨i3, hi3, hz3, hs3, hb3⟩ := rowInts.info
    obtain ⟨w2, hr2, ho2, hg2⟩ := run_make_own (P := Tryz.prog) w1.drew w0.heap.size 30 3 i3 _ 1 rowInts.und hi3 hz3 hs3 .i64 .i64 ts.length (by rw [hb3]; omega) (by unfold maxLen; omega) ((hk.no hd).size)
    have hk2 : Keep No w1.drew w2 := (Keep.of_grown hg2).mono fun _ _ h => by cases h
    refine ⟨_, _, _, _, hr2, (hk2.nblk hbb.drew).add 2 rfl, ?_⟩
    have hrow2 := hk2.nrow (hd.nrow hrow)
    have hFil2 := hstp (hstp hFil hd fun _ h => h.elim) hk2 fun _ h => h.elim
    have hk02 := (hk.no hd).no hk2
    rcases hrow2.2 with ⟨hv, h0⟩ | ⟨g, cap, cur, hv, hg, hh, hle, _⟩
    · have hr := run_append_owned_none (P := Tryz.prog) w2 w0.heap.size 30 30 3 i3 1 rowInts.und hi3 _ _ _ ho2
      rw [hv]
      refine ⟨_, _, _, _, hr, .inr ⟨herr, refs, own, _, hrl, rfl, hFil2, hk02, ?_, ?_⟩⟩
      · have : refs = [] := by rw [← List.length_eq_zero_iff]; omega
        subst this
        rw [h0] at ho2 ⊢
        exact ho2
      · intro k hk' h
        cases h
        have := hownlt _ hk'
        simp at this
        omega
    · have hva : va = some ⟨g, 0, none⟩ ∧ vc = cap := by
        simp at hv
        exact hv
      obtain ⟨rfl, rfl⟩ := hva
      obtain ⟨w3, hr3, ho3, hg3⟩ := run_append_fits (P := Tryz.prog) w2 w0.heap.size 30 30 3 i3 1 rowInts.und hi3 hs3 _ _ _ _ ho2 ⟨g, 0, none⟩ ts.length vc (ints refs) (by simp [ints, hrl])
        (fun j u hj => by
          have hjl : j < ts.length := by
            have := (List.getElem?_eq_some_iff.1 hj).1
            simp [ints] at this
            omega
          rw [add_mk, Nat.zero_add, hrow2.cellAt j (by omega), hj]) (fun u hu => by simp [ints] at hu; obtain ⟨_, _, rfl⟩ := hu; rfl) (by omega)
      have hk3 := Keep.of_grown hg3
      refine ⟨_, _, _, _, hr3, .inr ⟨herr, refs, own, _, hrl, rfl, ?_, hk02.news hk3 fun k h => by cases h; have := (hk.no hd).size; exact this, by simp only [Nat.zero_add, List.nil_append] at ho3 ⊢; exact ho3, ?_⟩⟩
      · refine hstp hFil2 hk3 fun k h _ => ⟨.inl (ownsRow_etype ho2 h), fun hk' => ?_⟩
        cases h
        have := hownlt _ hk'
        simp at this
        omega
      · intro k hk' h
        cases h
        have := hownlt _ hk'
        simp at this
        omega
end

end Go.Fw
