/- Part of a proof over the given program: texts of lemmas (conditions: none beyond each lemma as stated). -/
import Derived.Test.YtdmoefbfepeeaaaGreatDoorP13
import Derived.ProofKit
import Derived.OpenShut
import Derived.Deep.Slices
import Derived.LaidMore
import Derived.ReadAgain
set_option linter.unnecessarySimpa false
set_option linter.unusedVariables false
set_option linter.unusedSimpArgs false

set_option autoImplicit false
set_option linter.unusedVariables false
namespace Go.Fw
open Go.Proofs Go.RowKit

theorem list_of {α : Type} {R : Nat → α → Prop} : ∀ n, (∀ i, i < n → ∃ k, R i k) → ∃ l : List α, l.length = n ∧ ∀ i k, l[i]? = some k → R i k
  | 0, _ => ⟨[], rfl, fun i k h => by simp at h⟩
  | n + 1, h => by
    obtain ⟨l, hl, hr⟩ := list_of n fun i hi => h i (by omega)
    obtain ⟨k, hk⟩ := h n (by omega)
    refine ⟨l ++ [k], by simp [hl], fun i x hx => ?_⟩
    rcases Nat.lt_or_ge i n with hi | hi
    · exact hr i x (by rwa [List.getElem?_append_left (by omega)] at hx)
    · rw [List.getElem?_append_right (by omega)] at hx
      have : i - l.length = 0 := by
        have := (List.getElem?_eq_some_iff.1 hx).1
        simp at this
        omega
      rw [this] at hx
      cases hx
      rw [show i = n by omega]
      exact hk

theorem cellsFrom_of {w : World} {a : Addr} : ∀ (vs : List Value) (i : Nat), (∀ j v, vs[j]? = some v → w.cell? (a.add (i + j)) = some v) → cellsFrom w a vs i
  | [], _, _ => trivial
  | v :: vs, i, h => cellsFrom_cons.2 ⟨by simpa using h 0 v rfl, cellsFrom_of vs (i + 1) fun j u hj => by
      have := h (j + 1) u (by simpa using hj)
      rw [show i + 1 + j = i + (j + 1) by omega]
      exact this⟩

/-! Terms, out of a reading. -/
section
variable {H : Type} {enc : TypeId × Value → H} {w : World} {base : Nat} {spare : Nat → Bool} {held : Bool} {fuel : Nat} {cs : List Value} {x : DataW H × List MemPlace}

/-- A row of ints. -/
def IntsAt (w : World) (a : Option Addr) (n : Nat) (ks : List Int) : Prop := ks.length = n ∧ ∀ j k, ks[j]? = some k → ∃ p, a = some p ∧ w.cell? (p.add j) = some (.int .i64 k)
theorem ints_of_trod (h : DataW.trod enc Tryz.prog w base spare held fuel 30 cs = some x) : ∃ a l c ks, cs = [.slice a l c] ∧ IntsAt w a l ks ∧ l ≤ maxLen := by
  rcases Deep.open_slice Tryz.underlying30 h with ⟨rfl, _⟩ | ⟨a, len, cap, m, n, D, Pl, rfl, _, hle, hcap, hm, _, hel⟩
  · exact ⟨none, 0, 0, [], rfl, ⟨rfl, fun j k h => by simp at h⟩, by simp⟩
  · have hlm : len ≤ m := by split at hm <;> omega
    have hc3 : Tryz.prog.cellsOf 3 = 1 := by kernel_rfl
    have hint : ∀ i, i < len → ∃ k, w.cell? (a.add i) = some (.int .i64 k) := by
      intro i hi
      obtain ⟨cs', h1, h2⟩ := hel i (by omega)
      obtain ⟨k, rfl, _⟩ := DataW.trod_int Tryz.underlying3 h2
      rw [hc3, Nat.mul_one] at h1
      exact ⟨k, ChangeShapes.cell_of_cells?_one h1⟩
    obtain ⟨ks, hl, hr⟩ := list_of len hint
    exact ⟨some a, len, cap, ks, rfl, ⟨hl, fun j k hj => ⟨a, rfl, hr j k hj⟩⟩, by omega⟩
theorem slice_of_trod {t e : TypeId} (ht : Tryz.prog.underlying t = some (.slice e)) (h : DataW.trod enc Tryz.prog w base spare held fuel t cs = some x) : ∃ a l c, cs = [.slice a l c] ∧ l ≤ maxLen := by
  rcases Deep.open_slice ht h with ⟨rfl, _⟩ | ⟨a, len, cap, m, n, D, Pl, rfl, _, hle, hcap, hm, _, hel⟩
  · exact ⟨none, 0, 0, rfl, by simp⟩
  · exact ⟨some a, len, cap, rfl, by omega⟩

theorem cells8 {cs : List Value} (h : cs.length = 8) : ∃ c0 c1 c2 c3 c4 c5 c6 c7, cs = [c0, c1, c2, c3, c4, c5, c6, c7] := by
  match cs, h with
  | [c0, c1, c2, c3, c4, c5, c6, c7], _ => exact ⟨_, _, _, _, _, _, _, _, rfl⟩

theorem term_of_trod (h : DataW.trod enc Tryz.prog w base spare held fuel 42 cs = some x) : ∃ t : Tm, cs = t.cells ∧ (∃ ks, KidsAt w t ks) ∧ t.kl ≤ maxLen ∧ t.ml ≤ maxLen ∧ t.text.size ≤ maxLen := by
  obtain ⟨xs, n, _, _, hl, hxl, hf⟩ := DataW.trod_struct Tryz.underlying42 h
  rw [show Tryz.prog.cellsOf 42 = 8 by kernel_rfl] at hl
  obtain ⟨c0, c1, c2, c3, c4, c5, c6, c7, rfl⟩ := cells8 hl
  have hxl : xs.length = 7 := hxl
  have e1 : Tryz.prog.cellsOf 3 = 1 := by kernel_rfl
  have e2 : Tryz.prog.cellsOf 4 = 1 := by kernel_rfl
  have e3 : Tryz.prog.cellsOf 40 = 2 := by kernel_rfl
  have e4 : Tryz.prog.cellsOf 9 = 1 := by kernel_rfl
  have e5 : Tryz.prog.cellsOf 30 = 1 := by kernel_rfl
  have e6 : Tryz.prog.cellsOf 38 = 1 := by kernel_rfl
  have f0 : DataW.trod enc Tryz.prog w base spare held n 3 (([c0, c1, c2, c3, c4, c5, c6, c7].drop 0).take (Tryz.prog.cellsOf 3)) = xs[0]? := hf 0 _ rfl
  have f1 : DataW.trod enc Tryz.prog w base spare held n 4 (([c0, c1, c2, c3, c4, c5, c6, c7].drop 1).take (Tryz.prog.cellsOf 4)) = xs[1]? := hf 1 _ rfl
  have f2 : DataW.trod enc Tryz.prog w base spare held n 40 (([c0, c1, c2, c3, c4, c5, c6, c7].drop 2).take (Tryz.prog.cellsOf 40)) = xs[2]? := hf 2 _ rfl
  have f3 : DataW.trod enc Tryz.prog w base spare held n 9 (([c0, c1, c2, c3, c4, c5, c6, c7].drop 4).take (Tryz.prog.cellsOf 9)) = xs[3]? := hf 3 _ rfl
  have f4 : DataW.trod enc Tryz.prog w base spare held n 30 (([c0, c1, c2, c3, c4, c5, c6, c7].drop 5).take (Tryz.prog.cellsOf 30)) = xs[4]? := hf 4 _ rfl
  have f5 : DataW.trod enc Tryz.prog w base spare held n 4 (([c0, c1, c2, c3, c4, c5, c6, c7].drop 6).take (Tryz.prog.cellsOf 4)) = xs[5]? := hf 5 _ rfl
  have f6 : DataW.trod enc Tryz.prog w base spare held n 4 (([c0, c1, c2, c3, c4, c5, c6, c7].drop 7).take (Tryz.prog.cellsOf 4)) = xs[6]? := hf 6 _ rfl
  simp only [e1, e2, e3, e4, e5, List.drop_zero, List.drop_succ_cons, List.take_succ_cons, List.take_zero] at f0 f1 f2 f3 f4 f5 f6
  have gx : ∀ i, i < 7 → ∃ y, xs[i]? = some y := fun i hi => ⟨_, List.getElem?_eq_getElem (by omega)⟩
  obtain ⟨y0, g0⟩ := gx 0 (by decide); rw [g0] at f0
  obtain ⟨y1, g1⟩ := gx 1 (by decide); rw [g1] at f1
  obtain ⟨y2, g2⟩ := gx 2 (by decide); rw [g2] at f2
  obtain ⟨y3, g3⟩ := gx 3 (by decide); rw [g3] at f3
  obtain ⟨y4, g4⟩ := gx 4 (by decide); rw [g4] at f4
  obtain ⟨y5, g5⟩ := gx 5 (by decide); rw [g5] at f5
  obtain ⟨y6, g6⟩ := gx 6 (by decide); rw [g6] at f6
  obtain ⟨kind, k0, _⟩ := DataW.trod_int Tryz.underlying3 f0
  obtain ⟨bo, k1, _⟩ := DataW.trod_bool Tryz.underlying4 f1
  obtain ⟨tx, k3, _, htx⟩ := DataW.trod_string Tryz.underlying9 f3
  obtain ⟨ka, kl, kc, ks, k4, hks, hkl⟩ := ints_of_trod f4
  obtain ⟨ha, k5, _⟩ := DataW.trod_bool Tryz.underlying4 f5
  obtain ⟨sa, k6, _⟩ := DataW.trod_bool Tryz.underlying4 f6
  obtain ⟨zs, n2, _, _, hl2, hzl, hf2⟩ := DataW.trod_struct Tryz.underlying40 f2
  have hzl : zs.length = 2 := hzl
  have p0 : DataW.trod enc Tryz.prog w base spare held n2 4 (([c2, c3].drop 0).take (Tryz.prog.cellsOf 4)) = zs[0]? := hf2 0 _ rfl
  have p1 : DataW.trod enc Tryz.prog w base spare held n2 38 (([c2, c3].drop 1).take (Tryz.prog.cellsOf 38)) = zs[1]? := hf2 1 _ rfl
  simp only [e2, e6, List.drop_zero, List.drop_succ_cons, List.take_succ_cons, List.take_zero] at p0 p1
  obtain ⟨z0, q0⟩ : ∃ y, zs[0]? = some y := ⟨_, List.getElem?_eq_getElem (by omega)⟩
  obtain ⟨z1, q1⟩ : ∃ y, zs[1]? = some y := ⟨_, List.getElem?_eq_getElem (by omega)⟩
  rw [q0] at p0; rw [q1] at p1
  obtain ⟨ng, k7, _⟩ := DataW.trod_bool Tryz.underlying4 p0
  obtain ⟨ma, ml, mc, k8, hml⟩ := slice_of_trod Tryz.underlying38 p1
  cases k0; cases k1; cases k3; cases k4; cases k5; cases k6; cases k7; cases k8
  exact ⟨⟨kind, bo, ng, ma, ml, mc, tx, ka, kl, kc, ha, sa⟩, rfl, ⟨ks, hks⟩, hkl, hml, htx⟩

theorem terms_of_trod (h : DataW.trod enc Tryz.prog w base spare held fuel 22 cs = some x) : ∃ a c, ∃ ts : List Tm, cs = [.slice a ts.length c] ∧ TermsAt w a ts ∧
    (∀ (i : Nat) (t : Tm), ts[i]? = some t → (∃ ks, KidsAt w t ks) ∧ t.kl ≤ maxLen ∧ t.ml ≤ maxLen ∧ t.text.size ≤ maxLen) ∧ ts.length ≤ maxLen := by
  rcases Deep.open_slice Tryz.underlying22 h with ⟨rfl, _⟩ | ⟨a, len, cap, m, n, D, Pl, rfl, _, hle, hcap, hm, _, hel⟩
  · exact ⟨none, 0, [], rfl, fun i t h => by simp at h, fun i t h => by simp at h, by simp⟩
  · have hlm : len ≤ m := by split at hm <;> omega
    have hint : ∀ i, i < len → ∃ t : Tm, CellsAt w (a.add (i * 8)) t.cells ∧ (∃ ks, KidsAt w t ks) ∧ t.kl ≤ maxLen ∧ t.ml ≤ maxLen ∧ t.text.size ≤ maxLen := by
      intro i hi
      obtain ⟨cs', h1, h2⟩ := hel i (by omega)
      obtain ⟨t, rfl, h3⟩ := term_of_trod h2
      rw [show Tryz.prog.cellsOf 42 = 8 by kernel_rfl] at h1
      obtain ⟨_, _, hc⟩ := World.cells?_some h1
      refine ⟨t, cellsFrom_of _ 0 fun j v hj => ?_, h3⟩
      rw [Nat.zero_add, hc j (by
        have := (List.getElem?_eq_some_iff.1 hj).1
        simpa [Tm.cells] using this), hj]
    obtain ⟨ts, hl, hr⟩ := list_of len hint
    subst hl
    exact ⟨some a, cap, ts, rfl, fun i t ht => ⟨a, rfl, (hr i t ht).1⟩, fun i t ht => (hr i t ht).2, by omega⟩
end
end Go.Fw

set_option autoImplicit false
set_option linter.unusedVariables false
namespace Go.Fw
open Go.Proofs Go.RowKit

theorem Sm.keep {w0 w w' : World} {X : Nat → Prop} {s B : Nat} {S : St} {ts : List Tm} {kss : Nat → List Int} {m i j : Nat} {rs : List (Nat × Nat)} {own : Nat → Prop} (h : Sm w0 s B S ts kss m i j rs own w) (hk : Keep X w w')
    (hX : ∀ k, X k → k < w.heap.size → ∃ e, etype w k = some e ∧ e ∉ storeTy ∧ e ≠ 100 ∧ e ≠ 3) : Sm w0 s B S ts kss m i j rs own w' := by
  obtain ⟨h1, ⟨d, h2⟩, h3, h4, h5⟩ := h
  refine ⟨h1, ⟨d, h2.types hk fun k h1 h2 => by obtain ⟨e, a, b, _⟩ := hX k h1 h2; exact ⟨e, a, b⟩⟩, fun x t hx hm ht => ?_, h4, h5⟩
  obtain ⟨r, g, cs, g1, g2, g3, g4, g5, g6, g7⟩ := h3 x t hx hm ht
  refine ⟨r, g, cs, g1, hk.xblk g2 fun hl hx => ?_, hk.xblk g3 fun hl hx => ?_, g4, g5, g6, g7⟩
  · obtain ⟨e, a, _, b, _⟩ := hX r hx hl; rw [g2.etype] at a; cases a; exact b rfl
  · obtain ⟨e, a, _, _, b⟩ := hX g hx hl; rw [g3.etype] at a; cases a; exact b rfl

/-- The program's store and the reference's, of simple terms. -/
theorem C31_simple {w0 : World} {ts : List Tm} {kss : Nat → List Int} {ta : Option Addr} {tc : Nat} (hts : TermsAt w0 ta ts) (hta : ∀ p, ta = some p → etype w0 p.block = some 42) (hn : ts.length < 1000000)
    (hks : ∀ i t, ts[i]? = some t → KidsAt w0 t (kss i) ∧ (∀ p, t.ka = some p → etype w0 p.block = some 3) ∧ SimpleT ts.length i t (kss i)) :
    Calls Tryz.prog 31 #[.slice ta ts.length tc] w0 fun e w' => ∃ (s : Nat) (va : Option Addr) (vc : Nat) (r : Nat) (ra : Option Addr) (rc : Nat) (wb : World) (B : Nat) (S : St) (rs : List (Nat × Nat)) (own : Nat → Prop),
      e = .returned (.tuple #[.pointer (some ⟨s, 0, none⟩), .slice va ts.length vc, .pointer (some ⟨r, 0, none⟩), .slice ra ts.length rc, .bool true]) ∧ Sm wb s B S ts kss ts.length ts.length 0 rs own w' ∧
      w'.ownsRow wb.heap.size 3 1 (.slice va ts.length vc) ts.length (ints ((List.range ts.length).map (refOf ts))) ∧ Keep No w0 w' := by
  refine ret_mono (V31_sound ta ts.length tc w0 (fun x w' => ∃ (s : Nat) (va : Option Addr) (vc : Nat) (r : Nat) (ra : Option Addr) (rc : Nat) (wb : World) (B : Nat) (S : St) (rs : List (Nat × Nat)) (own : Nat → Prop),
      x = .tuple #[.pointer (some ⟨s, 0, none⟩), .slice va ts.length vc, .pointer (some ⟨r, 0, none⟩), .slice ra ts.length rc, .bool true] ∧ Sm wb s B S ts kss ts.length ts.length 0 rs own w' ∧
      w'.ownsRow wb.heap.size 3 1 (.slice va ts.length vc) ts.length (ints ((List.range ts.length).map (refOf ts))) ∧ Keep No w0 w') ?_) (by rintro _ _ ⟨s, va, vc, r, ra, rc, wb, B, S, rs, own, rfl, h⟩; exact ⟨s, va, vc, r, ra, rc, wb, B, S, rs, own, rfl, h⟩)
  unfold V31
  refine newK_of fun b w1 hs hb hk => ?_
  refine stK_add hb (by simp) fun w2 hb hk2 => ?_
  replace hk := hk.news hk2 (by rintro k rfl; omega)
  refine stK_add hb (by simp) fun w3 hb hk2 => ?_
  replace hk := hk.news hk2 (by rintro k rfl; omega)
  refine stK_add hb (by simp) fun w4 hb hk2 => ?_
  replace hk := hk.news hk2 (by rintro k rfl; omega)
  refine stK_add hb (by simp) fun w5 hb hk2 => ?_
  replace hk := hk.news hk2 (by rintro k rfl; omega)
  refine stK_add hb (by simp) fun w6 hb hk2 => ?_
  replace hk := hk.news hk2 (by rintro k rfl; omega)
  refine ⟨_, _, _, _, _, _, _, _, _, hb.cells0, (C11 (by decide) (by decide) (by decide)).mono ?_⟩
  rintro _ w7 ⟨s, a, p, rfl, hS, hk7⟩
  refine ⟨_, _, rfl, _, _, _, _, _, _, _, _, _, (hk7.nblk hb).cells0, (C65 (by decide) (by decide) w7).mono ?_⟩
  rintro _ w8 ⟨r, m, rfl, hR, hk8⟩
  refine ⟨_, _, rfl, bsel_neg rfl ?_⟩
  unfold V31J1
  have hk08 := (hk.no hk7).no hk8
  have hk68 := hk7.no hk8
  have het : ∀ {w : World}, Keep No w0 w → ∀ {k : Nat} {e : TypeId}, etype w0 k = some e → etype w k = some e := by
    intro w hk k e he
    unfold etype at he ⊢
    rw [hk.block k ?_ id]
    · exact he
    · rcases Nat.lt_or_ge k w0.heap.size with h | h
      · exact h
      · rw [Array.getElem?_eq_none h] at he; cases he
  have hks' : ∀ {w : World}, Keep No w0 w → ∀ i t, ts[i]? = some t → KidsAt w t (kss i) ∧ (∀ p, t.ka = some p → etype w p.block = some 3) ∧ SimpleT ts.length i t (kss i) :=
    fun hk i t ht => ⟨(hks i t ht).1.no hk, fun p hp => het hk ((hks i t ht).2.1 p hp), (hks i t ht).2.2⟩
  refine bsel_neg rfl ((C13_simple (S := ⟨0, 60000, 4, none, 0, 0, none, 0, 0, none, 0, 0, 0, false, a, p, val0⟩) (B := w6.heap.size) hk68.size rfl (by show (0:Int) ≤ 60000; omega) ⟨false, hS.no hk8⟩ (hts.no hk08) (fun p hp => het hk08 (hta p hp)) hn (hks' hk08)).mono ?_)
  rintro _ w9 ⟨v, rs, own, rfl, hSm, hrow, hk9⟩
  obtain ⟨va, vc, rfl⟩ := ownsRow_slice hrow
  refine ⟨_, _, _, _, rfl, ?_⟩
  have hk09 : Keep No w0 w9 := hk08.news hk9 fun k h => by have := h.1; have := hk.size; omega
  have hR9 : RSt w9 r w7.heap.size ⟨60000, 4, m⟩ rv0 0 := hR.keep hk9 fun k _ h => by
    obtain ⟨_, e, he, hm⟩ := h
    rw [he]
    refine ⟨?_, ?_, ?_⟩ <;> (intro hc; cases hc; exact absurd hm (by decide))
  refine (C66_simple hR9 (by have := hk8.size; have := hk9.size; omega) (hts.no hk09) (fun p hp => het hk09 (hta p hp)) hn (hks' hk09)).mono ?_
  rintro _ w10 ⟨ra, rc, rfl, hk10⟩
  refine ⟨_, _, _, _, rfl, bsel_pos (by decide) ?_⟩
  rw [show ((ts.length : Int) == (ts.length : Int)) = true by simp]
  refine ⟨s, va, vc, r, ra, rc, w8, w6.heap.size, _, rs, own, rfl, hSm.keep hk10 fun k h hl => ?_, hk10.row hrow fun g hg h => ?_, hk09.news hk10 fun k h => ?_⟩
  · rcases h with rfl | ⟨_, he⟩
    · exact ⟨220, hR9.etype, by decide, by decide, by decide⟩
    · exact ⟨226, he, by decide, by decide, by decide⟩
  · have h3 := ownsRow_etype hrow hg
    rcases h with rfl | ⟨_, he⟩
    · rw [hR9.etype] at h3; cases h3
    · rw [he] at h3; cases h3
  · have := hk.size; have := hk7.size
    have := hR9.ge
    rcases h with rfl | ⟨h1, _⟩
    · omega
    · omega

/-- Rows of structs, cell by cell. -/
theorem struct_at {w : World} {α : Type} {f : α → List Value} {n B e : Nat} {lv : Value} {L : List α} (hf : ∀ a, (f a).length = n) (h : w.ownsRow B e n lv L.length (L.flatMap f)) {i : Nat} {a : α} (hi : L[i]? = some a) {k : Nat} {x : Value} (hx : (f a)[k]? = some x) :
    ∃ g cap, lv = .slice (some ⟨g, 0, none⟩) L.length cap ∧ w.cell? ⟨g, i * n + k, none⟩ = some x := by
  have hk : k < n := by rw [← hf a]; exact (List.getElem?_eq_some_iff.1 hx).1
  have h1 := flat_get (f := f) (n := n) hf hk L i a hi
  rw [hx] at h1
  obtain ⟨g, cap, hv, _, hc, _⟩ := row_at h h1
  exact ⟨g, cap, hv, hc⟩
theorem terms_of_row {w : World} {B : Nat} {a : Option Addr} {n c : Nat} {ts : List Tm} (h : w.ownsRow B 42 8 (.slice a n c) ts.length (ts.flatMap Tm.cells)) : TermsAt w a ts ∧ ∀ p, a = some p → etype w p.block = some 42 := by
  constructor
  · intro i t ht
    obtain ⟨g, cap, hv, _⟩ := struct_at (f := Tm.cells) (n := 8) (fun _ => rfl) h ht (k := 0) (x := .int .i64 t.kind) rfl
    cases hv
    refine ⟨_, rfl, cellsFrom_of _ 0 fun j v hj => ?_⟩
    obtain ⟨g', cap', hv', hc⟩ := struct_at (f := Tm.cells) (n := 8) (fun _ => rfl) h ht hj
    cases hv'
    rw [add_mk, add_mk, Nat.zero_add, Nat.zero_add]
    exact hc
  · rintro p rfl
    have h' := h
    rcases h'.2 with ⟨h1, _⟩ | ⟨g, cap, cur, h1, _⟩
    · cases h1
    · cases h1
      exact ownsRow_etype h rfl

theorem infoTm : ∃ i z, Tryz.prog.info? 42 = some i ∧ i.zero = some z ∧ i.size = 8 ∧ z.cells.size = 8 ∧ 0 < i.bytes ∧ i.bytes ≤ 1000 := by
  obtain ⟨i, hi, hj⟩ := Option.map_eq_some_iff.1 (show (Tryz.prog.info? 42).map (fun i => (i.zero.map fun z => z.cells.size, i.size, decide (0 < i.bytes ∧ i.bytes ≤ 1000))) = some (some 8, 8, true) by kernel_rfl)
  simp at hj
  obtain ⟨⟨z, hz, hzs⟩, h1, h2, h3⟩ := hj
  exact ⟨i, z, hi, hz, h1, hzs, h2, h3⟩
theorem Tm.cells_one (t : Tm) : ∀ u ∈ t.cells, u.oneCell' = true := by
  intro u hu
  simp [Tm.cells] at hu
  rcases hu with rfl | rfl | rfl | rfl | rfl | rfl | rfl | rfl <;> rfl
/-- A term more. -/
theorem appendTm {w : World} {base : Nat} {v : Value} {ts : List Tm} {t : Tm} (hown : w.ownsRow base 42 8 v ts.length (ts.flatMap Tm.cells)) {b : Nat} (hb : Blk w b 42 t.cells) (hl : ts.length < 1000000) (hbase : base ≤ w.heap.size) {c : Nat} {K : World → Option Addr → Nat → Nat → Prop}
    (h : ∀ g cap w', w'.ownsRow base 42 8 (.slice (some ⟨g, 0, none⟩) (ts ++ [t]).length cap) (ts ++ [t]).length ((ts ++ [t]).flatMap Tm.cells) → Keep (fun k => v.ownBlock = some k) w w' → K w' (some ⟨g, 0, none⟩) (ts ++ [t]).length cap) :
    ∃ w' : World, ∃ a : Option Addr, ∃ l : Nat, ∃ c' : Nat, (vcEff.bltV .append #[22, 22] 22 #[v, .slice (some ⟨b, 0, none⟩) 1 c]).run Tryz.prog w = .ok (.slice a l c') w' ∧ K w' a l c' := by
  obtain ⟨i, z, hi, hz, hsz, hzs, hb0, hb9⟩ := infoTm
  refine appendN (P := Tryz.prog) (t := 22) (e := 42) Tryz.underlying22 hi hz hsz rfl hzs (by decide) hown (m := 1) hb rfl t.cells_one (by decide) ?_ hb0 hbase fun g cap w' hrow hk hat => ?_
  · have : (ts.length + 1) * i.bytes ≤ (ts.length + 1) * 1000 := Nat.mul_le_mul_left _ hb9
    omega
  · have := h g cap w' (by simpa using hrow) hk
    simpa using this

/-- Of simple terms: the text of the x-th one's value. -/
theorem C32_simple {w0 w : World} {s B : Nat} {S : St} {ts : List Tm} {kss : Nat → List Int} {rs : List (Nat × Nat)} {own : Nat → Prop} (h : Sm w0 s B S ts kss ts.length ts.length 0 rs own w)
    (hks : ∀ i t, ts[i]? = some t → (kss i).length = t.kl ∧ SimpleT ts.length i t (kss i)) {x : Nat} (hx : x < ts.length) :
    Calls Tryz.prog 32 #[.pointer (some ⟨s, 0, none⟩), .int .i64 (refOf ts x), .bool false] w fun e w' => e = .returned (.string ⟨(tellV (grOf ts kss) 20 [] (refOf ts x).toNat ([], true)).1.toArray⟩) ∧ Keep No w w' := by
  have hr : refOf ts x = ((refOf ts x).toNat : Nat) := by have := refOf_nonneg ts x; omega
  obtain ⟨t, ht⟩ : ∃ t, ts[x]? = some t := ⟨_, List.getElem?_eq_getElem hx⟩
  have h' := h
  obtain ⟨⟨hrsl, _⟩, ⟨d, h2⟩, _⟩ := h'
  obtain ⟨p, hp⟩ : ∃ p, rs[x]? = some p := ⟨_, List.getElem?_eq_getElem (by omega)⟩
  have hval := val_at (ts := ts) (rs := rs) (by omega) ht hp
  rw [hr]
  simp only [Int.toNat_natCast]
  refine C32 (sm_gr h hks) ⟨x, hx, rfl⟩ ?_ ?_
  · rintro u l ⟨y, hy, rfl⟩ hg
    obtain ⟨t', ht'⟩ : ∃ t, ts[y]? = some t := ⟨_, List.getElem?_eq_getElem hy⟩
    rw [grOf_at ht'] at hg
    unfold svOf at hg
    rw [ht'] at hg
    simp only at hg
    split at hg
    · cases hg; decide
    · split at hg
      · cases hg; decide
      · cases hg
  · by_cases h4 : t.kind = 4
    · rw [if_neg (by omega), if_pos h4] at hval
      refine (C44_str h2 hval).mono ?_
      rintro _ w' ⟨rfl, hk⟩
      exact ⟨_, _, rfl, hk⟩
    · by_cases h1 : t.kind = 1
      · rw [if_pos h1] at hval
        refine (C44_no h2 hval (by decide)).mono ?_
        rintro _ w' ⟨rfl, hk⟩
        exact ⟨_, _, rfl, hk⟩
      · rw [if_neg h1, if_neg h4] at hval
        refine (C44_no h2 hval (by decide)).mono ?_
        rintro _ w' ⟨rfl, hk⟩
        exact ⟨_, _, rfl, hk⟩
end Go.Fw

set_option autoImplicit false
set_option linter.unusedVariables false
set_option maxRecDepth 100000
namespace Go.Fw
open Go.Proofs

def V6J1 (Q : Value → World → Prop) (x12 : Option Addr) (x13 : Nat) (x14 : Nat) (x15 : Int) (x16 : Bool) (w17 : World) : Prop :=
Calls Tryz.prog 31 #[.slice x12 x13 x14] w17 fun e18 w19 => ∃ t20 : Option Addr, ∃ t21 : Option Addr, ∃ t22 : Nat, ∃ t23 : Nat, ∃ t24 : Option Addr, ∃ t25 : Option Addr, ∃ t26 : Nat, ∃ t27 : Nat, ∃ t28 : Bool, e18 = .returned (.tuple #[.pointer t20, .slice t21 t22 t23, .pointer t24, .slice t25 t26 t27, .bool t28]) ∧
bsel t28 (
Calls Tryz.prog 32 #[.pointer none, .int .i64 x15, .bool x16] w19 fun e29 w30 => ∃ t31 : ByteArray, e29 = .returned (.string t31) ∧
bsel (t31.toList == (⟨#[]⟩ : ByteArray).toList) (
Calls Tryz.prog 32 #[.pointer none, .int .i64 0, .bool x16] w30 fun e32 w33 => ∃ t34 : ByteArray, e32 = .returned (.string t34) ∧
bsel (t34.toList == (⟨#[]⟩ : ByteArray).toList) (
Calls Tryz.prog 32 #[.pointer t20, .int .i64 x15, .bool x16] w33 fun e35 w36 => ∃ t37 : ByteArray, e35 = .returned (.string t37) ∧
bsel (t37.toList == (⟨#[]⟩ : ByteArray).toList) (
Calls Tryz.prog 30 #[] w36 fun e38 w39 => ∃ t40 : Bool, e38 = .returned (.bool t40) ∧
Q (.bool t40) w39) (
Q (.bool false) w36)) (
Q (.bool false) w33)) (
Q (.bool false) w30)) (
Q (.bool false) w19)

def V6 (x1 : Option Addr) (x2 : Nat) (x3 : Nat) (x4 : Int) (x5 : Bool) (w : World) (Q : Value → World → Prop) : Prop :=
Calls Tryz.prog 29 #[.slice x1 x2 x3] w fun e6 w7 => ∃ t8 : Bool, e6 = .returned (.bool t8) ∧
bsel t8 (
Calls Tryz.prog 30 #[] w7 fun e9 w10 => ∃ t11 : Bool, e9 = .returned (.bool t11) ∧
Q (.bool t11) w10) (
bsel (decide (x4 ≥ 0)) (
V6J1 Q x1 x2 x3 (IntKind.wrap .i64 ((-1) - x4)) x5 w7) (
V6J1 Q x1 x2 x3 x4 x5 w7))

def V6_ann : Nat → Ann := fun _ => ⟨[], []⟩
theorem V6_eq (x1 : Option Addr) (x2 : Nat) (x3 : Nat) (x4 : Int) (x5 : Bool) (w : World) (Q : Value → World → Prop) : (match Tryz.f6.body with | some c => wpC Tryz.prog Tryz.f6.ntmps V6_ann c 0 (resQ Tryz.prog Tryz.f6.ntmps Tryz.f6.results.toList Q) (argsF [.slice x1 x2 x3, .int .i64 x4, .bool x5]) w | none => False) = V6 x1 x2 x3 x4 x5 w Q := by kernel_rfl
theorem V6_sound (x1 : Option Addr) (x2 : Nat) (x3 : Nat) (x4 : Int) (x5 : Bool) (w : World) (Q : Value → World → Prop) (h : V6 x1 x2 x3 x4 x5 w Q) : Calls Tryz.prog 6 #[.slice x1 x2 x3, .int .i64 x4, .bool x5] w fun e w' => ∃ v, e = .returned v ∧ Q v w' :=
  sound_of Tryz.func6 V6_ann rfl ((V6_eq x1 x2 x3 x4 x5 w Q).mpr h)

def V7J1 (Q : Value → World → Prop) (x93 : ByteArray) (x94 : Int) (x95 : Bool) (w96 : World) : Prop :=
bsel (decide (x94 ≤ 4096)) (
bsel ((x93.size : Int) == x94) (
bsel (!x95) (
Calls Tryz.prog 30 #[] w96 fun e97 w98 => ∃ t99 : Bool, e97 = .returned (.bool t99) ∧
Q (.bool t99) w98) (
Q (.bool false) w96)) (
Q (.bool false) w96)) (
bsel (decide ((x93.size : Int) ≤ 4102)) (
bsel x95 (
Calls Tryz.prog 30 #[] w96 fun e102 w103 => ∃ t104 : Bool, e102 = .returned (.bool t104) ∧
Q (.bool t104) w103) (
Q (.bool false) w96)) (
Q (.bool false) w96))

def V7J2 (Q : Value → World → Prop) (x89 : ByteArray) (x90 : Int) (w91 : World) : Prop :=
bsel (decide ((x89.size : Int) > 3)) (
sslK x89 (IntKind.wrap .i64 ((x89.size : Int) - 3)) x89.size fun s92 =>
V7J1 Q x89 x90 (s92.toList == (⟨#[46, 46, 46]⟩ : ByteArray).toList) w91) (
V7J1 Q x89 x90 false w91)

def V7J3 (Q : Value → World → Prop) (x59 : Int) (x60 : Int) (x61 : Option Addr) (x62 : Option Addr) (x63 : Nat) (x64 : Nat) (x65 : Bool) (w66 : World) : Prop :=
bsel x65 (
Q (.bool false) w66) (
idxK x62 x63 (IntKind.wrap .i64 ((x63 : Int) - 1)) 1 fun a67 =>
∃ t68 : Int, w66.cell? a67 = some (.int .i64 t68) ∧
Calls Tryz.prog 32 #[.pointer x61, .int .i64 t68, .bool false] w66 fun e69 w70 => ∃ t71 : ByteArray, e69 = .returned (.string t71) ∧
bsel (decide (x60 ≥ 20)) (
∃ (I72 : ByteArray → Int → World → Prop) (μ73 : ByteArray → Int → World → Nat), I72 (⟨#[]⟩ : ByteArray) 0 w70 ∧ ∀ (j77 : Fr) (i74 : ByteArray) (i75 : Int) (w76 : World), I72 i74 i75 w76 →
bsel (decide (i75 < 20)) (
(((i74.size + (⟨#[91]⟩ : ByteArray).size : Nat) : Int) ≤ 9223372036854775807) ∧
(I72 (i74 ++ (⟨#[91]⟩ : ByteArray)) (IntKind.wrap .i64 (i75 + 1)) w76 ∧ μ73 (i74 ++ (⟨#[91]⟩ : ByteArray)) (IntKind.wrap .i64 (i75 + 1)) w76 < μ73 i74 i75 w76)) (
(((i74.size + (⟨#[46, 46, 46]⟩ : ByteArray).size : Nat) : Int) ≤ 9223372036854775807) ∧
∃ (I78 : ByteArray → Int → World → Prop) (μ79 : ByteArray → Int → World → Nat), I78 (i74 ++ (⟨#[46, 46, 46]⟩ : ByteArray)) 0 w76 ∧ ∀ (j83 : Fr) (i80 : ByteArray) (i81 : Int) (w82 : World), I78 i80 i81 w82 →
bsel (decide (i81 < 20)) (
(((i80.size + (⟨#[93]⟩ : ByteArray).size : Nat) : Int) ≤ 9223372036854775807) ∧
(I78 (i80 ++ (⟨#[93]⟩ : ByteArray)) (IntKind.wrap .i64 (i81 + 1)) w82 ∧ μ79 (i80 ++ (⟨#[93]⟩ : ByteArray)) (IntKind.wrap .i64 (i81 + 1)) w82 < μ79 i80 i81 w82)) (
bsel (t71.toList == i80.toList) (
Calls Tryz.prog 30 #[] w82 fun e84 w85 => ∃ t86 : Bool, e84 = .returned (.bool t86) ∧
Q (.bool t86) w85) (
Q (.bool false) w82)))) (
bsel (decide (x59 < 2)) (
V7J2 Q t71 (IntKind.wrap .i64 (IntKind.wrap .i64 (IntKind.wrap .i64 (2 * x60) + 2) + IntKind.wrap .i64 (5 * x59))) w70) (
V7J2 Q t71 (IntKind.wrap .i64 (IntKind.wrap .i64 (IntKind.wrap .i64 (IntKind.wrap .i64 (2 * x60) + 2) + IntKind.wrap .i64 (6 * x59)) - 2)) w70)))

def V7J4 (Q : Value → World → Prop) (x3 : Int) (x4 : Int) (x5 : Bool) (w6 : World) : Prop :=
bsel x5 (
Calls Tryz.prog 30 #[] w6 fun e7 w8 => ∃ t9 : Bool, e7 = .returned (.bool t9) ∧
Q (.bool t9) w8) (
newK w6 #[.int .i64 1, .bool false, .bool false, .slice none 0 0, .string ⟨#[]⟩, .slice none 0 0, .bool false, .bool false] 42 fun a10 w11 =>
∃ (I12 : Option Addr → Nat → Nat → Int → World → Prop) (μ13 : Option Addr → Nat → Nat → Int → World → Nat), I12 none 0 0 0 w11 ∧ ∀ (j19 : Fr) (i14 : Option Addr) (i15 : Nat) (i16 : Nat) (i17 : Int) (w18 : World), I12 i14 i15 i16 i17 w18 →
bsel (decide (i17 < x3)) (
newK w18 #[.int .i64 0] 3 fun a20 w21 =>
∃ w22 : World, ∃ t23 : Option Addr, ∃ t24 : Nat, ∃ t25 : Nat, (vcEff.bltV .append #[30, 30] 30 #[.slice i14 i15 i16, .slice (some a20) 1 1]).run Tryz.prog w21 = .ok (.slice t23 t24 t25) w22 ∧
(I12 t23 t24 t25 (IntKind.wrap .i64 (i17 + 1)) w22 ∧ μ13 t23 t24 t25 (IntKind.wrap .i64 (i17 + 1)) w22 < μ13 i14 i15 i16 i17 w18)) (
newK w18 #[.int .i64 5, .bool false, .bool false, .slice none 0 0, .string ⟨#[]⟩, .slice i14 i15 i16, .bool false, .bool false] 42 fun a26 w27 =>
∃ w28 : World, ∃ t29 : Option Addr, ∃ t30 : Nat, ∃ t31 : Nat, (vcEff.bltV .append #[22, 22] 22 #[.slice (some a10) 1 1, .slice (some a26) 1 1]).run Tryz.prog w27 = .ok (.slice t29 t30 t31) w28 ∧
∃ (I32 : Option Addr → Nat → Nat → Int → World → Prop) (μ33 : Option Addr → Nat → Nat → Int → World → Nat), I32 t29 t30 t31 0 w28 ∧ ∀ (j39 : Fr) (i34 : Option Addr) (i35 : Nat) (i36 : Nat) (i37 : Int) (w38 : World), I32 i34 i35 i36 i37 w38 →
bsel (decide (i37 < x4)) (
newK w38 #[.int .i64 (IntKind.wrap .i64 ((i35 : Int) - 1))] 3 fun a40 w41 =>
newK w41 #[.int .i64 6, .bool false, .bool false, .slice none 0 0, .string ⟨#[]⟩, .slice (some a40) 1 1, .bool false, .bool false] 42 fun a42 w43 =>
∃ w44 : World, ∃ t45 : Option Addr, ∃ t46 : Nat, ∃ t47 : Nat, (vcEff.bltV .append #[22, 22] 22 #[.slice i34 i35 i36, .slice (some a42) 1 1]).run Tryz.prog w43 = .ok (.slice t45 t46 t47) w44 ∧
(I32 t45 t46 t47 (IntKind.wrap .i64 (i37 + 1)) w44 ∧ μ33 t45 t46 t47 (IntKind.wrap .i64 (i37 + 1)) w44 < μ33 i34 i35 i36 i37 w38)) (
Calls Tryz.prog 31 #[.slice i34 i35 i36] w38 fun e48 w49 => ∃ t50 : Option Addr, ∃ t51 : Option Addr, ∃ t52 : Nat, ∃ t53 : Nat, ∃ t54 : Option Addr, ∃ t55 : Option Addr, ∃ t56 : Nat, ∃ t57 : Nat, ∃ t58 : Bool, e48 = .returned (.tuple #[.pointer t50, .slice t51 t52 t53, .pointer t54, .slice t55 t56 t57, .bool t58]) ∧
bsel (!t58) (
V7J3 Q x3 x4 t50 t51 t52 t53 true w49) (
V7J3 Q x3 x4 t50 t51 t52 t53 ((t52 : Int) != (i35 : Int)) w49))))

def V7 (x1 : Int) (x2 : Int) (w : World) (Q : Value → World → Prop) : Prop :=
bsel (decide (x1 < 0)) (
V7J4 Q x1 x2 true w) (
bsel (decide (x1 > 3000)) (
V7J4 Q x1 x2 true w) (
bsel (decide (x2 < 0)) (
V7J4 Q x1 x2 true w) (
V7J4 Q x1 x2 (decide (x2 > 40)) w)))

def V7_ann : Nat → Ann := fun k => match k with | 0 => ⟨[0, 1, 5], [(6, .slice), (7, .int .i64)]⟩ | 1 => ⟨[0, 1], [(5, .slice), (8, .int .i64)]⟩ | 2 => ⟨[14], [(15, .str), (16, .int .i64)]⟩ | 3 => ⟨[14], [(15, .str), (17, .int .i64)]⟩ | _ => ⟨[], []⟩
theorem V7_eq (x1 : Int) (x2 : Int) (w : World) (Q : Value → World → Prop) : (match Tryz.f7.body with | some c => wpC Tryz.prog Tryz.f7.ntmps V7_ann c 0 (resQ Tryz.prog Tryz.f7.ntmps Tryz.f7.results.toList Q) (argsF [.int .i64 x1, .int .i64 x2]) w | none => False) = V7 x1 x2 w Q := by kernel_rfl
theorem V7_sound (x1 : Int) (x2 : Int) (w : World) (Q : Value → World → Prop) (h : V7 x1 x2 w Q) : Calls Tryz.prog 7 #[.int .i64 x1, .int .i64 x2] w fun e w' => ∃ v, e = .returned v ∧ Q v w' :=
  sound_of Tryz.func7 V7_ann rfl ((V7_eq x1 x2 w Q).mpr h)

def V8J1 (Q : Value → World → Prop) (x2 : Int) (x3 : Bool) (w4 : World) : Prop :=
bsel x3 (
Calls Tryz.prog 30 #[] w4 fun e5 w6 => ∃ t7 : Bool, e5 = .returned (.bool t7) ∧
Q (.bool t7) w6) (
∃ (I8 : Option Addr → Nat → Nat → ByteArray → Int → World → Prop) (μ9 : Option Addr → Nat → Nat → ByteArray → Int → World → Nat), I8 none 0 0 (⟨#[46, 46, 46]⟩ : ByteArray) 0 w4 ∧ ∀ (j16 : Fr) (i10 : Option Addr) (i11 : Nat) (i12 : Nat) (i13 : ByteArray) (i14 : Int) (w15 : World), I8 i10 i11 i12 i13 i14 w15 →
bsel (decide (i14 < x2)) (
((x2 : Int) ≠ 0) ∧
newK w15 #[.int .i64 (Int.tmod (IntKind.wrap .i64 (i14 + 1)) x2)] 3 fun a17 w18 =>
newK w18 #[.int .i64 6, .bool false, .bool false, .slice none 0 0, .string ⟨#[]⟩, .slice (some a17) 1 1, .bool false, .bool false] 42 fun a19 w20 =>
∃ w21 : World, ∃ t22 : Option Addr, ∃ t23 : Nat, ∃ t24 : Nat, (vcEff.bltV .append #[22, 22] 22 #[.slice i10 i11 i12, .slice (some a19) 1 1]).run Tryz.prog w20 = .ok (.slice t22 t23 t24) w21 ∧
((((⟨#[91]⟩ : ByteArray).size + i13.size : Nat) : Int) ≤ 9223372036854775807) ∧
(((((⟨#[91]⟩ : ByteArray) ++ i13).size + (⟨#[93]⟩ : ByteArray).size : Nat) : Int) ≤ 9223372036854775807) ∧
(I8 t22 t23 t24 (((⟨#[91]⟩ : ByteArray) ++ i13) ++ (⟨#[93]⟩ : ByteArray)) (IntKind.wrap .i64 (i14 + 1)) w21 ∧ μ9 t22 t23 t24 (((⟨#[91]⟩ : ByteArray) ++ i13) ++ (⟨#[93]⟩ : ByteArray)) (IntKind.wrap .i64 (i14 + 1)) w21 < μ9 i10 i11 i12 i13 i14 w15)) (
Calls Tryz.prog 31 #[.slice i10 i11 i12] w15 fun e25 w26 => ∃ t27 : Option Addr, ∃ t28 : Option Addr, ∃ t29 : Nat, ∃ t30 : Nat, ∃ t31 : Option Addr, ∃ t32 : Option Addr, ∃ t33 : Nat, ∃ t34 : Nat, ∃ t35 : Bool, e25 = .returned (.tuple #[.pointer t27, .slice t28 t29 t30, .pointer t31, .slice t32 t33 t34, .bool t35]) ∧
bsel t35 (
bsel ((t29 : Int) == x2) (
idxK t28 t29 0 1 fun a36 =>
∃ t37 : Int, w26.cell? a36 = some (.int .i64 t37) ∧
Calls Tryz.prog 32 #[.pointer t27, .int .i64 t37, .bool false] w26 fun e38 w39 => ∃ t40 : ByteArray, e38 = .returned (.string t40) ∧
bsel (t40.toList == i13.toList) (
Calls Tryz.prog 30 #[] w39 fun e41 w42 => ∃ t43 : Bool, e41 = .returned (.bool t43) ∧
Q (.bool t43) w42) (
Q (.bool false) w39)) (
Q (.bool false) w26)) (
Q (.bool false) w26)))

def V8 (x1 : Int) (w : World) (Q : Value → World → Prop) : Prop :=
bsel (decide (x1 < 1)) (
V8J1 Q x1 true w) (
V8J1 Q x1 (decide (x1 ≥ 20)) w)

def V8_ann : Nat → Ann := fun k => match k with | 0 => ⟨[0], [(3, .slice), (4, .str), (5, .int .i64)]⟩ | _ => ⟨[], []⟩
theorem V8_eq (x1 : Int) (w : World) (Q : Value → World → Prop) : (match Tryz.f8.body with | some c => wpC Tryz.prog Tryz.f8.ntmps V8_ann c 0 (resQ Tryz.prog Tryz.f8.ntmps Tryz.f8.results.toList Q) (argsF [.int .i64 x1]) w | none => False) = V8 x1 w Q := by kernel_rfl
theorem V8_sound (x1 : Int) (w : World) (Q : Value → World → Prop) (h : V8 x1 w Q) : Calls Tryz.prog 8 #[.int .i64 x1] w fun e w' => ∃ v, e = .returned v ∧ Q v w' :=
  sound_of Tryz.func8 V8_ann rfl ((V8_eq x1 w Q).mpr h)

end Go.Fw

set_option autoImplicit false
set_option linter.unusedVariables false
namespace Go.Fw
open Go.Proofs Go.RowKit

def tmC (kb : Nat) : Tm := ⟨5, false, false, none, 0, 0, ⟨#[]⟩, some ⟨kb, 0, none⟩, 1, 1, false, false⟩
def tmL (kb : Nat) : Tm := ⟨6, false, false, none, 0, 0, ⟨#[]⟩, some ⟨kb, 0, none⟩, 1, 1, false, false⟩
theorem bytes_eq (l : List UInt8) (b : ByteArray) (h : l = b.data.toList) : ((⟨l.toArray⟩ : ByteArray).toList == b.toList) = true := by
  rw [ByteArray.toList_eq, ByteArray.toList_eq, h]
  simp

theorem kids_of_blk {w : World} {t : Tm} {kb : Nat} {ks : List Int} (h : Blk w kb 3 (ints ks)) (hka : t.ka = some ⟨kb, 0, none⟩) (hkl : ks.length = t.kl) : KidsAt w t ks ∧ ∀ p, t.ka = some p → etype w p.block = some 3 := by
  refine ⟨⟨hkl, fun j k hj => ⟨_, hka, ?_⟩⟩, fun p hp => ?_⟩
  · rw [add_mk, Nat.zero_add]
    exact h.cell (ints_get hj)
  · rw [hka] at hp
    cases hp
    exact h.etype

/-- awake. -/
theorem C30 (w : World) : Calls Tryz.prog 30 #[] w fun e w' => e = .returned (.bool true) ∧ Keep No w w' := by
  refine ret_mono (V30_sound w (fun r w' => r = .bool true ∧ Keep No w w') ?_) (by rintro _ _ ⟨rfl, h⟩; exact ⟨rfl, h⟩)
  unfold V30
  refine newK_of fun kb w1 hs1 hkb hk1 => newK_of fun tb w2 hs2 htb hk2 => ?_
  have hk02 := hk1.no hk2
  have hkb2 := hk2.nblk hkb
  let ts : List Tm := [tmA, tmC kb]
  let kss : Nat → List Int := fun i => if i = 0 then [] else [0]
  have hts : TermsAt w2 (some ⟨tb, 0, none⟩) ts := by
    intro i t ht
    rcases i with _ | _ | i
    · cases ht
      exact ⟨_, rfl, htb.cellsAdd 0 rfl⟩
    · cases ht
      exact ⟨_, rfl, htb.cellsAdd 8 rfl⟩
    · simp [ts] at ht
  have hks : ∀ i t, ts[i]? = some t → KidsAt w2 t (kss i) ∧ (∀ p, t.ka = some p → etype w2 p.block = some 3) ∧ SimpleT ts.length i t (kss i) := by
    intro i t ht
    rcases i with _ | _ | i
    · cases ht
      exact ⟨⟨rfl, fun j k h => by simp [kss] at h⟩, (fun p hp => by cases hp), .inr (.inl ⟨rfl, rfl, rfl⟩)⟩
    · cases ht
      obtain ⟨a, b⟩ := kids_of_blk (t := tmC kb) (ks := [0]) hkb2 rfl rfl
      refine ⟨a, b, .inr (.inr (.inl ⟨rfl, by simp [tmC], fun j k h => ?_⟩))⟩
      rcases j with _ | j
      · cases h; decide
      · simp [kss] at h
    · simp [ts] at ht
  refine (C31_simple (ta := some ⟨tb, 0, none⟩) (tc := 2) hts (by rintro p hp; cases hp; exact htb.etype) (by simp [ts]) hks).mono ?_
  rintro _ w3 ⟨s, va, vc, r, ra, rc, wb, B, S, rs, own, rfl, hSm, hrow, hk3⟩
  have hks2 : ∀ i t, ts[i]? = some t → (kss i).length = t.kl ∧ SimpleT ts.length i t (kss i) := fun i t ht => ⟨(hks i t ht).1.1, (hks i t ht).2.2⟩
  obtain ⟨g, cap, hv, _, hc1⟩ := row_cell hrow (i := 1) (x := .int .i64 4) rfl
  obtain ⟨g', cap', hv', _, hc0⟩ := row_cell hrow (i := 0) (x := .int .i64 3) rfl
  cases hv
  cases hv'
  refine ⟨_, _, _, _, _, _, _, _, _, rfl, bsel_pos rfl (bsel_pos rfl (idxK_of (i := 1) (by simp [ts]) ⟨4, by simpa using hc1, ?_⟩))⟩
  have h4 : refOf ts 1 = 4 := rfl
  have h3 : refOf ts 0 = 3 := rfl
  have ht1 := C32_simple hSm hks2 (x := 1) (by simp [ts])
  rw [h4] at ht1
  refine ht1.mono ?_
  rintro _ w4 ⟨rfl, hk4⟩
  have hg0 : grOf ts kss 3 = .leaf [39, 97, 39] := (grOf_at (ts := ts) (kss := kss) (x := 0) (t := tmA) rfl)
  have hg1 : grOf ts kss 4 = .row true [3] := (grOf_at (ts := ts) (kss := kss) (x := 1) (t := tmC kb) rfl)
  have htx : (tellV (grOf ts kss) 20 [] (4 : Int).toNat ([], true)).1 = [40, 39, 97, 39, 44, 41] := by
    show (tellV (grOf ts kss) 20 [] 4 ([], true)).1 = _
    unfold tellV
    simp only [hg1]
    simp only [List.not_mem_nil, if_false, tellL, opens, shuts, emit, tellV_leaf hg0]
    decide
  rw [htx]
  refine ⟨_, rfl, bsel_pos (bytes_eq _ _ rfl) (idxK_of (i := 0) (by simp [ts]) ⟨3, by simpa using hk4.cell hc0 id, ?_⟩)⟩
  obtain ⟨⟨hrsl, _⟩, ⟨d, h2⟩, _⟩ := hSm
  obtain ⟨p, hp⟩ : ∃ p, rs[0]? = some p := ⟨_, List.getElem?_eq_getElem (by rw [hrsl]; simp [ts])⟩
  have hval := val_at (ts := ts) (rs := rs) (by omega) (x := 0) (t := tmA) rfl hp
  have hplain := C44_str (i := 3) (h2.no hk4) (t := ⟨#[97]⟩) hval
  refine (C32_plain hplain).mono ?_
  rintro _ w5 ⟨rfl, hk5⟩
  exact ⟨_, rfl, congrArg Value.bool (beq_self_eq_true _), ((hk02.no hk3).no hk4).no hk5⟩

/-! ShowLoops. -/
def loopT (kbs : List Nat) : List Tm := kbs.map tmL
def wantL (i : Nat) : List UInt8 := List.replicate i 91 ++ dots ++ List.replicate i 93

theorem tmod_mod (a n : Nat) (hn : 0 < n) : Int.tmod ((a : Int) + 1) n = (((a + 1) % n : Nat) : Int) := by
  rw [show (a : Int) + 1 = ((a + 1 : Nat) : Int) by omega, ← Int.ofNat_tmod]

theorem C8_loops {n : Nat} (hn1 : 1 ≤ n) (hn2 : n < 20) (w : World) : V8J1 (fun r w' => r = .bool true ∧ Keep No w w') n false w := by
  unfold V8J1
  refine bsel_neg rfl ?_
  refine ⟨fun a l c want i w' => 0 ≤ i ∧ i ≤ n ∧ want = ⟨(wantL i.toNat).toArray⟩ ∧ Keep No w w' ∧ ∃ kbs : List Nat, kbs.length = i.toNat ∧ w'.ownsRow w.heap.size 42 8 (.slice a l c) (loopT kbs).length ((loopT kbs).flatMap Tm.cells) ∧
      ∀ (j : Nat) (kb : Nat), kbs[j]? = some kb → Blk w' kb 3 [.int .i64 (((j + 1) % n : Nat) : Int)] ∧ w.heap.size ≤ kb, fun _ _ _ _ i _ => (n - i).toNat,
    ⟨by omega, by omega, rfl, Keep.refl _ _, [], rfl, World.ownsRow_nil _ _ _ _, fun j kb h => by simp at h⟩, ?_⟩
  rintro j0 a l c want i w1 ⟨hi0, hin, rfl, hk, kbs, hkl, hrow, hkbs⟩
  obtain ⟨i, rfl⟩ := Int.eq_ofNat_of_zero_le hi0
  simp only [Int.toNat_natCast] at hkl ⊢
  have hwl : (⟨(wantL i).toArray⟩ : ByteArray).size = 2 * i + 3 := by
    show (wantL i).toArray.size = _
    simp [wantL, dots]; omega
  have hll : (loopT kbs).length = i := by simp [loopT, hkl]
  refine bsel_split (fun hlt => ?_) fun hge => ?_
  · simp at hlt
    rw [wrap_i64 (by omega)]
    refine ⟨by omega, newK_of fun kb w2 hs2 hkb hk2 => newK_of fun tb w3 hs3 htb hk3 => ?_⟩
    have hk23 := hk2.no hk3
    have hsz := hk.size
    refine appendTm (t := tmL kb) (hk23.nrow hrow) htb (by omega) (by have := hk23.size; omega) fun g cap w4 hrow4 hk4 => ?_
    have hlt' := hk2.size
    refine ⟨by rw [hwl]; show ((1 + _ : Nat) : Int) ≤ _; omega, ?_, ⟨by omega, by omega, ?_, (hk.no hk23).news hk4 fun k e => (hrow.lt k e).1, kbs ++ [kb], by simp [hkl], by simpa [loopT] using hrow4, ?_⟩, by omega⟩
    · rw [ByteArray.size_append, hwl]
      show (((1 + (2 * i + 3)) + 1 : Nat) : Int) ≤ _
      omega
    · rw [show ((i : Int) + 1).toNat = i + 1 by omega]
      apply ByteArray.ext
      apply Array.ext'
      simp only [ByteArray.data_append, Array.toList_append]
      show [91] ++ wantL i ++ [93] = wantL (i + 1)
      unfold wantL
      rw [List.replicate_succ, List.replicate_succ']
      simp
    · intro j k hj
      have hne : ∀ {k : Nat}, etype w3 k = some 3 → ¬ (Value.slice a l c).ownBlock = some k := fun h1 h2 => by
        rw [ownsRow_etype (hk23.nrow hrow) h2] at h1; cases h1
      by_cases hjl : j < kbs.length
      · rw [List.getElem?_append_left hjl] at hj
        obtain ⟨b1, b2⟩ := hkbs j k hj
        have b3 := hk23.nblk b1
        exact ⟨hk4.blk b3 (hne b3.etype), b2⟩
      · have hjl2 := (List.getElem?_eq_some_iff.1 hj).1
        simp at hjl2
        have hje : j = kbs.length := by omega
        subst hje
        simp at hj
        subst hj
        have b3 := hk3.nblk hkb
        refine ⟨?_, by omega⟩
        have := hk4.blk b3 (hne b3.etype)
        rw [tmod_mod _ _ (by omega)] at this
        rw [hkl]
        exact this
  · simp at hge
    obtain rfl : i = n := by omega
    obtain ⟨hts, hta⟩ := terms_of_row hrow
    have e1 : l = (loopT kbs).length := by obtain ⟨a', c', he⟩ := ownsRow_slice hrow; cases he; rfl
    subst e1
    let kss : Nat → List Int := fun j => [(((j + 1) % i : Nat) : Int)]
    have hget : ∀ (j : Nat) (t : Tm), (loopT kbs)[j]? = some t → ∃ kb, kbs[j]? = some kb ∧ t = tmL kb := by
      intro j t ht
      simp [loopT] at ht
      obtain ⟨kb, h1, h2⟩ := ht
      exact ⟨kb, h1, h2.symm⟩
    have hks : ∀ j t, (loopT kbs)[j]? = some t → KidsAt w1 t (kss j) ∧ (∀ p, t.ka = some p → etype w1 p.block = some 3) ∧ SimpleT (loopT kbs).length j t (kss j) := by
      intro j t ht
      obtain ⟨kb, h1, rfl⟩ := hget j t ht
      obtain ⟨b1, _⟩ := hkbs j kb h1
      obtain ⟨x, y⟩ := kids_of_blk (t := tmL kb) (ks := kss j) b1 rfl rfl
      refine ⟨x, y, .inr (.inr (.inr ⟨rfl, by simp [tmL], fun j' k h => ?_⟩))⟩
      rcases j' with _ | j'
      · cases h
        have := Nat.mod_lt (j + 1) (show i > 0 by omega)
        rw [hll]; omega
      · simp [kss] at h
    refine (C31_simple hts hta (by omega) hks).mono ?_
    rintro _ w2 ⟨s, va, vc, r, ra, rc, wb, B, S, rs, own, rfl, hSm, hrow2, hk2⟩
    have hks2 : ∀ j t, (loopT kbs)[j]? = some t → (kss j).length = t.kl ∧ SimpleT (loopT kbs).length j t (kss j) := fun j t ht => ⟨(hks j t ht).1.1, (hks j t ht).2.2⟩
    refine ⟨_, _, _, _, _, _, _, _, _, rfl, bsel_pos rfl (bsel_pos (by rw [hll]; simp) ?_)⟩
    -- the numbers of the values: 3, 4, ..
    have hcnt : ∀ j, j ≤ i → cntV (loopT kbs) j = j := by
      intro j hj
      unfold cntV
      rw [List.filter_eq_self.2]
      · simp [loopT, hkl, hj]
      · intro t ht
        have := List.mem_of_mem_take ht
        simp [loopT] at this
        obtain ⟨kb, _, rfl⟩ := this
        rfl
    have href : ∀ j, j < i → refOf (loopT kbs) j = ((3 + j : Nat) : Int) := by
      intro j hj
      obtain ⟨t, ht⟩ : ∃ t, (loopT kbs)[j]? = some t := ⟨_, List.getElem?_eq_getElem (by omega)⟩
      obtain ⟨kb, _, rfl⟩ := hget j t ht
      unfold refOf
      rw [ht]
      simp [tmL, hcnt j (by omega)]
    obtain ⟨g, cap, hv, _, hc0⟩ := row_cell hrow2 (i := 0) (x := .int .i64 3) (by
      have := href 0 (by omega)
      simp [ints, show 0 < (loopT kbs).length by omega, this])
    cases hv
    refine idxK_of (i := 0) (by omega) ⟨3, by simpa using hc0, ?_⟩
    have ht0 := C32_simple hSm hks2 (x := 0) (by omega)
    rw [href 0 (by omega)] at ht0
    refine ht0.mono ?_
    rintro _ w3 ⟨rfl, hk3⟩
    have hG : ∀ j, j < i → grOf (loopT kbs) kss (3 + j) = .row false [3 + (j + 1) % i] := by
      intro j hj
      obtain ⟨t, ht⟩ : ∃ t, (loopT kbs)[j]? = some t := ⟨_, List.getElem?_eq_getElem (by omega)⟩
      have h1 := grOf_at (kss := kss) ht
      rw [href j hj] at h1
      simp only [Int.toNat_natCast] at h1
      rw [h1]
      obtain ⟨kb, _, rfl⟩ := hget j t ht
      unfold svOf
      rw [ht]
      have hm := Nat.mod_lt (j + 1) (show i > 0 by omega)
      have h2 := href ((j + 1) % i) hm
      simp only [tmL, kss]
      simp only [List.map_cons, List.map_nil, Int.toNat_natCast, h2]
      rfl
    have htx := tell_loops i hn1 hn2 (fun j => 3 + j) (fun a b _ _ h => by omega) (grOf (loopT kbs) kss) hG i 0 [] (by omega) (by simp)
    have htx' : (tellV (grOf (loopT kbs) kss) 20 [] (((3 + 0 : Nat) : Int).toNat) ([], true)).1 = wantL i := by
      have e : 0 % i = 0 := Nat.mod_eq_of_lt (by omega)
      rw [e] at htx
      simp only [Int.toNat_natCast]
      have h9 : tellV (grOf (loopT kbs) kss) 20 [] (3 + 0) ([], true) = _ := htx
      rw [h9]
      simp [wantL]
    rw [htx']
    refine ⟨_, rfl, bsel_pos (bytes_eq _ _ rfl) ((C30 w3).mono ?_)⟩
    rintro _ w4 ⟨rfl, hk4⟩
    exact ⟨_, rfl, rfl, ((hk.no hk2).no hk3).no hk4⟩

theorem C8 {n : Int} (w : World) : Calls Tryz.prog 8 #[.int .i64 n] w fun e w' => e = .returned (.bool true) ∧ Keep No w w' := by
  refine ret_mono (V8_sound n w (fun r w' => r = .bool true ∧ Keep No w w') ?_) (by rintro _ _ ⟨rfl, h⟩; exact ⟨rfl, h⟩)
  have hyes : V8J1 (fun r w' => r = .bool true ∧ Keep No w w') n true w := by
    unfold V8J1
    refine bsel_pos rfl ((C30 w).mono ?_)
    rintro _ w4 ⟨rfl, hk4⟩
    exact ⟨_, rfl, rfl, hk4⟩
  unfold V8
  refine bsel_split (fun _ => hyes) fun h1 => ?_
  by_cases h2 : n ≥ 20
  · rw [show decide (n ≥ 20) = true by simpa using h2]; exact hyes
  · rw [show decide (n ≥ 20) = false by simpa using h2]
    have h1 : 1 ≤ n := by simp at h1; omega
    obtain ⟨m, rfl⟩ := Int.eq_ofNat_of_zero_le (show 0 ≤ n by omega)
    exact C8_loops (by omega) (by omega) w
end Go.Fw

set_option autoImplicit false
set_option linter.unusedVariables false
namespace Go.Fw
open Go.Proofs Go.RowKit

/-! ShowBounds. -/
def tmN : Tm := ⟨1, false, false, none, 0, 0, ⟨#[]⟩, none, 0, 0, false, false⟩
def tmT (ka : Option Addr) (n c : Nat) : Tm := ⟨5, false, false, none, 0, 0, ⟨#[]⟩, ka, n, c, false, false⟩
def boundT (ka : Option Addr) (n c : Nat) (kbs : List Nat) : List Tm := tmN :: tmT ka n c :: kbs.map tmL
def boundK (n : Nat) : Nat → List Int := fun j => if j = 0 then [] else if j = 1 then List.replicate n 0 else [((j - 1 : Nat) : Int)]

section
variable {ka : Option Addr} {n c : Nat} {kbs : List Nat}
theorem bound_len : (boundT ka n c kbs).length = 2 + kbs.length := by simp [boundT]; omega
theorem bound_get {j : Nat} {t : Tm} (h : (boundT ka n c kbs)[j]? = some t) : (j = 0 ∧ t = tmN) ∨ (j = 1 ∧ t = tmT ka n c) ∨ ∃ i kb, j = i + 2 ∧ kbs[i]? = some kb ∧ t = tmL kb := by
  rcases j with _ | _ | j
  · cases h; exact .inl ⟨rfl, rfl⟩
  · cases h; exact .inr (.inl ⟨rfl, rfl⟩)
  · simp [boundT] at h
    obtain ⟨kb, h1, h2⟩ := h
    exact .inr (.inr ⟨j, kb, rfl, h1, h2.symm⟩)
theorem bound_cnt : ∀ j, j ≤ kbs.length + 1 → cntV (boundT ka n c kbs) (j + 1) = j := by
  intro j hj
  unfold cntV boundT
  rw [List.take_succ_cons, List.filter_cons_of_neg (by decide)]
  rw [List.filter_eq_self.2]
  · simp; omega
  · intro t ht
    have := List.mem_of_mem_take ht
    simp at this
    rcases this with rfl | ⟨kb, _, rfl⟩
    · rfl
    · rfl
theorem bound_ref0 : refOf (boundT ka n c kbs) 0 = 0 := rfl
theorem bound_ref : ∀ j, j ≤ kbs.length → refOf (boundT ka n c kbs) (j + 1) = ((3 + j : Nat) : Int) := by
  intro j hj
  obtain ⟨t, ht⟩ : ∃ t, (boundT ka n c kbs)[j + 1]? = some t := ⟨_, List.getElem?_eq_getElem (by rw [bound_len]; omega)⟩
  unfold refOf
  rw [ht]
  have hk : t.kind ≠ 1 := by
    rcases bound_get ht with ⟨h, _⟩ | ⟨_, rfl⟩ | ⟨_, _, _, _, rfl⟩
    · omega
    · simp [tmT]
    · simp [tmL]
  simp only [if_neg hk]
  rw [bound_cnt j (by omega)]
  rfl
theorem bound_gr0 : grOf (boundT ka n c kbs) (boundK n) 0 = .leaf noneT := grOf_at (ts := boundT ka n c kbs) (kss := boundK n) (x := 0) (t := tmN) rfl
theorem bound_gr1 : grOf (boundT ka n c kbs) (boundK n) 3 = .row true (List.replicate n 0) := by
  have h1 := grOf_at (ts := boundT ka n c kbs) (kss := boundK n) (x := 1) (t := tmT ka n c) rfl
  rw [bound_ref 0 (Nat.zero_le _)] at h1
  simp only [Int.toNat_natCast] at h1
  rw [show 3 = 3 + 0 from rfl, h1]
  show SV.row _ _ = _
  simp [tmT, boundK, bound_ref0]
theorem bound_gr {j : Nat} (hj : j < kbs.length) : grOf (boundT ka n c kbs) (boundK n) (3 + (j + 1)) = .row false [3 + j] := by
  obtain ⟨t, ht⟩ : ∃ t, (boundT ka n c kbs)[j + 1 + 1]? = some t := ⟨_, List.getElem?_eq_getElem (by rw [bound_len]; omega)⟩
  have h1 := grOf_at (kss := boundK n) ht
  rw [bound_ref (j + 1) (by omega)] at h1
  simp only [Int.toNat_natCast] at h1
  rw [h1]
  unfold svOf
  rw [ht]
  obtain ⟨kb, rfl⟩ : ∃ kb, t = tmL kb := by
    rcases bound_get ht with ⟨h, _⟩ | ⟨h, _⟩ | ⟨_, kb, _, _, rfl⟩
    · omega
    · omega
    · exact ⟨kb, rfl⟩
  have h2 := bound_ref (ka := ka) (n := n) (c := c) (kbs := kbs) j (by omega)
  have h3 : boundK n (j + 1 + 1) = [((j + 1 : Nat) : Int)] := by simp [boundK]
  rw [h3]
  simp only [tmL, List.map_cons, List.map_nil, Int.toNat_natCast, h2]
  rfl

/-- The text of the last one's value. -/
def boundO (n d : Nat) : Out := if d < 20 then (nestPcs n noneT d).foldl (fun o s => emit s o) ([], true) else (List.replicate 20 91 ++ dots ++ List.replicate 20 93, true)
theorem bound_text : tellV (grOf (boundT ka n c kbs) (boundK n)) 20 [] (3 + kbs.length) ([], true) = boundO n kbs.length := by
  unfold boundO
  split
  · rename_i h
    exact tell_nest n kbs.length noneT 0 (fun j => 3 + j) (fun a b _ _ h => by omega) _ bound_gr0 bound_gr1 (fun i hi => bound_gr hi) kbs.length 20 [] _ (Nat.le_refl _) h (fun i _ => by simp)
  · rename_i h
    have := tell_deep n kbs.length 0 (fun j => 3 + j) (fun a b _ _ h => by omega) (grOf (boundT ka n c kbs) (boundK n)) (fun i hi => bound_gr hi) ⟨_, _, bound_gr1⟩ 20 kbs.length [] [] (Nat.le_refl _) (by omega) (Nat.le_refl _) (fun i _ => by simp) (by simp)
    simpa using this
end

theorem zeros_at {w : World} {B : Nat} {a : Option Addr} {n c : Nat} (h : w.ownsRow B 3 1 (.slice a n c) n (List.replicate n (.int .i64 0))) : KidsAt w (tmT a n c) (List.replicate n 0) ∧ ∀ p, (tmT a n c).ka = some p → etype w p.block = some 3 := by
  refine ⟨⟨by simp [tmT], fun j k hj => ?_⟩, fun p hp => ?_⟩
  · have hjn : j < n ∧ k = 0 := by
      rw [List.getElem?_replicate] at hj
      split at hj
      · cases hj; exact ⟨by assumption, rfl⟩
      · cases hj
    obtain ⟨g, cap, hv, _, hc⟩ := row_cell h (i := j) (x := .int .i64 0) (by simp [hjn.1])
    cases hv
    exact ⟨_, rfl, by rw [add_mk, Nat.zero_add, hjn.2]; exact hc⟩
  · have : a = some p := hp
    subst this
    have h' := h
    rcases h'.2 with ⟨h1, _⟩ | ⟨g, cap, cur, h1, _⟩
    · cases h1
    · cases h1
      exact ownsRow_etype h rfl

/-- The end of ShowBounds: the text is as it should be. -/
theorem V7_end {n d : Nat} (hn : n ≤ 3000) (hd : d ≤ 40) {w w1 : World} (hk : Keep No w w1) (T : ByteArray) (hT : T = ⟨(boundO n d).1.toArray⟩) (hd20 : d < 20) :
    ∀ sz : Int, sz = sizeOf' n d → V7J2 (fun r w' => r = .bool true ∧ Keep No w w') T sz w1 := by
  rintro _ rfl
  have hdata : T.data.toList = (boundO n d).1 := by rw [hT]
  have hsize : T.size = (boundO n d).1.length := by rw [hT]; show (boundO n d).1.toArray.size = _; simp
  obtain ⟨h1, h2⟩ := nest_law n d (boundO n d) (by unfold boundO; rw [if_pos hd20])
  have hend : ∀ (b : Bool), (sizeOf' n d ≤ 4096 → b = false) → (4096 < sizeOf' n d → b = true) → V7J1 (fun r w' => r = .bool true ∧ Keep No w w') T (sizeOf' n d) b w1 := by
    intro b hb1 hb2
    unfold V7J1
    refine bsel_split (fun hs => ?_) fun hs => ?_
    · have hs : sizeOf' n d ≤ 4096 := by simp at hs; omega
      refine bsel_pos (by rw [hsize, (h1 hs).1]; simp) (bsel_pos (by rw [hb1 hs]; rfl) ((C30 w1).mono ?_))
      rintro _ w2 ⟨rfl, hk2⟩
      exact ⟨_, rfl, rfl, hk.no hk2⟩
    · have hs : 4096 < sizeOf' n d := by simp at hs; omega
      obtain ⟨a, _⟩ := h2 hs hd20
      refine bsel_pos (by rw [hsize]; simp; omega) (bsel_pos (hb2 hs) ((C30 w1).mono ?_))
      rintro _ w2 ⟨rfl, hk2⟩
      exact ⟨_, rfl, rfl, hk.no hk2⟩
  have hle : (boundO n d).1.length ≤ 4102 := by
    by_cases hs : sizeOf' n d ≤ 4096
    · rw [(h1 hs).1]; omega
    · exact (h2 (by omega) hd20).1
  unfold V7J2
  refine bsel_split (fun h3 => ?_) fun h3 => ?_
  · have h3 : 3 < (boundO n d).1.length := by simp at h3; omega
    rw [wrap_i64 (by omega)]
    refine ⟨by omega, hend _ (fun hs => ?_) fun hs => ?_⟩
    · obtain ⟨_, l, x, he, hx⟩ := h1 hs
      apply Bool.eq_false_iff.2
      intro hc
      have hc := eq_of_beq hc
      rw [ByteArray.toList_eq, ByteArray.toList_eq] at hc
      have e2 : (T.extract ((T.size : Int) - 3).toNat (T.size : Int).toNat).data.toList = (boundO n d).1.drop ((boundO n d).1.length - 3) := by
        rw [ByteArray.data_extract, Array.toList_extract, hdata, hsize]
        rw [show (((boundO n d).1.length : Int) - 3).toNat = (boundO n d).1.length - 3 by omega, Int.toNat_natCast]
        rw [List.extract_eq_take_drop]
        rw [List.take_of_length_le (by simp)]
      rw [e2, he] at hc
      have hl : 3 < (l ++ [x]).length := by rw [← he]; exact h3
      have hlast := congrArg List.getLast? hc
      rw [List.getLast?_drop, if_neg (by simp at hl ⊢; omega)] at hlast
      simp at hlast
      exact hx hlast
    · obtain ⟨_, l, he, hl⟩ := h2 hs hd20
      have e2 : (T.extract ((T.size : Int) - 3).toNat (T.size : Int).toNat).data.toList = (boundO n d).1.drop ((boundO n d).1.length - 3) := by
        rw [ByteArray.data_extract, Array.toList_extract, hdata, hsize]
        rw [show (((boundO n d).1.length : Int) - 3).toNat = (boundO n d).1.length - 3 by omega, Int.toNat_natCast]
        rw [List.extract_eq_take_drop]
        rw [List.take_of_length_le (by simp)]
      rw [ByteArray.toList_eq, ByteArray.toList_eq, e2, he]
      rw [show (l ++ dots).length - 3 = l.length by simp [dots], List.drop_left]
      rfl
  · have h3 : ¬ 3 < (boundO n d).1.length := by simp at h3; omega
    refine hend false (fun _ => rfl) fun hs => ?_
    obtain ⟨_, l, he, hl⟩ := h2 hs hd20
    have := congrArg List.length he
    simp [dots] at this
    omega

theorem grow_sz {n d : Nat} (h : n < 2) : sizeOf' n d = 2 * d + 2 + 5 * n := by unfold sizeOf'; rw [if_pos h]
theorem grow_sz2 {n d : Nat} (h : ¬ n < 2) : sizeOf' n d = 2 * d + 2 + 6 * n - 2 := by unfold sizeOf'; rw [if_neg h]

/-- ShowBounds, within its bounds. -/
theorem V7_in {n d : Nat} (hn : n ≤ 3000) (hd : d ≤ 40) (w : World) : V7J4 (fun r w' => r = .bool true ∧ Keep No w w') n d false w := by
  unfold V7J4
  refine bsel_neg rfl (newK_of fun b0 w1 hs1 hb0 hk1 => ?_)
  -- the kids of the tuple
  refine ⟨fun a l c i w' => 0 ≤ i ∧ i ≤ n ∧ Keep No w1 w' ∧ w'.ownsRow w1.heap.size 3 1 (.slice a l c) i.toNat (List.replicate i.toNat (.int .i64 0)), fun _ _ _ i _ => (n - i).toNat, ⟨by omega, by omega, Keep.refl _ _, World.ownsRow_nil _ _ _ _⟩, ?_⟩
  rintro j0 ka kl kc i w2 ⟨hi0, hin, hk2, hrow⟩
  obtain ⟨i, rfl⟩ := Int.eq_ofNat_of_zero_le hi0
  simp only [Int.toNat_natCast] at hrow
  refine bsel_split (fun hlt => ?_) fun hge => ?_
  · simp at hlt
    refine newK_of fun b w3 hs3 hb3 hk3 => ?_
    refine appendRow rowInts (hk3.nrow hrow) hb3 rfl (by omega) (by have := (hk2.no hk3).size; omega) fun g cap w4 hrow4 hk4 hat => ?_
    rw [wrap_i64 (by omega)]
    refine ⟨⟨by omega, by omega, (hk2.no hk3).news hk4 fun k e => (hrow.lt k e).1, ?_⟩, by simp only; omega⟩
    rw [show ((i : Int) + 1).toNat = i + 1 by omega, List.replicate_succ']
    exact hrow4
  simp at hge
  obtain rfl : i = n := by omega
  have e1 : kl = i := by obtain ⟨a', c', he⟩ := ownsRow_slice hrow; cases he; rfl
  subst e1
  clear hi0 hin hge j0
  refine newK_of fun b1 w3 hs3 hb1 hk3 => ?_
  have hk03 := (hk1.no hk2).no hk3
  have hk13 := hk2.no hk3
  have hb03 := hk13.nblk hb0
  have hlit : w3.ownsRow w.heap.size 42 8 (.slice (some ⟨b0, 0, none⟩) 1 1) ([tmN] : List Tm).length (([tmN] : List Tm).flatMap Tm.cells) :=
    ⟨rfl, .inr ⟨b0, 1, _, rfl, by omega, hb03, Nat.le_refl _, by simp [maxLen], rfl, rfl⟩⟩
  refine appendTm (t := tmT ka kl kc) hlit hb1 (by simp) hk03.size fun g cap w4 hrow4 hk4 => ?_
  have hrow34 := hk4.row (hk3.nrow hrow) fun g' hg' e => by
    have h1 := ownsRow_etype (hk3.nrow hrow) hg'
    have : b0 = g' := by simpa [Value.ownBlock] using e
    rw [← this, hb03.etype] at h1; cases h1
  have hk04 : Keep No w w4 := hk03.news hk4 fun k e => by simp [Value.ownBlock] at e; omega
  -- the lists around it
  refine ⟨fun a l c i w' => 0 ≤ i ∧ i ≤ d ∧ Keep (Ty w.heap.size [42] w4) w4 w' ∧ ∃ kbs : List Nat, kbs.length = i.toNat ∧ w'.ownsRow w.heap.size 42 8 (.slice a l c) (boundT ka kl kc kbs).length ((boundT ka kl kc kbs).flatMap Tm.cells) ∧
      ∀ (j : Nat) (kb : Nat), kbs[j]? = some kb → Blk w' kb 3 [.int .i64 ((j + 1 : Nat) : Int)], fun _ _ _ i _ => (d - i).toNat,
    ⟨by omega, by omega, Keep.refl _ _, [], rfl, hrow4, fun j kb h => by simp at h⟩, ?_⟩
  rintro j0 a l c i w5 ⟨hi0, hin, hk5, kbs, hkl, hrow5, hkbs⟩
  obtain ⟨i, rfl⟩ := Int.eq_ofNat_of_zero_le hi0
  simp only [Int.toNat_natCast] at hkl
  have hlen := bound_len (ka := ka) (n := kl) (c := kc) (kbs := kbs)
  have e1 : l = (boundT ka kl kc kbs).length := by obtain ⟨a', c', he⟩ := ownsRow_slice hrow5; cases he; rfl
  have hk05 : Keep No w w5 := hk04.news hk5 fun k h => h.1
  refine bsel_split (fun hlt => ?_) fun hge => ?_
  · simp at hlt
    refine newK_of fun kb w6 hs6 hkb hk6 => newK_of fun tb w7 hs7 htb hk7 => ?_
    have hk67 := hk6.no hk7
    have hap : boundT ka kl kc kbs ++ [tmL kb] = boundT ka kl kc (kbs ++ [kb]) := by simp [boundT]
    refine appendTm (t := tmL kb) (hk67.nrow hrow5) htb (by omega) (by have := (hk05.no hk67).size; omega) fun g' cap' w8 hrow8 hk8 => ?_
    rw [wrap_i64 (by omega)]
    rw [hap] at hrow8 ⊢
    have hk78 : Keep (Ty w.heap.size [42] w7) w7 w8 := hk8.mono fun k _ e => ⟨(hrow5.lt k e).1, 42, ownsRow_etype (hk67.nrow hrow5) e, by simp⟩
    refine ⟨⟨by omega, by omega, (hk5.no hk67).ty hk78, kbs ++ [kb], by simp [hkl], hrow8, ?_⟩, by simp only; omega⟩
    intro j k hj
    by_cases hjl : j < kbs.length
    · rw [List.getElem?_append_left hjl] at hj
      exact hk78.tblk (hk67.nblk (hkbs j k hj)) (by decide)
    · have hjl2 := (List.getElem?_eq_some_iff.1 hj).1
      simp at hjl2
      have hje : j = kbs.length := by omega
      subst hje
      simp at hj
      subst hj
      have b3 := hk78.tblk (hk7.nblk hkb) (by decide)
      rw [e1, hlen, wrap_i64 (by omega)] at b3
      have : ((2 + kbs.length : Nat) : Int) - 1 = ((kbs.length + 1 : Nat) : Int) := by omega
      rw [this] at b3
      exact b3
  simp at hge
  obtain rfl : i = d := by omega
  subst hkl
  subst e1
  obtain ⟨hts, hta⟩ := terms_of_row hrow5
  have hrow35 := hk5.trow hrow34 (by decide)
  obtain ⟨z1, z2⟩ := zeros_at hrow35
  have hks : ∀ j t, (boundT ka kl kc kbs)[j]? = some t → KidsAt w5 t (boundK kl j) ∧ (∀ p, t.ka = some p → etype w5 p.block = some 3) ∧ SimpleT (boundT ka kl kc kbs).length j t (boundK kl j) := by
    intro j t ht
    rcases bound_get ht with ⟨rfl, rfl⟩ | ⟨rfl, rfl⟩ | ⟨i, kb, rfl, h1, rfl⟩
    · exact ⟨⟨rfl, fun j k h => by simp [boundK] at h⟩, (fun p hp => by cases hp), .inl ⟨rfl, rfl⟩⟩
    · refine ⟨z1, z2, .inr (.inr (.inl ⟨rfl, by simp [tmT]; omega, fun j k h => ?_⟩))⟩
      simp [boundK, List.getElem?_replicate] at h
      omega
    · have hb := hkbs i kb h1
      have hbk : boundK kl (i + 2) = [((i + 1 : Nat) : Int)] := by simp [boundK]
      rw [hbk]
      obtain ⟨x, y⟩ := kids_of_blk (t := tmL kb) (ks := [((i + 1 : Nat) : Int)]) hb rfl rfl
      have hil := (List.getElem?_eq_some_iff.1 h1).1
      refine ⟨x, y, .inr (.inr (.inr ⟨rfl, by simp [tmL], fun j k h => ?_⟩))⟩
      rcases j with _ | j
      · cases h
        rw [hlen]; omega
      · simp at h
  refine (C31_simple hts hta (by omega) hks).mono ?_
  rintro _ w6 ⟨s, va, vc, r, ra, rc, wb, B, S, rs, own, rfl, hSm, hrow6, hk6⟩
  have hks2 : ∀ j t, (boundT ka kl kc kbs)[j]? = some t → (boundK kl j).length = t.kl ∧ SimpleT (boundT ka kl kc kbs).length j t (boundK kl j) := fun j t ht => ⟨(hks j t ht).1.1, (hks j t ht).2.2⟩
  refine ⟨_, _, _, _, _, _, _, _, _, rfl, bsel_neg rfl ?_⟩
  rw [show (((boundT ka kl kc kbs).length : Int) != ((boundT ka kl kc kbs).length : Int)) = false by simp]
  have hk06 := hk05.no hk6
  unfold V7J3
  have hlast := bound_ref (ka := ka) (n := kl) (c := kc) (kbs := kbs) kbs.length (Nat.le_refl _)
  obtain ⟨g6, cap6, hv, _, hc⟩ := row_cell hrow6 (i := kbs.length + 1) (x := .int .i64 ((3 + kbs.length : Nat) : Int)) (by
    rw [← hlast]
    simp [ints, show kbs.length + 1 < (boundT ka kl kc kbs).length by omega])
  cases hv
  have ei : IntKind.wrap .i64 (((boundT ka kl kc kbs).length : Int) - 1) = ((kbs.length + 1 : Nat) : Int) := by rw [wrap_i64 (by omega)]; omega
  rw [ei]
  refine bsel_neg rfl (idxK_of (by omega) ⟨((3 + kbs.length : Nat) : Int), by simpa using hc, ?_⟩)
  have ht0 := C32_simple hSm hks2 (x := kbs.length + 1) (by omega)
  rw [hlast] at ht0
  refine ht0.mono ?_
  rintro _ w7 ⟨rfl, hk7⟩
  have hk07 := hk06.no hk7
  simp only [Int.toNat_natCast]
  rw [bound_text]
  refine ⟨_, rfl, bsel_split (fun h20 => ?_) fun h20 => ?_⟩
  · have h20 : 20 ≤ kbs.length := by simp at h20; omega
    have hbo : boundO kl kbs.length = (List.replicate 20 91 ++ dots ++ List.replicate 20 93, true) := by unfold boundO; rw [if_neg (by omega)]
    rw [hbo]
    refine ⟨fun b i w' => 0 ≤ i ∧ i ≤ 20 ∧ b = ⟨(List.replicate i.toNat 91).toArray⟩ ∧ w' = w7, fun _ i _ => (20 - i).toNat, ⟨by omega, by omega, rfl, rfl⟩, ?_⟩
    rintro j b i w8 ⟨hi0, hi1, rfl, rfl⟩
    have hsz1 : (⟨(List.replicate i.toNat 91).toArray⟩ : ByteArray).size = i.toNat := by show (List.replicate i.toNat (91 : UInt8)).toArray.size = _; simp
    refine bsel_split (fun hlt => ?_) fun hge => ?_
    · simp at hlt
      rw [wrap_i64 (by omega)]
      refine ⟨by rw [hsz1]; show ((_ + 1 : Nat) : Int) ≤ _; omega, ⟨by omega, by omega, ?_, rfl⟩, by simp only; omega⟩
      rw [show (i + 1).toNat = i.toNat + 1 by omega]
      apply ByteArray.ext
      apply Array.ext'
      rw [ByteArray.data_append, Array.toList_append]
      show List.replicate i.toNat 91 ++ [91] = List.replicate (i.toNat + 1) 91
      rw [List.replicate_succ']
    · simp at hge
      obtain rfl : i = 20 := by omega
      refine ⟨by rw [hsz1]; decide, fun b i w' => 0 ≤ i ∧ i ≤ 20 ∧ b = ⟨(List.replicate 20 91 ++ dots ++ List.replicate i.toNat 93).toArray⟩ ∧ w' = w8, fun _ i _ => (20 - i).toNat, ⟨by omega, by omega, rfl, rfl⟩, ?_⟩
      rintro j b i w9 ⟨hi0, hi1, rfl, rfl⟩
      have hsz2 : (⟨(List.replicate 20 91 ++ dots ++ List.replicate i.toNat 93).toArray⟩ : ByteArray).size = 23 + i.toNat := by
        show (List.replicate 20 (91 : UInt8) ++ dots ++ List.replicate i.toNat 93).toArray.size = _
        simp [dots]; omega
      refine bsel_split (fun hlt => ?_) fun hge => ?_
      · simp at hlt
        rw [wrap_i64 (by omega)]
        refine ⟨by rw [hsz2]; show ((_ + 1 : Nat) : Int) ≤ _; omega, ⟨by omega, by omega, ?_, rfl⟩, by simp only; omega⟩
        rw [show (i + 1).toNat = i.toNat + 1 by omega]
        apply ByteArray.ext
        apply Array.ext'
        rw [ByteArray.data_append, Array.toList_append]
        show (List.replicate 20 91 ++ dots ++ List.replicate i.toNat 93) ++ [93] = List.replicate 20 91 ++ dots ++ List.replicate (i.toNat + 1) 93
        have e93 : List.replicate (i.toNat + 1) (93 : UInt8) = List.replicate i.toNat 93 ++ [93] := List.replicate_succ'
        rw [e93, List.append_assoc, List.append_assoc]
      · simp at hge
        obtain rfl : i = 20 := by omega
        refine bsel_pos (bytes_eq _ _ rfl) ((C30 w9).mono ?_)
        rintro _ w10 ⟨rfl, hk10⟩
        exact ⟨_, rfl, rfl, hk07.no hk10⟩
  · have h20 : kbs.length < 20 := by simp at h20; omega
    refine bsel_split (fun h2 => ?_) fun h2 => ?_
    · have h2 : kl < 2 := by simp at h2; omega
      refine V7_end hn hd hk07 _ rfl h20 _ ?_
      rw [grow_sz h2]
      simp only [wrap_i64 (show -9223372036854775808 ≤ 2 * (kbs.length : Int) ∧ 2 * (kbs.length : Int) < 9223372036854775808 by omega), wrap_i64 (show -9223372036854775808 ≤ 5 * (kl : Int) ∧ 5 * (kl : Int) < 9223372036854775808 by omega),
        wrap_i64 (show -9223372036854775808 ≤ 2 * (kbs.length : Int) + 2 ∧ 2 * (kbs.length : Int) + 2 < 9223372036854775808 by omega)]
      rw [wrap_i64 (by omega)]
      omega
    · have h2 : ¬ kl < 2 := by simp at h2; omega
      refine V7_end hn hd hk07 _ rfl h20 _ ?_
      rw [grow_sz2 h2]
      simp only [wrap_i64 (show -9223372036854775808 ≤ 2 * (kbs.length : Int) ∧ 2 * (kbs.length : Int) < 9223372036854775808 by omega), wrap_i64 (show -9223372036854775808 ≤ 6 * (kl : Int) ∧ 6 * (kl : Int) < 9223372036854775808 by omega),
        wrap_i64 (show -9223372036854775808 ≤ 2 * (kbs.length : Int) + 2 ∧ 2 * (kbs.length : Int) + 2 < 9223372036854775808 by omega),
        wrap_i64 (show -9223372036854775808 ≤ 2 * (kbs.length : Int) + 2 + 6 * (kl : Int) ∧ 2 * (kbs.length : Int) + 2 + 6 * (kl : Int) < 9223372036854775808 by omega)]
      rw [wrap_i64 (by omega)]
      omega

theorem C7 {n d : Int} (w : World) : Calls Tryz.prog 7 #[.int .i64 n, .int .i64 d] w fun e w' => e = .returned (.bool true) ∧ Keep No w w' := by
  refine ret_mono (V7_sound n d w (fun r w' => r = .bool true ∧ Keep No w w') ?_) (by rintro _ _ ⟨rfl, h⟩; exact ⟨rfl, h⟩)
  have hyes : V7J4 (fun r w' => r = .bool true ∧ Keep No w w') n d true w := by
    unfold V7J4
    refine bsel_pos rfl ((C30 w).mono ?_)
    rintro _ w4 ⟨rfl, hk4⟩
    exact ⟨_, rfl, rfl, hk4⟩
  unfold V7
  refine bsel_split (fun _ => hyes) fun h1 => bsel_split (fun _ => hyes) fun h2 => bsel_split (fun _ => hyes) fun h3 => ?_
  by_cases h4 : d > 40
  · rw [show decide (d > 40) = true by simpa using h4]; exact hyes
  · rw [show decide (d > 40) = false by simpa using h4]
    simp at h1 h2 h3
    obtain ⟨n, rfl⟩ := Int.eq_ofNat_of_zero_le h1
    obtain ⟨d, rfl⟩ := Int.eq_ofNat_of_zero_le h3
    exact V7_in (by omega) (by omega) w
end Go.Fw
