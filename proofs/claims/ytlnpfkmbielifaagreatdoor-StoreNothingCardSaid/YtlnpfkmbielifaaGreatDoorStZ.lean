/- Part of a proof over the given program: a text of lemmas (conditions: none beyond each lemma as stated). -/
import Derived.Test.YtlnpfkmbielifaaGreatDoorStY
import Derived.ProofKit
import Derived.OpenShut
import Derived.Deep.Slices
import Derived.LaidMore
import Derived.ReadAgain
set_option linter.unnecessarySimpa false
set_option linter.unusedSimpArgs false
set_option autoImplicit false
set_option linter.unusedVariables false
namespace Go.Fw
open Go.Proofs Go.RowKit

theorem list_of {α : Type} {R : Nat → α → Prop} : ∀ n, (∀ i, i < n → ∃ k, R i k) → ∃ l : List α, l.length = n ∧ ∀ i k, l[i]? = some k → R i k
  | 0, _ => ⟨[], rfl, fun i k h => by simp at h⟩
  | n + 1, h => by
    obtain ⟨l, hl, hr⟩ := list_of n fun i hi => h i (by omega)
    obtain ⟨k, hk⟩ := h n (by omega)
    refine ⟨l ++ [k], by simp [hl], fun i x hx => ?_⟩
    rcases Nat.lt_or_ge i n with hi | hi
    · exact hr i x (by rwa [List.getElem?_append_left (by omega)] at hx)
    · rw [List.getElem?_append_right (by omega)] at hx
      have : i - l.length = 0 := by
        have := (List.getElem?_eq_some_iff.1 hx).1
        simp at this
        omega
      rw [this] at hx
      cases hx
      rw [show i = n by omega]
      exact hk

theorem cellsFrom_of {w : World} {a : Addr} : ∀ (vs : List Value) (i : Nat), (∀ j v, vs[j]? = some v → w.cell? (a.add (i + j)) = some v) → cellsFrom w a vs i
  | [], _, _ => trivial
  | v :: vs, i, h => cellsFrom_cons.2 ⟨by simpa using h 0 v rfl, cellsFrom_of vs (i + 1) fun j u hj => by
      have := h (j + 1) u (by simpa using hj)
      rw [show i + 1 + j = i + (j + 1) by omega]
      exact this⟩

/-! Terms, out of a reading. -/
section
variable {H : Type} {enc : TypeId × Value → H} {w : World} {base : Nat} {spare : Nat → Bool} {held : Bool} {fuel : Nat} {cs : List Value} {x : DataW H × List MemPlace}

/-- A row of ints. -/
def IntsAt (w : World) (a : Option Addr) (n : Nat) (ks : List Int) : Prop := ks.length = n ∧ ∀ j k, ks[j]? = some k → ∃ p, a = some p ∧ w.cell? (p.add j) = some (.int .i64 k)
theorem ints_of_trod (h : DataW.trod enc Tryz.prog w base spare held fuel 30 cs = some x) : ∃ a l c ks, cs = [.slice a l c] ∧ IntsAt w a l ks ∧ l ≤ maxLen := by
  rcases Deep.open_slice Tryz.underlying30 h with ⟨rfl, _⟩ | ⟨a, len, cap, m, n, D, Pl, rfl, _, hle, hcap, hm, _, hel⟩
  · exact ⟨none, 0, 0, [], rfl, ⟨rfl, fun j k h => by simp at h⟩, by simp⟩
  · have hlm : len ≤ m := by split at hm <;> omega
    have hc3 : Tryz.prog.cellsOf 3 = 1 := by kernel_rfl
    have hint : ∀ i, i < len → ∃ k, w.cell? (a.add i) = some (.int .i64 k) := by
      intro i hi
      obtain ⟨cs', h1, h2⟩ := hel i (by omega)
      obtain ⟨k, rfl, _⟩ := DataW.trod_int Tryz.underlying3 h2
      rw [hc3, Nat.mul_one] at h1
      exact ⟨k, ChangeShapes.cell_of_cells?_one h1⟩
    obtain ⟨ks, hl, hr⟩ := list_of len hint
    exact ⟨some a, len, cap, ks, rfl, ⟨hl, fun j k hj => ⟨a, rfl, hr j k hj⟩⟩, by omega⟩
theorem slice_of_trod {t e : TypeId} (ht : Tryz.prog.underlying t = some (.slice e)) (h : DataW.trod enc Tryz.prog w base spare held fuel t cs = some x) : ∃ a l c, cs = [.slice a l c] ∧ l ≤ maxLen := by
  rcases Deep.open_slice ht h with ⟨rfl, _⟩ | ⟨a, len, cap, m, n, D, Pl, rfl, _, hle, hcap, hm, _, hel⟩
  · exact ⟨none, 0, 0, rfl, by simp⟩
  · exact ⟨some a, len, cap, rfl, by omega⟩

theorem cells8 {cs : List Value} (h : cs.length = 8) : ∃ c0 c1 c2 c3 c4 c5 c6 c7, cs = [c0, c1, c2, c3, c4, c5, c6, c7] := by
  match cs, h with
  | [c0, c1, c2, c3, c4, c5, c6, c7], _ => exact ⟨_, _, _, _, _, _, _, _, rfl⟩

theorem term_of_trod (h : DataW.trod enc Tryz.prog w base spare held fuel 42 cs = some x) : ∃ t : Tm, cs = t.cells ∧ (∃ ks, KidsAt w t ks) ∧ t.kl ≤ maxLen ∧ t.ml ≤ maxLen ∧ t.text.size ≤ maxLen := by
  obtain ⟨xs, n, _, _, hl, hxl, hf⟩ := DataW.trod_struct Tryz.underlying42 h
  rw [show Tryz.prog.cellsOf 42 = 8 by kernel_rfl] at hl
  obtain ⟨c0, c1, c2, c3, c4, c5, c6, c7, rfl⟩ := cells8 hl
  have hxl : xs.length = 7 := hxl
  have e1 : Tryz.prog.cellsOf 3 = 1 := by kernel_rfl
  have e2 : Tryz.prog.cellsOf 4 = 1 := by kernel_rfl
  have e3 : Tryz.prog.cellsOf 40 = 2 := by kernel_rfl
  have e4 : Tryz.prog.cellsOf 9 = 1 := by kernel_rfl
  have e5 : Tryz.prog.cellsOf 30 = 1 := by kernel_rfl
  have e6 : Tryz.prog.cellsOf 38 = 1 := by kernel_rfl
  have f0 : DataW.trod enc Tryz.prog w base spare held n 3 (([c0, c1, c2, c3, c4, c5, c6, c7].drop 0).take (Tryz.prog.cellsOf 3)) = xs[0]? := hf 0 _ rfl
  have f1 : DataW.trod enc Tryz.prog w base spare held n 4 (([c0, c1, c2, c3, c4, c5, c6, c7].drop 1).take (Tryz.prog.cellsOf 4)) = xs[1]? := hf 1 _ rfl
  have f2 : DataW.trod enc Tryz.prog w base spare held n 40 (([c0, c1, c2, c3, c4, c5, c6, c7].drop 2).take (Tryz.prog.cellsOf 40)) = xs[2]? := hf 2 _ rfl
  have f3 : DataW.trod enc Tryz.prog w base spare held n 9 (([c0, c1, c2, c3, c4, c5, c6, c7].drop 4).take (Tryz.prog.cellsOf 9)) = xs[3]? := hf 3 _ rfl
  have f4 : DataW.trod enc Tryz.prog w base spare held n 30 (([c0, c1, c2, c3, c4, c5, c6, c7].drop 5).take (Tryz.prog.cellsOf 30)) = xs[4]? := hf 4 _ rfl
  have f5 : DataW.trod enc Tryz.prog w base spare held n 4 (([c0, c1, c2, c3, c4, c5, c6, c7].drop 6).take (Tryz.prog.cellsOf 4)) = xs[5]? := hf 5 _ rfl
  have f6 : DataW.trod enc Tryz.prog w base spare held n 4 (([c0, c1, c2, c3, c4, c5, c6, c7].drop 7).take (Tryz.prog.cellsOf 4)) = xs[6]? := hf 6 _ rfl
  simp only [e1, e2, e3, e4, e5, List.drop_zero, List.drop_succ_cons, List.take_succ_cons, List.take_zero] at f0 f1 f2 f3 f4 f5 f6
  have gx : ∀ i, i < 7 → ∃ y, xs[i]? = some y := fun i hi => ⟨_, List.getElem?_eq_getElem (by omega)⟩
  obtain ⟨y0, g0⟩ := gx 0 (by decide); rw [g0] at f0
  obtain ⟨y1, g1⟩ := gx 1 (by decide); rw [g1] at f1
  obtain ⟨y2, g2⟩ := gx 2 (by decide); rw [g2] at f2
  obtain ⟨y3, g3⟩ := gx 3 (by decide); rw [g3] at f3
  obtain ⟨y4, g4⟩ := gx 4 (by decide); rw [g4] at f4
  obtain ⟨y5, g5⟩ := gx 5 (by decide); rw [g5] at f5
  obtain ⟨y6, g6⟩ := gx 6 (by decide); rw [g6] at f6
  obtain ⟨kind, k0, _⟩ := DataW.trod_int Tryz.underlying3 f0
  obtain ⟨bo, k1, _⟩ := DataW.trod_bool Tryz.underlying4 f1
  obtain ⟨tx, k3, _, htx⟩ := DataW.trod_string Tryz.underlying9 f3
  obtain ⟨ka, kl, kc, ks, k4, hks, hkl⟩ := ints_of_trod f4
  obtain ⟨ha, k5, _⟩ := DataW.trod_bool Tryz.underlying4 f5
  obtain ⟨sa, k6, _⟩ := DataW.trod_bool Tryz.underlying4 f6
  obtain ⟨zs, n2, _, _, hl2, hzl, hf2⟩ := DataW.trod_struct Tryz.underlying40 f2
  have hzl : zs.length = 2 := hzl
  have p0 : DataW.trod enc Tryz.prog w base spare held n2 4 (([c2, c3].drop 0).take (Tryz.prog.cellsOf 4)) = zs[0]? := hf2 0 _ rfl
  have p1 : DataW.trod enc Tryz.prog w base spare held n2 38 (([c2, c3].drop 1).take (Tryz.prog.cellsOf 38)) = zs[1]? := hf2 1 _ rfl
  simp only [e2, e6, List.drop_zero, List.drop_succ_cons, List.take_succ_cons, List.take_zero] at p0 p1
  obtain ⟨z0, q0⟩ : ∃ y, zs[0]? = some y := ⟨_, List.getElem?_eq_getElem (by omega)⟩
  obtain ⟨z1, q1⟩ : ∃ y, zs[1]? = some y := ⟨_, List.getElem?_eq_getElem (by omega)⟩
  rw [q0] at p0; rw [q1] at p1
  obtain ⟨ng, k7, _⟩ := DataW.trod_bool Tryz.underlying4 p0
  obtain ⟨ma, ml, mc, k8, hml⟩ := slice_of_trod Tryz.underlying38 p1
  cases k0; cases k1; cases k3; cases k4; cases k5; cases k6; cases k7; cases k8
  exact ⟨⟨kind, bo, ng, ma, ml, mc, tx, ka, kl, kc, ha, sa⟩, rfl, ⟨ks, hks⟩, hkl, hml, htx⟩

theorem terms_of_trod (h : DataW.trod enc Tryz.prog w base spare held fuel 22 cs = some x) : ∃ a c, ∃ ts : List Tm, cs = [.slice a ts.length c] ∧ TermsAt w a ts ∧
    (∀ (i : Nat) (t : Tm), ts[i]? = some t → (∃ ks, KidsAt w t ks) ∧ t.kl ≤ maxLen ∧ t.ml ≤ maxLen ∧ t.text.size ≤ maxLen) ∧ ts.length ≤ maxLen := by
  rcases Deep.open_slice Tryz.underlying22 h with ⟨rfl, _⟩ | ⟨a, len, cap, m, n, D, Pl, rfl, _, hle, hcap, hm, _, hel⟩
  · exact ⟨none, 0, [], rfl, fun i t h => by simp at h, fun i t h => by simp at h, by simp⟩
  · have hlm : len ≤ m := by split at hm <;> omega
    have hint : ∀ i, i < len → ∃ t : Tm, CellsAt w (a.add (i * 8)) t.cells ∧ (∃ ks, KidsAt w t ks) ∧ t.kl ≤ maxLen ∧ t.ml ≤ maxLen ∧ t.text.size ≤ maxLen := by
      intro i hi
      obtain ⟨cs', h1, h2⟩ := hel i (by omega)
      obtain ⟨t, rfl, h3⟩ := term_of_trod h2
      rw [show Tryz.prog.cellsOf 42 = 8 by kernel_rfl] at h1
      obtain ⟨_, _, hc⟩ := World.cells?_some h1
      refine ⟨t, cellsFrom_of _ 0 fun j v hj => ?_, h3⟩
      rw [Nat.zero_add, hc j (by
        have := (List.getElem?_eq_some_iff.1 hj).1
        simpa [Tm.cells] using this), hj]
    obtain ⟨ts, hl, hr⟩ := list_of len hint
    subst hl
    exact ⟨some a, cap, ts, rfl, fun i t ht => ⟨a, rfl, (hr i t ht).1⟩, fun i t ht => (hr i t ht).2, by omega⟩
end
end Go.Fw
