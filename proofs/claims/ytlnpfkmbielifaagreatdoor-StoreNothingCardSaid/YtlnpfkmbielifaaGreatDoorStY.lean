/- Part of a proof over the given program: a text of lemmas (conditions: none beyond each lemma as stated). -/
import Derived.Test.YtlnpfkmbielifaaGreatDoorStX
import Derived.Test.YtlnpfkmbielifaaGreatDoorVStC
set_option linter.unnecessarySimpa false
set_option linter.unusedSimpArgs false
set_option autoImplicit false
set_option linter.unusedVariables false
namespace Go.Fw
open Go.Proofs Go.RowKit

theorem numbered80 (r : Nat) (w : World) : (callMethod (.iface 80 (.pointer (some ⟨r, 0, none⟩))) "lexicon/store.numbered" #[]).run Tryz.prog w = (do let v ← loadVar 84 ⟨r, 0, none⟩; callFunc 225 #[v]).run Tryz.prog w := by kernel_rfl
theorem callFunc225 (v : Value) (w : World) : (callFunc 225 #[v]).run Tryz.prog w = .ok (.enter 225 #[v]) w := by kernel_rfl
theorem ld84 (a : Addr) (w : World) (K : Value → Prop) : ldK Tryz.prog 84 w a K = ∃ t : Int, CellsAt w a [.int .i64 t] ∧ K (.agg #[.int .i64 t]) := by kernel_rfl
theorem load84 (r : Nat) (n : Int) (w : World) (h : w.cell? ⟨r, 0, none⟩ = some (.int .i64 n)) : (loadVar 84 ⟨r, 0, none⟩).run Tryz.prog w = .ok (.agg #[.int .i64 n]) w := by
  obtain ⟨v, h1, h2⟩ := ldK_run (P := Tryz.prog) (t := 84) (w := w) (a := ⟨r, 0, none⟩) (K := fun v => v = .agg #[.int .i64 n]) (by rw [ld84]; exact ⟨n, by show w.cell? _ = _; rw [add_mk]; exact h, rfl⟩)
  rw [h1, h2]

theorem C225 (n : Int) (w : World) : Calls Tryz.prog 225 #[.agg #[.int .i64 n]] w fun e w' => e = .returned (.int .i64 n) ∧ Keep No w w' := by
  refine ret_mono (V225_sound n w (fun r w' => r = .int .i64 n ∧ Keep No w w') ?_) (by rintro _ _ ⟨rfl, h⟩; exact ⟨rfl, h⟩)
  unfold V225
  exact newK_of fun b w1 hs hb hk => ⟨_, hb.add 0 rfl, rfl, hk⟩

theorem inv_numbered80 {r : Nat} {n : Int} {w : World} (h : w.cell? ⟨r, 0, none⟩ = some (.int .i64 n)) {R : Ending → World → Prop} (hR : ∀ w', Keep No w w' → R (.returned (.int .i64 n)) w') :
    InvK Tryz.prog (.iface 80 (.pointer (some ⟨r, 0, none⟩))) "lexicon/store.numbered" #[] w R := by
  refine ⟨225, .agg #[.int .i64 n], ?_, (C225 n w).mono ?_⟩
  · rw [numbered80, Sem.run_bind, load84 r n w h]
    simp only [Result.andThen, Array.append_empty]
    exact callFunc225 _ _
  · rintro _ w' ⟨rfl, hk⟩
    exact hR w' hk

section
variable {w : World} {s B : Nat} {S : St} {i : Nat}

/-- Len of a row. -/
theorem C14_row (h : StAt w s B S) {r : Nat} (hx : S.vals[i]? = some (.iface 80 (.pointer (some ⟨r, 0, none⟩)))) {n k : Int} {a : Option Addr} {l c : Nat} (hr : Blk w r 86 [.int .i64 n, .slice a l c, .int .i64 k]) :
    Calls Tryz.prog 14 #[.pointer (some ⟨s, 0, none⟩), .int .i64 i] w fun e w' => e = .returned (.tuple #[.int .i64 l, .int .i64 0]) ∧ w' = w := by
  refine ret_mono (V14_sound _ _ w (fun r w' => r = .tuple #[.int .i64 l, .int .i64 0] ∧ w' = w) ?_) (by rintro _ _ ⟨rfl, h⟩; exact ⟨rfl, h⟩)
  unfold V14
  refine (C25_in h hx).mono ?_
  rintro _ w1 ⟨rfl, rfl⟩
  refine ⟨_, rfl, _, _, no96 (by decide) _ _, bsel_neg rfl ⟨_, _, yes80 _ _, bsel_pos rfl ?_⟩⟩
  rw [nilK_some]
  exact ⟨_, _, _, hr.add 1 rfl, rfl, rfl⟩
/-- Len of a str. -/
theorem C14_str (h : StAt w s B S) {t : ByteArray} (hx : S.vals[i]? = some (.iface 96 (.agg #[.string t]))) (ht : t.size < 1000000000000000) :
    Calls Tryz.prog 14 #[.pointer (some ⟨s, 0, none⟩), .int .i64 i] w fun e w' => e = .returned (.tuple #[.int .i64 (Lib.runeCount t), .int .i64 0]) ∧ Keep No w w' := by
  refine ret_mono (V14_sound _ _ w (fun r w' => r = .tuple #[.int .i64 (Lib.runeCount t), .int .i64 0] ∧ Keep No w w') ?_) (by rintro _ _ ⟨rfl, h⟩; exact ⟨rfl, h⟩)
  unfold V14
  refine (C25_in h hx).mono ?_
  rintro _ w1 ⟨rfl, rfl⟩
  refine ⟨_, rfl, _, _, yes96 _ _, bsel_pos rfl (newK_of fun b w2 hs hb hk => stK_add hb (by simp) fun w3 hb3 hk3 => ⟨_, hb3.add 0 rfl, (C29 t ht w3).mono ?_⟩)⟩
  rintro _ w4 ⟨rfl, hk4⟩
  exact ⟨_, rfl, rfl, (hk.news hk3 (by rintro k rfl; omega)).no hk4⟩
/-- Tag of a row. -/
theorem C16_row1 (h : StAt w s B S) {r : Nat} (hx : S.vals[i]? = some (.iface 80 (.pointer (some ⟨r, 0, none⟩)))) {rest : List Value} (hr : Blk w r 86 (.int .i64 1 :: rest)) :
    Calls Tryz.prog 16 #[.pointer (some ⟨s, 0, none⟩), .int .i64 i] w fun e w' => e = .returned (.string ⟨#[35, 49]⟩) ∧ Keep No w w' := by
  refine ret_mono (V16_sound _ _ w (fun r w' => r = .string ⟨#[35, 49]⟩ ∧ Keep No w w') ?_) (by rintro _ _ ⟨rfl, h⟩; exact ⟨rfl, h⟩)
  unfold V16
  refine (C25_in h hx).mono ?_
  rintro _ w1 ⟨rfl, rfl⟩
  refine ⟨_, rfl, ?_⟩
  rw [eqNilI_iface]
  refine bsel_neg rfl ⟨_, no70 (by decide) _ _, bsel_neg rfl ⟨_, _, no72 (by decide) _ _, bsel_neg rfl ⟨_, _, _, _, _, no112 (by decide) _ _, bsel_neg rfl ⟨_, _, no96 (by decide) _ _, bsel_neg rfl ⟨_, _, _, no91 (by decide) _ _, bsel_neg rfl ?_⟩⟩⟩⟩⟩
  refine inv_numbered80 (hr.cell rfl) fun w2 hk2 => ⟨_, rfl, (C35_1 w2).mono ?_⟩
  rintro _ w3 ⟨rfl, rfl⟩
  exact ⟨_, rfl, by decide, by rw [show (⟨#[35]⟩ : ByteArray) ++ ⟨#[49]⟩ = ⟨#[35, 49]⟩ by decide], hk2⟩
/-- Tag of "a". -/
theorem C16_a (h : StAt w s B S) (hx : S.vals[i]? = some strA) :
    Calls Tryz.prog 16 #[.pointer (some ⟨s, 0, none⟩), .int .i64 i] w fun e w' => e = .returned (.string ⟨#[39, 97, 39]⟩) ∧ Keep No w w' := by
  refine ret_mono (V16_sound _ _ w (fun r w' => r = .string ⟨#[39, 97, 39]⟩ ∧ Keep No w w') ?_) (by rintro _ _ ⟨rfl, h⟩; exact ⟨rfl, h⟩)
  unfold V16
  refine (C25_in h hx).mono ?_
  rintro _ w1 ⟨rfl, rfl⟩
  refine ⟨_, rfl, ?_⟩
  unfold strA
  rw [eqNilI_iface]
  refine bsel_neg rfl ⟨_, no70 (by decide) _ _, bsel_neg rfl ⟨_, _, no72 (by decide) _ _, bsel_neg rfl ⟨_, _, _, _, _, no112 (by decide) _ _, bsel_neg rfl ⟨_, _, yes96 _ _, bsel_pos rfl ?_⟩⟩⟩⟩
  refine newK_of fun b w2 hs hb hk => stK_add hb (by simp) fun w3 hb3 hk3 => ⟨_, hb3.add 0 rfl, (C34_a w3).mono ?_⟩
  rintro _ w4 ⟨rfl, hk4⟩
  exact ⟨_, rfl, rfl, (hk.news hk3 (by rintro k rfl; omega)).no hk4⟩
/-- Truth of a str that is not empty. -/
theorem C17_str (h : StAt w s B S) {t : ByteArray} (hx : S.vals[i]? = some (.iface 96 (.agg #[.string t]))) (ht : t.size < 1000000000000000) :
    Calls Tryz.prog 17 #[.pointer (some ⟨s, 0, none⟩), .int .i64 i] w fun e w' => e = .returned (.bool (decide ((Lib.runeCount t : Int) > 0))) ∧ Keep No w w' := by
  refine ret_mono (V17_sound _ _ w (fun r w' => r = .bool (decide ((Lib.runeCount t : Int) > 0)) ∧ Keep No w w') ?_) (by rintro _ _ ⟨rfl, h⟩; exact ⟨rfl, h⟩)
  unfold V17
  refine (C25_in h hx).mono ?_
  rintro _ w1 ⟨rfl, rfl⟩
  refine ⟨_, rfl, ?_⟩
  rw [eqNilI_iface]
  refine ⟨_, no70 (by decide) _ _, bsel_neg rfl ?_⟩
  unfold V17J2
  refine bsel_neg rfl ⟨_, _, no72 (by decide) _ _, bsel_neg rfl ⟨_, _, _, _, _, no112 (by decide) _ _, bsel_neg rfl ⟨_, _, no102 (by decide) _ _, bsel_neg rfl ?_⟩⟩⟩
  unfold V17J1
  refine (C14_str h hx ht).mono ?_
  rintro _ w2 ⟨rfl, hk2⟩
  exact ⟨_, _, rfl, bsel_neg rfl ⟨rfl, hk2⟩⟩
end

/-- awake. -/
theorem C6 (w : World) : Calls Tryz.prog 6 #[] w fun e w' => e = .returned (.bool true) ∧ Keep No w w' := by
  refine ret_mono (V6_sound w (fun r w' => r = .bool true ∧ Keep No w w') ?_) (by rintro _ _ ⟨rfl, h⟩; exact ⟨rfl, h⟩)
  unfold V6
  refine (C8 10 3 w).mono ?_
  rintro _ w1 ⟨rfl, hk1⟩
  refine ⟨_, _, _, _, _, _, _, _, _, rfl, (C7 (by decide) (by decide) (by decide)).mono ?_⟩
  rintro _ w2 ⟨s, a, p, rfl, hS, hk2⟩
  refine ⟨_, _, rfl, bsel_neg rfl ?_⟩
  unfold V6J2
  refine bsel_neg rfl (newK_of fun kb w3 hs3 hkb hk3 => newK_of fun tb w4 hs4 htb hk4 => ?_)
  have hk04 := ((hk1.no hk2).no hk3).no hk4
  have hS4 := (hS.no hk3).no hk4
  have hkb4 := hk4.nblk hkb
  have hB : w1.heap.size ≤ w4.heap.size := ((hk2.no hk3).no hk4).size
  have hL := aw_laws (tb := tb) rfl hB rfl rfl rfl hkb4 htb (s := s) (B := w1.heap.size) (S := ⟨0, 10, 3, none, 0, 0, none, 0, 0, none, 0, 0, 0, false, a, p, val0⟩)
  have hts : TermsAt w4 (some ⟨tb, 0, none⟩) [tmA, tmB kb] := by
    intro i t ht
    rcases i with _ | _ | i
    · cases ht
      exact ⟨_, rfl, htb.cellsAdd 0 rfl⟩
    · cases ht
      exact ⟨_, rfl, htb.cellsAdd 8 rfl⟩
    · simp at ht
  refine (C9_gen rfl hts ?_ (by simp) ?_ ?_ ?_ hL).mono ?_
  · rintro _ h ⟨_, e, he, hm⟩
    cases h
    rw [htb.etype] at he; cases he; exact absurd hm (by decide)
  · intro i t ht
    rcases i with _ | _ | i
    · cases ht; decide
    · cases ht; simp [tmB]
    · simp at ht
  · rintro k ⟨_, e, he, _⟩
    unfold etype at he
    rcases Nat.lt_or_ge k w4.heap.size with h | h
    · exact h
    · rw [Array.getElem?_eq_none h] at he; cases he
  · exact .inl ⟨rfl, rfl, fun _ => id, false, hS4⟩
  rintro _ w5 ⟨r, rfl, ⟨i, _, _, h, _⟩ | ⟨_, refs, own, v, hrl, rfl, hF, hk5, hrow, _⟩⟩
  · exact absurd rfl h
  have hk05 : Keep No w w5 := hk04.news hk5 fun k h => by have := h.1; have := hk1.size; omega
  rcases hF with ⟨h, _⟩ | ⟨h, _⟩ | ⟨_, rfl, d, r, g, cs, hS5, hr, _⟩
  · omega
  · omega
  obtain ⟨g', cap, rfl, _, hc0⟩ := row_cell hrow (i := 0) rfl
  obtain ⟨g'', cap', hv, _, hc1⟩ := row_cell hrow (i := 1) rfl
  have hgg : g'' = g' := by simp at hv; exact hv.1.symm
  subst hgg
  refine ⟨_, _, _, _, rfl, bsel_neg rfl ?_⟩
  unfold V6J1
  refine bsel_neg rfl (idxK_of (i := 1) (by simp) ⟨_, by rw [add_mk]; exact hc1, (C14_row hS5 (i := 4) rfl hr).mono ?_⟩)
  rintro _ w6 ⟨rfl, rfl⟩
  refine ⟨_, _, rfl, bsel_pos rfl (bsel_pos rfl (idxK_of (i := 0) (by simp) ⟨_, by rw [add_mk]; exact hc0, (C16_a hS5 (i := 3) rfl).mono ?_⟩))⟩
  rintro _ w7 ⟨rfl, hk7⟩
  refine ⟨_, rfl, bsel_pos (beq_self_eq_true _) (idxK_of (i := 1) (by simp) ⟨_, by rw [add_mk]; exact hk7.cell hc1 id, (C16_row1 (hS5.no hk7) (i := 4) rfl (hk7.nblk hr)).mono ?_⟩)⟩
  rintro _ w8 ⟨rfl, hk8⟩
  refine ⟨_, rfl, bsel_pos (beq_self_eq_true _) (idxK_of (i := 0) (by simp) ⟨_, by rw [add_mk]; exact hk8.cell (hk7.cell hc0 id) id, (C17_str ((hS5.no hk7).no hk8) (i := 3) rfl (by decide)).mono ?_⟩)⟩
  rintro _ w9 ⟨rfl, hk9⟩
  exact ⟨_, rfl, by rw [show Lib.runeCount ⟨#[97]⟩ = 1 by decide]; rfl, ((hk05.no hk7).no hk8).no hk9⟩
#print axioms C6
end Go.Fw
