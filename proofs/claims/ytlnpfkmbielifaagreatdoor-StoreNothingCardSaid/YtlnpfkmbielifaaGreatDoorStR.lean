/- Part of a proof over the given program: a text of lemmas (conditions: none beyond each lemma as stated). -/
import Derived.Test.YtlnpfkmbielifaaGreatDoorStQ
set_option linter.unnecessarySimpa false
set_option linter.unusedSimpArgs false
set_option autoImplicit false
set_option linter.unusedVariables false
namespace Go.Fw
open Go.Proofs Go.RowKit

theorem row_cell {w : World} {base e n i : Nat} {v : Value} {xs : List Value} {x : Value} (h : w.ownsRow base e 1 v n xs) (hx : xs[i]? = some x) : ∃ g cap, v = .slice (some ⟨g, 0, none⟩) n cap ∧ i < n ∧ w.cell? ⟨g, i, none⟩ = some x := by
  have hi : i < n := by
    have := (List.getElem?_eq_some_iff.1 hx).1
    have := h.1
    omega
  rcases h.2 with ⟨_, h0⟩ | ⟨g, cap, cur, rfl, hb, hg, hc, hm, hs, ht⟩
  · omega
  · refine ⟨g, cap, rfl, hi, ?_⟩
    rw [h.cellAt i (by omega), hx]

theorem SlotsAt.at {w : World} {a B R : Nat} {vals : List Value} (h : SlotsAt w a B R vals) {i : Nat} {x : Value} (hx : vals[i]? = some x) :
    ∃ g cap g' cap', w.cell? ⟨a, 0, none⟩ = some (.slice (some ⟨g, 0, none⟩) vals.length cap) ∧ w.cell? ⟨a, 1, none⟩ = some (.slice (some ⟨g', 0, none⟩) vals.length cap') ∧ i < vals.length ∧ w.cell? ⟨g, i, none⟩ = some x ∧ w.cell? ⟨g', i, none⟩ = some (.bool true) := by
  obtain ⟨⟨lv, tv, fc, h1, h2, h3, h4⟩, hge, hlen⟩ := h
  obtain ⟨g, cap, rfl, hi, hc⟩ := row_cell h2 hx
  obtain ⟨g', cap', rfl, _, hc'⟩ := row_cell h3 (x := .bool true) (i := i) (by simp [hi])
  exact ⟨g, cap, g', cap', h1.cell rfl, h1.cell rfl, hi, hc, hc'⟩

theorem C94_in {w : World} {a B R : Nat} {vals : List Value} (h : SlotsAt w a B R vals) {i : Nat} {x : Value} (hx : vals[i]? = some x) :
    Calls Tryz.prog 94 #[.pointer (some ⟨a, 0, none⟩), .int .i64 i] w fun e w' => e = .returned (.bool true) ∧ w' = w := by
  refine ret_mono (V94_sound _ _ w (fun r w' => r = .bool true ∧ w' = w) ?_) (by rintro _ _ ⟨rfl, h⟩; exact ⟨rfl, h⟩)
  obtain ⟨g, cap, g', cap', h0, h1, hi, hc, hc'⟩ := h.at hx
  unfold V94
  refine bsel_pos rfl (bsel_pos (by simp) ?_)
  simp only [nilK_some]
  refine ⟨_, _, _, by simpa using h0, bsel_pos (by simp; omega) ?_⟩
  refine ⟨_, _, _, by simpa using h1, idxK_of hi ?_⟩
  simp only [add_mk]
  exact ⟨true, by simpa using hc', by simp⟩
theorem C57_in {w : World} {a B R : Nat} {vals : List Value} (h : SlotsAt w a B R vals) {i : Nat} {x : Value} (hx : vals[i]? = some x) :
    Calls Tryz.prog 57 #[.pointer (some ⟨a, 0, none⟩), .int .i64 i] w fun e w' => e = .returned (.tuple #[x, .bool true]) ∧ w' = w := by
  refine ret_mono (V57_sound _ _ w (fun r w' => r = .tuple #[x, .bool true] ∧ w' = w) ?_) (by rintro _ _ ⟨rfl, h⟩; exact ⟨rfl, h⟩)
  obtain ⟨g, cap, g', cap', h0, h1, hi, hc, hc'⟩ := h.at hx
  unfold V57
  refine (C94_in h hx).mono ?_
  rintro _ w1 ⟨rfl, rfl⟩
  refine ⟨_, rfl, bsel_neg rfl ?_⟩
  simp only [nilK_some]
  refine ⟨_, _, _, by simpa using h0, idxK_of hi ?_⟩
  exact ⟨x, by simpa using hc, by simp⟩
/-- 'get' of a value that is there. -/
theorem C25_in {w : World} {s B : Nat} {S : St} (h : StAt w s B S) {i : Nat} {x : Value} (hx : S.vals[i]? = some x) :
    Calls Tryz.prog 25 #[.pointer (some ⟨s, 0, none⟩), .int .i64 i] w fun e w' => e = .returned x ∧ w' = w := by
  refine ret_mono (V25_sound _ _ w (fun r w' => r = x ∧ w' = w) ?_) (by rintro _ _ ⟨rfl, h⟩; exact ⟨rfl, h⟩)
  unfold V25
  refine bsel_neg rfl ?_
  simp only [nilK_some]
  refine ⟨_, h.blk.add 6 rfl, (C57_in h.slots hx).mono ?_⟩
  rintro _ w1 ⟨rfl, rfl⟩
  exact ⟨_, _, rfl, rfl, rfl⟩

theorem C44 (k : Int) (w : World) : Calls Tryz.prog 44 #[.int .i64 k] w fun e w' => e = .returned (.bool (decide ((1 ≤ k ∧ k ≤ 9) ∨ k = 14 ∨ (15 ≤ k ∧ k ≤ 17)))) ∧ w' = w := by
  refine ret_mono (V44_sound k w (fun r w' => r = .bool (decide ((1 ≤ k ∧ k ≤ 9) ∨ k = 14 ∨ (15 ≤ k ∧ k ≤ 17))) ∧ w' = w) ?_) (by rintro _ _ ⟨rfl, h⟩; exact ⟨rfl, h⟩)
  unfold V44
  simp only [bsel_iff]
  repeat' split
  all_goals simp_all
  all_goals omega
end Go.Fw
