/- Part of a proof over the given program: texts of lemmas (conditions: none beyond each lemma as stated). -/
import Derived.Test.YtdmoefbfepeeaaaGreatDoorP6
set_option linter.unnecessarySimpa false
set_option linter.unusedVariables false
set_option linter.unusedSimpArgs false

set_option autoImplicit false
set_option linter.unusedVariables false
namespace Go.Fw
open Go.Proofs Go.RowKit

theorem row_cell {w : World} {base e n i : Nat} {v : Value} {xs : List Value} {x : Value} (h : w.ownsRow base e 1 v n xs) (hx : xs[i]? = some x) : ∃ g cap, v = .slice (some ⟨g, 0, none⟩) n cap ∧ i < n ∧ w.cell? ⟨g, i, none⟩ = some x := by
  have hi : i < n := by
    have := (List.getElem?_eq_some_iff.1 hx).1
    have := h.1
    omega
  rcases h.2 with ⟨_, h0⟩ | ⟨g, cap, cur, rfl, hb, hg, hc, hm, hs, ht⟩
  · omega
  · refine ⟨g, cap, rfl, hi, ?_⟩
    rw [h.cellAt i (by omega), hx]

theorem SlotsAt.at {w : World} {a B R : Nat} {vals : List Value} (h : SlotsAt w a B R vals) {i : Nat} {x : Value} (hx : vals[i]? = some x) :
    ∃ g cap g' cap', w.cell? ⟨a, 0, none⟩ = some (.slice (some ⟨g, 0, none⟩) vals.length cap) ∧ w.cell? ⟨a, 1, none⟩ = some (.slice (some ⟨g', 0, none⟩) vals.length cap') ∧ i < vals.length ∧ w.cell? ⟨g, i, none⟩ = some x ∧ w.cell? ⟨g', i, none⟩ = some (.bool true) := by
  obtain ⟨⟨lv, tv, fc, h1, h2, h3, h4⟩, hge, hlen⟩ := h
  obtain ⟨g, cap, rfl, hi, hc⟩ := row_cell h2 hx
  obtain ⟨g', cap', rfl, _, hc'⟩ := row_cell h3 (x := .bool true) (i := i) (by simp [hi])
  exact ⟨g, cap, g', cap', h1.cell rfl, h1.cell rfl, hi, hc, hc'⟩

theorem C146_in {w : World} {a B R : Nat} {vals : List Value} (h : SlotsAt w a B R vals) {i : Nat} {x : Value} (hx : vals[i]? = some x) :
    Calls Tryz.prog 146 #[.pointer (some ⟨a, 0, none⟩), .int .i64 i] w fun e w' => e = .returned (.bool true) ∧ w' = w := by
  refine ret_mono (V146_sound _ _ w (fun r w' => r = .bool true ∧ w' = w) ?_) (by rintro _ _ ⟨rfl, h⟩; exact ⟨rfl, h⟩)
  obtain ⟨g, cap, g', cap', h0, h1, hi, hc, hc'⟩ := h.at hx
  unfold V146
  refine bsel_pos rfl (bsel_pos (by simp) ?_)
  simp only [nilK_some]
  refine ⟨_, _, _, by simpa using h0, bsel_pos (by simp; omega) ?_⟩
  refine ⟨_, _, _, by simpa using h1, idxK_of hi ?_⟩
  simp only [add_mk]
  exact ⟨true, by simpa using hc', by simp⟩
theorem C92_in {w : World} {a B R : Nat} {vals : List Value} (h : SlotsAt w a B R vals) {i : Nat} {x : Value} (hx : vals[i]? = some x) :
    Calls Tryz.prog 92 #[.pointer (some ⟨a, 0, none⟩), .int .i64 i] w fun e w' => e = .returned (.tuple #[x, .bool true]) ∧ w' = w := by
  refine ret_mono (V92_sound _ _ w (fun r w' => r = .tuple #[x, .bool true] ∧ w' = w) ?_) (by rintro _ _ ⟨rfl, h⟩; exact ⟨rfl, h⟩)
  obtain ⟨g, cap, g', cap', h0, h1, hi, hc, hc'⟩ := h.at hx
  unfold V92
  refine (C146_in h hx).mono ?_
  rintro _ w1 ⟨rfl, rfl⟩
  refine ⟨_, rfl, bsel_neg rfl ?_⟩
  simp only [nilK_some]
  refine ⟨_, _, _, by simpa using h0, idxK_of hi ?_⟩
  exact ⟨x, by simpa using hc, by simp⟩
/-- 'get' of a value that is there. -/
theorem C41_in {w : World} {s B : Nat} {S : St} (h : StAt w s B S) {i : Nat} {x : Value} (hx : S.vals[i]? = some x) :
    Calls Tryz.prog 41 #[.pointer (some ⟨s, 0, none⟩), .int .i64 i] w fun e w' => e = .returned x ∧ w' = w := by
  refine ret_mono (V41_sound _ _ w (fun r w' => r = x ∧ w' = w) ?_) (by rintro _ _ ⟨rfl, h⟩; exact ⟨rfl, h⟩)
  unfold V41
  refine bsel_neg rfl ?_
  simp only [nilK_some]
  refine ⟨_, h.blk.add 6 rfl, (C92_in h.slots hx).mono ?_⟩
  rintro _ w1 ⟨rfl, rfl⟩
  exact ⟨_, _, rfl, rfl, rfl⟩

theorem C79 (k : Int) (w : World) : Calls Tryz.prog 79 #[.int .i64 k] w fun e w' => e = .returned (.bool (decide ((1 ≤ k ∧ k ≤ 9) ∨ k = 14 ∨ (15 ≤ k ∧ k ≤ 17)))) ∧ w' = w := by
  refine ret_mono (V79_sound k w (fun r w' => r = .bool (decide ((1 ≤ k ∧ k ≤ 9) ∨ k = 14 ∨ (15 ≤ k ∧ k ≤ 17))) ∧ w' = w) ?_) (by rintro _ _ ⟨rfl, h⟩; exact ⟨rfl, h⟩)
  unfold V79
  simp only [bsel_iff]
  repeat' split
  all_goals simp_all
  all_goals omega
end Go.Fw

set_option autoImplicit false
set_option linter.unusedVariables false
set_option maxRecDepth 100000
namespace Go.Fw
open Go.Proofs

def V70 (x1 : Option Addr) (w : World) (Q : Value → World → Prop) : Prop :=
nilK x1 fun a2 =>
∃ t3 : Option Addr, ∃ t4 : Nat, ∃ t5 : Nat, w.drew.cell? (a2.add 1) = some (.slice t3 t4 t5) ∧
nilK x1 fun a6 =>
∃ t7 : Option Addr, ∃ t8 : Nat, ∃ t9 : Nat, w.drew.cell? (a6.add 1) = some (.slice t7 t8 t9) ∧
∃ w10 : World, ∃ t11 : Option Addr, (vcEff.bltV .unsafeSliceData #[148] 232 #[.slice t3 t4 t5]).run Tryz.prog w.drew = .ok (.pointer t11) w10 ∧
(w10.cell? (a6.add 1) = some (.slice t7 t8 t9)) ∧
∃ w12 : World, ∃ t13 : ByteArray, (vcEff.bltV .unsafeString #[232, 3] 9 #[.pointer t11, .int .i64 (t8 : Int)]).run Tryz.prog w10 = .ok (.string t13) w12 ∧
Q (.string t13) w12

def V70_ann : Nat → Ann := fun _ => ⟨[], []⟩
theorem V70_eq (x1 : Option Addr) (w : World) (Q : Value → World → Prop) : (match Tryz.f70.body with | some c => wpC Tryz.prog Tryz.f70.ntmps V70_ann c 0 (resQ Tryz.prog Tryz.f70.ntmps Tryz.f70.results.toList Q) (argsF [.pointer x1]) w | none => False) = V70 x1 w Q := by kernel_rfl
theorem V70_sound (x1 : Option Addr) (w : World) (Q : Value → World → Prop) (h : V70 x1 w Q) : Calls Tryz.prog 70 #[.pointer x1] w fun e w' => ∃ v, e = .returned v ∧ Q v w' :=
  sound_of Tryz.func70 V70_ann rfl ((V70_eq x1 w Q).mpr h)

def V130 (x1 : Option Addr) (x2 : Int) (w : World) (Q : Value → World → Prop) : Prop :=
Calls Tryz.prog 120 #[.pointer x1] w fun e3 w4 => ∃ t5 : Value, e3 = .returned (t5) ∧
nilK x1 fun a6 =>
∃ t7 : Option Addr, ∃ t8 : Nat, ∃ t9 : Nat, w4.cell? (a6.add 1) = some (.slice t7 t8 t9) ∧
newK w4 #[.int .u8 x2] 5 fun a10 w11 =>
∃ w12 : World, ∃ t13 : Option Addr, ∃ t14 : Nat, ∃ t15 : Nat, (vcEff.bltV .append #[148, 148] 148 #[.slice t7 t8 t9, .slice (some a10) 1 1]).run Tryz.prog w11 = .ok (.slice t13 t14 t15) w12 ∧
nilK x1 fun a16 =>
stK w12 (a16.add 1) (.slice t13 t14 t15) fun w17 =>
Q .nilIface w17

def V130_ann : Nat → Ann := fun _ => ⟨[], []⟩
theorem V130_eq (x1 : Option Addr) (x2 : Int) (w : World) (Q : Value → World → Prop) : (match Tryz.f130.body with | some c => wpC Tryz.prog Tryz.f130.ntmps V130_ann c 0 (resQ Tryz.prog Tryz.f130.ntmps Tryz.f130.results.toList Q) (argsF [.pointer x1, .int .u8 x2]) w | none => False) = V130 x1 x2 w Q := by kernel_rfl
theorem V130_sound (x1 : Option Addr) (x2 : Int) (w : World) (Q : Value → World → Prop) (h : V130 x1 x2 w Q) : Calls Tryz.prog 130 #[.pointer x1, .int .u8 x2] w fun e w' => ∃ v, e = .returned v ∧ Q v w' :=
  sound_of Tryz.func130 V130_ann rfl ((V130_eq x1 x2 w Q).mpr h)

def V69 (x1 : Option Addr) (x2 : ByteArray) (w : World) (Q : Value → World → Prop) : Prop :=
Calls Tryz.prog 120 #[.pointer x1] w fun e3 w4 => ∃ t5 : Value, e3 = .returned (t5) ∧
nilK x1 fun a6 =>
∃ t7 : Option Addr, ∃ t8 : Nat, ∃ t9 : Nat, w4.cell? (a6.add 1) = some (.slice t7 t8 t9) ∧
∃ w10 : World, ∃ t11 : Option Addr, ∃ t12 : Nat, ∃ t13 : Nat, (vcEff.bltV .append #[148, 9] 148 #[.slice t7 t8 t9, .string x2]).run Tryz.prog w4 = .ok (.slice t11 t12 t13) w10 ∧
nilK x1 fun a14 =>
stK w10 (a14.add 1) (.slice t11 t12 t13) fun w15 =>
Q (.tuple #[.int .i64 (x2.size : Int), .nilIface]) w15

def V69_ann : Nat → Ann := fun _ => ⟨[], []⟩
theorem V69_eq (x1 : Option Addr) (x2 : ByteArray) (w : World) (Q : Value → World → Prop) : (match Tryz.f69.body with | some c => wpC Tryz.prog Tryz.f69.ntmps V69_ann c 0 (resQ Tryz.prog Tryz.f69.ntmps Tryz.f69.results.toList Q) (argsF [.pointer x1, .string x2]) w | none => False) = V69 x1 x2 w Q := by kernel_rfl
theorem V69_sound (x1 : Option Addr) (x2 : ByteArray) (w : World) (Q : Value → World → Prop) (h : V69 x1 x2 w Q) : Calls Tryz.prog 69 #[.pointer x1, .string x2] w fun e w' => ∃ v, e = .returned v ∧ Q v w' :=
  sound_of Tryz.func69 V69_ann rfl ((V69_eq x1 x2 w Q).mpr h)

end Go.Fw
