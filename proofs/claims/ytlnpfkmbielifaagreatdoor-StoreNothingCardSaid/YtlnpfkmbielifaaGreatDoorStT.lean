/- Part of a proof over the given program: a text of lemmas (conditions: none beyond each lemma as stated). -/
import Derived.Test.YtlnpfkmbielifaaGreatDoorStS
set_option linter.unnecessarySimpa false
set_option linter.unusedSimpArgs false
set_option autoImplicit false
set_option linter.unusedVariables false
set_option maxRecDepth 100000
namespace Go.Fw
open Go.Proofs Go.RowKit

theorem conv97 (w : World) : (Go.convert 21 9 (.int .i32 97)).run Tryz.prog w = .ok (.string ⟨#[97]⟩) w := by kernel_rfl

theorem C73_a (w : World) : Calls Tryz.prog 73 #[.int .i32 97] w fun e w' => e = .returned (.string ⟨#[97]⟩) ∧ w' = w := by
  refine ret_mono (V73_sound 97 w (fun r w' => r = .string ⟨#[97]⟩ ∧ w' = w) ?_) (by rintro _ _ ⟨rfl, h⟩; exact ⟨rfl, h⟩)
  unfold V73
  refine bsel_neg rfl ?_
  unfold V73J3
  refine bsel_neg rfl (bsel_neg rfl (bsel_neg rfl (bsel_neg (by decide) ?_)))
  unfold V73J2
  refine bsel_neg rfl (bsel_neg (by decide) (bsel_neg rfl (bsel_neg rfl ?_)))
  unfold V73J1
  exact bsel_neg rfl ⟨_, _, conv97 w, rfl, rfl⟩

theorem Keep.of_bfp {w w1 w2 : World} {b B : Nat} (h : Keep No w w1) (hk : Keep (Bfp b B w1) w1 w2) (hb : w.heap.size ≤ b) (hB : w.heap.size ≤ B) : Keep No w w2 :=
  h.news hk fun k hf => by rcases hf with rfl | ⟨h, _⟩ <;> omega

def iterPos (w : World) (r : Nat) : Nat := match w.heap[r]? with | some (.stringIter _ p) => p | _ => 0
theorem IterAt.pos {w : World} {r pos : Nat} {s : ByteArray} (h : IterAt w r s pos) : iterPos w r = pos := by
  unfold IterAt at h
  simp [iterPos, h]

/-- letters.Quote of "a". -/
theorem C34_a (w : World) : Calls Tryz.prog 34 #[.string ⟨#[97]⟩] w fun e w' => e = .returned (.string ⟨#[39, 97, 39]⟩) ∧ Keep No w w' := by
  refine ret_mono (V34_sound _ w (fun r w' => r = .string ⟨#[39, 97, 39]⟩ ∧ Keep No w w') ?_) (by rintro _ _ ⟨rfl, h⟩; exact ⟨rfl, h⟩)
  unfold V34
  refine newK_of fun b w1 hs1 hb1 hk1 => ?_
  have hbu := bufAt_new hb1 (B := w.heap.size) (by omega)
  refine (C71 39 hbu (by simp) hk1.size).mono ?_
  rintro _ w2 ⟨rfl, hbu, hk2⟩
  have hk : Keep No w w2 := hk1.of_bfp hk2 (by omega) (by omega)
  refine ⟨_, rfl, range_of fun r w3 hi hk3 hr => ?_⟩
  replace hbu := hbu.no hk3
  replace hk := hk.no hk3
  refine ⟨fun w' => Keep No w w' ∧ ((IterAt w' r ⟨#[97]⟩ 0 ∧ BufAt w' b w.heap.size [39]) ∨ (IterAt w' r ⟨#[97]⟩ 1 ∧ BufAt w' b w.heap.size [39, 97])), fun w' => 1 - iterPos w' r, ⟨hk, .inl ⟨hi, hbu⟩⟩, ?_⟩
  rintro j w4 ⟨hk, ⟨hi, hbu⟩ | ⟨hi, hbu⟩⟩
  · refine nextSK_of hi (fun hp w5 hi5 hk5 => ?_) fun hp => absurd (by decide) hp
    have hd : Utf8.decode ⟨#[97]⟩ 0 = (97, 1) := by decide
    rw [hd] at hi5 ⊢
    refine (C73_a w5).mono ?_
    rintro _ w5' ⟨rfl, hw5⟩
    subst hw5
    have hrw : w.heap.size ≤ r := by have := hk1.size; have := hk2.size; omega
    have hbu5 := hbu.keep hk5 fun k _ e => by subst e; rw [hi.etype]; exact ⟨by simp, by simp⟩
    replace hk := hk.news hk5 (by rintro k rfl; exact hrw)
    refine ⟨_, rfl, (C72 ⟨#[97]⟩ hbu5 (by decide) hk.size).mono ?_⟩
    rintro _ w6 ⟨rfl, hbu6, hk6⟩
    have hrb : ¬ Bfp b w.heap.size w5' r := by
      rintro (e | ⟨_, e⟩)
      · rw [e] at hi5; have := hi5.etype; rw [hbu5.etype] at this; cases this
      · rw [hi5.etype] at e; cases e
    have hi6 := hk6.iter hi5 hrb
    refine ⟨_, _, rfl, ⟨hk.of_bfp hk6 (by omega) (by omega), .inr ⟨hi6, hbu6⟩⟩, ?_⟩
    simp only
    rw [hi6.pos, hi.pos]
    decide
  · refine nextSK_of hi (fun hp w5 hi5 hk5 => absurd hp (by decide)) fun hp => ?_
    refine (C71 39 hbu (by simp) hk.size).mono ?_
    rintro _ w6 ⟨rfl, hbu6, hk6⟩
    replace hk := hk.of_bfp hk6 (by omega) (by omega)
    refine ⟨_, rfl, (C70 hbu6 hk.size).mono ?_⟩
    rintro _ w7 ⟨rfl, hk7⟩
    exact ⟨_, rfl, rfl, hk.of_bfp hk7 (by omega) (by omega)⟩

/-- Itoa of 1. -/
theorem C35_1 (w : World) : Calls Tryz.prog 35 #[.int .i64 1] w fun e w' => e = .returned (.string ⟨#[49]⟩) ∧ w' = w := by
  have h := Tryz.strconv_Itoa_small 1 (by decide) w
  rw [show (Lib.decDigits 1).toArray = #[49] by kernel_rfl] at h
  exact h
end Go.Fw
