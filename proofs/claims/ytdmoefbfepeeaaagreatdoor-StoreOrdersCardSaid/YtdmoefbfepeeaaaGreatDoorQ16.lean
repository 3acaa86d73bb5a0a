/- Part of a proof over the given program: texts of lemmas (conditions: none beyond each lemma as stated). -/
import Derived.Test.YtdmoefbfepeeaaaGreatDoorQ15
import Derived.ProofKit
import Derived.OpenShut
import Derived.Deep.Slices
import Derived.LaidMore
import Derived.ReadAgain
set_option linter.unnecessarySimpa false
set_option linter.unusedVariables false
set_option linter.unusedSimpArgs false

set_option autoImplicit false
set_option linter.unusedVariables false
namespace Go.Fw
open Go.Proofs Go.RowKit
theorem list_of {α : Type} {R : Nat → α → Prop} : ∀ n, (∀ i, i < n → ∃ k, R i k) → ∃ l : List α, l.length = n ∧ ∀ i k, l[i]? = some k → R i k
  | 0, _ => ⟨[], rfl, fun i k h => by simp at h⟩
  | n + 1, h => by
    obtain ⟨l, hl, hr⟩ := list_of n fun i hi => h i (by omega)
    obtain ⟨k, hk⟩ := h n (by omega)
    refine ⟨l ++ [k], by simp [hl], fun i x hx => ?_⟩
    rcases Nat.lt_or_ge i n with hi | hi
    · exact hr i x (by rwa [List.getElem?_append_left (by omega)] at hx)
    · rw [List.getElem?_append_right (by omega)] at hx
      have : i - l.length = 0 := by
        have := (List.getElem?_eq_some_iff.1 hx).1
        simp at this
        omega
      rw [this] at hx
      cases hx
      rw [show i = n by omega]
      exact hk
theorem cellsFrom_of {w : World} {a : Addr} : ∀ (vs : List Value) (i : Nat), (∀ j v, vs[j]? = some v → w.cell? (a.add (i + j)) = some v) → cellsFrom w a vs i
  | [], _, _ => trivial
  | v :: vs, i, h => cellsFrom_cons.2 ⟨by simpa using h 0 v rfl, cellsFrom_of vs (i + 1) fun j u hj => by
      have := h (j + 1) u (by simpa using hj)
      rw [show i + 1 + j = i + (j + 1) by omega]
      exact this⟩
section
variable {H : Type} {enc : TypeId × Value → H} {w : World} {base : Nat} {spare : Nat → Bool} {held : Bool} {fuel : Nat} {cs : List Value} {x : DataW H × List MemPlace}
def IntsAt (w : World) (a : Option Addr) (n : Nat) (ks : List Int) : Prop := ks.length = n ∧ ∀ j k, ks[j]? = some k → ∃ p, a = some p ∧ w.cell? (p.add j) = some (.int .i64 k)
theorem cells8 {cs : List Value} (h : cs.length = 8) : ∃ c0 c1 c2 c3 c4 c5 c6 c7, cs = [c0, c1, c2, c3, c4, c5, c6, c7] := by
  match cs, h with
  | [c0, c1, c2, c3, c4, c5, c6, c7], _ => exact ⟨_, _, _, _, _, _, _, _, rfl⟩
end
end Go.Fw


set_option autoImplicit false
set_option linter.unusedVariables false
namespace Go.Fw
open Go.Proofs Go.RowKit
end Go.Fw


set_option autoImplicit false
set_option linter.unusedVariables false
namespace Go.Fw
open Go.Proofs Go.RowKit
theorem C9_gen {w : World} {a : Option Addr} {c : Nat} {ts : List Tm} (hts : TermsAt w a ts) (hz : ∀ (i : Nat) (t : Tm), ts[i]? = some t → t.kl < 200000000000000 ∧ t.ml < 200000000000000 ∧ t.text.size < 200000000000000) :
    Calls Tryz.prog 9 #[.slice a ts.length c] w fun e w' => ∃ b, e = .returned (.bool b) ∧ Keep No w w' ∧ (b = false → ts.length ≤ 120 ∧ ∀ (i : Nat) (t : Tm), ts[i]? = some t → t.kl ≤ 3000 ∧ t.ml ≤ 3000 ∧ t.text.size ≤ 3000) := by
  refine ret_mono (V9_sound a ts.length c w (fun r w' => ∃ b, r = .bool b ∧ Keep No w w' ∧ (b = false → ts.length ≤ 120 ∧ ∀ (i : Nat) (t : Tm), ts[i]? = some t → t.kl ≤ 3000 ∧ t.ml ≤ 3000 ∧ t.text.size ≤ 3000)) ?_) (by rintro _ _ ⟨b, rfl, h⟩; exact ⟨b, rfl, h⟩)
  unfold V9
  refine bsel_split (fun _ => ⟨_, rfl, Keep.refl _ _, fun h => by cases h⟩) fun hle => ?_
  simp at hle
  refine ⟨fun n i w' => 0 ≤ i ∧ i ≤ ts.length ∧ Keep No w w' ∧ 0 ≤ n ∧ n < 700000000000000 ∧ ∀ (j : Nat) (t : Tm), (j : Int) < i → ts[j]? = some t → (t.kl : Int) ≤ n ∧ (t.ml : Int) ≤ n ∧ (t.text.size : Int) ≤ n, fun n i _ => (ts.length - i).toNat, ⟨by omega, by omega, Keep.refl _ _, by omega, by omega, fun j t hj => by omega⟩, ?_⟩
  rintro j n i w1 ⟨hi0, hin, hk, hn0, hn1, hall⟩
  refine bsel_split (fun hlt => ?_) fun hge => ?_
  · simp at hlt
    obtain ⟨m, rfl⟩ := Int.eq_ofNat_of_zero_le hi0
    unfold V9J1
    refine bsel_split (fun hmo => ?_) fun hmo => ⟨_, rfl, hk, fun h => ?_⟩
    · have hmo : n ≤ 3000 := by simpa using hmo
      have hk' := hk.no (Keep.drawn w1)
      obtain ⟨t, ht⟩ : ∃ t, ts[m]? = some t := ⟨_, List.getElem?_eq_getElem (by omega)⟩
      obtain ⟨z1, z2, z3⟩ := hz m t ht
      obtain ⟨p, rfl, hc⟩ := (hts.no hk') m t ht
      refine idxK_of (by omega) ⟨_, _, _, hc.get 5 rfl, idxK_of (by omega) ⟨_, hc.get 4 rfl, idxK_of (by omega) ⟨_, _, _, hc.get2 2 1 rfl, ?_⟩⟩⟩
      have e : IntKind.wrap .i64 ((m : Int) + 1) = m + 1 := wrap_i64 (by omega)
      have e1 : IntKind.wrap .i64 (n + (t.kl : Int)) = n + t.kl := wrap_i64 (by omega)
      have e2 : IntKind.wrap .i64 (n + (t.kl : Int) + (t.text.size : Int)) = n + t.kl + t.text.size := wrap_i64 (by omega)
      have e3 : IntKind.wrap .i64 (n + (t.kl : Int) + (t.text.size : Int) + (t.ml : Int)) = n + t.kl + t.text.size + t.ml := wrap_i64 (by omega)
      simp only [e, e1, e2, e3]
      refine ⟨⟨by omega, by omega, hk', by omega, by omega, fun j u hj hu => ?_⟩, by omega⟩
      by_cases hjm : j = m
      · subst hjm
        rw [ht] at hu; cases hu
        omega
      · have := hall j u (by omega) hu
        omega
    · simp at hmo h
      omega
  · simp at hge
    unfold V9J1
    refine ⟨_, rfl, hk, fun h => ⟨by omega, fun i t ht => ?_⟩⟩
    have h : n ≤ 3000 := by simpa using h
    have := hall i t (by have := (List.getElem?_eq_some_iff.1 ht).1; omega) ht
    omega
theorem C14_at {w : World} {s B : Nat} {S : St} (h : StAt w s B S) : Calls Tryz.prog 14 #[.pointer (some ⟨s, 0, none⟩)] w fun e w' => e = .returned (.int .i64 S.live) ∧ Keep No w w' := by
  refine ret_mono (V14_sound _ w (fun r w' => r = .int .i64 S.live ∧ Keep No w w') ?_) (by rintro _ _ ⟨rfl, h⟩; exact ⟨rfl, h⟩)
  unfold V14
  refine bsel_neg rfl ?_
  rw [nilK_some]
  exact ⟨_, h.blk.add 8 rfl, rfl, Keep.refl _ _⟩
end Go.Fw

