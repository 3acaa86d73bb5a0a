/- Part of a proof over the given program: a text of lemmas (conditions: none beyond each lemma as stated). -/
import Derived.Test.YtlnpfkmbielifaaGreatDoorStZ
set_option linter.unnecessarySimpa false
set_option linter.unusedSimpArgs false
set_option autoImplicit false
set_option linter.unusedVariables false
namespace Go.Fw
open Go.Proofs Go.RowKit

theorem cellsFrom_get {w : World} {a : Addr} : ∀ {vs : List Value} {i : Nat}, cellsFrom w a vs i → ∀ {j : Nat} {v : Value}, vs[j]? = some v → w.cell? (a.add (i + j)) = some v
  | [], _, _, j, v, hj => by simp at hj
  | u :: vs, i, h, j, v, hj => by
    obtain ⟨h1, h2⟩ := cellsFrom_cons.1 h
    rcases j with _ | j
    · cases hj; exact h1
    · have := cellsFrom_get h2 (j := j) (by simpa using hj)
      rw [show i + (j + 1) = i + 1 + j by omega]
      exact this
theorem CellsAt.get {w : World} {a : Addr} {vs : List Value} (h : CellsAt w a vs) (j : Nat) {v : Value} (hj : vs[j]? = some v) : w.cell? (a.add j) = some v := by
  simpa using cellsFrom_get h hj
theorem add_add (a : Addr) (n m : Nat) : (a.add n).add m = a.add (n + m) := by
  unfold Addr.add
  by_cases hn : n = 0
  · subst hn; simp
  · by_cases hm : m = 0
    · subst hm; simp
    · simp [hn, hm, Nat.add_assoc]
theorem CellsAt.get2 {w : World} {a : Addr} {vs : List Value} (h : CellsAt w a vs) (j k : Nat) {v : Value} (hj : vs[j + k]? = some v) : w.cell? ((a.add j).add k) = some v := by
  rw [add_add]; exact h.get (j + k) hj

/-- large: it returns. -/
theorem C5 {w : World} {a : Option Addr} {c : Nat} {ts : List Tm} (hts : TermsAt w a ts) (hl : ts.length ≤ maxLen) :
    Calls Tryz.prog 5 #[.slice a ts.length c] w fun e w' => ∃ b, e = .returned (.bool b) ∧ Keep No w w' := by
  refine ret_mono (V5_sound a ts.length c w (fun r w' => ∃ b, r = .bool b ∧ Keep No w w') ?_) (by rintro _ _ ⟨b, rfl, h⟩; exact ⟨b, rfl, h⟩)
  unfold V5
  refine bsel_split (fun _ => ⟨_, rfl, Keep.refl _ _⟩) fun hle => ?_
  simp at hle
  refine ⟨fun n i w' => 0 ≤ i ∧ i ≤ ts.length ∧ Keep No w w', fun n i _ => (ts.length - i).toNat, ⟨by omega, by omega, Keep.refl _ _⟩, ?_⟩
  rintro j n i w1 ⟨hi0, hin, hk⟩
  refine bsel_split (fun hlt => ?_) fun _ => ?_
  · simp at hlt
    obtain ⟨m, rfl⟩ := Int.eq_ofNat_of_zero_le hi0
    unfold V5J1
    refine bsel_split (fun _ => ?_) fun _ => ⟨_, rfl, hk⟩
    have hk' := hk.no (Keep.drawn w1)
    obtain ⟨t, ht⟩ : ∃ t, ts[m]? = some t := ⟨_, List.getElem?_eq_getElem (by omega)⟩
    obtain ⟨p, rfl, hc⟩ := (hts.no hk') m t ht
    refine idxK_of (by omega) ⟨_, _, _, hc.get 5 rfl, idxK_of (by omega) ⟨_, hc.get 4 rfl, idxK_of (by omega) ⟨_, _, _, hc.get2 2 1 rfl, ?_⟩⟩⟩
    have e : IntKind.wrap .i64 ((m : Int) + 1) = m + 1 := wrap_i64 (by omega)
    simp only [e]
    exact ⟨⟨by omega, by omega, hk'⟩, by omega⟩
  · unfold V5J1
    exact ⟨_, rfl, hk⟩

/-- StoreNothing. -/
theorem C4 {w : World} {a a2 : Option Addr} {c l2 c2 : Nat} {v : Int} {ts : List Tm} (hts : TermsAt w a ts) (hl : ts.length ≤ maxLen) (hv : -9223372036854775808 ≤ v ∧ v ≤ 9223372036854775807) :
    Calls Tryz.prog 4 #[.slice a ts.length c, .int .i64 v, .slice a2 l2 c2] w fun e w' => e = .returned (.bool true) ∧ Keep No w w' := by
  refine ret_mono (V4_sound a ts.length c v a2 l2 c2 w (fun r w' => r = .bool true ∧ Keep No w w') ?_) (by rintro _ _ ⟨rfl, h⟩; exact ⟨rfl, h⟩)
  unfold V4
  refine (C5 hts hl).mono ?_
  rintro _ w1 ⟨b, rfl, hk⟩
  have hgo : ∀ bb, V4J4 (fun r w' => r = Value.bool true ∧ Keep No w w') a ts.length c v a2 l2 c2 bb w1 := by
    intro bb
    unfold V4J4
    refine bsel_split (fun _ => ?_) fun _ => ?_
    · refine (C6 w1).mono ?_
      rintro _ w2 ⟨rfl, hk2⟩
      exact ⟨_, rfl, rfl, hk.no hk2⟩
    refine (C9_nil _ _ _ _).mono ?_
    rintro _ _ ⟨rfl, rfl⟩
    refine ⟨_, _, _, _, rfl, (C14_none (getsNil_nil v _)).mono ?_⟩
    rintro _ w2 ⟨rfl, hk2⟩
    replace hk := hk.no hk2
    refine ⟨_, _, rfl, bsel_neg rfl (bsel_neg rfl (bsel_neg rfl ((C15_none (getsNil_nil v _)).mono ?_)))⟩
    rintro _ w3 ⟨rfl, hk2⟩
    replace hk := hk.no hk2
    refine ⟨_, rfl, bsel_neg rfl ((C11_none (getsNil_nil v _)).mono ?_)⟩
    rintro _ w4 ⟨rfl, hk2⟩
    replace hk := hk.no hk2
    refine ⟨_, rfl, bsel_neg rfl ((C16_none (getsNil_nil v _)).mono ?_)⟩
    rintro _ w5 ⟨rfl, hk2⟩
    replace hk := hk.no hk2
    refine ⟨_, rfl, bsel_neg (by simp) ((C17_none (getsNil_nil v _)).mono ?_)⟩
    rintro _ w6 ⟨rfl, hk2⟩
    replace hk := hk.no hk2
    refine ⟨_, rfl, bsel_neg rfl ((C12_none (getsNil_nil v _)).mono ?_)⟩
    rintro _ w7 ⟨rfl, hk2⟩
    replace hk := hk.no hk2
    refine ⟨_, rfl, bsel_neg rfl ((C13_none (getsNil_nil v _)).mono ?_)⟩
    rintro _ w8 ⟨rfl, hk2⟩
    replace hk := hk.no hk2
    refine ⟨_, rfl, bsel_neg rfl ((C18_none (getsNil_nil v _)).mono ?_)⟩
    rintro _ w9 ⟨rfl, hk2⟩
    replace hk := hk.no hk2
    refine ⟨_, _, _, rfl, bsel_neg rfl ((C10_nil _).mono ?_)⟩
    rintro _ _ ⟨rfl, rfl⟩
    refine ⟨_, rfl, bsel_neg rfl ((C19_nil _ _ _ _).mono ?_)⟩
    rintro _ _ ⟨rfl, rfl⟩
    refine ⟨_, rfl, bsel_neg rfl (bsel_neg rfl ?_)⟩
    unfold V4J3
    refine bsel_neg rfl ((C8 1000 5 _).mono ?_)
    rintro _ w10 ⟨rfl, hk2⟩
    replace hk := hk.no hk2
    refine ⟨_, _, _, _, _, _, _, _, _, rfl, newK_of fun m w11 hs11 hm hk2 => ?_⟩
    replace hk := hk.no hk2
    refine (C7 (by decide) (by decide) (by decide)).mono ?_
    rintro _ w12 ⟨s, sa, sp, rfl, hS, hk2⟩
    replace hk := hk.no hk2
    refine ⟨_, _, rfl, bsel_neg rfl ?_⟩
    unfold V4J2
    refine bsel_neg rfl ?_
    have hx : ∀ x : Int, x < 0 → V4J1 (fun r w' => r = Value.bool true ∧ Keep No w w') (some ⟨s, 0, none⟩) x w12 := by
      intro x hx
      have hg : GetsNil (some ⟨s, 0, none⟩) x w12 := getsNil_neg hx (hS.blk.cell rfl)
      unfold V4J1
      refine (C14_none hg).mono ?_
      rintro _ w13 ⟨rfl, hk2⟩
      replace hk := hk.no hk2
      replace hg := hg.keep hk2
      refine ⟨_, _, rfl, (C15_none hg).mono ?_⟩
      rintro _ w14 ⟨rfl, hk2⟩
      replace hk := hk.no hk2
      replace hg := hg.keep hk2
      refine ⟨_, rfl, bsel_pos rfl ((C11_none hg).mono ?_)⟩
      rintro _ w15 ⟨rfl, hk2⟩
      replace hk := hk.no hk2
      replace hg := hg.keep hk2
      refine ⟨_, rfl, bsel_pos rfl ((C16_none hg).mono ?_)⟩
      rintro _ w16 ⟨rfl, hk2⟩
      replace hk := hk.no hk2
      replace hg := hg.keep hk2
      refine ⟨_, rfl, bsel_pos (beq_self_eq_true _) ((C17_none hg).mono ?_)⟩
      rintro _ w17 ⟨rfl, hk2⟩
      replace hk := hk.no hk2
      replace hg := hg.keep hk2
      refine ⟨_, rfl, bsel_pos rfl (bsel_pos rfl (bsel_pos rfl ((C12_none hg).mono ?_)))⟩
      rintro _ w18 ⟨rfl, hk2⟩
      replace hk := hk.no hk2
      replace hg := hg.keep hk2
      refine ⟨_, rfl, bsel_pos rfl ((C13_none hg).mono ?_)⟩
      rintro _ w19 ⟨rfl, hk2⟩
      replace hk := hk.no hk2
      replace hg := hg.keep hk2
      refine ⟨_, rfl, bsel_pos rfl ((C18_none hg).mono ?_)⟩
      rintro _ w20 ⟨rfl, hk2⟩
      replace hk := hk.no hk2
      refine ⟨_, _, _, rfl, bsel_pos rfl ((C6 w20).mono ?_)⟩
      rintro _ w21 ⟨rfl, hk2⟩
      exact ⟨_, rfl, rfl, hk.no hk2⟩
    refine bsel_split (fun h => hx v (by simpa using h)) fun h => hx _ ?_
    simp at h
    rw [wrap_i64 (by omega)]
    omega
  exact ⟨_, rfl, bsel_split (fun _ => hgo true) fun _ => hgo _⟩
#print axioms C4
end Go.Fw
