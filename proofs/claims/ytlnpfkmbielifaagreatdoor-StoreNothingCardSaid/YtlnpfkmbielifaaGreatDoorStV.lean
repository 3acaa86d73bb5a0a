/- Part of a proof over the given program: a text of lemmas (conditions: none beyond each lemma as stated). -/
import Derived.Test.YtlnpfkmbielifaaGreatDoorStU
set_option linter.unnecessarySimpa false
set_option linter.unusedSimpArgs false
set_option autoImplicit false
set_option linter.unusedVariables false
namespace Go.Fw
open Go.Proofs Go.RowKit

/-- The kids of a term. -/
def KidsAt (w : World) (t : Tm) (ks : List Int) : Prop := ks.length = t.kl ∧ ∀ j k, ks[j]? = some k → ∃ p, t.ka = some p ∧ w.cell? (p.add j) = some (.int .i64 k)
theorem KidsAt.keep {fp : Nat → Prop} {w w' : World} {t : Tm} {ks : List Int} (h : KidsAt w t ks) (hk : Keep fp w w') (hn : ∀ p, t.ka = some p → ¬ fp p.block) : KidsAt w' t ks :=
  ⟨h.1, fun j k hj => by
    obtain ⟨p, hp, hc⟩ := h.2 j k hj
    exact ⟨p, hp, hk.cell hc (by rw [add_block]; exact hn p hp)⟩⟩
theorem KidsAt.no {w w' : World} {t : Tm} {ks : List Int} (h : KidsAt w t ks) (hk : Keep No w w') : KidsAt w' t ks := h.keep hk fun _ _ => id

/-- 'keys' of what has none. -/
theorem C82_none (t : Tm) (h : t.kind ≠ 7 ∧ t.kind ≠ 8 ∧ t.kind ≠ 9) (w : World) : Calls Tryz.prog 82 #[.agg t.cells.toArray] w fun e w' => e = .returned (.slice none 0 0) ∧ Keep No w w' := by
  refine ret_mono (V82_sound t.kind t.b t.neg t.ma t.ml t.mc t.text t.ka t.kl t.kc t.hash t.same w (fun r w' => r = .slice none 0 0 ∧ Keep No w w') ?_) (by rintro _ _ ⟨rfl, h⟩; exact ⟨rfl, h⟩)
  unfold V82
  refine newK_of fun b w1 hs hb hk => ⟨_, hb.add 0 rfl, bsel_neg (by simp; exact h.2.1) ?_⟩
  unfold V82J1
  exact bsel_neg (by simp; exact h.2.2) (bsel_neg (by simp; exact h.1) ⟨rfl, hk⟩)

theorem valid_a (w : World) : Calls Tryz.prog 84 #[.string ⟨#[97]⟩] w fun e w' => e = .returned (.bool true) ∧ Keep No w w' := by
  refine ret_mono (V84_sound _ w (fun r w' => r = .bool true ∧ Keep No w w') ?_) (by rintro _ _ ⟨rfl, h⟩; exact ⟨rfl, h⟩)
  unfold V84
  refine ⟨fun s w' => w' = w ∧ (s = ⟨#[97]⟩ ∨ s = ⟨#[]⟩), fun s _ => s.size, ⟨rfl, .inl rfl⟩, ?_⟩
  rintro j s w1 ⟨rfl, rfl | rfl⟩
  · refine bsel_pos (by decide) ⟨97, ⟨by decide, by decide⟩, bsel_pos (by decide) ⟨⟨by decide, by decide, by decide⟩, ?_⟩⟩
    have e : (⟨#[97]⟩ : ByteArray).extract (1 : Int).toNat ((⟨#[97]⟩ : ByteArray).size : Int).toNat = ⟨#[]⟩ := by decide
    rw [e]
    refine bsel_neg (by decide) ?_
    unfold V84J2
    exact bsel_neg rfl ⟨⟨rfl, .inr rfl⟩, by show (0 : Nat) < 1; decide⟩
  · exact bsel_neg (by decide) ⟨rfl, Keep.refl _ _⟩

theorem C46_a (w : World) : Calls Tryz.prog 46 #[.string ⟨#[97]⟩] w fun e w' => e = .returned (.bool true) ∧ Keep No w w' := by
  refine ret_mono (V46_sound _ w (fun r w' => r = .bool true ∧ Keep No w w') ?_) (by rintro _ _ ⟨rfl, h⟩; exact ⟨rfl, h⟩)
  unfold V46
  refine (valid_a w).mono ?_
  rintro _ w' ⟨rfl, hk⟩
  exact ⟨_, rfl, rfl, hk⟩

section
variable {w : World} {s b : Nat} {ta : Option Addr} {tc : Nat} {ts : List Tm} {rv : Value}

/-- badKids of a tuple, a list, a str whose kids may be. -/
theorem C45_fine (hb : Blk w b 77 [.pointer (some ⟨s, 0, none⟩), .slice ta ts.length tc, rv]) (hts : TermsAt w ta ts) {n : Nat} {t : Tm} (ht : ts[n]? = some t) {ks : List Int} (hks : KidsAt w t ks)
    (hkl : t.kl < 1000000000000) (hk : t.kind = 5 ∨ t.kind = 4 ∧ t.kl = 0) (hr : ∀ (j : Nat) (k : Int), ks[j]? = some k → 0 ≤ k ∧ k < n) :
    Calls Tryz.prog 45 #[.pointer (some ⟨b, 0, none⟩), .int .i64 n] w fun e w' => e = .returned (.bool false) ∧ Keep No w w' := by
  refine ret_mono (V45_sound _ _ w (fun r w' => r = .bool false ∧ Keep No w w') ?_) (by rintro _ _ ⟨rfl, h⟩; exact ⟨rfl, h⟩)
  have hn : n < ts.length := (List.getElem?_eq_some_iff.1 ht).1
  obtain ⟨p, rfl, hc⟩ := hts _ t ht
  unfold V45
  rw [nilK_some]
  refine ⟨_, _, _, hb.add 1 rfl, idxK_of hn ⟨_, _, _, _, _, _, _, _, _, _, _, _, hc, termCopy fun c w1 hc1 hk1 hcs => ⟨_, hc1.add 0 rfl, bsel_neg (by simp; omega) ?_⟩⟩⟩
  unfold V45J3
  refine ⟨_, _, _, hc1.add 5 rfl, fun i w' => 0 ≤ i ∧ i ≤ t.kl ∧ Keep No w w' ∧ Blk w' c 42 t.cells, fun i _ => (t.kl - i).toNat, ⟨by omega, by omega, hk1, hc1⟩, ?_⟩
  rintro j i w2 ⟨hi0, hin, hk2, hc2⟩
  refine bsel_split (fun hlt => ?_) fun hge => ?_
  · simp at hlt
    obtain ⟨m, rfl⟩ := Int.eq_ofNat_of_zero_le hi0
    obtain ⟨k, hkm⟩ : ∃ k, ks[m]? = some k := ⟨_, List.getElem?_eq_getElem (by have := hks.1; omega)⟩
    obtain ⟨q, hq, hqc⟩ := (hks.no hk2).2 m k hkm
    have := hr m k hkm
    rw [hq]
    refine idxK_of (by omega) ⟨k, by rw [Nat.mul_one]; exact hqc, bsel_neg (by simp; omega) (bsel_neg (by simp; omega) ?_)⟩
    rw [wrap_i64 (by omega)]
    exact ⟨⟨by omega, by omega, hk2, hc2⟩, by simp only; omega⟩
  · refine ⟨_, _, _, _, _, _, _, _, _, _, _, _, hc2.cells0, (C82_none t (by omega) w2).mono ?_⟩
    rintro _ w3 ⟨rfl, hk3⟩
    have hc3 := hk3.nblk hc2
    refine ⟨_, _, _, rfl, fun i w' => i = 0 ∧ w' = w3, fun _ _ => 0, ⟨rfl, rfl⟩, ?_⟩
    rintro j i w4 ⟨rfl, rfl⟩
    refine bsel_neg (by decide) ⟨_, hc3.add 0 rfl, ?_⟩
    rcases hk with hk | ⟨hk, hkl0⟩
    · refine bsel_pos (by simp [hk]) ?_
      unfold V45J2
      exact bsel_pos rfl ⟨rfl, hk2.no hk3⟩
    · refine bsel_neg (by simp [hk]) (bsel_neg (by simp [hk]) (bsel_neg (by simp [hk]) ?_))
      unfold V45J2
      refine bsel_neg (by simp [hk]) (bsel_neg (by simp [hk]) (bsel_neg (by simp [hk]) (bsel_neg (by simp [hk]) ?_)))
      unfold V45J1
      refine bsel_neg (by simp [hk]) ⟨_, _, _, hc3.add 5 rfl, by simp [hkl0], hk2.no hk3⟩

/-- tooBig of a tuple, a list, a str that is not. -/
theorem C47_fine (hb : Blk w b 77 [.pointer (some ⟨s, 0, none⟩), .slice ta ts.length tc, rv]) (hts : TermsAt w ta ts) {n : Nat} {t : Tm} (ht : ts[n]? = some t)
    (hk : t.kind = 5 ∧ t.kl ≤ 65536 ∨ t.kind = 4 ∧ t.text.size ≤ 65536) :
    Calls Tryz.prog 47 #[.pointer (some ⟨b, 0, none⟩), .int .i64 n] w fun e w' => e = .returned (.bool false) ∧ Keep No w w' := by
  refine ret_mono (V47_sound _ _ w (fun r w' => r = .bool false ∧ Keep No w w') ?_) (by rintro _ _ ⟨rfl, h⟩; exact ⟨rfl, h⟩)
  have hn : n < ts.length := (List.getElem?_eq_some_iff.1 ht).1
  obtain ⟨p, rfl, hc⟩ := hts _ t ht
  unfold V47
  rw [nilK_some]
  refine ⟨_, _, _, hb.add 1 rfl, idxK_of hn ⟨_, _, _, _, _, _, _, _, _, _, _, _, hc, termCopy fun c w1 hc1 hk1 hcs => ⟨_, hc1.add 0 rfl, ?_⟩⟩⟩
  rcases hk with ⟨hk, hl⟩ | ⟨hk, hl⟩
  · refine bsel_neg (by simp [hk]) (bsel_neg (by simp [hk]) (bsel_pos (by simp [hk]) ?_))
    unfold V47J1
    refine bsel_pos rfl ⟨_, _, _, hc1.add 5 rfl, by simp; omega, hk1⟩
  · refine bsel_pos (by simp [hk]) ⟨_, hc1.add 4 rfl, (C29 t.text (by omega) w1).mono ?_⟩
    rintro _ w2 ⟨rfl, hk2⟩
    have := Lib.runeCount_le t.text
    exact ⟨_, rfl, by simp; omega, hk1.no hk2⟩

/-- wrong of such. -/
theorem C23_fine (hb : Blk w b 77 [.pointer (some ⟨s, 0, none⟩), .slice ta ts.length tc, rv]) (hts : TermsAt w ta ts) {n : Nat} {t : Tm} (ht : ts[n]? = some t) {ks : List Int} (hks : KidsAt w t ks)
    (hk : t.kind = 5 ∧ t.kl ≤ 65536 ∨ t.kind = 4 ∧ t.text = ⟨#[97]⟩ ∧ t.kl = 0) (hr : ∀ (j : Nat) (k : Int), ks[j]? = some k → 0 ≤ k ∧ k < n) :
    Calls Tryz.prog 23 #[.pointer (some ⟨b, 0, none⟩), .int .i64 n] w fun e w' => e = .returned (.int .i64 0) ∧ Keep No w w' := by
  refine ret_mono (V23_sound _ _ w (fun r w' => r = .int .i64 0 ∧ Keep No w w') ?_) (by rintro _ _ ⟨rfl, h⟩; exact ⟨rfl, h⟩)
  have hn : n < ts.length := (List.getElem?_eq_some_iff.1 ht).1
  have hts0 := hts
  obtain ⟨p, rfl, hc⟩ := hts _ t ht
  unfold V23
  rw [nilK_some]
  refine ⟨_, _, _, hb.add 1 rfl, idxK_of hn ⟨_, _, _, _, _, _, _, _, _, _, _, _, hc, termCopy fun c w1 hc1 hk1 hcs => ⟨_, hc1.add 0 rfl, (C44 _ w1).mono ?_⟩⟩⟩
  rintro _ w1' ⟨rfl, rfl⟩
  refine ⟨_, rfl, bsel_neg (by simp; omega) ?_⟩
  refine (C45_fine (hk1.nblk hb) (hts0.no hk1) ht (hks.no hk1) (by omega) (by omega) hr).mono ?_
  rintro _ w2 ⟨rfl, hk2⟩
  have hk02 := hk1.no hk2
  have hend : ∀ w3, Keep No w w3 → V23J1 (fun r w' => r = Value.int .i64 0 ∧ Keep No w w') (some ⟨b, 0, none⟩) n false w3 := by
    intro w3 hk3
    unfold V23J1
    refine bsel_neg rfl ((C47_fine (hk3.nblk hb) (hts0.no hk3) ht ?_).mono ?_)
    · rcases hk with ⟨h1, h2⟩ | ⟨h1, h2, h3⟩
      · exact .inl ⟨h1, h2⟩
      · exact .inr ⟨h1, by rw [h2]; decide⟩
    · rintro _ w4 ⟨rfl, hk4⟩
      exact ⟨_, rfl, bsel_neg rfl ⟨rfl, hk3.no hk4⟩⟩
  refine ⟨_, rfl, bsel_neg rfl ⟨_, (hk2.nblk hc1).add 0 rfl, ?_⟩⟩
  rcases hk with ⟨h1, h2⟩ | ⟨h1, h2, h3⟩
  · exact bsel_neg (by simp [h1]) (hend _ hk02)
  · refine bsel_pos (by simp [h1]) ⟨_, (hk2.nblk hc1).add 4 rfl, ?_⟩
    rw [h2]
    refine (C46_a w2).mono ?_
    rintro _ w3 ⟨rfl, hk3⟩
    exact ⟨_, rfl, hend _ (hk02.no hk3)⟩
end
end Go.Fw
