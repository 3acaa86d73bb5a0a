/- Part of a proof over the given program: texts of lemmas (conditions: none beyond each lemma as stated). -/
import Derived.Test.YtdmoefbfepeeaaaGreatDoorQ14
import Derived.Shelf.Unicode.ValidAny
import Derived.Test.YtdmoefbfepeeaaaGreatDoorProg
set_option linter.unnecessarySimpa false
set_option linter.unusedVariables false
set_option linter.unusedSimpArgs false

namespace Go.Proofs
open Go.Shelf
def Tryz.lays196_ren : Go.Shelf.Ren := ⟨fun | 196 => 136 | 259 => 209 | n => n, fun | 9 => 9 | 4 => 4 | 3 => 3 | 5 => 5 | 12 => 12 | 119 => 327 | 0 => 0 | 46 => 46 | 139 => 330 | 138 => 329 | 53 => 44 | n => n, fun | 3 => 1 | 4 => 2 | n => n⟩
theorem Tryz.lays196 : Go.Proofs.Lays.n196 Tryz.prog Tryz.lays196_ren := {
  mixed := by kernel_rfl
  f196 := Tryz.func136.trans (congrArg some (by kernel_rfl))
  f259 := Tryz.func209.trans (congrArg some (by kernel_rfl))
  t0 := Tryz.underlying0
  a0 := Tryz.isAgg0
  z0 := Tryz.sizeOf0
  v0 := Tryz.zeroValue0
  t3 := Tryz.underlying3
  a3 := Tryz.isAgg3
  z3 := Tryz.sizeOf3
  v3 := Tryz.zeroValue3
  t4 := Tryz.underlying4
  a4 := Tryz.isAgg4
  z4 := Tryz.sizeOf4
  v4 := Tryz.zeroValue4
  t5 := Tryz.underlying5
  a5 := Tryz.isAgg5
  z5 := Tryz.sizeOf5
  v5 := Tryz.zeroValue5
  t9 := Tryz.underlying9
  a9 := Tryz.isAgg9
  z9 := Tryz.sizeOf9
  v9 := Tryz.zeroValue9
  t12 := Tryz.underlying12
  a12 := Tryz.isAgg12
  z12 := Tryz.sizeOf12
  v12 := Tryz.zeroValue12
  t46 := Tryz.underlying46
  a46 := Tryz.isAgg46
  z46 := Tryz.sizeOf46
  v46 := Tryz.zeroValue46
  t53 := Tryz.underlying44
  a53 := Tryz.isAgg44
  z53 := Tryz.sizeOf44
  v53 := Tryz.zeroValue44
  t119 := Tryz.underlying327
  a119 := Tryz.isAgg327
  z119 := Tryz.sizeOf327
  t138 := Tryz.underlying329
  a138 := Tryz.isAgg329
  z138 := Tryz.sizeOf329
  v138 := Tryz.zeroValue329
  t139 := Tryz.underlying330
  a139 := Tryz.isAgg330
  z139 := Tryz.sizeOf330
  v139 := Tryz.zeroValue330
  g3 := by kernel_rfl
  g4 := by kernel_rfl }
end Go.Proofs


set_option autoImplicit false
set_option linter.unusedVariables false
namespace Go.Fw
open Go.Proofs Go.RowKit
theorem C136_gen (x : ByteArray) (hx : x.size < 1000000000000000) (w : World) (hT : Lib.Utf8Tabs 1 2 w) : Calls Tryz.prog 136 #[.string x] w fun e w' => e = .returned (.bool (Lib.validD x.data.toList)) ∧ Keep No w w' := by
  refine (Any.utf8_ValidString Tryz.lays196 x w (by omega) hT).mono ?_
  rintro _ w' ⟨rfl, h⟩
  exact ⟨rfl, Keep.of_below h⟩
theorem C81_gen (x : ByteArray) (hx : x.size < 1000000000000000) (w : World) (hT : Lib.Utf8Tabs 1 2 w) : Calls Tryz.prog 81 #[.string x] w fun e w' => e = .returned (.bool (Lib.validD x.data.toList)) ∧ Keep No w w' := by
  refine ret_mono (V81_sound _ w (fun r w' => r = .bool (Lib.validD x.data.toList) ∧ Keep No w w') ?_) (by rintro _ _ ⟨rfl, h⟩; exact ⟨rfl, h⟩)
  unfold V81
  refine (C136_gen x hx w hT).mono ?_
  rintro _ w' ⟨rfl, hk⟩
  exact ⟨_, rfl, rfl, hk⟩
theorem tabs_no {w w' : World} (h : Lib.Utf8Tabs 1 2 w) (hk : Keep No w w') : Lib.Utf8Tabs 1 2 w' :=
  ⟨fun c hc => hk.cell (h.1 c hc) id, fun i hi => ⟨hk.cell (h.2 i hi).1 id, hk.cell (h.2 i hi).2 id⟩⟩
def kindB (k : Int) : Bool := decide ((1 ≤ k ∧ k ≤ 9) ∨ k = 14 ∨ (15 ≤ k ∧ k ≤ 17))
noncomputable def errT (ts : List Tm) (mss : Nat → List Int) (its : Nat → ByteArray) (pairs : Int) (i : Nat) (t : Tm) (ks : List Int) : Int :=
  if kindB t.kind = false then 12 else if badK ts i t ks then 1 else if t.kind = 4 ∧ Lib.validD t.text.data.toList = false then 1 else if bigB ts mss its pairs i t ks then 3 else 0
section
variable {w : World} {s b B : Nat} {ta : Option Addr} {tc : Nat} {ts : List Tm} {mss : Nat → List Int} {its : Nat → ByteArray} {rv : Value} {pairs : Int}
theorem kidBad_false {n i : Nat} {ts : List Tm} {t : Tm} {k : Int} (h : kidBad ts i t k = false) : 0 ≤ k ∧ k < limit ts.length i t := by
  unfold kidBad at h
  simp at h
  omega
theorem keysL_kid {t : Tm} {ks : List Int} {p : Int → Prop} (h : ∀ (j : Nat) (k : Int), ks[j]? = some k → p k) : ∀ (j : Nat) (k : Int), (keysL t ks)[j]? = some k → p k := by
  intro j k hj
  unfold keysL at hj
  split at hj
  · exact h j k hj
  · split at hj
    · unfold evens at hj
      rw [List.getElem?_map] at hj
      obtain ⟨m, hm, rfl⟩ := Option.map_eq_some_iff.1 hj
      have hlt : m < (ks.length + 1) / 2 := List.mem_range.1 (List.mem_of_getElem? hm)
      have h2 : 2 * m < ks.length := by omega
      rw [List.getD_eq_getElem?_getD, List.getElem?_eq_getElem h2]
      exact h (2 * m) _ (List.getElem?_eq_getElem h2)
    · simp at hj
theorem C39_gen (hb : Blk w b 92 [.pointer (some ⟨s, 0, none⟩), .slice ta ts.length tc, rv]) (hL : LowAt w B ta ts mss) (hB : B ≤ w.heap.size) (hpairs : w.cell? ⟨s, 1, none⟩ = some (.int .i64 pairs)) (hT : Lib.Utf8Tabs 1 2 w) (hts : ts.length < 1000000) {n : Nat} {t : Tm} (ht : ts[n]? = some t) {ks : List Int} (hks : KidsAt w t ks) (hkb : ∀ p, t.ka = some p → 0 < t.kl → p.block < B) (hkl : t.kl < 100000000000) (htx : t.text.size < 1000000000000000)
    (hms : ∀ (x : Nat) (u : Tm), ts[x]? = some u → (mss x).length < 10000000000 ∧ (∀ m ∈ mss x, 0 ≤ m ∧ m < 4294967296) ∧ u.text.size < 1000000000000000)
    (hit : ∀ (x : Nat), x < ts.length → (∀ w1, Keep No w w1 → Calls Tryz.prog 77 #[.int .i64 x] w1 fun e w' => e = .returned (.string (its x)) ∧ Keep No w1 w') ∧ (its x).size < 1000) :
    Calls Tryz.prog 39 #[.pointer (some ⟨b, 0, none⟩), .int .i64 n] w fun e w' => e = .returned (.int .i64 (errT ts mss its pairs n t ks)) ∧ Keep No w w' := by
  refine ret_mono (V39_sound _ _ w (fun r w' => r = .int .i64 (errT ts mss its pairs n t ks) ∧ Keep No w w') ?_) (by rintro _ _ ⟨rfl, h⟩; exact ⟨rfl, h⟩)
  have hn : n < ts.length := (List.getElem?_eq_some_iff.1 ht).1
  obtain ⟨p, rfl, hc⟩ := hL.tm _ t ht
  unfold V39
  rw [nilK_some]
  refine ⟨_, _, _, hb.add 1 rfl, idxK_of hn ⟨_, _, _, _, _, _, _, _, _, _, _, _, hc, termCopy fun c w1 hc1 hk1 hcs => ⟨_, hc1.add 0 rfl, (C79 _ w1).mono ?_⟩⟩⟩
  rintro _ w1' ⟨rfl, rfl⟩
  refine ⟨kindB t.kind, rfl, bsel_split (fun h => ⟨?_, hk1⟩) fun hkind => ?_⟩
  · unfold errT; rw [if_pos (by simpa using h)]
  have hkd : kindB t.kind = true := by simpa using hkind
  refine (C80_gen (hk1.nblk hb) (hL.tm.no hk1) hts ht (hks.no hk1) hkb hkl).mono ?_
  rintro _ w2 ⟨rfl, hk2⟩
  have hk02 := hk1.no hk2
  refine ⟨_, rfl, bsel_split (fun hbk => ?_) fun hbk => ?_⟩
  · unfold V39J1
    exact bsel_pos rfl ⟨by unfold errT; rw [if_neg (by rw [hkd]; decide), if_pos hbk], hk02⟩
  have hkid : ∀ (j : Nat) (k : Int), ks[j]? = some k → 0 ≤ k ∧ k < ts.length := by
    intro j k hj
    unfold badK at hbk
    rw [Bool.or_eq_false_iff, any_false] at hbk
    obtain ⟨q1, q2⟩ := kidBad_false (n := n) (hbk.1 k (List.mem_of_getElem? hj))
    unfold limit at q2
    split at q2 <;> omega
  have hend : ∀ g w3, Keep No w w3 → (g = decide (t.kind = 4 ∧ Lib.validD t.text.data.toList = false)) → V39J1 (fun r w' => r = Value.int .i64 (errT ts mss its pairs n t ks) ∧ Keep No w w') (some ⟨b, 0, none⟩) n g w3 := by
    rintro g w3 hk3 rfl
    unfold V39J1
    refine bsel_split (fun hg => ⟨?_, hk3⟩) fun hg => ?_
    · unfold errT; rw [if_neg (by rw [hkd]; decide), if_neg (by rw [hbk]; decide), if_pos (by simpa using hg)]
    · refine (C82_gen (hk3.nblk hb) (hL.no hk3) (by have := hk3.size; omega) (hk3.cell hpairs id) ht (hks.no hk3) hkb hkl htx (keysL_kid hkid) hms (fun x hx => ⟨fun w4 hk4 => (hit x hx).1 w4 (hk3.no hk4), (hit x hx).2⟩)).mono ?_
      rintro _ w4 ⟨rfl, hk4⟩
      have e1 : errT ts mss its pairs n t ks = if bigB ts mss its pairs n t ks then 3 else 0 := by
        unfold errT; rw [if_neg (by rw [hkd]; decide), if_neg (by rw [hbk]; decide), if_neg (by simpa using hg)]
      rw [e1]
      exact ⟨_, rfl, bsel_split (fun hh => ⟨by rw [if_pos hh], hk3.no hk4⟩) fun hh => ⟨by rw [if_neg (by rw [hh]; decide)], hk3.no hk4⟩⟩
  refine ⟨_, (hk2.nblk hc1).add 0 rfl, ?_⟩
  refine bsel_split (fun h4 => ?_) fun h4 => hend _ _ hk02 ?_
  · have h4 : t.kind = 4 := by simpa using h4
    refine ⟨_, (hk2.nblk hc1).add 4 rfl, (C81_gen _ htx w2 (tabs_no hT hk02)).mono ?_⟩
    rintro _ w3 ⟨rfl, hk3⟩
    exact ⟨_, rfl, hend _ _ (hk02.no hk3) (by simp [h4])⟩
  · have h4 : t.kind ≠ 4 := by simpa using h4
    simp [h4]
end
end Go.Fw


set_option autoImplicit false
set_option linter.unusedVariables false
namespace Go.Fw
open Go.Proofs Go.RowKit
theorem isKeyB_K {t : Tm} (h : isKeyB t = true) : isKeyK t := by
  unfold isKeyB at h
  unfold isKeyK
  simp at h
  omega
theorem fine_of_err {ts : List Tm} {mss : Nat → List Int} {its : Nat → ByteArray} {pairs : Int} {i : Nat} {t : Tm} {ks : List Int} (hkl : t.kl < 100000000000) (h : errT ts mss its pairs i t ks = 0) : FineT ts i t ks := by
  unfold errT at h
  split at h
  · omega
  rename_i hk
  split at h
  · omega
  rename_i hb
  have hk : kindB t.kind = true := by simpa using hk
  have hb : badK ts i t ks = false := by simpa using hb
  unfold badK at hb
  rw [Bool.or_eq_false_iff, Bool.or_eq_false_iff, any_false, any_false] at hb
  obtain ⟨b1, b2, b3⟩ := hb
  have hkind : (1 ≤ t.kind ∧ t.kind ≤ 9) ∨ t.kind = 14 ∨ (15 ≤ t.kind ∧ t.kind ≤ 17) := by unfold kindB at hk; exact of_decide_eq_true hk
  have hkid : ∀ (j : Nat) (k : Int), ks[j]? = some k → 0 ≤ k ∧ k < limit ts.length i t := fun j k hj => kidBad_false (n := 0) (b1 k (List.mem_of_getElem? hj))
  refine ⟨hkind, hkl, hkid, fun h7 => ?_, fun j k hj u hu => ?_, fun hv => ?_⟩
  · unfold shapeBad at b3
    rw [if_neg (by omega), if_pos h7] at b3
    simp at b3
    omega
  · have := b2 k (List.mem_of_getElem? hj)
    unfold keyBad at this
    rw [hu] at this
    simp at this
    exact isKeyB_K this
  · have hv' : t.kind = 15 ∨ t.kind = 16 ∨ t.kind = 17 := by omega
    unfold shapeBad at b3
    rw [if_neg (by omega), if_neg (by omega), if_pos hv'] at b3
    simp at b3
    obtain ⟨k, rfl⟩ : ∃ k, ks = [k] := List.length_eq_one_iff.1 b3.1
    obtain ⟨q1, q2⟩ := hkid 0 k rfl
    unfold limit at q2
    rw [if_neg (by omega)] at q2
    exact ⟨k.toNat, by simp; omega, by omega⟩
end Go.Fw


set_option autoImplicit false
set_option linter.unusedVariables false
namespace Go.Fw
open Go.Proofs Go.RowKit
structure OrdF (n : Nat) (al is : Nat → Nat → Bool) (num : Nat → Int) (ref L : Nat → Nat) (ins : Nat → Bool) : Prop where
  isal : ∀ i j, i < n → j < n → is i j = true → al i j = true
  als : ∀ i j, i < n → j < n → al i j = al j i
  iss : ∀ i j, i < n → j < n → is i j = is j i
  isr : ∀ i, i < n → is i i = true
  obj : ∀ i j, i < n → j < n → (0 < num i ∨ 0 < num j) → al i j = ((ref i : Int) == (ref j : Int))
  tr : ∀ i j k, i < n → j < n → k < n → al i j = true → al j k = true → al i k = true
  start : L 0 = 0
  small : ∀ i, i ≤ n → L i < 1000000
  next : ∀ i, i < n → if 0 < num i then (L i : Int) < num i ∧ num i ≤ L i + 2 ∧ (num i = L i + 2 → ins i = true) ∧ (L (i + 1) : Int) = num i else L (i + 1) = L i
structure OrdW (n : Nat) (al is : Nat → Nat → Bool) (num : Nat → Int) (ref : Nat → Nat) (ins : Nat → Bool) (s : Nat) (a : Option Addr) (ta : Option Addr) (Inv : World → Prop) : Prop where
  num : ∀ w i, i < n → Inv w → Calls Tryz.prog 15 #[.pointer (some ⟨s, 0, none⟩), .int .i64 (ref i)] w fun e w' => e = .returned (.int .i64 (num i)) ∧ Inv w'
  al : ∀ w i j, i < n → j < n → Inv w → Calls Tryz.prog 16 #[.pointer (some ⟨s, 0, none⟩), .int .i64 (ref i), .int .i64 (ref j)] w fun e w' => e = .returned (.bool (al i j)) ∧ Inv w'
  is : ∀ w i j, i < n → j < n → Inv w → Calls Tryz.prog 17 #[.pointer (some ⟨s, 0, none⟩), .int .i64 (ref i), .int .i64 (ref j)] w fun e w' => e = .returned (.bool (is i j)) ∧ Inv w'
  row : ∀ i, i < n → ∃ p, a = some p ∧ ∀ w, Inv w → w.cell? (p.add i) = some (.int .i64 (ref i))
  tm : ∀ i, i < n → ∃ p, ta = some p ∧ ∀ w, Inv w → ∃ k : Int, w.cell? ((p.add (i * 8)).add 0) = some (.int .i64 k) ∧ ins i = (k == 14)
  drew : ∀ w, Inv w → Inv w.drew
section
variable {n tc c : Nat} {al is : Nat → Nat → Bool} {num : Nat → Int} {ref L : Nat → Nat} {ins : Nat → Bool} {s : Nat} {a ta : Option Addr} {Inv : World → Prop} {w : World} {Q : Value → World → Prop}
theorem OrdW.rd (h : OrdW n al is num ref ins s a ta Inv) {P : Int → Prop} {i : Nat} (hI : Inv w) (hi : i < n) (hP : P (ref i)) : idxK a n (i : Int) 1 fun a' => ∃ t : Int, w.cell? a' = some (.int .i64 t) ∧ P t := by
  obtain ⟨p, rfl, hc⟩ := h.row i hi
  exact idxK_of hi ⟨_, by rw [Nat.mul_one]; exact hc w hI, hP⟩
theorem ordJ2 (F : OrdF n al is num ref L ins) (h : OrdW n al is num ref ins s a ta Inv) (hn : n < 1000000) {i j : Nat} (hi : i < n) (hj : j < n) {x79 x81 : Int} {w86 : World} (hI : Inv w) :
    V3J2 Q (fun j w => 0 ≤ j ∧ j ≤ n ∧ Inv w) (fun j _ => (n - j).toNat) j w86 ta n tc (some ⟨s, 0, none⟩) a n c x79 i x81 j (al i j) false w := by
  unfold V3J2
  refine bsel_neg rfl ⟨fun k w => 0 ≤ k ∧ k ≤ n ∧ Inv w, fun k _ => (n - k).toNat, ⟨by omega, by omega, hI⟩, ?_⟩
  rintro fr k w1 ⟨hk0, hkn, hI1⟩
  have hend : ∀ w2, Inv w2 → (0 ≤ IntKind.wrap .i64 ((j : Int) + 1) ∧ IntKind.wrap .i64 ((j : Int) + 1) ≤ n ∧ Inv w2) ∧ (n - IntKind.wrap .i64 ((j : Int) + 1)).toNat < (n - (j : Int)).toNat := by
    intro w2 h2
    rw [wrap_i64 (by omega)]
    exact ⟨⟨by omega, by omega, h2⟩, by omega⟩
  refine bsel_split (fun hlt => ?_) fun hge => ?_
  · simp at hlt
    obtain ⟨m, rfl⟩ := Int.eq_ofNat_of_zero_le hk0
    have hm : m < n := by omega
    have hnext : ∀ w2, Inv w2 → (0 ≤ IntKind.wrap .i64 ((m : Int) + 1) ∧ IntKind.wrap .i64 ((m : Int) + 1) ≤ n ∧ Inv w2) ∧ (n - IntKind.wrap .i64 ((m : Int) + 1)).toNat < (n - (m : Int)).toNat := by
      intro w2 h2
      rw [wrap_i64 (by omega)]
      exact ⟨⟨by omega, by omega, h2⟩, by omega⟩
    unfold V3J1
    refine bsel_split (fun hal => ?_) fun _ => hend _ hI1
    have hId := h.drew _ hI1
    refine h.rd hId hj (h.rd hId hm ((h.al _ j m hj hm hId).mono ?_))
    rintro _ w2 ⟨rfl, hI2⟩
    refine ⟨_, rfl, bsel_split (fun hjk => ?_) fun _ => hnext _ hI2⟩
    refine h.rd hI2 hi (h.rd hI2 hm ((h.al _ i m hi hm hI2).mono ?_))
    rintro _ w3 ⟨rfl, hI3⟩
    refine ⟨_, rfl, bsel_neg ?_ (hnext _ hI3)⟩
    rw [F.tr i j m hi hj hm hal hjk]; rfl
  · unfold V3J1
    exact bsel_neg rfl (hend _ hI1)
theorem ordJ3 (F : OrdF n al is num ref L ins) (h : OrdW n al is num ref ins s a ta Inv) (hn : n < 1000000) {i : Nat} (hi : i < n) {I50 : Int → Int → World → Prop} {μ51 : Int → Int → World → Nat} {i52 i53 : Int} {w54 : World} {x79 : Int} (hI : Inv w)
    (hend : ∀ w', Inv w' → I50 x79 ((i : Int) + 1) w' ∧ μ51 x79 ((i : Int) + 1) w' < μ51 i52 i53 w54) :
    V3J3 Q I50 μ51 i52 i53 w54 ta n tc (some ⟨s, 0, none⟩) a n c x79 i (num i) w := by
  unfold V3J3
  refine ⟨fun j w => 0 ≤ j ∧ j ≤ n ∧ Inv w, fun j _ => (n - j).toNat, ⟨by omega, by omega, hI⟩, ?_⟩
  rintro fr k w1 ⟨hk0, hkn, hI1⟩
  refine bsel_split (fun hlt => ?_) fun hge => ?_
  · simp at hlt
    obtain ⟨j, rfl⟩ := Int.eq_ofNat_of_zero_le hk0
    have hj : j < n := by omega
    have hJ2 : ∀ {w2 : World}, Inv w2 → V3J2 Q (fun j w => 0 ≤ j ∧ j ≤ n ∧ Inv w) (fun j _ => (n - j).toNat) j w1 ta n tc (some ⟨s, 0, none⟩) a n c x79 i (num i) j (al i j) false w2 := fun h2 => ordJ2 F h hn hi hj h2
    have hobj : ∀ {w2 : World}, Inv w2 → (0 < num i ∨ 0 < num j) → idxK a n (i : Int) 1 fun a179 => ∃ t180 : Int, w2.cell? a179 = some (.int .i64 t180) ∧ idxK a n (j : Int) 1 fun a181 => ∃ t182 : Int, w2.cell? a181 = some (.int .i64 t182) ∧ V3J2 Q (fun j w => 0 ≤ j ∧ j ≤ n ∧ Inv w) (fun j _ => (n - j).toNat) j w1 ta n tc (some ⟨s, 0, none⟩) a n c x79 i (num i) j (al i j) (!(al i j == (t180 == t182))) w2 := by
      intro w2 h2 ho
      refine h.rd h2 hi (h.rd h2 hj ?_)
      rw [← F.obj i j hi hj ho]
      rw [show (!(al i j == al i j)) = false by simp]
      exact hJ2 h2
    have hnum : ∀ {w2 : World}, Inv w2 → bsel (decide (num i > 0)) (idxK a n (i : Int) 1 fun a179 => ∃ t180 : Int, w2.cell? a179 = some (.int .i64 t180) ∧ idxK a n (j : Int) 1 fun a181 => ∃ t182 : Int, w2.cell? a181 = some (.int .i64 t182) ∧ V3J2 Q (fun j w => 0 ≤ j ∧ j ≤ n ∧ Inv w) (fun j _ => (n - j).toNat) j w1 ta n tc (some ⟨s, 0, none⟩) a n c x79 i (num i) j (al i j) (!(al i j == (t180 == t182))) w2)
        (idxK a n (j : Int) 1 fun a183 => ∃ t184 : Int, w2.cell? a183 = some (.int .i64 t184) ∧ Calls Tryz.prog 15 #[.pointer (some ⟨s, 0, none⟩), .int .i64 t184] w2 fun e185 w186 => ∃ t187 : Int, e185 = .returned (.int .i64 t187) ∧ bsel (decide (t187 > 0)) (idxK a n (i : Int) 1 fun a188 => ∃ t189 : Int, w186.cell? a188 = some (.int .i64 t189) ∧ idxK a n (j : Int) 1 fun a190 => ∃ t191 : Int, w186.cell? a190 = some (.int .i64 t191) ∧ V3J2 Q (fun j w => 0 ≤ j ∧ j ≤ n ∧ Inv w) (fun j _ => (n - j).toNat) j w1 ta n tc (some ⟨s, 0, none⟩) a n c x79 i (num i) j (al i j) (!(al i j == (t189 == t191))) w186) (V3J2 Q (fun j w => 0 ≤ j ∧ j ≤ n ∧ Inv w) (fun j _ => (n - j).toNat) j w1 ta n tc (some ⟨s, 0, none⟩) a n c x79 i (num i) j (al i j) false w186)) := by
      intro w2 h2
      refine bsel_split (fun hp => hobj h2 (.inl (by simpa using hp))) fun _ => ?_
      refine h.rd h2 hj ((h.num _ j hj h2).mono ?_)
      rintro _ w3 ⟨rfl, h3⟩
      exact ⟨_, rfl, bsel_split (fun hp => hobj h3 (.inr (by simpa using hp))) fun _ => hJ2 h3⟩
    have hrest : ∀ {w2 : World}, Inv w2 → idxK a n (j : Int) 1 fun a165 => ∃ t166 : Int, w2.cell? a165 = some (.int .i64 t166) ∧ idxK a n (i : Int) 1 fun a167 => ∃ t168 : Int, w2.cell? a167 = some (.int .i64 t168) ∧ Calls Tryz.prog 16 #[.pointer (some ⟨s, 0, none⟩), .int .i64 t166, .int .i64 t168] w2 fun e169 w170 => ∃ t171 : Bool, e169 = .returned (.bool t171) ∧ bsel (!(al i j == t171)) (V3J2 Q (fun j w => 0 ≤ j ∧ j ≤ n ∧ Inv w) (fun j _ => (n - j).toNat) j w1 ta n tc (some ⟨s, 0, none⟩) a n c x79 i (num i) j (al i j) true w170) (idxK a n (j : Int) 1 fun a172 => ∃ t173 : Int, w170.cell? a172 = some (.int .i64 t173) ∧ idxK a n (i : Int) 1 fun a174 => ∃ t175 : Int, w170.cell? a174 = some (.int .i64 t175) ∧ Calls Tryz.prog 17 #[.pointer (some ⟨s, 0, none⟩), .int .i64 t173, .int .i64 t175] w170 fun e176 w177 => ∃ t178 : Bool, e176 = .returned (.bool t178) ∧ bsel (!(is i j == t178)) (V3J2 Q (fun j w => 0 ≤ j ∧ j ≤ n ∧ Inv w) (fun j _ => (n - j).toNat) j w1 ta n tc (some ⟨s, 0, none⟩) a n c x79 i (num i) j (al i j) true w177) (bsel ((i : Int) == (j : Int)) (bsel (!is i j) (V3J2 Q (fun j w => 0 ≤ j ∧ j ≤ n ∧ Inv w) (fun j _ => (n - j).toNat) j w1 ta n tc (some ⟨s, 0, none⟩) a n c x79 i (num i) j (al i j) true w177) (bsel (decide (num i > 0)) (idxK a n (i : Int) 1 fun a179 => ∃ t180 : Int, w177.cell? a179 = some (.int .i64 t180) ∧ idxK a n (j : Int) 1 fun a181 => ∃ t182 : Int, w177.cell? a181 = some (.int .i64 t182) ∧ V3J2 Q (fun j w => 0 ≤ j ∧ j ≤ n ∧ Inv w) (fun j _ => (n - j).toNat) j w1 ta n tc (some ⟨s, 0, none⟩) a n c x79 i (num i) j (al i j) (!(al i j == (t180 == t182))) w177)
        (idxK a n (j : Int) 1 fun a183 => ∃ t184 : Int, w177.cell? a183 = some (.int .i64 t184) ∧ Calls Tryz.prog 15 #[.pointer (some ⟨s, 0, none⟩), .int .i64 t184] w177 fun e185 w186 => ∃ t187 : Int, e185 = .returned (.int .i64 t187) ∧ bsel (decide (t187 > 0)) (idxK a n (i : Int) 1 fun a188 => ∃ t189 : Int, w186.cell? a188 = some (.int .i64 t189) ∧ idxK a n (j : Int) 1 fun a190 => ∃ t191 : Int, w186.cell? a190 = some (.int .i64 t191) ∧ V3J2 Q (fun j w => 0 ≤ j ∧ j ≤ n ∧ Inv w) (fun j _ => (n - j).toNat) j w1 ta n tc (some ⟨s, 0, none⟩) a n c x79 i (num i) j (al i j) (!(al i j == (t189 == t191))) w186) (V3J2 Q (fun j w => 0 ≤ j ∧ j ≤ n ∧ Inv w) (fun j _ => (n - j).toNat) j w1 ta n tc (some ⟨s, 0, none⟩) a n c x79 i (num i) j (al i j) false w186))))
        (bsel (decide (num i > 0)) (idxK a n (i : Int) 1 fun a179 => ∃ t180 : Int, w177.cell? a179 = some (.int .i64 t180) ∧ idxK a n (j : Int) 1 fun a181 => ∃ t182 : Int, w177.cell? a181 = some (.int .i64 t182) ∧ V3J2 Q (fun j w => 0 ≤ j ∧ j ≤ n ∧ Inv w) (fun j _ => (n - j).toNat) j w1 ta n tc (some ⟨s, 0, none⟩) a n c x79 i (num i) j (al i j) (!(al i j == (t180 == t182))) w177)
        (idxK a n (j : Int) 1 fun a183 => ∃ t184 : Int, w177.cell? a183 = some (.int .i64 t184) ∧ Calls Tryz.prog 15 #[.pointer (some ⟨s, 0, none⟩), .int .i64 t184] w177 fun e185 w186 => ∃ t187 : Int, e185 = .returned (.int .i64 t187) ∧ bsel (decide (t187 > 0)) (idxK a n (i : Int) 1 fun a188 => ∃ t189 : Int, w186.cell? a188 = some (.int .i64 t189) ∧ idxK a n (j : Int) 1 fun a190 => ∃ t191 : Int, w186.cell? a190 = some (.int .i64 t191) ∧ V3J2 Q (fun j w => 0 ≤ j ∧ j ≤ n ∧ Inv w) (fun j _ => (n - j).toNat) j w1 ta n tc (some ⟨s, 0, none⟩) a n c x79 i (num i) j (al i j) (!(al i j == (t189 == t191))) w186) (V3J2 Q (fun j w => 0 ≤ j ∧ j ≤ n ∧ Inv w) (fun j _ => (n - j).toNat) j w1 ta n tc (some ⟨s, 0, none⟩) a n c x79 i (num i) j (al i j) false w186))))) := by
      intro w2 h2
      refine h.rd h2 hj (h.rd h2 hi ((h.al _ j i hj hi h2).mono ?_))
      rintro _ w3 ⟨rfl, h3⟩
      refine ⟨_, rfl, bsel_neg (by rw [F.als i j hi hj]; simp) ?_⟩
      refine h.rd h3 hj (h.rd h3 hi ((h.is _ j i hj hi h3).mono ?_))
      rintro _ w4 ⟨rfl, h4⟩
      refine ⟨_, rfl, bsel_neg (by rw [F.iss i j hi hj]; simp) ?_⟩
      refine bsel_split (fun hij => ?_) fun _ => hnum h4
      have hij : i = j := Int.ofNat.inj (eq_of_beq hij)
      exact bsel_neg (by rw [← hij, F.isr i hi]; rfl) (hnum h4)
    have hId := h.drew _ hI1
    refine h.rd hId hi (h.rd hId hj ((h.al _ i j hi hj hId).mono ?_))
    rintro _ w2 ⟨rfl, hI2⟩
    have hI2d := h.drew _ hI2
    refine ⟨_, rfl, h.rd hI2d hi (h.rd hI2d hj ((h.is _ i j hi hj hI2d).mono ?_))⟩
    rintro _ w3 ⟨rfl, hI3⟩
    refine ⟨_, rfl, bsel_split (fun his => ?_) fun his => ?_⟩
    · exact bsel_neg (by rw [F.isal i j hi hj his]; rfl) (hrest (h.drew _ hI3))
    · exact hrest (h.drew _ hI3)
  · rw [wrap_i64 (by omega)]
    exact hend _ hI1
theorem ordLoop (F : OrdF n al is num ref L ins) (h : OrdW n al is num ref ins s a ta Inv) (hn : n < 1000000) (hI : Inv w)
    (hlive : ∀ w, Inv w → Calls Tryz.prog 14 #[.pointer (some ⟨s, 0, none⟩)] w fun e w' => e = .returned (.int .i64 (L n)) ∧ Inv w')
    (hwake : ∀ w, Inv w → Calls Tryz.prog 10 #[] w fun e w' => e = .returned (.bool true) ∧ Q (.bool true) w') :
    ∃ (I50 : Int → Int → World → Prop) (μ51 : Int → Int → World → Nat), I50 0 0 w ∧ ∀ (j55 : Fr) (i52 : Int) (i53 : Int) (w54 : World), I50 i52 i53 w54 →
bsel (decide (i53 < (n : Int))) (
idxK a n i53 1 fun a56 =>
∃ t57 : Int, w54.cell? a56 = some (.int .i64 t57) ∧
Calls Tryz.prog 15 #[.pointer (some ⟨s, 0, none⟩), .int .i64 t57] w54 fun e58 w59 => ∃ t60 : Int, e58 = .returned (.int .i64 t60) ∧
bsel (decide (t60 > 0)) (
bsel (decide (t60 ≤ i52)) (
V3J4 Q I50 μ51 i52 i53 w54 ta n tc (some ⟨s, 0, none⟩) a n c i53 t60 true w59) (
bsel (decide (t60 > IntKind.wrap .i64 (i52 + 2))) (
V3J4 Q I50 μ51 i52 i53 w54 ta n tc (some ⟨s, 0, none⟩) a n c i53 t60 true w59) (
bsel (t60 == IntKind.wrap .i64 (i52 + 2)) (
idxK ta n i53 8 fun a245 =>
∃ t246 : Int, w59.cell? (a245.add 0) = some (.int .i64 t246) ∧
V3J4 Q I50 μ51 i52 i53 w54 ta n tc (some ⟨s, 0, none⟩) a n c i53 t60 (t246 != 14) w59) (
V3J4 Q I50 μ51 i52 i53 w54 ta n tc (some ⟨s, 0, none⟩) a n c i53 t60 false w59)))) (
V3J3 Q I50 μ51 i52 i53 w54 ta n tc (some ⟨s, 0, none⟩) a n c i52 i53 t60 w59)) (
Calls Tryz.prog 14 #[.pointer (some ⟨s, 0, none⟩)] w54 fun e247 w248 => ∃ t249 : Int, e247 = .returned (.int .i64 t249) ∧
bsel (t249 == i52) (
Calls Tryz.prog 10 #[] w248 fun e250 w251 => ∃ t252 : Bool, e250 = .returned (.bool t252) ∧
Q (.bool t252) w251) (
Q (.bool false) w248)) := by
  refine ⟨fun l i w => 0 ≤ i ∧ i ≤ n ∧ l = L i.toNat ∧ Inv w, fun l i _ => (n - i).toNat, ⟨by omega, by omega, by simp [F.start], hI⟩, ?_⟩
  rintro fr l i w1 ⟨hi0, hin, rfl, hI1⟩
  refine bsel_split (fun hlt => ?_) fun hge => ?_
  · simp at hlt
    obtain ⟨m, rfl⟩ := Int.eq_ofNat_of_zero_le hi0
    simp only [Int.toNat_natCast]
    have hm : m < n := by omega
    have hs := F.small m (by omega)
    have hnx := F.next m hm
    have hw2 : IntKind.wrap .i64 ((L m : Int) + 2) = L m + 2 := wrap_i64 (by omega)
    refine h.rd hI1 hm ((h.num _ m hm hI1).mono ?_)
    rintro _ w2 ⟨rfl, hI2⟩
    have hend : ∀ x79 : Int, x79 = L (m + 1) → ∀ w', Inv w' → (0 ≤ (m : Int) + 1 ∧ (m : Int) + 1 ≤ n ∧ x79 = L ((m : Int) + 1).toNat ∧ Inv w') ∧ (n - ((m : Int) + 1)).toNat < (n - (m : Int)).toNat := by
      rintro _ rfl w' h'
      rw [show ((m : Int) + 1).toNat = m + 1 by omega]
      exact ⟨⟨by omega, by omega, rfl, h'⟩, by omega⟩
    refine ⟨_, rfl, bsel_split (fun hp => ?_) fun hp => ?_⟩
    · have hp : 0 < num m := by simpa using hp
      rw [if_pos hp] at hnx
      obtain ⟨n1, n2, n3, n4⟩ := hnx
      simp only [hw2]
      have hgo : ∀ {b : Bool} {w3 : World}, b = false → Inv w3 → V3J4 Q (fun l i w => 0 ≤ i ∧ i ≤ n ∧ l = L i.toNat ∧ Inv w) (fun l i _ => (n - i).toNat) (L m) m w1 ta n tc (some ⟨s, 0, none⟩) a n c m (num m) b w3 := by
        rintro _ w3 rfl h3
        unfold V3J4
        exact bsel_neg rfl (ordJ3 F h hn hm h3 (hend _ n4.symm))
      refine bsel_neg (by simp; omega) (bsel_neg (by simp; omega) (bsel_split (fun he => ?_) fun _ => hgo rfl hI2))
      have he : num m = L m + 2 := by simpa using he
      obtain ⟨p, rfl, hc⟩ := h.tm m hm
      obtain ⟨k, hk1, hk2⟩ := hc w2 hI2
      refine idxK_of hm ⟨_, hk1, hgo ?_ hI2⟩
      rw [n3 he] at hk2
      rw [bne, ← hk2]; rfl
    · have hp : ¬ 0 < num m := by simpa using hp
      rw [if_neg hp] at hnx
      exact ordJ3 F h hn hm hI2 (hend _ (by rw [hnx]))
  · simp at hge
    obtain rfl : i = n := by omega
    refine (hlive _ hI1).mono ?_
    rintro _ w2 ⟨rfl, hI2⟩
    refine ⟨_, rfl, bsel_pos (by simp) ((hwake _ hI2).mono ?_)⟩
    rintro _ w3 ⟨rfl, h3⟩
    exact ⟨_, rfl, h3⟩
end
end Go.Fw


set_option autoImplicit false
set_option linter.unusedVariables false
namespace Go.Fw
open Go.Proofs Go.RowKit
open Classical in
noncomputable def alN (ts : List Tm) (mss : Nat → List Int) (i j : Nat) : Bool := decide (gref ts i = gref ts j ∨ alikeD (gdesc ts mss i) (gdesc ts mss j))
open Classical in
noncomputable def isN (ts : List Tm) (mss : Nat → List Int) (i j : Nat) : Bool := decide ((gdesc ts mss i).kind = (gdesc ts mss j).kind ∧ (gref ts i = gref ts j ∨ alikeD (gdesc ts mss i) (gdesc ts mss j)))
noncomputable def numN (ts : List Tm) (mss : Nat → List Int) (i : Nat) : Int := (gdesc ts mss i).num
def insN (ts : List Tm) (i : Nat) : Bool := match ts[i]? with
  | some t => t.kind == 14
  | none => false
theorem numN_of {ts : List Tm} {mss : Nat → List Int} {i : Nat} {t : Tm} (h : ts[i]? = some t) : numN ts mss i = if t.kind = 1 ∨ t.kind = 2 ∨ t.kind = 3 ∨ t.kind = 4 then 0 else numT t (cO ts i) := by
  unfold numN
  rw [gdesc_of h]
  unfold descT
  by_cases h1 : t.kind = 1
  · simp [h1, VD.num]
  by_cases h2 : t.kind = 2
  · simp [h2, VD.num]
  by_cases h3 : t.kind = 3
  · simp [h3, VD.num]
  by_cases h4 : t.kind = 4
  · simp [h4, VD.num]
  simp [h1, h2, h3, h4, VD.num]
theorem gdesc_obj {ts : List Tm} {mss : Nat → List Int} {i : Nat} {t : Tm} (h : ts[i]? = some t) (hp : 0 < numN ts mss i) : ∃ k n, gdesc ts mss i = .obj k n := by
  rw [numN_of h] at hp
  rw [gdesc_of h]
  unfold descT
  by_cases hk : t.kind = 1 ∨ t.kind = 2 ∨ t.kind = 3 ∨ t.kind = 4
  · rw [if_pos hk] at hp; omega
  · rw [if_neg (by omega), if_neg (by omega), if_neg (by omega), if_neg (by omega)]
    exact ⟨_, _, rfl⟩
theorem ord_facts {ts : List Tm} {mss : Nat → List Int} (hn : ts.length < 100000) : OrdF ts.length (alN ts mss) (isN ts mss) (numN ts mss) (gref ts) (cO ts) (insN ts) := by
  have hg : ∀ i, i < ts.length → ∃ t, ts[i]? = some t := fun i hi => ⟨_, List.getElem?_eq_getElem hi⟩
  refine ⟨?_, ?_, ?_, ?_, ?_, ?_, ?_, ?_, ?_⟩
  · intro i j _ _ h
    unfold isN at h
    unfold alN
    simp at h ⊢
    exact h.2
  · intro i j _ _
    unfold alN
    rw [decide_eq_decide]
    constructor <;> rintro (h | h)
    · exact .inl h.symm
    · exact .inr (alikeD_symm h)
    · exact .inl h.symm
    · exact .inr (alikeD_symm h)
  · intro i j _ _
    unfold isN
    rw [decide_eq_decide]
    constructor <;> rintro ⟨h0, h | h⟩
    · exact ⟨h0.symm, .inl h.symm⟩
    · exact ⟨h0.symm, .inr (alikeD_symm h)⟩
    · exact ⟨h0.symm, .inl h.symm⟩
    · exact ⟨h0.symm, .inr (alikeD_symm h)⟩
  · intro i _
    unfold isN
    simp
  · intro i j hi hj h
    obtain ⟨t, ht⟩ := hg i hi
    obtain ⟨u, hu⟩ := hg j hj
    have hno : ¬ alikeD (gdesc ts mss i) (gdesc ts mss j) := by
      rcases h with h | h
      · obtain ⟨k, n, e⟩ := gdesc_obj ht h
        rw [e]
        exact fun hc => alikeD_obj (alikeD_symm hc)
      · obtain ⟨k, n, e⟩ := gdesc_obj hu h
        rw [e]
        exact alikeD_obj
    unfold alN
    rw [show ((gref ts i : Int) == (gref ts j : Int)) = decide ((gref ts i : Int) = gref ts j) from rfl, decide_eq_decide]
    constructor
    · rintro (h | h)
      · rw [h]
      · exact absurd h hno
    · intro h; exact .inl (by omega)
  · intro i j k hi hj hk h1 h2
    obtain ⟨t, ht⟩ := hg i hi
    obtain ⟨u, hu⟩ := hg j hj
    obtain ⟨v, hv⟩ := hg k hk
    unfold alN at *
    simp only [decide_eq_true_eq] at *
    rcases h1 with h1 | h1
    · rcases h2 with h2 | h2
      · exact .inl (h1.trans h2)
      · rw [gdesc_eq (mss := mss) ht hu h1]; exact .inr h2
    · rcases h2 with h2 | h2
      · rw [← gdesc_eq (mss := mss) hu hv h2]; exact .inr h1
      · exact .inr (alikeD_trans h1 h2)
  · rfl
  · intro i _
    have := cO_le ts i
    omega
  · intro i hi
    obtain ⟨t, ht⟩ := hg i hi
    have hc := cO_succ ht
    have hm := numN_of (mss := mss) ht
    unfold nO at hc
    unfold insN
    rw [ht]
    by_cases hk : t.kind = 1 ∨ t.kind = 2 ∨ t.kind = 3 ∨ t.kind = 4
    · rw [if_pos hk] at hc hm
      rw [if_neg (by omega)]
      omega
    · rw [if_neg hk] at hc hm
      unfold numT at hm
      by_cases h14 : t.kind = 14
      · rw [if_pos h14] at hc hm
        rw [if_pos (by omega)]
        refine ⟨by omega, by omega, fun _ => by simp [h14], by omega⟩
      · rw [if_neg h14] at hc hm
        rw [if_pos (by omega)]
        refine ⟨by omega, by omega, fun _ => by omega, by omega⟩
end Go.Fw

