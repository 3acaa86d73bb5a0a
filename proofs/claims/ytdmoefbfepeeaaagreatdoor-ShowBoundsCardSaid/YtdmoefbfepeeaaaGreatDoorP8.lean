/- Part of a proof over the given program: texts of lemmas (conditions: none beyond each lemma as stated). -/
import Derived.Test.YtdmoefbfepeeaaaGreatDoorP7
import Derived.Shelf.Strings.BuilderK
set_option linter.unnecessarySimpa false
set_option linter.unusedVariables false
set_option linter.unusedSimpArgs false

set_option autoImplicit false
set_option linter.unusedVariables false
set_option maxRecDepth 100000
namespace Go.Fw
open Go.Proofs Go.RowKit

theorem sizeB : (Tryz.prog.info? 150).map (fun i => i.size) = some 2 := by kernel_rfl
theorem liesB : liesAt Tryz.prog Tryz.prog.depth 150 (2 / Tryz.prog.cellsOf 150) 0 150 1 = true := by kernel_rfl

/-- copyCheck at a builder that was used. -/
theorem C120_used (b : Nat) (w : World) (h0 : w.cell? ⟨b, 0, none⟩ = some (.pointer (some ⟨b, 0, none⟩))) :
    Calls Tryz.prog 120 #[.pointer (some ⟨b, 0, none⟩)] w fun e w' => e = .returned (.tuple #[]) ∧ w' = w := by
  obtain ⟨j, hj, _⟩ := Option.map_eq_some_iff.1 sizeB
  go_enter Tryz.func120, Tryz.ntmps120
  go_wp2
  rw [Lib.run_neq_ptr_same w _ Tryz.underlying147 hj]
  go_wp2
  go_end0
  exact ⟨rfl, rfl⟩
/-- copyCheck at a builder that is new: it lays its own address. -/
theorem C120_fresh (b : Nat) (w : World) (h0 : w.cell? ⟨b, 0, none⟩ = some (.pointer none)) (hsh : w.shape? b = some (150, 2)) (hfz : w.frozen? ⟨b, 0, none⟩ = false) :
    Calls Tryz.prog 120 #[.pointer (some ⟨b, 0, none⟩)] w fun e w' => e = .returned (.tuple #[]) ∧ w' = w.setCell ⟨b, 0, none⟩ (.pointer (some ⟨b, 0, none⟩)) := by
  obtain ⟨j, hj, hjs⟩ := Option.map_eq_some_iff.1 sizeB
  go_enter Tryz.func120, Tryz.ntmps120
  go_wp2
  rw [Lib.run_to_unsafe w ⟨b, 0, none⟩ Tryz.underlying147 Tryz.underlying311 hj (by rw [hjs]; decide) hsh (Nat.zero_lt_succ 1)]
  simp only [Result.andThen]
  rw [Oper.upon_value]
  go_wp2
  rw [run_callFunc_extern Tryz.func201 (by kernel_rfl) (by kernel_rfl) (by kernel_rfl) (e := Extern.AbiNoEscape.same) (by kernel_rfl)]
  rw [Lib.run_noEscape]
  simp only [Result.andThen]
  rw [Oper.upon_value]
  go_wp2
  rw [Lib.run_from_unsafe w ⟨b, 0, none⟩ Tryz.underlying311 Tryz.underlying147 hj hsh liesB]
  simp only [Result.andThen]
  rw [Oper.upon_value]
  go_wp2
  go_end0
  exact ⟨rfl, rfl⟩

/-- A strings.Builder and its bytes. -/
structure BufAt (w : World) (b B : Nat) (l : List UInt8) : Prop where
  ex : ∃ p v, (p = none ∨ p = some ⟨b, 0, none⟩) ∧ Blk w b 150 [.pointer p, v] ∧ w.ownsRow B 5 1 v l.length (Lib.byteCells l)
  ge : B ≤ b
/-- What a step on a builder may turn: itself, and rows of bytes. -/
def Bfp (b B : Nat) (w : World) : Nat → Prop := fun k => k = b ∨ (B ≤ k ∧ etype w k = some 5)
theorem Keep.bfp {b B : Nat} {w w' w'' : World} (h : Keep (Bfp b B w) w w') (h' : Keep (Bfp b B w') w' w'') : Keep (Bfp b B w) w w'' :=
  h.trans h' fun k hk hf => by
    by_cases hc : Bfp b B w k
    · exact hc
    · rcases hf with rfl | ⟨hB, he⟩
      · exact .inl rfl
      · refine .inr ⟨hB, ?_⟩
        rw [← he]
        unfold etype
        rw [h.block k hk hc]
theorem BufAt.no {w w' : World} {b B : Nat} {l : List UInt8} (h : BufAt w b B l) (hk : Keep No w w') : BufAt w' b B l := by
  obtain ⟨⟨p, v, h1, h2, h3⟩, hge⟩ := h
  exact ⟨⟨p, v, h1, hk.nblk h2, hk.nrow h3⟩, hge⟩
theorem BufAt.keep {w w' : World} {fp : Nat → Prop} {b B : Nat} {l : List UInt8} (h : BufAt w b B l) (hk : Keep fp w w') (hn : ∀ k, B ≤ k → fp k → etype w k ≠ some 150 ∧ etype w k ≠ some 5) : BufAt w' b B l := by
  obtain ⟨⟨p, v, h1, h2, h3⟩, hge⟩ := h
  exact ⟨⟨p, v, h1, hk.blk h2 fun hf => (hn b hge hf).1 h2.etype, hk.row h3 fun g hg hf => (hn g (h3.lt g hg).1 hf).2 (ownsRow_etype h3 hg)⟩, hge⟩
theorem BufAt.etype {w : World} {b B : Nat} {l : List UInt8} (h : BufAt w b B l) : Fw.etype w b = some 150 := by
  obtain ⟨⟨p, v, h1, h2, h3⟩, hge⟩ := h
  exact h2.etype
theorem bufAt_new {w : World} {b B : Nat} (hb : Blk w b 150 [.pointer none, .slice none 0 0]) (hB : B ≤ b) : BufAt w b B [] :=
  ⟨⟨none, _, .inl rfl, hb, World.ownsRow_nil _ _ _ _⟩, hB⟩

theorem C120 {w : World} {b B : Nat} {l : List UInt8} (h : BufAt w b B l) : Calls Tryz.prog 120 #[.pointer (some ⟨b, 0, none⟩)] w fun e w' => e = .returned (.tuple #[]) ∧
    (∃ v, Blk w' b 150 [.pointer (some ⟨b, 0, none⟩), v] ∧ w'.ownsRow B 5 1 v l.length (Lib.byteCells l)) ∧ Keep (fun k => k = b) w w' := by
  obtain ⟨⟨p, v, h1, h2, h3⟩, hge⟩ := h
  rcases h1 with rfl | rfl
  · refine (C120_fresh b w (h2.cell rfl) ?_ h2.frozen).mono ?_
    · have h2' := h2
      unfold Blk at h2'
      simp [World.shape?, h2']
    · rintro _ _ ⟨rfl, rfl⟩
      refine ⟨rfl, ⟨v, h2.set, (Keep.one w ⟨b, 0, none⟩ _).row h3 fun g hg e => ?_⟩, Keep.one w ⟨b, 0, none⟩ _⟩
      exact ownsRow_ne h3 h2 (by decide) ((show g = b from e) ▸ hg)
  · refine (C120_used b w (h2.cell rfl)).mono ?_
    rintro _ _ ⟨rfl, rfl⟩
    exact ⟨rfl, ⟨v, h2, h3⟩, Keep.refl _ _⟩

theorem infoU8 : ∃ i, Tryz.prog.info? 5 = some i ∧ i.zero = some (.int .u8 0) ∧ i.size = 1 ∧ i.bytes = 1 := by
  obtain ⟨i, hi, hj⟩ := Option.map_eq_some_iff.1 (show (Tryz.prog.info? 5).map (fun i => (i.zero, i.size, i.bytes)) = some (some (.int .u8 0), 1, 1) by kernel_rfl)
  simp at hj
  exact ⟨i, hi, hj⟩

/-- WriteByte. -/
theorem C130 {w : World} {b B : Nat} {l : List UInt8} (c : UInt8) (h : BufAt w b B l) (hl : l.length < 100000000000000) (hB : B ≤ w.heap.size) :
    Calls Tryz.prog 130 #[.pointer (some ⟨b, 0, none⟩), .int .u8 c.toNat] w fun e w' => e = .returned .nilIface ∧ BufAt w' b B (l ++ [c]) ∧ Keep (Bfp b B w) w w' := by
  refine (V130_sound _ _ w (fun r w' => r = .nilIface ∧ BufAt w' b B (l ++ [c]) ∧ Keep (Bfp b B w) w w') ?_).mono (by rintro _ _ ⟨_, rfl, rfl, h⟩; exact ⟨rfl, h⟩)
  have hge := h.ge
  unfold V130
  refine (C120 h).mono ?_
  rintro _ w1 ⟨rfl, ⟨v, hb1, ho1⟩, hk1⟩
  refine ⟨_, rfl, ?_⟩
  simp only [nilK_some]
  obtain ⟨a, n, cp, rfl, hn⟩ : ∃ a n cp, v = .slice a n cp ∧ n = l.length := by
    rcases ho1.2 with ⟨h1, h2⟩ | ⟨g, cap, cur, h1, _⟩
    · exact ⟨_, _, _, h1, h2.symm⟩
    · exact ⟨_, _, _, h1, rfl⟩
  subst hn
  refine ⟨_, _, _, hb1.add 1 rfl, newK_of fun b2 w2 hs2 hb2 hk2 => ?_⟩
  obtain ⟨i, hi, hz, hi1, hi2⟩ := infoU8
  have hkk : Keep (Bfp b B w) w w2 := (hk1.mono fun _ _ e => .inl e).no hk2
  refine append_of Tryz.underlying148 hi hz hi1 hi2 rfl (hk2.nrow ho1) hb2 rfl (by omega) (by omega) (by have := hkk.size; omega) fun g cap w3 ho3 hk3 hat => ?_
  have hb3 := hk3.blk (hk2.nblk hb1) fun e => ownsRow_ne (hk2.nrow ho1) (hk2.nblk hb1) (by decide) e
  refine stK_add hb3 (by simp) fun w4 hb4 hk4 => ⟨trivial, ⟨⟨_, _, .inr rfl, hb4, ?_⟩, hge⟩, ?_⟩
  · have := hk4.row ho3 fun g hg e => ownsRow_ne ho3 hb3 (by decide) (e ▸ hg)
    simpa [Lib.byteCells] using this
  · refine (hkk.bfp (hk3.mono fun k _ hg => .inr ⟨(ho1.lt k hg).1, ?_⟩)).trans hk4 fun _ _ e => .inl e
    exact ownsRow_etype (hk2.nrow ho1) hg

/-- WriteString. -/
theorem C69 {w : World} {b B : Nat} {l : List UInt8} (s : ByteArray) (h : BufAt w b B l) (hl : l.length + s.size < 100000000000000) (hB : B ≤ w.heap.size) :
    Calls Tryz.prog 69 #[.pointer (some ⟨b, 0, none⟩), .string s] w fun e w' => e = .returned (.tuple #[.int .i64 s.size, .nilIface]) ∧ BufAt w' b B (l ++ s.data.toList) ∧ Keep (Bfp b B w) w w' := by
  refine (V69_sound _ _ w (fun r w' => r = .tuple #[.int .i64 s.size, .nilIface] ∧ BufAt w' b B (l ++ s.data.toList) ∧ Keep (Bfp b B w) w w') ?_).mono (by rintro _ _ ⟨_, rfl, rfl, h⟩; exact ⟨rfl, h⟩)
  have hge := h.ge
  unfold V69
  refine (C120 h).mono ?_
  rintro _ w1 ⟨rfl, ⟨v, hb1, ho1⟩, hk1⟩
  refine ⟨_, rfl, ?_⟩
  simp only [nilK_some]
  obtain ⟨a, n, cp, rfl, hn⟩ : ∃ a n cp, v = .slice a n cp ∧ n = l.length := by
    rcases ho1.2 with ⟨h1, h2⟩ | ⟨g, cap, cur, h1, _⟩
    · exact ⟨_, _, _, h1, h2.symm⟩
    · exact ⟨_, _, _, h1, rfl⟩
  subst hn
  refine ⟨_, _, _, hb1.add 1 rfl, ?_⟩
  obtain ⟨i, hi, hz, hi1, hi2⟩ := infoU8
  have hkk : Keep (Bfp b B w) w w1 := hk1.mono fun _ _ e => .inl e
  obtain ⟨v', w3, hr, ho3, hg3, _⟩ := Lib.run_append_own_string (P := Tryz.prog) w1 B 148 9 148 5 i Tryz.underlying148 Tryz.underlying9 hi hz hi1 hi2 _ _ _ ho1 s (by unfold maxLen; omega) (by omega) (by have := hkk.size; omega)
  have hk3 := Keep.of_grown hg3
  obtain ⟨a', n', cp', rfl⟩ : ∃ a n cp, v' = .slice a n cp := by
    rcases ho3.2 with ⟨h1, h2⟩ | ⟨g, cap, cur, h1, _⟩
    · exact ⟨_, _, _, h1⟩
    · exact ⟨_, _, _, h1⟩
  refine ⟨w3, _, _, _, hr, ?_⟩
  have hb3 := hk3.blk hb1 fun e => ownsRow_ne ho1 hb1 (by decide) e
  refine stK_add hb3 (by simp) fun w4 hb4 hk4 => ⟨trivial, ⟨⟨_, _, .inr rfl, hb4, ?_⟩, hge⟩, ?_⟩
  · have := hk4.row ho3 fun g hg e => ownsRow_ne ho3 hb3 (by decide) (e ▸ hg)
    have e2 : (l ++ s.data.toList).length = l.length + s.size := by rw [List.length_append, Array.length_toList]; rfl
    rw [e2, Lib.byteCells_append, ← Lib.strCells_eq]
    exact this
  · refine (hkk.bfp (hk3.mono fun k _ hg => .inr ⟨(ho1.lt k hg).1, ?_⟩)).trans hk4 fun _ _ e => .inl e
    exact ownsRow_etype ho1 hg
end Go.Fw
