/- Part of a proof over the given program: a text of lemmas (conditions: none beyond each lemma as stated). -/
import Derived.Test.YtlnpfkmbielifaaGreatDoorStR
import Derived.Test.YtlnpfkmbielifaaGreatDoorStB
import Derived.Test.YtlnpfkmbielifaaGreatDoorTryzShelf
import Derived.Lib.RuneCount
set_option linter.unnecessarySimpa false
set_option linter.unusedSimpArgs false
set_option autoImplicit false
set_option linter.unusedVariables false
set_option maxRecDepth 100000
namespace Go.Fw
open Go.Proofs Go.RowKit

theorem Keep.of_below {w w' : World} (h : Below w.heap.size w w') : Keep No w w' := ⟨h.os, h.tape, h.output, h.size, fun k hk _ => h.block k hk⟩

/-- A range over a string, at a place. -/
def IterAt (w : World) (r : Nat) (s : ByteArray) (pos : Nat) : Prop := w.heap[r]? = some (.stringIter s pos)
theorem IterAt.lt {w : World} {r pos : Nat} {s : ByteArray} (h : IterAt w r s pos) : r < w.heap.size := (Array.getElem?_eq_some_iff.1 h).1
theorem IterAt.etype {w : World} {r pos : Nat} {s : ByteArray} (h : IterAt w r s pos) : Fw.etype w r = none := by
  unfold IterAt at h
  simp [Fw.etype, h]
theorem Keep.iter {fp : Nat → Prop} {w w' : World} {r pos : Nat} {s : ByteArray} (hk : Keep fp w w') (h : IterAt w r s pos) (hn : ¬ fp r) : IterAt w' r s pos := (hk.block r h.lt hn).trans h
theorem range_of {w : World} {s : ByteArray} {K : World → Option Addr → Prop} (h : ∀ r w', IterAt w' r s 0 → Keep No w w' → r = w.heap.size → K w' (some ⟨r, 0, none⟩)) :
    ∃ w' : World, ∃ p : Option Addr, (Instr.range 9 (.string s)).run Tryz.prog w = .ok (.pointer p) w' ∧ K w' p :=
  ⟨_, _, run_range_string w 9 s Tryz.underlying9, h _ _ (World.iter_heap w s 0) (Keep.fresh w _) rfl⟩
theorem nextSK_of {w : World} {r pos : Nat} {s : ByteArray} {Kd : World → Prop} {K : Int → Int → World → Prop} (h : IterAt w r s pos)
    (h1 : pos < s.size → ∀ w', IterAt w' r s (pos + (Utf8.decode s pos).2) → Keep (fun k => k = r) w w' → K pos (Utf8.decode s pos).1 w') (h2 : ¬ pos < s.size → Kd w) : nextSK (.pointer (some ⟨r, 0, none⟩)) w Kd K := by
  refine ⟨r, s, pos, ⟨rfl, h⟩, fun hp => h1 hp _ ?_ ?_, h2⟩
  · unfold IterAt
    simp [h.lt]
  · refine ⟨rfl, rfl, rfl, by simp, fun k hk hn => ?_⟩
    simp only
    rw [Array.getElem?_setIfInBounds_ne (fun e => hn e.symm)]

theorem runeCountFrom_step {s : ByteArray} {f pos : Nat} (hp : pos < s.size) (hf : s.size ≤ f + pos + 1) : Lib.runeCountFrom s (f + 1) pos = 1 + Lib.runeCountFrom s f (pos + (Utf8.decode s pos).2) := by
  show (if pos < s.size then _ else _) = _
  rw [if_pos hp]
theorem runeCountFrom_fuel (s : ByteArray) : ∀ (f g pos : Nat), s.size ≤ f + pos → s.size ≤ g + pos → Lib.runeCountFrom s f pos = Lib.runeCountFrom s g pos
  | 0, g, pos, hf, _ => by rw [Lib.runeCountFrom_end s 0 pos (by omega), Lib.runeCountFrom_end s g pos (by omega)]
  | f + 1, 0, pos, _, hg => by rw [Lib.runeCountFrom_end s 0 pos (by omega), Lib.runeCountFrom_end s (f + 1) pos (by omega)]
  | f + 1, g + 1, pos, hf, hg => by
    by_cases hp : pos < s.size
    · have := Lib.decode_width_pos s pos hp
      show (if pos < s.size then _ else _) = (if pos < s.size then _ else _)
      rw [if_pos hp, if_pos hp, runeCountFrom_fuel s f g _ (by omega) (by omega)]
    · rw [Lib.runeCountFrom_end s _ pos hp, Lib.runeCountFrom_end s _ pos hp]

/-- letters.Len: how many runes. -/
theorem C29 (s : ByteArray) (hs : s.size < 1000000000000000) (w : World) : Calls Tryz.prog 29 #[.string s] w fun e w' => e = .returned (.int .i64 (Lib.runeCount s)) ∧ Keep No w w' := by
  refine ret_mono (V29_sound s w (fun r w' => r = .int .i64 (Lib.runeCount s) ∧ Keep No w w') ?_) (by rintro _ _ ⟨rfl, h⟩; exact ⟨rfl, h⟩)
  unfold V29
  refine range_of fun r w1 hi hk hr => ?_
  refine ⟨fun n w' => 0 ≤ n ∧ ∃ pos, IterAt w' r s pos ∧ n ≤ pos ∧ n + Lib.runeCountFrom s s.size pos = Lib.runeCount s ∧ (n : Int) ≤ s.size ∧ Keep No w w', fun n _ => s.size - n.toNat, ⟨by omega, 0, hi, by omega, by simp [Lib.runeCount], by omega, hk⟩, ?_⟩
  rintro j n w2 ⟨hn0, pos, hi, hnp, hn, hns, hk⟩
  have hle := Lib.runeCountFrom_le s s.size pos
  have hle2 := Lib.runeCount_le s
  refine nextSK_of hi (fun hp w3 hi3 hk3 => ?_) fun hp => ?_
  · have hw := Lib.decode_width_pos s pos hp
    have hstep : Lib.runeCountFrom s s.size pos = 1 + Lib.runeCountFrom s s.size (pos + (Utf8.decode s pos).2) := by
      rw [runeCountFrom_fuel s s.size (s.size + 1) pos (by omega) (by omega)]
      show (if pos < s.size then _ else _) = _
      rw [if_pos hp]
    rw [wrap_i64 (by omega)]
    refine ⟨⟨by omega, _, hi3, by omega, by omega, by omega, hk.news hk3 (by rintro k rfl; omega)⟩, by simp only; omega⟩
  · have := Lib.runeCountFrom_end s s.size pos hp
    exact ⟨by congr 1; omega, hk⟩

/-- Builder.String. -/
theorem C70 {w : World} {b B : Nat} {l : List UInt8} (h : BufAt w b B l) (hB : B ≤ w.heap.size) :
    Calls Tryz.prog 70 #[.pointer (some ⟨b, 0, none⟩)] w fun e w' => e = .returned (.string ⟨l.toArray⟩) ∧ Keep (Bfp b B w) w w' := by
  obtain ⟨⟨p, v, h1, h2, h3⟩, hge⟩ := h
  have hat : Lib.BuilderAtF 164 5 B b (.pointer p) (Lib.byteCells l) w := ⟨hge, v, h2, World.ownsRowF_of (by rw [Lib.byteCells_length]; exact h3), ownsRow_ne h3 h2 (by decide)⟩
  refine (Tryz.Builder_String_any_k B b l w ?_ hB).mono ?_
  · rcases h1 with rfl | rfl
    · exact .inl hat
    · exact .inr hat
  · rintro _ w' ⟨rfl, _, hb, ho⟩
    refine ⟨rfl, hb.os, hb.tape, hb.output, hb.size, fun k hk hn => ?_⟩
    by_cases hkB : k < B
    · exact hb.block k hkB
    · cases hc : w.heap[k]? with
      | none => simp at hc; omega
      | some o =>
        refine ho k o hc (fun e => hn (.inl (by simpa using e))) fun c fz e => hn (.inr ⟨by omega, ?_⟩)
        subst e
        unfold etype
        rw [hc]
end Go.Fw
