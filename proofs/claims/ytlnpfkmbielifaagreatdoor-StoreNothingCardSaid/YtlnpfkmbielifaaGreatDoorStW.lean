/- Part of a proof over the given program: a text of lemmas (conditions: none beyond each lemma as stated). -/
import Derived.Test.YtlnpfkmbielifaaGreatDoorStV
set_option linter.unnecessarySimpa false
set_option linter.unusedSimpArgs false
set_option autoImplicit false
set_option linter.unusedVariables false
namespace Go.Fw
open Go.Proofs Go.RowKit

section
variable {w : World} {s b B : Nat} {S : St} {t : Tm} {rest : List Value}

theorem C24_str (h : StAt w s B S) (hb : Blk w b 77 (.pointer (some ⟨s, 0, none⟩) :: rest)) (hl : S.vals.length < 100000000000) (hB : B ≤ w.heap.size) (hk : t.kind = 4) :
    Calls Tryz.prog 24 #[.pointer (some ⟨b, 0, none⟩), .agg t.cells.toArray] w fun e w' => e = .returned (.int .i64 S.vals.length) ∧ ∃ d, StAt w' s B { S with due := d, vals := S.vals ++ [.iface 96 (.agg #[.string t.text])] } ∧ Keep (Ty B storeTy w) w w' := by
  refine ret_mono (V24_sound _ t.kind t.b t.neg t.ma t.ml t.mc t.text t.ka t.kl t.kc t.hash t.same w (fun r w' => r = .int .i64 S.vals.length ∧ ∃ d, StAt w' s B { S with due := d, vals := S.vals ++ [.iface 96 (.agg #[.string t.text])] } ∧ Keep (Ty B storeTy w) w w') ?_) (by rintro _ _ ⟨rfl, h⟩; exact ⟨rfl, h⟩)
  unfold V24
  refine newK_of fun c w1 hs hc hk1 => ⟨_, hc.add 0 rfl, bsel_neg (by simp [hk]) (bsel_neg (by simp [hk]) (bsel_neg (by simp [hk]) (bsel_pos (by simp [hk]) ?_)))⟩
  have hk1' := hk1.no (Keep.drawn w1)
  rw [nilK_some]
  refine ⟨_, (hk1'.nblk hb).add 0 rfl, _, hc.drew.add 4 rfl, (C51 (h.no hk1') hl (by have := hk1'.size; omega)).mono ?_⟩
  rintro _ w2 ⟨rfl, d, h2, hk2⟩
  exact ⟨_, rfl, rfl, d, h2, (Keep.of_no hk1').ty hk2⟩

theorem C24_row (h : StAt w s B S) (hb : Blk w b 77 (.pointer (some ⟨s, 0, none⟩) :: rest)) (hl : S.vals.length < 100000000000) (hB : B ≤ w.heap.size) (hk : t.kind = 5 ∨ t.kind = 6) (hkl : t.kl < 1000000000000) (h1 : 0 ≤ S.last ∧ S.last < 1000000000000) (h2 : -1000000000000 < S.live ∧ S.live < 1000000000000) :
    Calls Tryz.prog 24 #[.pointer (some ⟨b, 0, none⟩), .agg t.cells.toArray] w fun e w' => e = .returned (.int .i64 S.vals.length) ∧ ∃ d r g, w.heap.size ≤ r ∧ w.heap.size ≤ g ∧ Blk w' r 86 [.int .i64 (S.last + 1), .slice (some ⟨g, 0, none⟩) t.kl t.kl, .int .i64 t.kind] ∧ Blk w' g 3 (List.replicate t.kl (.int .i64 0)) ∧
      StAt w' s B { S with due := d, last := S.last + 1, live := S.live + 1, vals := S.vals ++ [.iface 80 (.pointer (some ⟨r, 0, none⟩))] } ∧ Keep (Ty B storeTy w) w w' := by
  refine ret_mono (V24_sound _ t.kind t.b t.neg t.ma t.ml t.mc t.text t.ka t.kl t.kc t.hash t.same w (fun r w' => r = .int .i64 S.vals.length ∧ ∃ d r g, w.heap.size ≤ r ∧ w.heap.size ≤ g ∧ Blk w' r 86 [.int .i64 (S.last + 1), .slice (some ⟨g, 0, none⟩) t.kl t.kl, .int .i64 t.kind] ∧ Blk w' g 3 (List.replicate t.kl (.int .i64 0)) ∧
      StAt w' s B { S with due := d, last := S.last + 1, live := S.live + 1, vals := S.vals ++ [.iface 80 (.pointer (some ⟨r, 0, none⟩))] } ∧ Keep (Ty B storeTy w) w w') ?_) (by rintro _ _ ⟨rfl, h⟩; exact ⟨rfl, h⟩)
  unfold V24
  refine newK_of fun c w1 hs hc hk1 => ⟨_, hc.add 0 rfl, bsel_neg (by simp; omega) (bsel_neg (by simp; omega) (bsel_neg (by simp; omega) (bsel_neg (by simp; omega) ?_)))⟩
  have hgo : V24J4 w (fun r w' => r = .int .i64 S.vals.length ∧ ∃ d r g, w.heap.size ≤ r ∧ w.heap.size ≤ g ∧ Blk w' r 86 [.int .i64 (S.last + 1), .slice (some ⟨g, 0, none⟩) t.kl t.kl, .int .i64 t.kind] ∧ Blk w' g 3 (List.replicate t.kl (.int .i64 0)) ∧
      StAt w' s B { S with due := d, last := S.last + 1, live := S.live + 1, vals := S.vals ++ [.iface 80 (.pointer (some ⟨r, 0, none⟩))] } ∧ Keep (Ty B storeTy w) w w') (some ⟨b, 0, none⟩) ⟨c, 0, none⟩ t.kind true w1 := by
    have hk1' := hk1.no (Keep.drawn w1)
    unfold V24J4
    refine bsel_pos rfl ?_
    rw [nilK_some]
    obtain ⟨i3, hi3, hz3, hs3, hb3⟩ := rowInts.info
    have hr := run_make (P := Tryz.prog) w1.drew 30 3 i3 _ rowInts.und hi3 hz3 .i64 .i64 t.kl t.kl (by omega) (Int.le_refl _) (by rw [hb3]; omega) (by omega)
    refine ⟨_, (hk1'.nblk hb).add 0 rfl, _, hc.drew.add 0 rfl, _, _, _, hc.drew.add 5 rfl, _, _, _, _, hr, ?_⟩
    have hk2 := Keep.fresh w1.drew (.cells (madeCells (Value.int .i64 0).cells ((t.kl : Int).toNat * i3.size)) 3)
    have hg := Blk.new w1.drew (madeCells (Value.int .i64 0).cells ((t.kl : Int).toNat * i3.size)) 3
    have e : (madeCells (Value.int .i64 0).cells ((t.kl : Int).toNat * i3.size)).toList = List.replicate t.kl (.int .i64 0) := by
      rw [hs3, Nat.mul_one, Int.toNat_natCast]
      exact toList_madeCells_one _ _
    rw [e] at hg
    have hk12 := hk1'.no hk2
    refine ⟨(hk2.nblk hc.drew).add 0 rfl, (hk12.nblk hb).add 0 rfl, (C52 (h.no hk12) hl (by have := hk12.size; omega) h1 h2).mono ?_⟩
    rintro _ w3 ⟨rfl, d, r, hr1, hr2, h3, hk3⟩
    exact ⟨_, rfl, rfl, d, r, w1.drew.heap.size, by have := hk12.size; omega, hk1'.size, by simpa using hr2, hk3.tblk hg (by decide), h3, (Keep.of_no hk12).ty hk3⟩
  rcases hk with hk | hk
  · exact bsel_pos (by simp [hk]) hgo
  · exact bsel_neg (by simp [hk]) (by simpa [hk] using hgo)
end
end Go.Fw
