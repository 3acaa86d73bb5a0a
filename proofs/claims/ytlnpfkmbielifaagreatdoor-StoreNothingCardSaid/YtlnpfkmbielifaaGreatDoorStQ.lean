/- Part of a proof over the given program: a text of lemmas (conditions: none beyond each lemma as stated). -/
import Derived.Test.YtlnpfkmbielifaaGreatDoorStP
set_option linter.unnecessarySimpa false
set_option linter.unusedSimpArgs false
set_option autoImplicit false
set_option linter.unusedVariables false
namespace Go.Fw
open Go.Proofs Go.RowKit

theorem wrap_wf (y : Int) : (Lit.int .i64 (IntKind.wrap .i64 y)).wf = true := by
  simp [Lit.wf, IntKind.wrap, IntKind.min, IntKind.max, IntKind.signed, IntKind.bits] <;> (try split) <;> omega
theorem key3 {n : Int} (h : (Lit.int .i64 n).wf = true) : keyOf Tryz.prog 3 (.int .i64 n) = some (.int .i64 n) := by
  simp [keyOf, Tryz.underlying3, mapKey, h]
theorem IMap.lookup {w : World} {m n : Nat} (h : IMap w m n) {k : Int} (hk : (Lit.int .i64 k).wf = true) : ∃ c, (Instr.lookup 122 (.map (some m)) (.int .i64 k) false).run Tryz.prog w = .ok (.int .i64 c) w := by
  obtain ⟨D, h⟩ := h
  obtain ⟨c, hr, _⟩ := h.lookup_int (Go.Maps.int_keyed Tryz.underlying3) Tryz.underlying122 Tryz.underlying3 (Tryz.zeroValue3 _) (key3 hk)
  exact ⟨c, hr⟩

theorem C110 {p B : Nat} {w : World} (h : PlanAt w p B) : Calls Tryz.prog 110 #[.pointer (some ⟨p, 0, none⟩)] w fun e w' => ∃ b, e = .returned (.bool b) ∧ PlanAt w' p B ∧ Keep (fun k => k = p) w w' := by
  refine ret_mono (V110_sound _ w (fun r w' => ∃ b, r = .bool b ∧ PlanAt w' p B ∧ Keep (fun k => k = p) w w') ?_) (by rintro _ _ ⟨b, rfl, h⟩; exact ⟨b, rfl, h⟩)
  obtain ⟨⟨m, n, c, hb, hm, hB⟩, hp⟩ := h
  unfold V110
  refine bsel_neg rfl ?_
  simp only [nilK_some]
  refine ⟨_, hb.add 1 rfl, stK_add hb (by simp) fun w1 hb1 hk1 => ?_⟩
  have hm1 : IMap w1 m n := hk1.imap hm (ne_of_etype hm.etype hb.etype (by simp))
  have hd := Keep.drawn w1
  refine ⟨_, hb1.drew.add 0 rfl, _, hb1.drew.add 1 rfl, ?_⟩
  obtain ⟨c1, hr⟩ := (hd.imap hm1 id).lookup (wrap_wf (c + 1))
  exact ⟨_, _, hr, _, rfl, ⟨⟨m, n, _, hb1.drew, hd.imap hm1 id, hB⟩, hp⟩, hk1.no hd⟩
theorem StAt.lt {w : World} {s B : Nat} {S : St} (h : StAt w s B S) : s < w.heap.size := by
  exact h.blk.lt
theorem StAt.etype {w : World} {s B : Nat} {S : St} (h : StAt w s B S) : Fw.etype w s = some 67 := by
  exact h.blk.etype
theorem PlanAt.etype {w : World} {p B : Nat} (h : PlanAt w p B) : Fw.etype w p = some 133 := by
  obtain ⟨⟨m, n, c, h1, _⟩, _⟩ := h
  exact h1.etype

theorem ty_one {B k : Nat} {e : TypeId} {ts : List TypeId} {w : World} (hB : B ≤ k) (he : Fw.etype w k = some e) (ht : e ∈ ts) : Ty B ts w k := ⟨hB, e, he, ht⟩

/-- A field of the Store's own. -/
theorem StAt.set {w w' : World} {s B : Nat} {S S' : St} (h : StAt w s B S) (hk : Keep (fun k => k = s) w w')
    (h1' : Blk w' s 67 S'.cells) (hv : S'.vals = S.vals) (ha : S'.a = S.a) (hp : S'.p = S.p) : StAt w' s B S' := by
  obtain ⟨h1, h2, h3, hB⟩ := h
  refine ⟨h1', ?_, ?_, hB⟩
  · rw [hv, ha]
    refine h2.keep hk (fun k _ he hks => ?_) fun k _ he hks => ?_
    · subst hks; rw [h1.etype] at he; cases he
    · subst hks; rw [h1.etype] at he; rcases he with he | he <;> cases he
  · rw [hp]
    refine h3.keep hk fun k _ he hks => ?_
    subst hks; rw [h1.etype] at he; rcases he with he | he <;> cases he

theorem C86 {s B : Nat} {S : St} {w : World} (h : StAt w s B S) : Calls Tryz.prog 86 #[.pointer (some ⟨s, 0, none⟩)] w fun e w' => e = .returned (.tuple #[]) ∧ ∃ d, StAt w' s B { S with due := d } ∧ Keep (Ty B [67, 133] w) w w' := by
  refine ret_mono (V86_sound _ w (fun r w' => r = .tuple #[] ∧ ∃ d, StAt w' s B { S with due := d } ∧ Keep (Ty B [67, 133] w) w w') ?_) (by rintro _ _ ⟨rfl, h⟩; exact ⟨rfl, h⟩)
  obtain ⟨hb, hsl, hp, hge⟩ := h
  unfold V86
  rw [nilK_some]
  refine ⟨_, hb.add 10 rfl, (C110 hp).mono ?_⟩
  rintro _ w1 ⟨t, rfl, hp1, hk1⟩
  have hb1 := hk1.blk hb (ne_of_etype hb.etype hp.etype (by decide))
  have hsl1 := hsl.keep hk1 (fun k _ he hk => by subst hk; rw [hp.etype] at he; cases he) fun k _ he hk => by subst hk; rw [hp.etype] at he; rcases he with he | he <;> cases he
  have hkk : Keep (Ty B [67, 133] w) w w1 := hk1.mono fun k _ e => by subst e; exact ty_one hp.ge hp.etype (by decide)
  refine ⟨_, rfl, bsel_split (fun ht => ?_) fun ht => ?_⟩
  · rw [nilK_some]
    refine stK_add hb1 (by simp [St.cells]) fun w2 hb2 hk2 => ⟨rfl, true, StAt.set (S := S) ⟨hb1, hsl1, hp1, hge⟩ hk2 hb2 rfl rfl rfl, ?_⟩
    exact hkk.trans hk2 fun k _ e => by subst e; exact ty_one hge hb.etype (by decide)
  · exact ⟨rfl, S.due, ⟨hb1, hsl1, hp1, hge⟩, hkk⟩

theorem C88 {s B : Nat} {S : St} {w : World} (h : StAt w s B S) (h1 : 0 ≤ S.last ∧ S.last < 1000000000000) (h2 : -1000000000000 < S.live ∧ S.live < 1000000000000) :
    Calls Tryz.prog 88 #[.pointer (some ⟨s, 0, none⟩)] w fun e w' => e = .returned (.agg #[.int .i64 (S.last + 1)]) ∧ ∃ d, StAt w' s B { S with due := d, last := S.last + 1, live := S.live + 1 } ∧ Keep (Ty B [67, 133] w) w w' := by
  refine ret_mono (V88_sound _ w (fun r w' => r = .agg #[.int .i64 (S.last + 1)] ∧ ∃ d, StAt w' s B { S with due := d, last := S.last + 1, live := S.live + 1 } ∧ Keep (Ty B [67, 133] w) w w') ?_) (by rintro _ _ ⟨rfl, h⟩; exact ⟨rfl, h⟩)
  have hlt := h.lt
  unfold V88
  refine newK_of fun b w1 hs1 hb1 hk1 => (C86 (h.no hk1)).mono ?_
  rintro _ w2 ⟨rfl, d, h', hk2⟩
  have hb2 := hk2.tblk hb1 (by decide)
  have hkk : Keep (Ty B [67, 133] w) w w2 := (Keep.of_no hk1).ty hk2
  obtain ⟨hb, hsl, hp, hge⟩ := h'
  refine ⟨_, rfl, ?_⟩
  simp only [nilK_some]
  refine ⟨_, hb.add 7 rfl, stK_add hb (by simp [St.cells]) fun w3 hb3 hk3 => ?_⟩
  have h3 := StAt.set (S := { S with due := d }) (S' := { S with due := d, last := S.last + 1 }) ⟨hb, hsl, hp, hge⟩ hk3 (by rw [wrap_i64 (by simp only; omega)] at hb3; exact hb3) rfl rfl rfl
  have hb2 := hk3.blk hb2 (by omega)
  have hs67 : Ty B [67, 133] w s := ty_one hge h.etype (by decide)
  replace hkk := hkk.trans hk3 fun k _ e => by subst e; exact hs67
  obtain ⟨hb, hsl, hp, hge⟩ := h3
  refine ⟨_, hb.add 8 rfl, stK_add hb (by simp [St.cells]) fun w4 hb4 hk4 => ?_⟩
  have h4 := StAt.set (S := { S with due := d, last := S.last + 1 }) (S' := { S with due := d, last := S.last + 1, live := S.live + 1 }) ⟨hb, hsl, hp, hge⟩ hk4 (by rw [wrap_i64 (by simp only; omega)] at hb4; exact hb4) rfl rfl rfl
  have hb2 := hk4.blk hb2 (by omega)
  replace hkk := hkk.trans hk4 fun k _ e => by subst e; exact hs67
  have h4' := h4
  obtain ⟨hb, hsl, hp, hge⟩ := h4
  refine ⟨_, hb.add 7 rfl, stK_add hb2 (by simp) fun w5 hb5 hk5 => ?_⟩
  refine ⟨_, hb5.cells0, rfl, d, ?_, hkk.news hk5 (by rintro k rfl; omega)⟩
  exact h4'.keep hk5 fun k _ e => by subst e; exact ⟨84, hb2.etype, by decide⟩

/-- The Store's row of values grows. -/
theorem StAt.add {s B : Nat} {S : St} {w : World} {x : Value} (h : StAt w s B S) (hx : plainV x = true) (hl : S.vals.length < 100000000000) (hB : B ≤ w.heap.size) :
    Calls Tryz.prog 22 #[.pointer (some ⟨S.a, 0, none⟩), x] w fun e w' => e = .returned (.int .i64 S.vals.length) ∧ StAt w' s B { S with vals := S.vals ++ [x] } ∧ Keep (Ty B [63, 4, 131] w) w w' := by
  obtain ⟨hb, hsl, hp, hge⟩ := h
  refine (C22 (fp := Ty B [63, 4, 131] w) hsl hx hl hB (ty_one hsl.ge hsl.etype (by decide)) fun k h1 _ h3 => ?_).mono ?_
  · rcases h3 with h3 | h3
    · exact ty_one h1 h3 (by decide)
    · exact ty_one h1 h3 (by decide)
  · rintro _ w' ⟨rfl, h1, hk⟩
    refine ⟨rfl, ⟨hk.tblk hb (by decide), h1, hp.keep hk fun k _ he => ?_, hge⟩, hk⟩
    rintro ⟨_, e, h2, h3⟩
    rw [h2] at he
    rcases he with he | he <;> cases he <;> exact absurd h3 (by decide)

theorem C51 {s B : Nat} {S : St} {w : World} {t : ByteArray} (h : StAt w s B S) (hl : S.vals.length < 100000000000) (hB : B ≤ w.heap.size) :
    Calls Tryz.prog 51 #[.pointer (some ⟨s, 0, none⟩), .string t] w fun e w' => e = .returned (.int .i64 S.vals.length) ∧ ∃ d, StAt w' s B { S with due := d, vals := S.vals ++ [.iface 96 (.agg #[.string t])] } ∧ Keep (Ty B storeTy w) w w' := by
  refine ret_mono (V51_sound _ t w (fun r w' => r = .int .i64 S.vals.length ∧ ∃ d, StAt w' s B { S with due := d, vals := S.vals ++ [.iface 96 (.agg #[.string t])] } ∧ Keep (Ty B storeTy w) w w') ?_) (by rintro _ _ ⟨rfl, h⟩; exact ⟨rfl, h⟩)
  unfold V51
  refine (C86 h).mono ?_
  rintro _ w1 ⟨rfl, d, h1, hk1⟩
  obtain ⟨hb, hsl, hp, hge⟩ := h1
  refine ⟨_, rfl, ?_⟩
  rw [nilK_some]
  refine ⟨_, hb.add 6 rfl, (StAt.add (S := { S with due := d }) (x := .iface 96 (.agg #[.string t])) ⟨hb, hsl, hp, hge⟩ rfl hl (by have := hk1.size; omega)).mono ?_⟩
  rintro _ w2 ⟨rfl, h2, hk2⟩
  exact ⟨_, rfl, rfl, d, h2, (hk1.ty_mono (Nat.le_refl _) (by decide)).ty (hk2.ty_mono (Nat.le_refl _) (by decide))⟩

theorem C52 {s B : Nat} {S : St} {w : World} {kind : Int} {ra : Option Addr} {rl rc : Nat} (h : StAt w s B S) (hl : S.vals.length < 100000000000) (hB : B ≤ w.heap.size) (h1 : 0 ≤ S.last ∧ S.last < 1000000000000) (h2 : -1000000000000 < S.live ∧ S.live < 1000000000000) :
    Calls Tryz.prog 52 #[.pointer (some ⟨s, 0, none⟩), .int .i64 kind, .slice ra rl rc] w fun e w' => e = .returned (.int .i64 S.vals.length) ∧ ∃ d r, w.heap.size ≤ r ∧ Blk w' r 86 [.int .i64 (S.last + 1), .slice ra rl rc, .int .i64 kind] ∧
      StAt w' s B { S with due := d, last := S.last + 1, live := S.live + 1, vals := S.vals ++ [.iface 80 (.pointer (some ⟨r, 0, none⟩))] } ∧ Keep (Ty B storeTy w) w w' := by
  refine ret_mono (V52_sound _ kind ra rl rc w (fun r w' => r = .int .i64 S.vals.length ∧ ∃ d r, w.heap.size ≤ r ∧ Blk w' r 86 [.int .i64 (S.last + 1), .slice ra rl rc, .int .i64 kind] ∧
      StAt w' s B { S with due := d, last := S.last + 1, live := S.live + 1, vals := S.vals ++ [.iface 80 (.pointer (some ⟨r, 0, none⟩))] } ∧ Keep (Ty B storeTy w) w w') ?_) (by rintro _ _ ⟨rfl, h⟩; exact ⟨rfl, h⟩)
  unfold V52
  have hd := Keep.drawn w
  have h' := h.no hd
  have h'' := h'
  obtain ⟨hb, hsl, hp, hge⟩ := h''
  simp only [nilK_some]
  refine ⟨_, hb.add 6 rfl, (C88 h' h1 h2).mono ?_⟩
  rintro _ w1 ⟨rfl, d, h3, hk1⟩
  have hb1 := h3.blk
  refine ⟨_, rfl, hb1.add 6 rfl, newK_of fun r w2 hs2 hbr hk2 => ⟨(hk2.nblk hb1).add 6 rfl, ?_⟩⟩
  have hk02 : Keep (Ty B storeTy w) w w2 := ((Keep.of_no hd).ty (hk1.ty_mono (Nat.le_refl _) (by decide))).no hk2
  refine (StAt.add (x := .iface 80 (.pointer (some ⟨r, 0, none⟩))) (S := { S with due := d, last := S.last + 1, live := S.live + 1 }) (h3.no hk2) rfl hl (by have := hk02.size; omega)).mono ?_
  rintro _ w3 ⟨rfl, h4, hk3⟩
  refine ⟨_, rfl, rfl, d, r, by have := hk1.size; simp at this; omega, hk3.tblk hbr (by decide), h4, hk02.ty (hk3.ty_mono (Nat.le_refl _) (by decide))⟩
end Go.Fw
