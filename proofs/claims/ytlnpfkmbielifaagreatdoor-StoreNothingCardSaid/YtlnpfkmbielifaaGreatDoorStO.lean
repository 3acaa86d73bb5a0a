/- Part of a proof over the given program: a text of lemmas (conditions: none beyond each lemma as stated). -/
import Derived.Test.YtlnpfkmbielifaaGreatDoorStN
import Derived.Test.YtlnpfkmbielifaaGreatDoorFwL
set_option linter.unnecessarySimpa false
set_option linter.unusedSimpArgs false
set_option autoImplicit false
set_option linter.unusedVariables false
namespace Go.Fw
open Go.Proofs Go.RowKit

/-- Types that a row's append wants to know. -/
structure RowT (t e bytes : Nat) (z : Value) : Prop where
  und : Tryz.prog.underlying t = some (.slice e)
  info : ∃ i, Tryz.prog.info? e = some i ∧ i.zero = some z ∧ i.size = 1 ∧ i.bytes = bytes
  one : z.cells.size = 1
  pos : 0 < bytes
theorem info_of {e bytes : Nat} {z : Value} (h : (Tryz.prog.info? e).map (fun i => (i.zero, i.size, i.bytes)) = some (some z, 1, bytes)) : ∃ i, Tryz.prog.info? e = some i ∧ i.zero = some z ∧ i.size = 1 ∧ i.bytes = bytes := by
  obtain ⟨i, hi, hj⟩ := Option.map_eq_some_iff.1 h
  simp at hj
  exact ⟨i, hi, hj⟩
theorem rowVals : RowT 73 63 16 .nilIface := ⟨by kernel_rfl, info_of (by kernel_rfl), rfl, by decide⟩
theorem rowBools : RowT 128 4 1 (.bool false) := ⟨by kernel_rfl, info_of (by kernel_rfl), rfl, by decide⟩
theorem rowInts : RowT 30 3 8 (.int .i64 0) := ⟨by kernel_rfl, info_of (by kernel_rfl), rfl, by decide⟩

theorem appendRow {t e bytes : Nat} {z : Value} (T : RowT t e bytes z)
    {w : World} {base : Nat} {v : Value} {n : Nat} {xs : List Value} (hown : w.ownsRow base e 1 v n xs) {b : Nat} {e' : TypeId} {x : Value} (hb : Blk w b e' [x]) (hx : x.oneCell' = true)
    (hbytes : (n + 1) * bytes ≤ 140737488355328) (hbase : base ≤ w.heap.size) {K : World → Option Addr → Nat → Nat → Prop}
    (h : ∀ g cap w', w'.ownsRow base e 1 (.slice (some ⟨g, 0, none⟩) (n + 1) cap) (n + 1) (xs ++ [x]) → Keep (fun k => v.ownBlock = some k) w w' → (v.ownBlock = some g ∨ g = w.heap.size) → K w' (some ⟨g, 0, none⟩) (n + 1) cap) :
    ∃ w' : World, ∃ a : Option Addr, ∃ l : Nat, ∃ c : Nat, (vcEff.bltV .append #[t, t] t #[v, .slice (some ⟨b, 0, none⟩) 1 1]).run Tryz.prog w = .ok (.slice a l c) w' ∧ K w' a l c := by
  obtain ⟨i, hi, hz, h1, h2⟩ := T.info
  exact append_of T.und hi hz h1 h2 T.one hown hb hx hbytes T.pos hbase h

theorem C8 (p q : Int) (w : World) : Calls Tryz.prog 8 #[.int .i64 p, .int .i64 q] w fun e w' => e = .returned (.agg #[.int .i64 0, .int .i64 p, .int .i64 q, .slice none 0 0, .slice none 0 0]) ∧ Keep No w w' := by
  refine ret_mono (V8_sound p q w (fun r w' => r = .agg #[.int .i64 0, .int .i64 p, .int .i64 q, .slice none 0 0, .slice none 0 0] ∧ Keep No w w') ?_) (by rintro _ _ ⟨rfl, h⟩; exact ⟨rfl, h⟩)
  unfold V8
  refine newK_of fun b w1 hs hb hk => ?_
  refine stK_add hb (by simp) fun w2 hb hk2 => ?_
  replace hk := hk.news hk2 (by rintro k rfl; omega)
  refine stK_add hb (by simp) fun w3 hb hk2 => ?_
  replace hk := hk.news hk2 (by rintro k rfl; omega)
  refine stK_add hb (by simp) fun w4 hb hk2 => ?_
  replace hk := hk.news hk2 (by rintro k rfl; omega)
  refine stK_add hb (by simp) fun w5 hb hk2 => ?_
  replace hk := hk.news hk2 (by rintro k rfl; omega)
  refine stK_add hb (by simp) fun w6 hb hk2 => ?_
  replace hk := hk.news hk2 (by rintro k rfl; omega)
  exact ⟨_, _, _, _, _, _, _, _, _, hb.cells0, rfl, hk⟩

theorem C20 (w : World) : Calls Tryz.prog 20 #[] w fun e w' => ∃ a, e = .returned (.pointer (some ⟨a, 0, none⟩)) ∧ w.heap.size ≤ a ∧ Blk w' a 131 [.slice none 0 0, .slice none 0 0, .slice none 0 0] ∧ Keep No w w' := by
  refine ret_mono (V20_sound w (fun r w' => ∃ a, r = .pointer (some ⟨a, 0, none⟩) ∧ w.heap.size ≤ a ∧ Blk w' a 131 [.slice none 0 0, .slice none 0 0, .slice none 0 0] ∧ Keep No w w') ?_) (by rintro _ _ ⟨a, rfl, h⟩; exact ⟨a, rfl, h⟩)
  unfold V20
  exact newK_of fun b w1 hs hb hk => ⟨b, rfl, by omega, hb, hk⟩

/-- A map from ints to ints: the plan's. -/
def IMap (w : World) (m : Nat) (n : Nat) : Prop := ∃ D : DataW Unit, w.ownsMap Tryz.prog 3 (plainElem Tryz.prog 3) m n D
theorem Keep.imap {fp : Nat → Prop} {w w' : World} {m n : Nat} (hk : Keep fp w w') (h : IMap w m n) (hn : ¬ fp m) : IMap w' m n := by
  obtain ⟨D, es, clock, hb, hr⟩ := h
  exact ⟨D, es, clock, (hk.block m (Array.getElem?_eq_some_iff.1 hb).1 hn).trans hb, hr⟩
theorem IMap.etype {w : World} {m n : Nat} (h : IMap w m n) : Fw.etype w m = none := by
  obtain ⟨D, es, clock, hb, hr⟩ := h
  unfold Fw.etype; rw [hb]
theorem Keep.timap {B : Nat} {ts : List TypeId} {w w' : World} {m n : Nat} (hk : Keep (Ty B ts w) w w') (h : IMap w m n) : IMap w' m n :=
  hk.imap h fun ⟨_, e, he, _⟩ => by rw [h.etype] at he; cases he

structure PlanAt (w : World) (p : Nat) (B : Nat) : Prop where
  ex : ∃ m n c, Blk w p 133 [.map (some m), .int .i64 c] ∧ IMap w m n ∧ B ≤ m
  ge : B ≤ p

theorem C21_nil (a : Option Addr) (c : Nat) (w : World) : Calls Tryz.prog 21 #[.slice a 0 c] w fun e w' => ∃ p, e = .returned (.pointer (some ⟨p, 0, none⟩)) ∧ PlanAt w' p w.heap.size ∧ Keep No w w' := by
  refine ret_mono (V21_sound a 0 c w (fun r w' => ∃ p, r = .pointer (some ⟨p, 0, none⟩) ∧ PlanAt w' p w.heap.size ∧ Keep No w w') ?_) (by rintro _ _ ⟨a, rfl, h⟩; exact ⟨a, rfl, h⟩)
  unfold V21
  refine ⟨_, _, run_makeMap 122 w, ?_⟩
  refine newK_of fun b w1 hs hb hk => ?_
  refine ⟨fun i w' => i = 0 ∧ w' = w1, fun _ _ => 0, ⟨rfl, rfl⟩, ?_⟩
  rintro j i w2 ⟨rfl, rfl⟩
  refine bsel_neg rfl ⟨b, rfl, ⟨⟨w.heap.size, 0, 0, hb, ?_, Nat.le_refl _⟩, by simp at hs; omega⟩, ?_⟩
  · exact hk.imap ⟨_, World.ownsMap_made w Tryz.prog 3 _⟩ id
  · exact (Keep.fresh w _).no hk
/-- The slots: a row of values, a row of trues (the rows' blocks from R on). -/
structure SlotsAt (w : World) (a : Nat) (B R : Nat) (vals : List Value) : Prop where
  ex : ∃ lv tv fc, Blk w a 131 [lv, tv, .slice none 0 fc] ∧ w.ownsRow R 63 1 lv vals.length vals ∧ w.ownsRow R 4 1 tv vals.length (List.replicate vals.length (.bool true)) ∧ fc = 0
  ge : B ≤ a
  len : vals.length < 1000000000000
theorem SlotsAt.keep {w w' : World} {fp : Nat → Prop} {a B R : Nat} {vals : List Value} (h : SlotsAt w a B R vals) (hk : Keep fp w w') (hn : ∀ k, B ≤ k → Fw.etype w k = some 131 → ¬ fp k) (hn2 : ∀ k, R ≤ k → (Fw.etype w k = some 63 ∨ Fw.etype w k = some 4) → ¬ fp k) : SlotsAt w' a B R vals := by
  obtain ⟨⟨lv, tv, fc, h1, h2, h3, h4⟩, hge, hlen⟩ := h
  exact ⟨⟨lv, tv, fc, hk.blk h1 (hn _ hge (by simp [h1.etype])), hk.row h2 fun g hg => hn2 g (h2.lt g hg).1 (by simp [ownsRow_etype h2 hg]), hk.row h3 fun g hg => hn2 g (h3.lt g hg).1 (by simp [ownsRow_etype h3 hg]), h4⟩, hge, hlen⟩
theorem SlotsAt.etype {w : World} {a B R : Nat} {vals : List Value} (h : SlotsAt w a B R vals) : Fw.etype w a = some 131 := by
  obtain ⟨⟨lv, tv, fc, h1, h2, h3, h4⟩, hge, hlen⟩ := h
  exact h1.etype
theorem SlotsAt.no {w w' : World} {a B R : Nat} {vals : List Value} (h : SlotsAt w a B R vals) (hk : Keep No w w') : SlotsAt w' a B R vals := h.keep hk (fun _ _ _ => id) fun _ _ _ => id
theorem SlotsAt.mono {w : World} {a B R B' R' : Nat} {vals : List Value} (h : SlotsAt w a B R vals) (hB : B' ≤ B) (hR : R' ≤ R) : SlotsAt w a B' R' vals := by
  obtain ⟨⟨lv, tv, fc, h1, h2, h3, h4⟩, hge, hlen⟩ := h
  exact ⟨⟨lv, tv, fc, h1, ownsRow_mono h2 hR, ownsRow_mono h3 hR, h4⟩, by omega, hlen⟩

theorem oneCell_of {x : Value} (h : plainV x = true) : x.oneCell' = true := by cases x <;> first | rfl | cases h
theorem plK_of {x : Value} {K : Prop} (h : plainV x = true) (hk : K) : plK x K := by cases x <;> first | exact hk | cases h


theorem ownsRow_ne2 {w : World} {base base' e e' size size' n n' : Nat} {v v' : Value} {xs xs' : List Value} (h : w.ownsRow base e size v n xs) (h' : w.ownsRow base' e' size' v' n' xs') (he : e ≠ e') : ∀ g, v.ownBlock = some g → v'.ownBlock ≠ some g := fun g hg hg' => by
  have h1 := ownsRow_etype h hg
  rw [ownsRow_etype h' hg'] at h1
  cases h1
  exact he rfl

/-- One of a table's rows grows by one. -/
theorem grow_of {t e bytes : Nat} {z : Value} (T : RowT t e bytes z) {W w : World} {B : Nat} {fp : Nat → Prop} {v : Value} {n : Nat} {xs : List Value} {b : Nat} {x : Value}
    (hW : Keep fp W w) (hown : w.ownsRow B e 1 v n xs) (hb : Blk w b e [x]) (hx : x.oneCell' = true) (hbytes : (n + 1) * bytes ≤ 140737488355328) (hbase : B ≤ w.heap.size) (he : ∀ k, k < W.heap.size → v.ownBlock = some k → fp k) {K : World → Option Addr → Nat → Nat → Prop}
    (h : ∀ g cap w', Keep fp W w' → w'.ownsRow B e 1 (.slice (some ⟨g, 0, none⟩) (n + 1) cap) (n + 1) (xs ++ [x]) → (∀ b' e' cs, e ≠ e' → Blk w b' e' cs → Blk w' b' e' cs) →
      (∀ e' v' n' xs', e ≠ e' → w.ownsRow B e' 1 v' n' xs' → w'.ownsRow B e' 1 v' n' xs') → K w' (some ⟨g, 0, none⟩) (n + 1) cap) :
    ∃ w' : World, ∃ a : Option Addr, ∃ l : Nat, ∃ c : Nat, (vcEff.bltV .append #[t, t] t #[v, .slice (some ⟨b, 0, none⟩) 1 1]).run Tryz.prog w = .ok (.slice a l c) w' ∧ K w' a l c :=
  appendRow T hown hb hx hbytes hbase fun g cap w' ho hk hat => h g cap w'
    (hW.trans hk he) ho
    (fun b' e' cs hne hb' => hk.blk hb' fun hg => ownsRow_ne hown hb' hne hg)
    (fun e' v' n' xs' hne ho' => hk.row ho' fun g hg hg' => ownsRow_ne2 hown ho' hne g hg' hg)

theorem C22 {w : World} {a B R : Nat} {fp : Nat → Prop} {vals : List Value} {x : Value} (h : SlotsAt w a B R vals) (hx : plainV x = true) (hl : vals.length < 100000000000) (hB : R ≤ w.heap.size) (hfa : fp a) (hfr : ∀ k, R ≤ k → k < w.heap.size → (etype w k = some 63 ∨ etype w k = some 4) → fp k) :
    Calls Tryz.prog 22 #[.pointer (some ⟨a, 0, none⟩), x] w fun e w' => e = .returned (.int .i64 vals.length) ∧ SlotsAt w' a B R (vals ++ [x]) ∧ Keep fp w w' := by
  refine ret_mono (V22_sound _ x w (fun r w' => r = .int .i64 vals.length ∧ SlotsAt w' a B R (vals ++ [x]) ∧ Keep fp w w') ?_) (by rintro _ _ ⟨rfl, h⟩; exact ⟨rfl, h⟩)
  obtain ⟨⟨lv, tv, fc, hb, hlv, htv, rfl⟩, hge, hlen⟩ := h
  obtain ⟨la, ll, lc, rfl, hll⟩ : ∃ la ll lc, lv = .slice la ll lc ∧ ll = vals.length := by
    rcases hlv.2 with ⟨h1, h2⟩ | ⟨g, cap, cur, h1, _⟩
    · exact ⟨_, _, _, h1, h2.symm⟩
    · exact ⟨_, _, _, h1, rfl⟩
  obtain ⟨ta, tl, tc, rfl⟩ : ∃ la ll lc, tv = .slice la ll lc := by
    rcases htv.2 with ⟨h1, _⟩ | ⟨g, cap, cur, h1, _⟩
    · exact ⟨_, _, _, h1⟩
    · exact ⟨_, _, _, h1⟩
  subst hll
  have hkd : Keep No w w.drew := Keep.drawn w
  have hlnS : ∀ k, k < w.heap.size → (Value.slice la vals.length lc).ownBlock = some k → fp k := fun k hk hg => hfr k (hlv.lt k hg).1 hk (by simp [ownsRow_etype hlv hg])
  have htnS : ∀ k, k < w.heap.size → (Value.slice ta tl tc).ownBlock = some k → fp k := fun k hk hg => hfr k (htv.lt k hg).1 hk (by simp [ownsRow_etype htv hg])
  have haS : ∀ k, k < w.heap.size → k = a → fp k := by rintro k _ rfl; exact hfa
  have hends : ∀ {w3 : World} {g1 c1 g2 c2 : Nat}, Keep fp w w3 → Blk w3 a 131 [.slice la vals.length lc, .slice ta tl tc, .slice none 0 0] →
      w3.ownsRow R 63 1 (.slice (some ⟨g1, 0, none⟩) (vals.length + 1) c1) (vals.length + 1) (vals ++ [x]) → w3.ownsRow R 4 1 (.slice (some ⟨g2, 0, none⟩) (vals.length + 1) c2) (vals.length + 1) (List.replicate vals.length (.bool true) ++ [.bool true]) →
      nilK (some ⟨a, 0, none⟩) fun a63 => stK w3 (a63.add 0) (.slice (some ⟨g1, 0, none⟩) (vals.length + 1) c1) fun w64 => nilK (some ⟨a, 0, none⟩) fun a65 => stK w64 (a65.add 1) (.slice (some ⟨g2, 0, none⟩) (vals.length + 1) c2) fun w66 =>
      V22J1 (fun r w' => r = .int .i64 vals.length ∧ SlotsAt w' a B R (vals ++ [x]) ∧ Keep fp w w') (some ⟨a, 0, none⟩) w66 := by
    intro w3 g1 c1 g2 c2 hk hb3 ho1 ho2
    rw [nilK_some]
    refine stK_add hb3 (by simp) fun w4 hb4 hk4 => ?_
    rw [nilK_some]
    refine stK_add hb4 (by simp) fun w5 hb5 hk5 => ?_
    have n1 := ownsRow_ne ho1 hb3 (by decide)
    have n2 := ownsRow_ne ho2 hb3 (by decide)
    have o1 := hk5.row (hk4.row ho1 fun g hg e => n1 (e ▸ hg)) fun g hg e => n1 (e ▸ hg)
    have o2 := hk5.row (hk4.row ho2 fun g hg e => n2 (e ▸ hg)) fun g hg e => n2 (e ▸ hg)
    have hk' := (hk.trans hk4 haS).trans hk5 haS
    unfold V22J1
    rw [nilK_some]
    refine ⟨_, _, _, hb5.add 0 rfl, ?_, ⟨⟨_, _, _, hb5, by simpa using o1, by simpa [List.replicate_succ'] using o2, rfl⟩, hge, by simp; omega⟩, hk'⟩
    rw [wrap_i64 (by omega)]
    simp
  unfold V22
  refine bsel_neg rfl ?_
  rw [nilK_some]
  refine ⟨_, _, _, hb.add 2 rfl, bsel_pos rfl ?_⟩
  rw [nilK_some]
  refine ⟨_, _, _, hb.drew.add 0 rfl, ?_⟩
  rw [nilK_some]
  refine ⟨_, _, _, hb.drew.add 1 rfl, ?_, ?_⟩
  · refine plK_of hx (newK_of fun b w1 hs1 hb1 hk1 => ?_)
    replace hk1 := hkd.no hk1
    have ha1 := hk1.nblk hb
    refine ⟨ha1.add 1 rfl, ha1.add 0 rfl, ?_, ?_⟩
    · refine grow_of (fp := fp) rowVals hk1.of_no (hk1.nrow hlv) hb1 (oneCell_of hx) (by omega) (by have := hk1.size; omega) hlnS fun g1 c1 w2 hk2 ho1 hbb hrr => ?_
      have ha2 := hbb _ _ _ (by decide) ha1
      refine ⟨ha2.add 1 rfl, newK_of fun b2 w3 hs3 hb3 hk3 => ⟨(hk3.nblk ha2).add 1 rfl, ?_⟩⟩
      refine grow_of (fp := fp) rowBools (hk2.no hk3) (hk3.nrow (hrr _ _ _ _ (by decide) (hk1.nrow htv))) hb3 rfl (by omega) (by have := (hk2.no hk3).size; omega) htnS fun g2 c2 w4 hk4 ho2 hbb4 hrr4 => ?_
      exact hends hk4 (hbb4 _ _ _ (by decide) (hk3.nblk ha2)) (hrr4 _ _ _ _ (by decide) (hk3.nrow ho1)) ho2
    · refine newK_of fun b2 w2 hs2 hb2 hk2 => ?_
      have ha2 := hk2.nblk ha1
      have hb1' := hk2.nblk hb1
      replace hk2 := hk1.no hk2
      refine ⟨ha2.add 1 rfl, ha2.add 0 rfl, ?_⟩
      refine grow_of (fp := fp) rowVals hk2.of_no (hk2.nrow hlv) hb1' (oneCell_of hx) (by omega) (by have := hk2.size; omega) hlnS fun g1 c1 w3 hk3 ho1 hbb hrr => ?_
      have ha3 := hbb _ _ _ (by decide) ha2
      refine ⟨ha3.add 1 rfl, ?_⟩
      refine grow_of (fp := fp) rowBools hk3 (hrr _ _ _ _ (by decide) (hk2.nrow htv)) (hbb _ _ _ (by decide) hb2) rfl (by omega) (by have := hk3.size; omega) htnS fun g2 c2 w4 hk4 ho2 hbb4 hrr4 => ?_
      exact hends hk4 (hbb4 _ _ _ (by decide) ha3) (hrr4 _ _ _ _ (by decide) ho1) ho2
  · refine newK_of fun b w1 hs1 hb1 hk1 => ?_
    replace hk1 := hkd.no hk1
    have ha1 := hk1.nblk hb
    refine ⟨ha1.add 1 rfl, ha1.add 0 rfl, plK_of hx (newK_of fun b2 w2 hs2 hb2 hk2 => ?_)⟩
    have ha2 := hk2.nblk ha1
    have hb1' := hk2.nblk hb1
    replace hk2 := hk1.no hk2
    refine ⟨ha2.add 1 rfl, ha2.add 0 rfl, ?_⟩
    refine grow_of (fp := fp) rowVals hk2.of_no (hk2.nrow hlv) hb2 (oneCell_of hx) (by omega) (by have := hk2.size; omega) hlnS fun g1 c1 w3 hk3 ho1 hbb hrr => ?_
    have ha3 := hbb _ _ _ (by decide) ha2
    refine ⟨ha3.add 1 rfl, ?_⟩
    refine grow_of (fp := fp) rowBools hk3 (hrr _ _ _ _ (by decide) (hk2.nrow htv)) (hbb _ _ _ (by decide) hb1') rfl (by omega) (by have := hk3.size; omega) htnS fun g2 c2 w4 hk4 ho2 hbb4 hrr4 => ?_
    exact hends hk4 (hbb4 _ _ _ (by decide) ha3) (hrr4 _ _ _ _ (by decide) ho1) ho2

end Go.Fw
