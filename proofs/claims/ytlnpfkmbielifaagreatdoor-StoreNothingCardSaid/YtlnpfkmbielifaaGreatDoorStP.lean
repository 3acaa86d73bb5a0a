/- Part of a proof over the given program: a text of lemmas (conditions: none beyond each lemma as stated). -/
import Derived.Test.YtlnpfkmbielifaaGreatDoorStO
set_option linter.unnecessarySimpa false
set_option linter.unusedSimpArgs false
set_option autoImplicit false
set_option linter.unusedVariables false
namespace Go.Fw
open Go.Proofs Go.RowKit

/-- A Store, as it is kept. -/
structure St where
  fuel : Int
  pairs : Int
  shared : Int
  ina : Option Addr
  inl : Nat
  inc : Nat
  fra : Option Addr
  frl : Nat
  frc : Nat
  m : Option Addr
  last : Int
  live : Int
  except : Int
  due : Bool
  a : Nat
  p : Nat
  vals : List Value

def St.cells (S : St) : List Value := [.int .i64 S.fuel, .int .i64 S.pairs, .int .i64 S.shared, .slice S.ina S.inl S.inc, .slice S.fra S.frl S.frc, .pointer S.m, .pointer (some ⟨S.a, 0, none⟩), .int .i64 S.last, .int .i64 S.live, .int .i64 S.except, .pointer (some ⟨S.p, 0, none⟩), .bool S.due]

structure StAt (w : World) (s : Nat) (B : Nat) (S : St) : Prop where
  blk : Blk w s 67 S.cells
  slots : SlotsAt w S.a B B S.vals
  plan : PlanAt w S.p B
  ge : B ≤ s

abbrev storeTy : List TypeId := [63, 4, 131, 67, 133]

theorem PlanAt.keep {w w' : World} {fp : Nat → Prop} {p B : Nat} (h : PlanAt w p B) (hk : Keep fp w w') (hn : ∀ k, B ≤ k → (Fw.etype w k = some 133 ∨ Fw.etype w k = none) → ¬ fp k) : PlanAt w' p B := by
  obtain ⟨⟨m, n, c, h1, h2, h3⟩, hge⟩ := h
  exact ⟨⟨m, n, c, hk.blk h1 (hn _ hge (by simp [h1.etype])), hk.imap h2 (hn _ h3 (by simp [h2.etype])), h3⟩, hge⟩

/-- The Store stays while nothing of its types turns. -/
theorem StAt.keep {w w' : World} {fp : Nat → Prop} {s B : Nat} {S : St} (h : StAt w s B S) (hk : Keep fp w w') (hn : ∀ k, B ≤ k → fp k → ∃ e, Fw.etype w k = some e ∧ e ∉ storeTy) : StAt w' s B S := by
  obtain ⟨h1, h2, h3, hge⟩ := h
  have hno : ∀ k, B ≤ k → (Fw.etype w k = some 63 ∨ Fw.etype w k = some 4 ∨ Fw.etype w k = some 131 ∨ Fw.etype w k = some 67 ∨ Fw.etype w k = some 133 ∨ Fw.etype w k = none) → ¬ fp k := by
    intro k hB hk' hf
    obtain ⟨e, he, hne⟩ := hn k hB hf
    rw [he] at hk'
    rcases hk' with h | h | h | h | h | h <;> cases h <;> exact hne (by decide)
  exact ⟨hk.blk h1 (hno _ hge (by simp [h1.etype])), h2.keep hk (fun k hB hk' => hno k hB (by simp [hk'])) fun k hB hk' => hno k hB (by rcases hk' with h | h <;> simp [h]), h3.keep hk fun k hB hk' => hno k hB (by rcases hk' with h | h <;> simp [h]), hge⟩
theorem StAt.no {w w' : World} {s B : Nat} {S : St} (h : StAt w s B S) (hk : Keep No w w') : StAt w' s B S := h.keep hk fun _ _ => False.elim

def val0 : List Value := [.iface 70 (.agg #[]), .iface 72 (.agg #[.bool false]), .iface 72 (.agg #[.bool true])]

theorem C7 {fu pa sh : Int} {ia : Option Addr} {il ic : Nat} {fa : Option Addr} {fc : Nat} {m : Option Addr} {w : World} (h1 : 0 ≤ fu ∧ fu ≤ 100000) (h2 : 0 ≤ pa ∧ pa ≤ 65536) (h3 : 0 ≤ sh ∧ sh ≤ 256) :
    Calls Tryz.prog 7 #[.agg #[.int .i64 fu, .int .i64 pa, .int .i64 sh, .slice ia il ic, .slice fa 0 fc], .pointer m] w fun e w' => ∃ s a p, e = .returned (.tuple #[.pointer (some ⟨s, 0, none⟩), .int .i64 0]) ∧
      StAt w' s w.heap.size ⟨fu, pa, sh, ia, il, ic, fa, 0, fc, m, 0, 0, 0, false, a, p, val0⟩ ∧ Keep No w w' := by
  refine ret_mono (V7_sound fu pa sh ia il ic fa 0 fc m w (fun r w' => ∃ s a p, r = .tuple #[.pointer (some ⟨s, 0, none⟩), .int .i64 0] ∧
      StAt w' s w.heap.size ⟨fu, pa, sh, ia, il, ic, fa, 0, fc, m, 0, 0, 0, false, a, p, val0⟩ ∧ Keep No w w') ?_) (by rintro _ _ ⟨s, a, p, rfl, h⟩; exact ⟨s, a, p, rfl, h⟩)
  unfold V7
  refine newK_of fun b w1 hs1 hb hk => ?_
  refine ⟨_, hb.add 0 rfl, bsel_neg (by simp; omega) ?_⟩
  refine ⟨_, hb.add 0 rfl, bsel_neg (by simp; omega) ?_⟩
  refine ⟨_, hb.add 1 rfl, bsel_neg (by simp; omega) ?_⟩
  refine ⟨_, hb.add 1 rfl, bsel_neg (by simp; omega) ?_⟩
  refine ⟨_, hb.add 2 rfl, bsel_neg (by simp; omega) ?_⟩
  refine ⟨_, hb.add 2 rfl, ?_⟩
  unfold V7J2
  refine bsel_neg (by simp; omega) ?_
  have hk := hk.no (Keep.drawn w1)
  replace hb := hb.drew
  refine ⟨_, _, _, _, _, _, _, _, _, hb.cells0, _, _, _, hb.add 4 rfl, (C20 _).mono ?_⟩
  rintro _ w2 ⟨a, rfl, ha, hba, hk2⟩
  replace hb := hk2.nblk hb
  replace ha : w.heap.size ≤ a := by have := hk.size; omega
  replace hk := hk.no hk2
  refine ⟨_, rfl, hb.add 4 rfl, hb.cells0, (C21_nil _ _ _).mono ?_⟩
  rintro _ w3 ⟨p, rfl, hp, hk3⟩
  replace hb := hk3.nblk hb
  replace hba := hk3.nblk hba
  have hsl : ∀ R, SlotsAt w3 a w.heap.size R [] := fun R => ⟨⟨_, _, _, hba, World.ownsRow_nil _ _ _ _, World.ownsRow_nil _ _ _ _, rfl⟩, ha, by simp⟩
  replace hp : PlanAt w3 p w.heap.size := by
    obtain ⟨⟨m, n, c, h1, h2, h3⟩, h4⟩ := hp
    have := hk.size
    exact ⟨⟨m, n, c, h1, h2, by omega⟩, by omega⟩
  replace hk := hk.no hk3
  refine ⟨_, rfl, hb.cells0, newK_of fun s w4 hs4 hbs hk4 => ?_⟩
  replace hsl := fun R => (hsl R).no hk4
  replace hp := hp.keep hk4 fun _ _ _ => id
  have hws : w.heap.size ≤ s := by have := hk.size; omega
  replace hk := hk.no hk4
  unfold V7J1
  refine newK_of fun c w5 hs5 hbc hk5 => ?_
  replace hbs := hk5.nblk hbs
  replace hsl := (hsl w5.heap.size).no hk5
  replace hp := hp.keep hk5 fun _ _ _ => id
  replace hk := hk.no hk5
  have hcw : w.heap.size ≤ c := by have := hk4.size; omega
  have hca : c ≠ a := ne_of_etype hbc.etype hsl.etype (by decide)
  have hsa : s ≠ a := ne_of_etype hbs.etype hsl.etype (by decide)
  refine ⟨fun i w' => 0 ≤ i ∧ i ≤ 3 ∧ SlotsAt w' a w.heap.size w5.heap.size (val0.take i.toNat) ∧ Keep (fun k => k = a) w5 w',
    fun i _ => (3 - i).toNat, ⟨by omega, by omega, hsl, Keep.refl _ _⟩, ?_⟩
  rintro j i w' ⟨hi0, hi3, hsl', hkw⟩
  have hbs' := hkw.blk hbs hsa
  have hbc' := hkw.blk hbc hca
  refine bsel_split (fun hlt => ?_) fun hge => ?_
  · simp at hlt
    obtain ⟨n, rfl⟩ := Int.eq_ofNat_of_zero_le hi0
    have hn : n < 3 := by omega
    obtain ⟨x, hv, hpl, htk⟩ : ∃ x, val0[n]? = some x ∧ plainV x = true ∧ val0.take (n + 1) = val0.take n ++ [x] := by
      rcases n with _ | _ | _ | n
      · exact ⟨_, rfl, rfl, rfl⟩
      · exact ⟨_, rfl, rfl, rfl⟩
      · exact ⟨_, rfl, rfl, rfl⟩
      · omega
    simp only [Int.toNat_natCast] at hsl'
    have hlen : (val0.take n).length = n := by simp [val0]; omega
    refine idxK_of hn ⟨_, hbc'.add (n * 1) (by rw [Nat.mul_one]; exact hv), _, hbs'.add 6 rfl, (C22 (fp := fun k => k = a ∨ w5.heap.size ≤ k) hsl' hpl (by omega) hkw.size (.inl rfl) fun k h _ _ => .inr h).mono ?_⟩
    rintro _ w6 ⟨rfl, hsl6, hk6⟩
    refine ⟨_, rfl, ⟨?_, ?_, ?_, hkw.trans hk6 ?_⟩, ?_⟩
    rotate_left 3
    · intro k h1 h2; omega
    all_goals rw [wrap_i64 (by omega)]
    rotate_left 1
    · omega
    · omega
    · have e : ((n : Int) + 1).toNat = n + 1 := by omega
      rw [e, htk]
      exact hsl6
    · simp only; omega
  · simp at hge
    have : i = 3 := by omega
    subst this
    refine ⟨s, a, p, rfl, ⟨hbs', hsl'.mono (Nat.le_refl _) (by have := hk.size; omega), ?_, hws⟩, hk.news hkw (by rintro k rfl; exact ha)⟩
    refine hp.keep hkw fun k _ hk' e => ?_
    subst e
    rw [hsl.etype] at hk'
    rcases hk' with h | h <;> cases h

end Go.Fw
