/- Part of a proof over the given program: texts of lemmas (conditions: none beyond each lemma as stated). -/
import Derived.Test.YtdmoefbfepeeaaaGreatDoorQ16
import Derived.SizedLaws
set_option linter.unnecessarySimpa false
set_option linter.unusedVariables false
set_option linter.unusedSimpArgs false

set_option autoImplicit false
set_option linter.unusedVariables false
namespace Go.Fw
open Go.Proofs Go.RowKit
section
variable {H : Type} {P : Program}
theorem weights_all {e : TypeId} {d : DataW H} {n : Nat} (hn : n ∈ d.weights P e) : ∀ {l : List (DataW H)}, d ∈ l → n ∈ DataW.weightsAll P e l
  | a :: r, hd => by
    simp only [DataW.weightsAll, List.mem_append]
    rcases List.mem_cons.1 hd with rfl | h
    · exact .inl hn
    · exact .inr (weights_all hn h)
def Light (P : Program) (t : TypeId) (d : DataW H) : Prop := ∀ n ∈ d.weights P t, n ≤ reachBytes
theorem Light.slice {t e : TypeId} (ht : P.underlying t = some (.slice e)) {l r : List (DataW H)} (h : Light P t (.slice l r)) : (l.length + r.length) * P.bytesOf e ≤ reachBytes ∧ ∀ d ∈ l, Light P e d := by
  have hm : (DataW.slice l r).weights P t = (l.length + r.length) * P.bytesOf e :: (DataW.weightsAll P e l ++ DataW.weightsAll P e r) := by simp [DataW.weights, ht]
  unfold Light at h
  rw [hm] at h
  exact ⟨h _ (List.mem_cons_self ..), fun d hd n hn => h n (List.mem_cons_of_mem _ (List.mem_append_left _ (weights_all hn hd)))⟩
theorem Light.str {t : TypeId} {b : List UInt8} (h : Light (H := H) P t (.lit (.string b))) : b.length ≤ reachBytes := h _ (by simp [DataW.weights])
theorem Light.field {t : TypeId} {fs : Array Field} (ht : P.underlying t = some (.struct fs)) {xs : List (DataW H)} (h : Light P t (.agg xs)) {j : Nat} {f : Field} {d : DataW H} (hf : fs[j]? = some f) (hd : xs[j]? = some d) : Light P f.type d := fun n hn => h n (by
  have hm : (DataW.agg xs).weights P t = DataW.weightsEach P (fs.toList.map (·.type)) xs := by simp [DataW.weights, ht]
  rw [hm]
  exact DataW.weights_mem_each (by simp [hf]) hd n hn)
theorem row_low {a : Addr} {n N : Nat} {l : List MemPlace} (h : ∀ y ∈ MemPlace.row a n ++ l, y.block < N) (hn : 0 < n) : a.block < N :=
  h (.cell a.block (a.off + 0)) (List.mem_append_left _ (by unfold MemPlace.row; exact List.mem_map.2 ⟨0, List.mem_range.2 hn, rfl⟩))
end
section
variable {H : Type} {enc : TypeId × Value → H} {w : World} {base : Nat} {spare : Nat → Bool} {held : Bool} {fuel N : Nat} {cs : List Value} {x : DataW H × List MemPlace}
theorem bounds_u32 {n : Int} (h : (Lit.int .u32 n).wf = true) : 0 ≤ n ∧ n < 4294967296 := by
  simp [Lit.wf, IntKind.min, IntKind.max, IntKind.signed, IntKind.bits] at h
  omega
theorem ints_of_trodW (h : DataW.trod enc Tryz.prog w base spare held fuel 30 cs = some x) (hL : Light Tryz.prog 30 x.1) (hN : ∀ y ∈ x.2, y.block < N) : ∃ a l c ks, cs = [.slice a l c] ∧ IntsAt w a l ks ∧ l * 8 ≤ reachBytes ∧ ∀ p, a = some p → 0 < l → p.block < N := by
  rcases Deep.open_slice Tryz.underlying30 h with ⟨rfl, _⟩ | ⟨a, len, cap, m, n, D, Pl, rfl, _, hle, hcap, hm, rfl, hel⟩
  · exact ⟨none, 0, 0, [], rfl, ⟨rfl, fun j k h => by simp at h⟩, by simp, fun p hp => by cases hp⟩
  · have hlm : len ≤ m := by split at hm <;> omega
    have hc3 : Tryz.prog.cellsOf 3 = 1 := by kernel_rfl
    have hint : ∀ i, i < len → ∃ k, w.cell? (a.add i) = some (.int .i64 k) := by
      intro i hi
      obtain ⟨cs', h1, h2⟩ := hel i (by omega)
      obtain ⟨k, rfl, _⟩ := DataW.trod_int Tryz.underlying3 h2
      rw [hc3, Nat.mul_one] at h1
      exact ⟨k, ChangeShapes.cell_of_cells?_one h1⟩
    obtain ⟨ks, hl, hr⟩ := list_of len hint
    refine ⟨some a, len, cap, ks, rfl, ⟨hl, fun j k hj => ⟨a, rfl, hr j k hj⟩⟩, ?_, fun p hp h0 => ?_⟩
    · have := (hL.slice Tryz.underlying30).1
      rw [show Tryz.prog.bytesOf 3 = 8 by kernel_rfl] at this
      simp at this
      have : len * 8 ≤ (len + (m - len)) * 8 := by omega
      omega
    · cases hp
      exact row_low hN (by rw [hc3]; omega)
theorem words_of_trodW (h : DataW.trod enc Tryz.prog w base spare held fuel 38 cs = some x) (hL : Light Tryz.prog 38 x.1) (hN : ∀ y ∈ x.2, y.block < N) : ∃ a c ms, cs = [.slice a (List.length ms) c] ∧ WordsAt w a ms ∧ ms.length ≤ c ∧ (∀ m ∈ ms, 0 ≤ m ∧ m < 4294967296) ∧ ms.length * 4 ≤ reachBytes ∧ ∀ p, a = some p → 0 < ms.length → p.block < N := by
  rcases Deep.open_slice Tryz.underlying38 h with ⟨rfl, _⟩ | ⟨a, len, cap, m, n, D, Pl, rfl, _, hle, hcap, hm, rfl, hel⟩
  · exact ⟨none, 0, [], rfl, fun j k h => by simp at h, by simp, fun m hm => by simp at hm, by simp, fun p hp => by cases hp⟩
  · have hlm : len ≤ m := by split at hm <;> omega
    have hc3 : Tryz.prog.cellsOf 45 = 1 := by kernel_rfl
    have hint : ∀ i, i < len → ∃ k, w.cell? (a.add i) = some (.int .u32 k) ∧ 0 ≤ k ∧ k < 4294967296 := by
      intro i hi
      obtain ⟨cs', h1, h2⟩ := hel i (by omega)
      obtain ⟨k, rfl, _, hwf⟩ := DataW.trod_int (k := .u32) (by kernel_rfl) h2
      rw [hc3, Nat.mul_one] at h1
      exact ⟨k, ChangeShapes.cell_of_cells?_one h1, bounds_u32 hwf⟩
    obtain ⟨ks, hl, hr⟩ := list_of len hint
    subst hl
    refine ⟨some a, cap, ks, rfl, fun j k hj => ⟨a, rfl, (hr j k hj).1⟩, by omega, fun k hk => ?_, ?_, fun p hp h0 => ?_⟩
    · obtain ⟨j, hj⟩ := List.mem_iff_getElem?.1 hk
      exact (hr j k hj).2
    · have := (hL.slice Tryz.underlying38).1
      rw [show Tryz.prog.bytesOf 45 = 4 by kernel_rfl] at this
      simp at this
      omega
    · cases hp
      exact row_low hN (by rw [hc3]; omega)
structure TermIn (w : World) (N : Nat) (t : Tm) (ks ms : List Int) : Prop where
  kids : KidsAt w t ks
  kb : ∀ p, t.ka = some p → 0 < t.kl → p.block < N
  words : WordsAt w t.ma ms
  ml : t.ml = ms.length
  mc : ms.length ≤ t.mc
  mr : ∀ m ∈ ms, 0 ≤ m ∧ m < 4294967296
  mb : ∀ p, t.ma = some p → 0 < t.ml → p.block < N
  kz : t.kl * 8 ≤ reachBytes
  mz : t.ml * 4 ≤ reachBytes
  tz : t.text.size ≤ reachBytes
theorem term_of_trodW (h : DataW.trod enc Tryz.prog w base spare held fuel 42 cs = some x) (hL : Light Tryz.prog 42 x.1) (hN : ∀ y ∈ x.2, y.block < N) : ∃ t : Tm, cs = t.cells ∧ ∃ ks ms, TermIn w N t ks ms := by
  obtain ⟨xs, n, _, rfl, hl, hxl, hf⟩ := DataW.trod_struct Tryz.underlying42 h
  rw [show Tryz.prog.cellsOf 42 = 8 by kernel_rfl] at hl
  obtain ⟨c0, c1, c2, c3, c4, c5, c6, c7, rfl⟩ := cells8 hl
  have hxl : xs.length = 7 := hxl
  have e1 : Tryz.prog.cellsOf 3 = 1 := by kernel_rfl
  have e2 : Tryz.prog.cellsOf 4 = 1 := by kernel_rfl
  have e3 : Tryz.prog.cellsOf 40 = 2 := by kernel_rfl
  have e4 : Tryz.prog.cellsOf 9 = 1 := by kernel_rfl
  have e5 : Tryz.prog.cellsOf 30 = 1 := by kernel_rfl
  have e6 : Tryz.prog.cellsOf 38 = 1 := by kernel_rfl
  have f0 : DataW.trod enc Tryz.prog w base spare held n 3 (([c0, c1, c2, c3, c4, c5, c6, c7].drop 0).take (Tryz.prog.cellsOf 3)) = xs[0]? := hf 0 _ rfl
  have f1 : DataW.trod enc Tryz.prog w base spare held n 4 (([c0, c1, c2, c3, c4, c5, c6, c7].drop 1).take (Tryz.prog.cellsOf 4)) = xs[1]? := hf 1 _ rfl
  have f2 : DataW.trod enc Tryz.prog w base spare held n 40 (([c0, c1, c2, c3, c4, c5, c6, c7].drop 2).take (Tryz.prog.cellsOf 40)) = xs[2]? := hf 2 _ rfl
  have f3 : DataW.trod enc Tryz.prog w base spare held n 9 (([c0, c1, c2, c3, c4, c5, c6, c7].drop 4).take (Tryz.prog.cellsOf 9)) = xs[3]? := hf 3 _ rfl
  have f4 : DataW.trod enc Tryz.prog w base spare held n 30 (([c0, c1, c2, c3, c4, c5, c6, c7].drop 5).take (Tryz.prog.cellsOf 30)) = xs[4]? := hf 4 _ rfl
  have f5 : DataW.trod enc Tryz.prog w base spare held n 4 (([c0, c1, c2, c3, c4, c5, c6, c7].drop 6).take (Tryz.prog.cellsOf 4)) = xs[5]? := hf 5 _ rfl
  have f6 : DataW.trod enc Tryz.prog w base spare held n 4 (([c0, c1, c2, c3, c4, c5, c6, c7].drop 7).take (Tryz.prog.cellsOf 4)) = xs[6]? := hf 6 _ rfl
  simp only [e1, e2, e3, e4, e5, List.drop_zero, List.drop_succ_cons, List.take_succ_cons, List.take_zero] at f0 f1 f2 f3 f4 f5 f6
  have gx : ∀ i, i < 7 → ∃ y, xs[i]? = some y := fun i hi => ⟨_, List.getElem?_eq_getElem (by omega)⟩
  have hin : ∀ {i : Nat} {y : DataW H × List MemPlace}, xs[i]? = some y → ∀ z ∈ y.2, z.block < N := fun hy z hz => hN z (List.mem_flatMap.2 ⟨_, List.mem_of_getElem? hy, hz⟩)
  have hlf : ∀ {i : Nat} {y : DataW H × List MemPlace}, xs[i]? = some y → (xs.map (·.1))[i]? = some y.1 := fun hy => by rw [List.getElem?_map, hy]; rfl
  obtain ⟨y0, g0⟩ := gx 0 (by decide); rw [g0] at f0
  obtain ⟨y1, g1⟩ := gx 1 (by decide); rw [g1] at f1
  obtain ⟨y2, g2⟩ := gx 2 (by decide); rw [g2] at f2
  obtain ⟨y3, g3⟩ := gx 3 (by decide); rw [g3] at f3
  obtain ⟨y4, g4⟩ := gx 4 (by decide); rw [g4] at f4
  obtain ⟨y5, g5⟩ := gx 5 (by decide); rw [g5] at f5
  obtain ⟨y6, g6⟩ := gx 6 (by decide); rw [g6] at f6
  have l2 : Light Tryz.prog 40 y2.1 := hL.field Tryz.underlying42 (j := 2) rfl (hlf g2)
  have l3 : Light Tryz.prog 9 y3.1 := hL.field Tryz.underlying42 (j := 3) rfl (hlf g3)
  have l4 : Light Tryz.prog 30 y4.1 := hL.field Tryz.underlying42 (j := 4) rfl (hlf g4)
  obtain ⟨kind, k0, _⟩ := DataW.trod_int Tryz.underlying3 f0
  obtain ⟨bo, k1, _⟩ := DataW.trod_bool Tryz.underlying4 f1
  obtain ⟨tx, k3, z3, htx⟩ := DataW.trod_string Tryz.underlying9 f3
  obtain ⟨ka, kl, kc, ks, k4, hks, hkl, hkb⟩ := ints_of_trodW f4 l4 (hin g4)
  obtain ⟨ha, k5, _⟩ := DataW.trod_bool Tryz.underlying4 f5
  obtain ⟨sa, k6, _⟩ := DataW.trod_bool Tryz.underlying4 f6
  obtain ⟨zs, n2, _, hz2, hl2, hzl, hf2⟩ := DataW.trod_struct Tryz.underlying40 f2
  have hzl : zs.length = 2 := hzl
  have p0 : DataW.trod enc Tryz.prog w base spare held n2 4 (([c2, c3].drop 0).take (Tryz.prog.cellsOf 4)) = zs[0]? := hf2 0 _ rfl
  have p1 : DataW.trod enc Tryz.prog w base spare held n2 38 (([c2, c3].drop 1).take (Tryz.prog.cellsOf 38)) = zs[1]? := hf2 1 _ rfl
  simp only [e2, e6, List.drop_zero, List.drop_succ_cons, List.take_succ_cons, List.take_zero] at p0 p1
  obtain ⟨z0, q0⟩ : ∃ y, zs[0]? = some y := ⟨_, List.getElem?_eq_getElem (by omega)⟩
  obtain ⟨z1, q1⟩ : ∃ y, zs[1]? = some y := ⟨_, List.getElem?_eq_getElem (by omega)⟩
  rw [q0] at p0; rw [q1] at p1
  obtain ⟨ng, k7, _⟩ := DataW.trod_bool Tryz.underlying4 p0
  rw [hz2] at l2
  have l21 : Light Tryz.prog 38 z1.1 := l2.field Tryz.underlying40 (j := 1) rfl (by rw [List.getElem?_map, q1]; rfl)
  have hy2 := hin g2
  rw [hz2] at hy2
  obtain ⟨ma, mc, ms, k8, hw, hmc, hmr, hmz, hmb⟩ := words_of_trodW p1 l21 (fun z hz => hy2 z (List.mem_flatMap.2 ⟨_, List.mem_of_getElem? q1, hz⟩))
  rw [z3] at l3
  have hts := l3.str
  cases k0; cases k1; cases k3; cases k4; cases k5; cases k6; cases k7; cases k8
  exact ⟨⟨kind, bo, ng, ma, ms.length, mc, tx, ka, kl, kc, ha, sa⟩, rfl, ks, ms, hks, hkb, hw, rfl, hmc, hmr, hmb, hkl, hmz, by simpa using hts⟩
theorem terms_of_trodW (h : DataW.trod enc Tryz.prog w base spare held fuel 22 cs = some x) (hL : Light Tryz.prog 22 x.1) (hN : ∀ y ∈ x.2, y.block < N) : ∃ a c, ∃ ts : List Tm, cs = [.slice a ts.length c] ∧ TermsAt w a ts ∧ ts.length ≤ maxLen ∧ (∀ p, a = some p → 0 < ts.length → p.block < N) ∧ ∃ kss mss : Nat → List Int, ∀ (i : Nat) (t : Tm), ts[i]? = some t → TermIn w N t (kss i) (mss i) := by
  rcases Deep.open_slice Tryz.underlying22 h with ⟨rfl, _⟩ | ⟨a, len, cap, m, n, D, Pl, rfl, _, hle, hcap, hm, rfl, hel⟩
  · exact ⟨none, 0, [], rfl, (fun i t h => by simp at h), by simp, (fun p hp => by cases hp), fun _ => [], fun _ => [], (fun i t h => by simp at h)⟩
  · have hlm : len ≤ m := by split at hm <;> omega
    have hc8 : Tryz.prog.cellsOf 42 = 8 := by kernel_rfl
    have hint : ∀ i, i < len → ∃ t : Tm × List Int × List Int, CellsAt w (a.add (i * 8)) t.1.cells ∧ TermIn w N t.1 t.2.1 t.2.2 := by
      intro i hi
      obtain ⟨cs', h1, h2⟩ := hel i (by omega)
      obtain ⟨t, rfl, ks, ms, h3⟩ := term_of_trodW (N := N) h2 ((hL.slice Tryz.underlying22).2 _ (List.mem_map.2 ⟨i, List.mem_range.2 hi, rfl⟩)) (fun y hy => hN y (List.mem_append_right _ (List.mem_flatMap.2 ⟨i, List.mem_range.2 (by omega), hy⟩)))
      rw [hc8] at h1
      obtain ⟨_, _, hc⟩ := World.cells?_some h1
      refine ⟨(t, ks, ms), cellsFrom_of _ 0 fun j v hj => ?_, h3⟩
      rw [Nat.zero_add, hc j (by
        have := (List.getElem?_eq_some_iff.1 hj).1
        simpa [Tm.cells] using this), hj]
    obtain ⟨ys, hl, hr⟩ := list_of len hint
    refine ⟨some a, cap, ys.map (·.1), by simp [hl], fun i t ht => ?_, by simp; omega, fun p hp h0 => ?_, fun i => ((ys[i]?).map (·.2.1)).getD [], fun i => ((ys[i]?).map (·.2.2)).getD [], fun i t ht => ?_⟩
    · rw [List.getElem?_map] at ht
      obtain ⟨y, hy, rfl⟩ := Option.map_eq_some_iff.1 ht
      exact ⟨a, rfl, (hr i y hy).1⟩
    · cases hp
      simp at h0
      exact row_low hN (by rw [hc8]; omega)
    · rw [List.getElem?_map] at ht
      obtain ⟨y, hy, rfl⟩ := Option.map_eq_some_iff.1 ht
      simp only [hy, Option.map_some, Option.getD_some]
      exact (hr i y hy).2
end
end Go.Fw


set_option autoImplicit false
set_option linter.unusedVariables false
namespace Go.Fw
open Go.Proofs Go.RowKit
theorem reach_small {n k : Nat} (h : n * k ≤ reachBytes) (hk : 1 ≤ k) : n < 200000000000000 := by
  have h1 : n ≤ n * k := Nat.le_mul_of_pos_right n (by omega)
  have : reachBytes < 200000000000000 := by decide
  omega
noncomputable def errN (ts : List Tm) (mss kss : Nat → List Int) (its : Nat → ByteArray) (pairs : Int) (i : Nat) : Int := match ts[i]? with
  | some t => errT ts mss its pairs i t (kss i)
  | none => 0
theorem errN_of {ts : List Tm} {mss kss : Nat → List Int} {its : Nat → ByteArray} {pairs : Int} {i : Nat} {t : Tm} (h : ts[i]? = some t) : errN ts mss kss its pairs i = errT ts mss its pairs i t (kss i) := by unfold errN; rw [h]
def itsS (x : Nat) : ByteArray := ⟨(Lib.decDigits x).toArray⟩
theorem itsS_size {x : Nat} (h : x < 100) : (itsS x).size < 1000 := by
  have : ∀ x, x < 100 → (itsS x).size < 1000 := by decide +kernel
  exact this x h
structure SmallIn (w : World) (N : Nat) (ta : Option Addr) (ts : List Tm) (kss mss : Nat → List Int) : Prop where
  tm : TermsAt w ta ts
  low : ∀ p, ta = some p → p.block < N
  inp : ∀ (i : Nat) (t : Tm), ts[i]? = some t → TermIn w N t (kss i) (mss i)
  sz : ∀ (i : Nat) (t : Tm), ts[i]? = some t → t.kl ≤ 20000 ∧ t.ml ≤ 20000 ∧ t.text.size ≤ 20000
theorem SmallIn.no {w w' : World} {N M : Nat} {ta : Option Addr} {ts : List Tm} {kss mss : Nat → List Int} (h : SmallIn w N ta ts kss mss) (hk : Keep No w w') (hN : N ≤ M) : SmallIn w' M ta ts kss mss :=
  ⟨h.tm.no hk, fun p hp => Nat.lt_of_lt_of_le (h.low p hp) hN, fun i t ht => by
    have g := h.inp i t ht
    exact ⟨g.kids.no hk, fun p hp h0 => Nat.lt_of_lt_of_le (g.kb p hp h0) hN, g.words.no hk, g.ml, g.mc, g.mr, fun p hp h0 => Nat.lt_of_lt_of_le (g.mb p hp h0) hN, g.kz, g.mz, g.tz⟩, h.sz⟩
theorem SmallIn.lowAt {w : World} {B : Nat} {ta : Option Addr} {ts : List Tm} {kss mss : Nat → List Int} (h : SmallIn w B ta ts kss mss) : LowAt w B ta ts mss :=
  ⟨h.tm, h.low, fun x u hu => by
    have g := h.inp x u hu
    have z := h.sz x u hu
    have := g.ml
    exact ⟨⟨⟨g.words, g.ml, g.mc, by omega⟩, by omega⟩, g.mb⟩⟩
section
variable {w0 : World} {s B b : Nat} {S : St} {ts : List Tm} {mss kss : Nat → List Int} {its : Nat → ByteArray} {ta : Option Addr} {tc : Nat}
theorem small_laws (hb : b = w0.heap.size) (hB : B ≤ w0.heap.size) (hS : StAt w0 s B S) (hm : S.m = none) (hp : 0 ≤ S.pairs ∧ S.pairs ≤ 65536) (hsh : 0 ≤ S.shared ∧ S.shared ≤ 256) (hin : SmallIn w0 B ta ts kss mss) (hn : ts.length < 1000000) (hT : Lib.Utf8Tabs 1 2 w0)
    (hit : ∀ (x : Nat), x < ts.length → (∀ w1, Keep No w0 w1 → Calls Tryz.prog 77 #[.int .i64 x] w1 fun e w' => e = .returned (.string (its x)) ∧ Keep No w1 w') ∧ (its x).size < 1000) :
    Laws w0 s b ta tc ts (fun k => Ty B storeTy w0 k) (errN ts mss kss its S.pairs) (fun i => GInv w0 s B S ts mss kss i 0 0) (fun i j => GInv w0 s B S ts mss kss ts.length i j) := by
  refine gen_laws hb hB hm hp hsh hin.lowAt hn (fun i t ht => ⟨(hin.inp i t ht).kids, (hin.inp i t ht).kb⟩) ?_ ?_
  · intro i w hi hk hbb
    obtain ⟨t, ht⟩ : ∃ t, ts[i]? = some t := ⟨_, List.getElem?_eq_getElem hi⟩
    have hin2 := hin.no hk (Nat.le_refl _)
    have g := hin2.inp i t ht
    have z := hin.sz i t ht
    rw [errN_of ht]
    have hpair : w.cell? ⟨s, 1, none⟩ = some (.int .i64 S.pairs) := (hS.no hk).blk.cell rfl
    refine C39_gen hbb hin2.lowAt (by have := hk.size; omega) hpair (tabs_no hT hk) hn ht g.kids g.kb (by omega) (by omega) (fun x u hu => ?_) (fun x hx => ⟨fun w1 hk1 => (hit x hx).1 w1 (hk.no hk1), (hit x hx).2⟩)
    have g2 := hin2.inp x u hu
    have z2 := hin.sz x u hu
    have := g2.ml
    exact ⟨by omega, g2.mr, by omega⟩
  · intro herr i t ht
    have hi := (List.getElem?_eq_some_iff.1 ht).1
    have h0 := herr i hi
    rw [errN_of ht] at h0
    exact fine_of_err (by have := hin.sz i t ht; omega) h0
theorem C13_small (hB : B ≤ w0.heap.size) (hS : StAt w0 s B S) (hv : S.vals = val0) (hl0 : S.last = 0 ∧ S.live = 0) (hm : S.m = none) (hp : 0 ≤ S.pairs ∧ S.pairs ≤ 65536) (hsh : 0 ≤ S.shared ∧ S.shared ≤ 256) (hin : SmallIn w0 B ta ts kss mss) (hn : ts.length < 1000000) (hT : Lib.Utf8Tabs 1 2 w0)
    (hit : ∀ (x : Nat), x < ts.length → (∀ w1, Keep No w0 w1 → Calls Tryz.prog 77 #[.int .i64 x] w1 fun e w' => e = .returned (.string (its x)) ∧ Keep No w1 w') ∧ (its x).size < 1000) :
    Calls Tryz.prog 13 #[.pointer (some ⟨s, 0, none⟩), .slice ta ts.length tc] w0 fun e w' => ∃ r, e = .returned r ∧ (BadEnd w0 ts (errN ts mss kss its S.pairs) r w' ∨ GoodEnd w0 ts (fun k => Ty B storeTy w0 k) (errN ts mss kss its S.pairs) (fun i j => GInv w0 s B S ts mss kss ts.length i j) r w') := by
  have e : ({ S with due := S.due, last := 0, live := 0 } : St) = S := by cases S; simp_all
  have hlaw := small_laws (b := w0.heap.size) (tc := tc) (its := its) rfl hB hS hm hp hsh hin hn hT hit
  refine C13_gen (Inv := fun i => GInv w0 s B S ts mss kss i 0 0) rfl hin.tm ?_ hn ?_ ?_ ?_ hlaw |>.mono ?_
  · intro p hp h
    have := hin.low p hp
    have := h.1
    omega
  · intro i t ht
    have := hin.sz i t ht
    omega
  · rintro k ⟨_, e, he, _⟩
    unfold etype at he
    rcases Nat.lt_or_ge k w0.heap.size with h | h
    · exact h
    · rw [Array.getElem?_eq_none h] at he; cases he
  · exact ginv_start ⟨S.due, by rw [e]; exact hS⟩ hv
  · rintro _ w' ⟨r, rfl, h⟩
    exact ⟨r, rfl, h⟩
end
section
variable {W : World} {ta : Option Addr} {tc : Nat} {ts : List Tm} {kss mss : Nat → List Int}
theorem C3_gen (hts : TermsAt W ta ts) (hlow : ∀ p, ta = some p → p.block < W.heap.size) (hin : ∀ (i : Nat) (t : Tm), ts[i]? = some t → TermIn W W.heap.size t (kss i) (mss i)) (hT : Lib.Utf8Tabs 1 2 W) :
    Calls Tryz.prog 3 #[.slice ta ts.length tc] W fun e w' => e = .returned (.bool true) ∧ Keep No W w' := by
  refine ret_mono (V3_sound ta ts.length tc W (fun r w' => r = .bool true ∧ Keep No W w') ?_) (by rintro _ _ ⟨rfl, h⟩; exact ⟨rfl, h⟩)
  unfold V3
  refine (C9_gen hts fun i t ht => ?_).mono ?_
  · have g := hin i t ht
    exact ⟨reach_small g.kz (by decide), reach_small g.mz (by decide), reach_small (k := 1) (by have := g.tz; omega) (by decide)⟩
  rintro _ w1 ⟨bl, rfl, hk1, hbl⟩
  have hyes : ∀ {w : World}, Keep No W w → Calls Tryz.prog 10 #[] w fun e12 w13 => ∃ t14 : Bool, e12 = .returned (.bool t14) ∧ (Value.bool t14 = .bool true ∧ Keep No W w13) := by
    intro w hk
    refine (C10 w).mono ?_
    rintro _ w' ⟨rfl, h⟩
    exact ⟨_, rfl, rfl, hk.no h⟩
  refine ⟨_, rfl, bsel_split (fun h => ?_) fun hnl => ?_⟩
  · unfold V3J6
    exact bsel_pos rfl (hyes hk1)
  obtain ⟨_, hsz⟩ := hbl hnl
  unfold V3J6
  refine bsel_split (fun h => hyes hk1) fun h40 => ?_
  have h40 : ts.length ≤ 40 := by simp at h40; omega
  refine (C12 1000 5 w1).mono ?_
  rintro _ w2 ⟨rfl, hk2⟩
  refine ⟨_, _, _, _, _, _, _, _, _, rfl, (C11 (by decide) (by decide) (by decide)).mono ?_⟩
  rintro _ w3 ⟨s, a, p, rfl, hS, hk3⟩
  refine ⟨_, _, rfl, bsel_neg rfl ?_⟩
  have hk02 := hk1.no hk2
  have hk03 := hk02.no hk3
  have hB : w2.heap.size ≤ w3.heap.size := hk3.size
  have hWB : W.heap.size ≤ w2.heap.size := hk02.size
  have hsm0 : SmallIn W W.heap.size ta ts kss mss := ⟨hts, hlow, hin, fun i t ht => by have := hsz i t ht; omega⟩
  have hsm := hsm0.no hk03 hWB
  unfold V3J5
  refine bsel_neg rfl ((C13_small (its := itsS) (tc := tc) hB hS rfl ⟨rfl, rfl⟩ rfl (by simp) (by simp) hsm (by omega) (tabs_no hT hk03) fun x hx => ⟨fun w' hk' => ?_, itsS_size (by omega)⟩).mono ?_)
  · refine (Tryz.strconv_Itoa_small x (by omega) w').mono ?_
    rintro _ w'' ⟨rfl, rfl⟩
    exact ⟨rfl, Keep.refl _ _⟩
  rintro _ w5 ⟨r, rfl, ⟨i, hi, _, herr, rfl, hk5⟩ | ⟨herr, refs, own, v, hrl, rfl, hF, hk5, hrow, hown⟩⟩
  · refine ⟨_, _, _, _, rfl, bsel_pos (by simpa using herr) (bsel_pos rfl ((C14_at (hS.no hk5)).mono ?_))⟩
    rintro _ w6 ⟨rfl, hk6⟩
    exact ⟨_, rfl, bsel_pos rfl (hyes ((hk03.no hk5).no hk6))⟩
  have hk05 : Keep No W w5 := hk03.news hk5 fun k h => by have := h.1; omega
  obtain ⟨va, vc, rfl⟩ := ownsRow_slice hrow
  obtain ⟨hrefs, gs, S', hGI⟩ := hF
  refine ⟨_, _, _, _, rfl, bsel_neg rfl ?_⟩
  have hts5 := hts.no hk05
  have hnext : ∀ {w : World}, Keep No w5 w → Keep No W w := fun hk => hk05.no hk
  have hvd : ∀ i, i < ts.length → ∃ v, S'.vals[gref ts i]? = some v ∧ VDAt w5 w2.heap.size v (gdesc ts mss i) := fun i hi => hGI.val.vd i _ (List.getElem?_eq_getElem hi) hi
  have hW : OrdW ts.length (alN ts mss) (isN ts mss) (numN ts mss) (gref ts) (insN ts) s va ta (Keep No w5) := by
    refine ⟨fun w i hi hI => ?_, fun w i j hi hj hI => ?_, fun w i j hi hj hI => ?_, fun i hi => ?_, fun i hi => ?_, fun w hI => hI.no (Keep.drawn w)⟩
    · obtain ⟨v, h1, h2⟩ := hvd i hi
      refine (C15_in (hGI.val.st.no hI) h1 (h2.no hI)).mono ?_
      rintro _ w' ⟨rfl, hk⟩
      exact ⟨rfl, hI.no hk⟩
    · obtain ⟨v, h1, h2⟩ := hvd i hi
      obtain ⟨u, h3, h4⟩ := hvd j hj
      refine (C16_in (hGI.val.st.no hI) h1 (h2.no hI) h3 (h4.no hI)).mono ?_
      rintro _ w' ⟨bb, rfl, hbb, hk⟩
      refine ⟨?_, hI.no hk⟩
      rw [show bb = alN ts mss i j by unfold alN; rw [Bool.eq_iff_iff, hbb]; simp]
    · obtain ⟨v, h1, h2⟩ := hvd i hi
      obtain ⟨u, h3, h4⟩ := hvd j hj
      refine (C17_in (hGI.val.st.no hI) h1 (h2.no hI) h3 (h4.no hI)).mono ?_
      rintro _ w' ⟨bb, rfl, hbb, hk⟩
      refine ⟨?_, hI.no hk⟩
      rw [show bb = isN ts mss i j by unfold isN; rw [Bool.eq_iff_iff, hbb]; simp]
    · obtain ⟨g, cap, hv, _, hc⟩ := row_cell hrow (i := i) (ints_get (n := (gref ts i : Int)) (by rw [hrefs]; simp [hi]))
      cases hv
      exact ⟨_, rfl, fun w hI => by rw [add_mk, Nat.zero_add]; exact hI.cell hc id⟩
    · obtain ⟨t, ht⟩ : ∃ t, ts[i]? = some t := ⟨_, List.getElem?_eq_getElem hi⟩
      obtain ⟨q, rfl, _⟩ := hts i t ht
      refine ⟨q, rfl, fun w hI => ?_⟩
      obtain ⟨q', hq, hc⟩ := hts5 i t ht
      cases hq
      refine ⟨t.kind, hI.cell (hc.get 0 rfl) id, ?_⟩
      unfold insN
      rw [ht]
  refine ordLoop (ord_facts (by omega)) hW (by omega) (Keep.refl _ _) (fun w hI => ?_) (fun w hI => ?_)
  · refine (C14_at (hGI.val.st.no hI)).mono ?_
    rintro _ w' ⟨rfl, hk⟩
    exact ⟨by rw [hGI.last.2], hI.no hk⟩
  · refine (C10 w).mono ?_
    rintro _ w' ⟨rfl, hk⟩
    exact ⟨rfl, rfl, hk05.no (hI.no hk)⟩
end
end Go.Fw

