/- Part of a proof over the given program: texts of lemmas (conditions: none beyond each lemma as stated). -/
import Derived.Test.YtdmoefbfepeeaaaGreatDoorP4
import Derived.Maps.Own
set_option linter.unnecessarySimpa false
set_option linter.unusedVariables false
set_option linter.unusedSimpArgs false

set_option autoImplicit false
namespace Go.Fw
open Go.RowKit

/-! Rows that are the call's own, maps, over 'Keep'. -/
section
variable {w w' : World} {base : Nat} {e : TypeId} {size : Nat} {v : Value} {n : Nat} {xs : List Value} {fp : Nat → Prop}

theorem ownsRow_etype (h : w.ownsRow base e size v n xs) {g : Nat} (hg : v.ownBlock = some g) : etype w g = some e := by
  rcases h.2 with ⟨rfl, _⟩ | ⟨g', cap, cur, rfl, _, hc, _⟩
  · cases hg
  · cases hg
    unfold etype
    rw [hc]
theorem Keep.row (hk : Keep fp w w') (h : w.ownsRow base e size v n xs) (hn : ∀ g, v.ownBlock = some g → ¬ fp g) : w'.ownsRow base e size v n xs := by
  refine ⟨h.1, ?_⟩
  rcases h.2 with hl | ⟨g, cap, cur, rfl, hb, hc, hr⟩
  · exact .inl hl
  · refine .inr ⟨g, cap, cur, rfl, hb, ?_, hr⟩
    rw [hk.block g (Array.getElem?_eq_some_iff.1 hc).1 (hn g rfl), hc]
theorem Keep.nrow (hk : Keep No w w') (h : w.ownsRow base e size v n xs) : w'.ownsRow base e size v n xs := hk.row h fun _ _ => id
theorem Keep.trow {B : Nat} {ts : List TypeId} (hk : Keep (Ty B ts w) w w') (h : w.ownsRow base e size v n xs) (hn : e ∉ ts) : w'.ownsRow base e size v n xs :=
  hk.row h fun g hg ⟨_, e', he, ht⟩ => by
    rw [ownsRow_etype h hg] at he
    cases he
    exact hn ht
theorem ownsRow_ne {b : Nat} {e' : TypeId} {cs : List Value} (h : w.ownsRow base e size v n xs) (hb : Blk w b e' cs) (he : e ≠ e') : v.ownBlock ≠ some b := fun hg => by
  have h1 := ownsRow_etype h hg
  have h2 := hb.etype
  rw [h1] at h2
  cases h2
  exact he rfl
theorem ownsRow_mono {base' : Nat} (h : w.ownsRow base e size v n xs) (hb : base' ≤ base) : w.ownsRow base' e size v n xs := by
  refine ⟨h.1, ?_⟩
  rcases h.2 with hl | ⟨g, cap, cur, rfl, hg, hr⟩
  · exact .inl hl
  · exact .inr ⟨g, cap, cur, rfl, by omega, hr⟩
end

/-- 'append(v, x)' onto a row of one's own: x lies in a block of its own. -/
theorem append_of {P : Program} {t e : TypeId} {i : TypeInfo} {z : Value} {bytes : Nat} (ht : P.underlying t = some (.slice e)) (hi : P.info? e = some i) (hz : i.zero = some z) (hsize : i.size = 1) (hby : i.bytes = bytes) (hzs : z.cells.size = 1)
    {w : World} {base : Nat} {v : Value} {n : Nat} {xs : List Value} (hown : w.ownsRow base e 1 v n xs) {b : Nat} {e' : TypeId} {x : Value} (hb : Blk w b e' [x]) (hx : x.oneCell' = true)
    (hbytes : (n + 1) * bytes ≤ 140737488355328) (hbp : 0 < bytes) (hbase : base ≤ w.heap.size) {K : World → Option Addr → Nat → Nat → Prop}
    (h : ∀ g cap w', w'.ownsRow base e 1 (.slice (some ⟨g, 0, none⟩) (n + 1) cap) (n + 1) (xs ++ [x]) → Keep (fun k => v.ownBlock = some k) w w' → (v.ownBlock = some g ∨ g = w.heap.size) → K w' (some ⟨g, 0, none⟩) (n + 1) cap) :
    ∃ w' : World, ∃ a : Option Addr, ∃ l : Nat, ∃ c : Nat, (vcEff.bltV .append #[t, t] t #[v, .slice (some ⟨b, 0, none⟩) 1 1]).run P w = .ok (.slice a l c) w' ∧ K w' a l c := by
  have h63 : n + 1 ≤ maxLen := by
    have h1 : (n + 1) * 1 ≤ (n + 1) * bytes := Nat.mul_le_mul_left _ hbp
    unfold maxLen; omega
  obtain ⟨g, cap, w', hr, ho, hg, hat, hlt⟩ := run_append_lies (P := P) w t t base e i z 1 bytes ht hi hz hsize hby hzs (by omega) v n xs hown ⟨b, 0, none⟩ 1 1 [x] rfl
    (by intro j u hj
        rcases j with _ | j
        · cases hj; exact hb.add 0 rfl
        · simp at hj)
    (by intro u hu; simp at hu; subst hu; exact hx) (by omega) h63 hbytes hbase _ rfl
  refine ⟨w', _, _, _, hr, h g cap w' ho (Keep.of_grown hg) hat⟩

end Go.Fw

set_option autoImplicit false
set_option linter.unusedVariables false
namespace Go.Fw
open Go.RowKit

/-! Rows of structs. -/
theorem flat_len {α : Type} {f : α → List Value} {n : Nat} (hf : ∀ a, (f a).length = n) : ∀ L : List α, (L.flatMap f).length = L.length * n
  | [] => by simp
  | a :: L => by rw [List.flatMap_cons, List.length_append, hf, flat_len hf L, List.length_cons, Nat.add_mul]; omega
theorem flat_get {α : Type} {f : α → List Value} {n : Nat} (hf : ∀ a, (f a).length = n) {k : Nat} (hk : k < n) : ∀ (L : List α) (i : Nat) (a : α), L[i]? = some a → (L.flatMap f)[i * n + k]? = (f a)[k]?
  | [], i, a, h => by simp at h
  | b :: L, 0, a, h => by
    simp at h
    subst h
    rw [List.flatMap_cons, Nat.zero_mul, Nat.zero_add, List.getElem?_append_left (by rw [hf]; exact hk)]
  | b :: L, i + 1, a, h => by
    have := flat_get hf hk L i a (by simpa using h)
    rw [List.flatMap_cons, List.getElem?_append_right (by rw [hf, Nat.add_mul]; omega), hf, show (i + 1) * n + k - n = i * n + k by rw [Nat.add_mul]; omega, this]
theorem flat_set {α : Type} {f : α → List Value} {n : Nat} (hf : ∀ a, (f a).length = n) {k : Nat} (hk : k < n) {u : Value} : ∀ (L : List α) (i : Nat) (a a' : α), L[i]? = some a → f a' = (f a).set k u → (L.flatMap f).set (i * n + k) u = (L.set i a').flatMap f
  | [], i, a, a', h, _ => by simp at h
  | b :: L, 0, a, a', h, he => by
    simp at h
    subst h
    rw [List.flatMap_cons, List.set_cons_zero, List.flatMap_cons, he, Nat.zero_mul, Nat.zero_add, List.set_append_left _ _ (by rw [hf]; exact hk)]
  | b :: L, i + 1, a, a', h, he => by
    have := flat_set hf hk (u := u) L i a a' (by simpa using h) he
    rw [List.flatMap_cons, List.set_cons_succ, List.flatMap_cons, List.set_append_right _ _ (by rw [hf, Nat.add_mul]; omega), hf, show (i + 1) * n + k - n = i * n + k by rw [Nat.add_mul]; omega, this]

/-- A cell of a row of one's own. -/
theorem row_at {w : World} {base e size n j : Nat} {v : Value} {xs : List Value} {x : Value} (h : w.ownsRow base e size v n xs) (hx : xs[j]? = some x) : ∃ g cap, v = .slice (some ⟨g, 0, none⟩) n cap ∧ base ≤ g ∧ w.cell? ⟨g, j, none⟩ = some x ∧ w.frozen? ⟨g, j, none⟩ = false := by
  have hj : j < n * size := by
    have := (List.getElem?_eq_some_iff.1 hx).1
    have := h.1
    omega
  rcases h.2 with ⟨_, h0⟩ | ⟨g, cap, cur, rfl, hb, hg, hc, hm, hs, ht⟩
  · subst h0; omega
  · exact ⟨g, cap, rfl, hb, by rw [h.cellAt j hj, hx], h.frozenAt j⟩

/-- A cell of a row of one's own is set. -/
theorem row_set {w : World} {base e size n j g cap : Nat} {xs : List Value} {u : Value} (h : w.ownsRow base e size (.slice (some ⟨g, 0, none⟩) n cap) n xs) :
    (w.setCell ⟨g, j, none⟩ u).ownsRow base e size (.slice (some ⟨g, 0, none⟩) n cap) n (xs.set j u) := (h.stored j u).1

/-- A store into a row of one's own. -/
theorem stRow {w : World} {base e size n j g cap : Nat} {xs : List Value} {u x : Value} {K : World → Prop} (h : w.ownsRow base e size (.slice (some ⟨g, 0, none⟩) n cap) n xs) (hx : xs[j]? = some x)
    (hK : ∀ w', w'.ownsRow base e size (.slice (some ⟨g, 0, none⟩) n cap) n (xs.set j u) → Keep (fun k => k = g) w w' → K w') : stK w ⟨g, j, none⟩ u K := by
  obtain ⟨g', cap', hv, _, hc, hf⟩ := row_at h hx
  cases hv
  exact ⟨⟨by rw [hc]; rfl, hf⟩, hK _ (row_set h) (Keep.one w ⟨g, j, none⟩ u)⟩

/-- append of more, of any size, onto a row of one's own. -/
theorem appendN {P : Program} {t e : TypeId} {i : TypeInfo} {z : Value} {size bytes : Nat} (ht : P.underlying t = some (.slice e)) (hi : P.info? e = some i) (hz : i.zero = some z) (hsize : i.size = size) (hby : i.bytes = bytes) (hzs : z.cells.size = size) (hsz : 0 < size)
    {w : World} {base : Nat} {v : Value} {n m c : Nat} {xs news : List Value} (hown : w.ownsRow base e size v n xs) {b : Nat} {e' : TypeId} (hb : Blk w b e' news) (hl : news.length = m * size) (h1 : ∀ u ∈ news, u.oneCell' = true) (hm : 0 < m)
    (hbytes : (n + m) * bytes ≤ 140737488355328) (hbp : 0 < bytes) (hbase : base ≤ w.heap.size) {K : World → Option Addr → Nat → Nat → Prop}
    (h : ∀ g cap w', w'.ownsRow base e size (.slice (some ⟨g, 0, none⟩) (n + m) cap) (n + m) (xs ++ news) → Keep (fun k => v.ownBlock = some k) w w' → (v.ownBlock = some g ∨ g = w.heap.size) → K w' (some ⟨g, 0, none⟩) (n + m) cap) :
    ∃ w' : World, ∃ a : Option Addr, ∃ l : Nat, ∃ c' : Nat, (vcEff.bltV .append #[t, t] t #[v, .slice (some ⟨b, 0, none⟩) m c]).run P w = .ok (.slice a l c') w' ∧ K w' a l c' := by
  have h63 : n + m ≤ maxLen := by
    have h1 : (n + m) * 1 ≤ (n + m) * bytes := Nat.mul_le_mul_left _ hbp
    unfold maxLen; omega
  obtain ⟨g, cap, w', hr, ho, hg, hat, hlt⟩ := run_append_lies (P := P) w t t base e i z size bytes ht hi hz hsize hby hzs hsz v n xs hown ⟨b, 0, none⟩ m c news hl
    (by intro j u hj
        rw [add_mk, Nat.zero_add]
        exact hb.cell hj)
    h1 hm h63 hbytes hbase _ rfl
  refine ⟨w', _, _, _, hr, h g cap w' ho (Keep.of_grown hg) hat⟩

/-! Cells in a row, one by one. -/
theorem cellsFrom_get {w : World} {a : Addr} : ∀ {vs : List Value} {i : Nat}, cellsFrom w a vs i → ∀ {j : Nat} {v : Value}, vs[j]? = some v → w.cell? (a.add (i + j)) = some v
  | [], _, _, j, v, hj => by simp at hj
  | u :: vs, i, h, j, v, hj => by
    obtain ⟨h1, h2⟩ := cellsFrom_cons.1 h
    rcases j with _ | j
    · cases hj; exact h1
    · have := cellsFrom_get h2 (j := j) (by simpa using hj)
      rw [show i + (j + 1) = i + 1 + j by omega]
      exact this
theorem CellsAt.get {w : World} {a : Addr} {vs : List Value} (h : CellsAt w a vs) (j : Nat) {v : Value} (hj : vs[j]? = some v) : w.cell? (a.add j) = some v := by
  simpa using cellsFrom_get h hj
theorem add_add (a : Addr) (n m : Nat) : (a.add n).add m = a.add (n + m) := by
  unfold Addr.add
  by_cases hn : n = 0
  · subst hn; simp
  · by_cases hm : m = 0
    · subst hm; simp
    · simp [hn, hm, Nat.add_assoc]
theorem CellsAt.get2 {w : World} {a : Addr} {vs : List Value} (h : CellsAt w a vs) (j k : Nat) {v : Value} (hj : vs[j + k]? = some v) : w.cell? ((a.add j).add k) = some v := by
  rw [add_add]; exact h.get (j + k) hj

end Go.Fw
