/- Part of a proof over the given program: a text of lemmas (conditions: none beyond each lemma as stated). -/
import Derived.Test.YtlnpfkmbielifaaGreatDoorFwT
import Derived.Maps.Own
set_option linter.unnecessarySimpa false
set_option linter.unusedVariables false
set_option linter.unusedSimpArgs false
set_option autoImplicit false
namespace Go.Fw
open Go.RowKit

/-! Rows that are the call's own, maps, over 'Keep'. -/
section
variable {w w' : World} {base : Nat} {e : TypeId} {size : Nat} {v : Value} {n : Nat} {xs : List Value} {fp : Nat → Prop}

theorem ownsRow_etype (h : w.ownsRow base e size v n xs) {g : Nat} (hg : v.ownBlock = some g) : etype w g = some e := by
  rcases h.2 with ⟨rfl, _⟩ | ⟨g', cap, cur, rfl, _, hc, _⟩
  · cases hg
  · cases hg
    unfold etype
    rw [hc]
theorem Keep.row (hk : Keep fp w w') (h : w.ownsRow base e size v n xs) (hn : ∀ g, v.ownBlock = some g → ¬ fp g) : w'.ownsRow base e size v n xs := by
  refine ⟨h.1, ?_⟩
  rcases h.2 with hl | ⟨g, cap, cur, rfl, hb, hc, hr⟩
  · exact .inl hl
  · refine .inr ⟨g, cap, cur, rfl, hb, ?_, hr⟩
    rw [hk.block g (Array.getElem?_eq_some_iff.1 hc).1 (hn g rfl), hc]
theorem Keep.nrow (hk : Keep No w w') (h : w.ownsRow base e size v n xs) : w'.ownsRow base e size v n xs := hk.row h fun _ _ => id
theorem Keep.trow {B : Nat} {ts : List TypeId} (hk : Keep (Ty B ts w) w w') (h : w.ownsRow base e size v n xs) (hn : e ∉ ts) : w'.ownsRow base e size v n xs :=
  hk.row h fun g hg ⟨_, e', he, ht⟩ => by
    rw [ownsRow_etype h hg] at he
    cases he
    exact hn ht
theorem ownsRow_ne {b : Nat} {e' : TypeId} {cs : List Value} (h : w.ownsRow base e size v n xs) (hb : Blk w b e' cs) (he : e ≠ e') : v.ownBlock ≠ some b := fun hg => by
  have h1 := ownsRow_etype h hg
  have h2 := hb.etype
  rw [h1] at h2
  cases h2
  exact he rfl
theorem ownsRow_mono {base' : Nat} (h : w.ownsRow base e size v n xs) (hb : base' ≤ base) : w.ownsRow base' e size v n xs := by
  refine ⟨h.1, ?_⟩
  rcases h.2 with hl | ⟨g, cap, cur, rfl, hg, hr⟩
  · exact .inl hl
  · exact .inr ⟨g, cap, cur, rfl, by omega, hr⟩
end

/-- 'append(v, x)' onto a row of one's own: x lies in a block of its own. -/
theorem append_of {P : Program} {t e : TypeId} {i : TypeInfo} {z : Value} {bytes : Nat} (ht : P.underlying t = some (.slice e)) (hi : P.info? e = some i) (hz : i.zero = some z) (hsize : i.size = 1) (hby : i.bytes = bytes) (hzs : z.cells.size = 1)
    {w : World} {base : Nat} {v : Value} {n : Nat} {xs : List Value} (hown : w.ownsRow base e 1 v n xs) {b : Nat} {e' : TypeId} {x : Value} (hb : Blk w b e' [x]) (hx : x.oneCell' = true)
    (hbytes : (n + 1) * bytes ≤ 140737488355328) (hbp : 0 < bytes) (hbase : base ≤ w.heap.size) {K : World → Option Addr → Nat → Nat → Prop}
    (h : ∀ g cap w', w'.ownsRow base e 1 (.slice (some ⟨g, 0, none⟩) (n + 1) cap) (n + 1) (xs ++ [x]) → Keep (fun k => v.ownBlock = some k) w w' → (v.ownBlock = some g ∨ g = w.heap.size) → K w' (some ⟨g, 0, none⟩) (n + 1) cap) :
    ∃ w' : World, ∃ a : Option Addr, ∃ l : Nat, ∃ c : Nat, (vcEff.bltV .append #[t, t] t #[v, .slice (some ⟨b, 0, none⟩) 1 1]).run P w = .ok (.slice a l c) w' ∧ K w' a l c := by
  have h63 : n + 1 ≤ maxLen := by
    have h1 : (n + 1) * 1 ≤ (n + 1) * bytes := Nat.mul_le_mul_left _ hbp
    unfold maxLen; omega
  obtain ⟨g, cap, w', hr, ho, hg, hat, hlt⟩ := run_append_lies (P := P) w t t base e i z 1 bytes ht hi hz hsize hby hzs (by omega) v n xs hown ⟨b, 0, none⟩ 1 1 [x] rfl
    (by intro j u hj
        rcases j with _ | j
        · cases hj; exact hb.add 0 rfl
        · simp at hj)
    (by intro u hu; simp at hu; subst hu; exact hx) (by omega) h63 hbytes hbase _ rfl
  refine ⟨w', _, _, _, hr, h g cap w' ho (Keep.of_grown hg) hat⟩

end Go.Fw
