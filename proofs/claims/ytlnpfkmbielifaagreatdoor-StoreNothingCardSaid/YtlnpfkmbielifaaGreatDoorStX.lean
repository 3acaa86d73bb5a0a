/- Part of a proof over the given program: a text of lemmas (conditions: none beyond each lemma as stated). -/
import Derived.Test.YtlnpfkmbielifaaGreatDoorStW
set_option linter.unnecessarySimpa false
set_option linter.unusedSimpArgs false
set_option autoImplicit false
set_option linter.unusedVariables false
namespace Go.Fw
open Go.Proofs Go.RowKit

theorem StAt.types {w w' : World} {X : Nat → Prop} {s B : Nat} {S : St} (h : StAt w s B S) (hk : Keep X w w') (hX : ∀ k, X k → k < w.heap.size → ∃ e, Fw.etype w k = some e ∧ e ∉ storeTy) : StAt w' s B S :=
  h.keep (hk.mono (fp' := fun k => X k ∧ k < w.heap.size) fun k h1 h2 => ⟨h2, h1⟩) fun k _ ⟨h1, h2⟩ => hX k h1 h2
theorem Keep.xblk {w w' : World} {X : Nat → Prop} (hk : Keep X w w') {b : Nat} {e : TypeId} {cs : List Value} (hb : Blk w b e cs) (hn : b < w.heap.size → ¬ X b) : Blk w' b e cs := hk.blk hb (hn hb.lt)

def tmA : Tm := ⟨4, false, false, none, 0, 0, ⟨#[97]⟩, none, 0, 0, false, false⟩
def tmB (kb : Nat) : Tm := ⟨5, false, false, none, 0, 0, ⟨#[]⟩, some ⟨kb, 0, none⟩, 2, 2, false, false⟩
def strA : Value := .iface 96 (.agg #[.string ⟨#[97]⟩])

section
variable (s B : Nat) (S : St) (w0 : World)
/-- How the Store stands while 'awake' builds. -/
def AwInv (i : Nat) (refs : List Int) (own : Nat → Prop) (w : World) : Prop :=
  (i = 0 ∧ refs = [] ∧ (∀ k, ¬ own k) ∧ ∃ d, StAt w s B { S with due := d }) ∨ (i = 1 ∧ refs = [3] ∧ (∀ k, ¬ own k) ∧ ∃ d, StAt w s B { S with due := d, vals := val0 ++ [strA] }) ∨
  (i = 2 ∧ refs = [3, 4] ∧ ∃ d r g cs, StAt w s B { S with due := d, last := 1, live := 1, vals := val0 ++ [strA, .iface 80 (.pointer (some ⟨r, 0, none⟩))] } ∧ Blk w r 86 [.int .i64 1, .slice (some ⟨g, 0, none⟩) 2 2, .int .i64 5] ∧ Blk w g 3 cs ∧ cs.length = 2 ∧ own g ∧ w0.heap.size ≤ g ∧ (∀ k, own k → k = g))
def AwFil (i j : Nat) (refs : List Int) (own : Nat → Prop) (w : World) : Prop := AwInv s B S w0 2 refs own w

theorem awInv_stab (i : Nat) (refs : List Int) (own : Nat → Prop) (w w' : World) (X : Nat → Prop) (h : AwInv s B S w0 i refs own w) (hk : Keep X w w') (hX : ∀ k, X k → k < w.heap.size → (etype w k = some 3 ∨ etype w k = some 77) ∧ ¬ own k) : AwInv s B S w0 i refs own w' := by
  have hX' : ∀ k, X k → k < w.heap.size → ∃ e, etype w k = some e ∧ e ∉ storeTy := fun k h1 h2 => by
    rcases (hX k h1 h2).1 with h | h
    · exact ⟨3, h, by decide⟩
    · exact ⟨77, h, by decide⟩
  rcases h with ⟨hi, hr, ho, d, h1⟩ | ⟨hi, hr, ho, d, h1⟩ | ⟨hi, hr, d, r, g, cs, h1, h2, h3, h4, h5, h6, h7⟩
  · exact .inl ⟨hi, hr, ho, d, h1.types hk hX'⟩
  · exact .inr (.inl ⟨hi, hr, ho, d, h1.types hk hX'⟩)
  · refine .inr (.inr ⟨hi, hr, d, r, g, cs, h1.types hk hX', hk.xblk h2 fun hl hx => ?_, hk.xblk h3 fun hl hx => (hX g hx hl).2 h5, h4, h5, h6, h7⟩)
    rcases (hX r hx hl).1 with h | h <;> rw [h2.etype] at h <;> cases h
end

theorem aw_laws {w0 : World} {s B b tb kb : Nat} {S : St} (hb : b = w0.heap.size) (hB : B ≤ w0.heap.size) (hS : S.vals = val0) (hl : S.last = 0) (hv : S.live = 0)
    (hkb : Blk w0 kb 3 [.int .i64 0, .int .i64 0]) (htb : Blk w0 tb 42 (tmA.cells ++ (tmB kb).cells)) :
    Laws w0 s b (some ⟨tb, 0, none⟩) 2 [tmA, tmB kb] (fun k => Ty B storeTy w0 k) (fun _ => 0) (AwInv s B S w0) (AwFil s B S w0) := by
  have hts : TermsAt w0 (some ⟨tb, 0, none⟩) [tmA, tmB kb] := by
    intro i t ht
    rcases i with _ | _ | i
    · cases ht
      exact ⟨_, rfl, htb.cellsAdd 0 rfl⟩
    · cases ht
      exact ⟨_, rfl, htb.cellsAdd 8 rfl⟩
    · simp at ht
  have hkA : ∀ w, KidsAt w tmA [] := fun w => ⟨rfl, fun j k h => by simp at h⟩
  have hkB : KidsAt w0 (tmB kb) [0, 0] := ⟨rfl, fun j k h => by
    rcases j with _ | _ | j
    · cases h; exact ⟨_, rfl, hkb.add 0 rfl⟩
    · cases h; exact ⟨_, rfl, hkb.add 1 rfl⟩
    · simp at h⟩
  have hTy : ∀ {w : World} {k : Nat}, Keep (fun k => Ty B storeTy w0 k) w0 w → Ty B storeTy w k → k < w0.heap.size → Ty B storeTy w0 k := by
    intro w k hk ht hlt
    by_cases hc : Ty B storeTy w0 k
    · exact hc
    · obtain ⟨h1, e, h2, h3⟩ := ht
      refine ⟨h1, e, ?_, h3⟩
      rw [← h2]
      unfold etype
      rw [hk.block k hlt hc]
  refine ⟨?_, awInv_stab s B S w0, ?_, fun refs own w _ _ h => h, fun i j => awInv_stab s B S w0 2, ?_⟩
  · intro i w hi hk hbb
    rcases i with _ | _ | i
    · exact C23_fine hbb (hts.no hk) (n := 0) rfl (hkA w) (.inr ⟨rfl, rfl, rfl⟩) (by intro j k h; simp at h)
    · refine C23_fine hbb (hts.no hk) (n := 1) rfl (hkB.no hk) (.inl ⟨rfl, by simp [tmB]⟩) ?_
      intro j k h
      rcases j with _ | _ | j
      · cases h; decide
      · cases h; decide
      · simp at h
    · simp at hi; omega
  · intro i t refs own w v _ ht hrl hInv hk _ hbb hrow hown
    have hsz := hk.size
    have hfoot : ∀ k, Ty B storeTy w k → k ≠ b ∧ v.ownBlock ≠ some k ∧ (k < w0.heap.size → Ty B storeTy w0 k) := by
      intro k hT
      have hT' := hT
      obtain ⟨_, e, he, hm⟩ := hT
      refine ⟨fun h => ?_, fun h => ?_, hTy hk hT'⟩
      · subst h; rw [hbb.etype] at he; cases he; exact absurd hm (by decide)
      · rw [ownsRow_etype hrow h] at he; cases he; exact absurd hm (by decide)
    rcases i with _ | _ | i
    · cases ht
      rcases hInv with ⟨_, rfl, ho, d, h⟩ | ⟨h, _⟩ | ⟨h, _⟩
      rotate_left
      · omega
      · omega
      refine (C24_str h hbb (by simp [hS, val0]) (by omega) rfl).mono ?_
      rintro _ w' ⟨rfl, d', h', hk'⟩
      refine ⟨_, own, rfl, .inr (.inl ⟨rfl, by simp [hS, val0], ho, d', ?_⟩), hk'.mono fun k _ h => hfoot k h, fun k h => .inl h⟩
      simpa [hS, strA, tmA] using h'
    · cases ht
      rcases hInv with ⟨h, _⟩ | ⟨_, rfl, ho, d, h⟩ | ⟨h, _⟩
      · omega
      rotate_left
      · omega
      refine (C24_row h hbb (by simp [val0]) (by omega) (.inl rfl) (by simp [tmB]) (by simp [hl]) (by simp [hv])).mono ?_
      rintro _ w' ⟨rfl, d', r, g, hr, hg, hbr, hbg, h', hk'⟩
      refine ⟨_, fun k => own k ∨ k = g, rfl, .inr (.inr ⟨rfl, by simp [val0], d', r, g, _, ?_, ?_, hbg, by simp [tmB], .inr rfl, by omega, fun k h => h.elim (fun h => absurd h (ho k)) id⟩), hk'.mono fun k _ h => hfoot k h, fun k h => ?_⟩
      · simpa [hl, hv] using h'
      · simpa [hl, tmB] using hbr
      · rcases h with h | rfl
        · exact .inl h
        · exact .inr ⟨hg, hbg.lt⟩
    · simp at ht
  · intro i t refs own w ref _ ht href hrl hk hF
    rcases hF with ⟨h, _⟩ | ⟨h, _⟩ | ⟨_, rfl, d, r, g, cs, h1, h2, h3, h4, h5, h6, h7⟩
    · omega
    · omega
    rcases i with _ | _ | i
    · cases ht
      cases href
      exact ⟨strA, C25_in h1 (i := 3) rfl, .inl ⟨no80 (by decide) _ _, fun w1 h => h⟩⟩
    · cases ht
      cases href
      refine ⟨_, C25_in h1 (i := 4) rfl, .inr ⟨r, rfl, fun w1 h => h, ?_⟩⟩
      intro j w1 hj hk1 hko hF
      have hkb1 : Blk w1 kb 3 [.int .i64 0, .int .i64 0] := hk1.blk hkb fun h => by
        obtain ⟨_, e, he, hm⟩ := h
        rw [hkb.etype] at he; cases he; exact absurd hm (by decide)
      have hr1 := hko.blk h2 fun h => by
        have := h7 r h
        subst this
        have h8 := h2.etype
        rw [h3.etype] at h8
        cases h8
      have hj2 : j < 2 := hj
      have hF0 := hF
      rcases hF with ⟨h, _⟩ | ⟨h, _⟩ | ⟨_, _, d', r', g', cs', h1', h2', h3', h4', h5', h6', h7'⟩
      · omega
      · omega
      have hgg : g' = g := h7 g' h5'
      subst hgg
      obtain ⟨kid, hkid, hk0⟩ : ∃ kid, ([.int .i64 0, .int .i64 0] : List Value)[j]? = some (.int .i64 kid) ∧ kid = 0 := by
        rcases j with _ | _ | j
        · exact ⟨0, rfl, rfl⟩
        · exact ⟨0, rfl, rfl⟩
        · omega
      refine ⟨g', 2, 2, _, kid, hr1.cell rfl, hj2, h5', h6', ?_, h3'.frozen, rfl, by rw [add_mk]; exact hkb1.cell (by simpa using hkid), by omega, by simp [hk0], ?_⟩
      · rw [h3'.cell (List.getElem?_eq_getElem (by omega))]; rfl
      · intro v hv
        have hone := Keep.one w1 ⟨g', j, none⟩ (.int .i64 v)
        refine .inr (.inr ⟨rfl, rfl, d', r', g', _, ?_, ?_, h3'.set, by simp [h4'], h5', h6', h7'⟩)
        · exact h1'.types hone fun k e _ => by subst e; exact ⟨3, h3'.etype, by decide⟩
        · exact hone.blk h2' fun e => by
            have e : r' = g' := e
            have h8 := h2'.etype
            rw [e, h3'.etype] at h8
            cases h8
    · simp at ht
end Go.Fw
