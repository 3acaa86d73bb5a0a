/- Part of a proof over the given program: texts of lemmas (conditions: none beyond each lemma as stated). -/
import Derived.Test.YtdmoefbfepeeaaaGreatDoorQ12
import Derived.Laws.Strings
set_option linter.unnecessarySimpa false
set_option linter.unusedVariables false
set_option linter.unusedSimpArgs false

set_option autoImplicit false
set_option linter.unusedVariables false
namespace Go.Fw
open Go.Proofs Go.RowKit
section
variable {N b l p : Nat} {Rec : LoopState → Option Code → Obj} {w0 : World} {s : Option Addr}
end
end Go.Fw


set_option autoImplicit false
set_option linter.unusedVariables false
namespace Go.Fw
open Go.Proofs Go.RowKit
section
variable {w0 : World} {s : Option Addr}
end
end Go.Fw


set_option autoImplicit false
set_option linter.unusedVariables false
namespace Go.Fw
open Go.Proofs Go.RowKit
theorem numbered160 (t : ByteArray) (w : World) : (callMethod (.iface 160 (.agg #[.string t])) "lexicon/store.numbered" #[]).run Tryz.prog w = .ok (.enter 397 (#[.agg #[]] ++ #[])) w := by kernel_rfl
theorem kind85 (w : World) : (callMethod (.iface 85 (.agg #[])) "Kind" #[]).run Tryz.prog w = .ok (.enter 398 (#[.agg #[]] ++ #[])) w := by kernel_rfl
theorem kind160 (t : ByteArray) (w : World) : (callMethod (.iface 160 (.agg #[.string t])) "Kind" #[]).run Tryz.prog w = .ok (.enter 409 (#[.agg #[.string t]] ++ #[])) w := by kernel_rfl
theorem C397 (w : World) : Calls Tryz.prog 397 #[.agg #[]] w fun e w' => e = .returned (.int .i64 0) ∧ Keep No w w' := by
  refine ret_mono (V397_sound w (fun r w' => r = .int .i64 0 ∧ Keep No w w') ?_) (by rintro _ _ ⟨rfl, h⟩; exact ⟨rfl, h⟩)
  unfold V397
  exact newK_of fun b w1 _ _ hk => ⟨rfl, hk⟩
theorem C409 (t : ByteArray) (w : World) : Calls Tryz.prog 409 #[.agg #[.string t]] w fun e w' => e = .returned (.int .i64 4) ∧ Keep No w w' := by
  refine ret_mono (V409_sound t w (fun r w' => r = .int .i64 4 ∧ Keep No w w') ?_) (by rintro _ _ ⟨rfl, h⟩; exact ⟨rfl, h⟩)
  unfold V409
  exact newK_of fun b w1 _ _ hk => ⟨rfl, hk⟩
section
variable {w : World} {s B : Nat} {S : St} {i : Nat}
theorem C44_str (h : StAt w s B S) {t : ByteArray} (hx : S.vals[i]? = some (.iface 160 (.agg #[.string t]))) :
    Calls Tryz.prog 44 #[.pointer (some ⟨s, 0, none⟩), .int .i64 i] w fun e w' => e = .returned (.tuple #[.string t, .bool true]) ∧ Keep No w w' := by
  refine ret_mono (V44_sound _ _ w (fun r w' => r = .tuple #[.string t, .bool true] ∧ Keep No w w') ?_) (by rintro _ _ ⟨rfl, h⟩; exact ⟨rfl, h⟩)
  unfold V44
  refine (C41_in h hx).mono ?_
  rintro _ w1 ⟨rfl, rfl⟩
  refine ⟨_, rfl, _, _, yes96 _ _, newK_of fun b w2 hs hb hk => stK_add hb (by simp) fun w3 hb3 hk3 => ⟨_, hb3.add 0 rfl, rfl, hk.news hk3 (by rintro k rfl; omega)⟩⟩
theorem C44_no (h : StAt w s B S) {u : TypeId} {v : Value} (hx : S.vals[i]? = some (.iface u v)) (hu : u ≠ 160) :
    Calls Tryz.prog 44 #[.pointer (some ⟨s, 0, none⟩), .int .i64 i] w fun e w' => e = .returned (.tuple #[.string ⟨#[]⟩, .bool false]) ∧ Keep No w w' := by
  refine ret_mono (V44_sound _ _ w (fun r w' => r = .tuple #[.string ⟨#[]⟩, .bool false] ∧ Keep No w w') ?_) (by rintro _ _ ⟨rfl, h⟩; exact ⟨rfl, h⟩)
  unfold V44
  refine (C41_in h hx).mono ?_
  rintro _ w1 ⟨rfl, rfl⟩
  refine ⟨_, rfl, _, _, no96 hu _ _, newK_of fun b w2 hs hb hk => stK_add hb (by simp) fun w3 hb3 hk3 => ⟨_, hb3.add 0 rfl, rfl, hk.news hk3 (by rintro k rfl; omega)⟩⟩
end
end Go.Fw


set_option autoImplicit false
set_option linter.unusedVariables false
namespace Go.Fw
open Go.Proofs Go.RowKit
inductive VD where
  | none
  | bool (b : Bool)
  | int (neg : Bool) (ms : List Int)
  | str (t : ByteArray)
  | obj (kind num : Int)
def VD.num : VD → Int
  | .obj _ n => n
  | _ => 0
def VD.kind : VD → Int
  | .none => 1
  | .bool _ => 2
  | .int _ _ => 3
  | .str _ => 4
  | .obj k _ => k
def wkey (neg : Bool) (ms : List Int) : Int × List Int := (sgnI neg ms, trimmed ms)
def VD.key : VD → Option (Int × List Int)
  | .bool b => some (wkey false [if b then 1 else 0, 0])
  | .int neg ms => some (wkey neg ms)
  | _ => Option.none
def alikeD (d e : VD) : Prop := (∃ a, d.key = some a ∧ e.key = some a) ∨ (∃ t, d = .str t ∧ e = .str t) ∨ (d = .none ∧ e = .none)
theorem alikeD_symm {d e : VD} (h : alikeD d e) : alikeD e d := by
  rcases h with ⟨a, h1, h2⟩ | ⟨t, h1, h2⟩ | ⟨h1, h2⟩
  · exact .inl ⟨a, h2, h1⟩
  · exact .inr (.inl ⟨t, h2, h1⟩)
  · exact .inr (.inr ⟨h2, h1⟩)
theorem alikeD_trans {d e f : VD} (h : alikeD d e) (h' : alikeD e f) : alikeD d f := by
  rcases h with ⟨a, h1, h2⟩ | ⟨t, rfl, rfl⟩ | ⟨rfl, rfl⟩
  · rcases h' with ⟨b, h3, h4⟩ | ⟨t, rfl, rfl⟩ | ⟨rfl, rfl⟩
    · rw [h2] at h3; cases h3; exact .inl ⟨a, h1, h4⟩
    · cases h2
    · cases h2
  · rcases h' with ⟨b, h3, h4⟩ | ⟨t', h3, rfl⟩ | ⟨h3, _⟩
    · cases h3
    · exact .inr (.inl ⟨t', h3, rfl⟩)
    · cases h3
  · rcases h' with ⟨b, h3, h4⟩ | ⟨t', h3, rfl⟩ | ⟨h3, rfl⟩
    · cases h3
    · cases h3
    · exact .inr (.inr ⟨rfl, rfl⟩)
theorem alikeD_obj {d : VD} {k n : Int} : ¬ alikeD d (.obj k n) := by
  rintro (⟨a, h1, h2⟩ | ⟨t, h1, h2⟩ | ⟨h1, h2⟩) <;> cases h2
def objTy (A : TypeId) (e : TypeId) (k : Int) (rest : List Value) : Prop :=
  (A = 94 ∧ e = 100 ∧ rest[1]? = some (.int .i64 k)) ∨ (A = 111 ∧ e = 120 ∧ rest[1]? = some (.int .i64 k)) ∨ (A = 162 ∧ e = 166 ∧ rest[1]? = some (.int .i64 k)) ∨ (A = 163 ∧ e = 169 ∧ k = 14) ∨ (A = 190 ∧ e = 194 ∧ k = 13)
def VDAt (w : World) (B : Nat) (v : Value) : VD → Prop
  | .none => v = .iface 85 (.agg #[])
  | .bool b => v = .iface 87 (.agg #[.bool b])
  | .int neg ms => ms.length < 1000000000000 ∧ ∃ y, v = .iface 172 y ∧ FormAt B w y neg ms
  | .str t => v = .iface 160 (.agg #[.string t])
  | .obj k n => 5 ≤ k ∧ ∃ A p e rest, v = .iface A (.pointer (some ⟨p, 0, Option.none⟩)) ∧ B ≤ p ∧ Blk w p e (.int .i64 n :: rest) ∧ objTy A e k rest
def objE : List TypeId := [45, 100, 120, 166, 169, 194]
theorem objTy_mem {A e : TypeId} {k : Int} {rest : List Value} (h : objTy A e k rest) : e ∈ objE := by
  rcases h with ⟨_, rfl, _⟩ | ⟨_, rfl, _⟩ | ⟨_, rfl, _⟩ | ⟨_, rfl, _⟩ | ⟨_, rfl, _⟩ <;> decide
theorem FormAt.keepT {fp : Nat → Prop} {B : Nat} {w w' : World} {y : Value} {neg : Bool} {ms : List Int} (h : FormAt B w y neg ms) (hk : Keep fp w w') (hn : ∀ k, B ≤ k → etype w k = some 45 → ¬ fp k) : FormAt B w' y neg ms := by
  obtain ⟨v, h1, h2⟩ := h
  exact ⟨v, h1.keep hk hn, h2⟩
theorem VDAt.keep {fp : Nat → Prop} {w w' : World} {B : Nat} {v : Value} : ∀ {d : VD}, VDAt w B v d → Keep fp w w' → (∀ k e, B ≤ k → etype w k = some e → e ∈ objE → ¬ fp k) → VDAt w' B v d
  | .none, h, _, _ => h
  | .bool _, h, _, _ => h
  | .int _ _, ⟨hl, y, h1, h2⟩, hk, hn => ⟨hl, y, h1, h2.keepT hk fun k hB he => hn k _ hB he (by decide)⟩
  | .str _, h, _, _ => h
  | .obj _ _, ⟨h5, A, p, e, rest, h1, h2, h3, h4⟩, hk, hn => ⟨h5, A, p, e, rest, h1, h2, hk.blk h3 (hn p e h2 h3.etype (objTy_mem h4)), h4⟩
theorem VDAt.no {w w' : World} {B : Nat} {v : Value} {d : VD} (h : VDAt w B v d) (hk : Keep No w w') : VDAt w' B v d := h.keep hk fun _ _ _ _ _ => id
theorem VDAt.iface {w : World} {B : Nat} {v : Value} : ∀ {d : VD}, VDAt w B v d → ∃ A x, v = .iface A x
  | .none, h => ⟨_, _, h⟩
  | .bool _, h => ⟨_, _, h⟩
  | .int _ _, ⟨_, _, h, _⟩ => ⟨_, _, h⟩
  | .str _, h => ⟨_, _, h⟩
  | .obj _ _, ⟨_, _, _, _, _, h, _⟩ => ⟨_, _, h⟩
theorem num111 (r : Nat) (w : World) : (callMethod (.iface 111 (.pointer (some ⟨r, 0, none⟩))) "lexicon/store.numbered" #[]).run Tryz.prog w = (do let v ← loadVar 98 ⟨r, 0, none⟩; callFunc 401 #[v]).run Tryz.prog w := by kernel_rfl
theorem num162 (r : Nat) (w : World) : (callMethod (.iface 162 (.pointer (some ⟨r, 0, none⟩))) "lexicon/store.numbered" #[]).run Tryz.prog w = (do let v ← loadVar 98 ⟨r, 0, none⟩; callFunc 401 #[v]).run Tryz.prog w := by kernel_rfl
theorem num163 (r : Nat) (w : World) : (callMethod (.iface 163 (.pointer (some ⟨r, 0, none⟩))) "lexicon/store.numbered" #[]).run Tryz.prog w = (do let v ← loadVar 98 ⟨r, 0, none⟩; callFunc 401 #[v]).run Tryz.prog w := by kernel_rfl
theorem num190 (r : Nat) (w : World) : (callMethod (.iface 190 (.pointer (some ⟨r, 0, none⟩))) "lexicon/store.numbered" #[]).run Tryz.prog w = (do let v ← loadVar 98 ⟨r, 0, none⟩; callFunc 401 #[v]).run Tryz.prog w := by kernel_rfl
theorem num85 (w : World) : (callMethod (.iface 85 (.agg #[])) "lexicon/store.numbered" #[]).run Tryz.prog w = .ok (.enter 397 (#[.agg #[]] ++ #[])) w := by kernel_rfl
theorem num87 (b : Bool) (w : World) : (callMethod (.iface 87 (.agg #[.bool b])) "lexicon/store.numbered" #[]).run Tryz.prog w = .ok (.enter 397 (#[.agg #[]] ++ #[])) w := by kernel_rfl
theorem num172 (b : Bool) (a : Option Addr) (l c : Nat) (w : World) : (callMethod (.iface 172 (.agg #[.bool b, .slice a l c])) "lexicon/store.numbered" #[]).run Tryz.prog w = .ok (.enter 397 (#[.agg #[]] ++ #[])) w := by kernel_rfl
theorem kind87 (b : Bool) (w : World) : (callMethod (.iface 87 (.agg #[.bool b])) "Kind" #[]).run Tryz.prog w = .ok (.enter 399 (#[.agg #[.bool b]] ++ #[])) w := by kernel_rfl
theorem kind172 (b : Bool) (a : Option Addr) (l c : Nat) (w : World) : (callMethod (.iface 172 (.agg #[.bool b, .slice a l c])) "Kind" #[]).run Tryz.prog w = .ok (.enter 414 (#[.agg #[.bool b, .slice a l c]] ++ #[])) w := by kernel_rfl
theorem kind94 (r : Nat) (w : World) : (callMethod (.iface 94 (.pointer (some ⟨r, 0, none⟩))) "Kind" #[]).run Tryz.prog w = .ok (.enter 158 (#[.pointer (some ⟨r, 0, none⟩)] ++ #[])) w := by kernel_rfl
theorem kind111 (r : Nat) (w : World) : (callMethod (.iface 111 (.pointer (some ⟨r, 0, none⟩))) "Kind" #[]).run Tryz.prog w = .ok (.enter 49 (#[.pointer (some ⟨r, 0, none⟩)] ++ #[])) w := by kernel_rfl
theorem kind162 (r : Nat) (w : World) : (callMethod (.iface 162 (.pointer (some ⟨r, 0, none⟩))) "Kind" #[]).run Tryz.prog w = .ok (.enter 173 (#[.pointer (some ⟨r, 0, none⟩)] ++ #[])) w := by kernel_rfl
theorem kind163 (r : Nat) (w : World) : (callMethod (.iface 163 (.pointer (some ⟨r, 0, none⟩))) "Kind" #[]).run Tryz.prog w = .ok (.enter 411 (#[.pointer (some ⟨r, 0, none⟩)] ++ #[])) w := by kernel_rfl
theorem kind190 (r : Nat) (w : World) : (callMethod (.iface 190 (.pointer (some ⟨r, 0, none⟩))) "Kind" #[]).run Tryz.prog w = .ok (.enter 419 (#[.pointer (some ⟨r, 0, none⟩)] ++ #[])) w := by kernel_rfl
theorem inv_num {A : TypeId} {r : Nat} {n : Int} {w : World} (hA : (callMethod (.iface A (.pointer (some ⟨r, 0, none⟩))) "lexicon/store.numbered" #[]).run Tryz.prog w = (do let v ← loadVar 98 ⟨r, 0, none⟩; callFunc 401 #[v]).run Tryz.prog w) (h : w.cell? ⟨r, 0, none⟩ = some (.int .i64 n)) {R : Ending → World → Prop} (hR : ∀ w', Keep No w w' → R (.returned (.int .i64 n)) w') :
    InvK Tryz.prog (.iface A (.pointer (some ⟨r, 0, none⟩))) "lexicon/store.numbered" #[] w R := by
  refine ⟨401, .agg #[.int .i64 n], ?_, (C401 n w).mono ?_⟩
  · rw [hA, Sem.run_bind, load84 r n w h]
    simp only [Result.andThen, Array.append_empty]
    exact callFunc225 _ _
  · rintro _ w' ⟨rfl, hk⟩
    exact hR w' hk
theorem VDAt.numbered {w : World} {B : Nat} {v : Value} {d : VD} (h : VDAt w B v d) {R : Ending → World → Prop} (hR : ∀ w', Keep No w w' → R (.returned (.int .i64 d.num)) w') : InvK Tryz.prog v "lexicon/store.numbered" #[] w R := by
  have plain : ∀ w1, Calls Tryz.prog 397 (#[.agg #[]] ++ #[]) w1 fun e w' => e = .returned (.int .i64 0) ∧ Keep No w1 w' := fun w1 => C397 w1
  cases d with
  | none => cases h; exact ⟨397, _, num85 w, (plain w).mono (by rintro _ w' ⟨rfl, hk⟩; exact hR w' hk)⟩
  | bool b => cases h; exact ⟨397, _, num87 b w, (plain w).mono (by rintro _ w' ⟨rfl, hk⟩; exact hR w' hk)⟩
  | str t => cases h; exact ⟨397, _, numbered160 t w, (plain w).mono (by rintro _ w' ⟨rfl, hk⟩; exact hR w' hk)⟩
  | int neg ms =>
    obtain ⟨hl, y, rfl, hy⟩ := h
    obtain ⟨a, c, rfl, _⟩ := hy.cells
    exact ⟨397, _, num172 _ _ _ _ w, (plain w).mono (by rintro _ w' ⟨rfl, hk⟩; exact hR w' hk)⟩
  | obj k n =>
    obtain ⟨_, A, p, e, rest, rfl, _, hb, ht⟩ := h
    have hc : w.cell? ⟨p, 0, none⟩ = some (.int .i64 n) := hb.cell rfl
    rcases ht with ⟨rfl, _⟩ | ⟨rfl, _⟩ | ⟨rfl, _⟩ | ⟨rfl, _⟩ | ⟨rfl, _⟩
    · exact inv_num (numbered80 p w) hc hR
    · exact inv_num (num111 p w) hc hR
    · exact inv_num (num162 p w) hc hR
    · exact inv_num (num163 p w) hc hR
    · exact inv_num (num190 p w) hc hR
theorem VDAt.kindOf {w : World} {B : Nat} {v : Value} {d : VD} (h : VDAt w B v d) {R : Ending → World → Prop} (hR : ∀ w', Keep No w w' → R (.returned (.int .i64 d.kind)) w') : InvK Tryz.prog v "Kind" #[] w R := by
  cases d with
  | none =>
    cases h
    refine ⟨398, _, kind85 w, (V398_sound w (fun r w' => r = .int .i64 1 ∧ Keep No w w') ?_).mono (by rintro _ w' ⟨_, rfl, rfl, hk⟩; exact hR w' hk)⟩
    unfold V398
    exact newK_of fun b w1 hs hb hk => ⟨rfl, hk⟩
  | bool b =>
    cases h
    refine ⟨399, _, kind87 b w, (V399_sound b w (fun r w' => r = .int .i64 2 ∧ Keep No w w') ?_).mono (by rintro _ w' ⟨_, rfl, rfl, hk⟩; exact hR w' hk)⟩
    unfold V399
    exact newK_of fun b w1 hs hb hk => ⟨rfl, hk⟩
  | str t =>
    cases h
    exact ⟨409, _, kind160 t w, (C409 t w).mono (by rintro _ w' ⟨rfl, hk⟩; exact hR w' hk)⟩
  | int neg ms =>
    obtain ⟨hl, y, rfl, hy⟩ := h
    obtain ⟨a, c, rfl, _⟩ := hy.cells
    refine ⟨414, _, kind172 _ _ _ _ w, (V414_sound _ _ _ _ w (fun r w' => r = .int .i64 3 ∧ Keep No w w') ?_).mono (by rintro _ w' ⟨_, rfl, rfl, hk⟩; exact hR w' hk)⟩
    unfold V414
    exact newK_of fun b w1 hs hb hk => ⟨rfl, hk⟩
  | obj k n =>
    obtain ⟨_, A, p, e, rest, rfl, _, hb, ht⟩ := h
    have hc : rest[1]? = some (.int .i64 k) → w.cell? ((⟨p, 0, none⟩ : Addr).add 2) = some (.int .i64 k) := fun h1 => hb.add 2 (by simpa using h1)
    rcases ht with ⟨rfl, _, h1⟩ | ⟨rfl, _, h1⟩ | ⟨rfl, _, h1⟩ | ⟨rfl, _, rfl⟩ | ⟨rfl, _, rfl⟩
    · refine ⟨158, _, kind94 p w, (V158_sound _ w (fun r w' => r = .int .i64 k ∧ w' = w) ?_).mono (by rintro _ w' ⟨_, rfl, rfl, rfl⟩; exact hR w' (Keep.refl _ _))⟩
      unfold V158; rw [nilK_some]; exact ⟨_, hc h1, rfl, rfl⟩
    · refine ⟨49, _, kind111 p w, (V49_sound _ w (fun r w' => r = .int .i64 k ∧ w' = w) ?_).mono (by rintro _ w' ⟨_, rfl, rfl, rfl⟩; exact hR w' (Keep.refl _ _))⟩
      unfold V49; rw [nilK_some]; exact ⟨_, hc h1, rfl, rfl⟩
    · refine ⟨173, _, kind162 p w, (V173_sound _ w (fun r w' => r = .int .i64 k ∧ w' = w) ?_).mono (by rintro _ w' ⟨_, rfl, rfl, rfl⟩; exact hR w' (Keep.refl _ _))⟩
      unfold V173; rw [nilK_some]; exact ⟨_, hc h1, rfl, rfl⟩
    · refine ⟨411, _, kind163 p w, (V411_sound _ w (fun r w' => r = .int .i64 14 ∧ w' = w) ⟨rfl, rfl⟩).mono (by rintro _ w' ⟨_, rfl, rfl, rfl⟩; exact hR w' (Keep.refl _ _))⟩
    · refine ⟨419, _, kind190 p w, (V419_sound _ w (fun r w' => r = .int .i64 13 ∧ w' = w) ⟨rfl, rfl⟩).mono (by rintro _ w' ⟨_, rfl, rfl, rfl⟩; exact hR w' (Keep.refl _ _))⟩
section
variable {w : World} {s B : Nat} {S : St} {i j : Nat} {v u : Value} {d e : VD}
theorem C15_in (h : StAt w s B S) (hv : S.vals[i]? = some v) (hd : VDAt w B v d) : Calls Tryz.prog 15 #[.pointer (some ⟨s, 0, none⟩), .int .i64 i] w fun r w' => r = .returned (.int .i64 d.num) ∧ Keep No w w' := by
  refine ret_mono (V15_sound _ _ w (fun r w' => r = .int .i64 d.num ∧ Keep No w w') ?_) (by rintro _ _ ⟨rfl, h⟩; exact ⟨rfl, h⟩)
  unfold V15
  refine (C41_in h hv).mono ?_
  rintro _ w1 ⟨rfl, rfl⟩
  obtain ⟨A, x, rfl⟩ := hd.iface
  refine ⟨_, rfl, ?_⟩
  rw [eqNilI_iface]
  exact bsel_pos rfl (hd.numbered fun w2 hk => ⟨_, rfl, rfl, hk⟩)
theorem C45_in (h : StAt w s B S) (hv : S.vals[i]? = some v) (hd : VDAt w B v d) : Calls Tryz.prog 45 #[.pointer (some ⟨s, 0, none⟩), .int .i64 i] w fun r w' => r = .returned (.int .i64 d.kind) ∧ Keep No w w' := by
  refine ret_mono (V45_sound _ _ w (fun r w' => r = .int .i64 d.kind ∧ Keep No w w') ?_) (by rintro _ _ ⟨rfl, h⟩; exact ⟨rfl, h⟩)
  unfold V45
  refine (C41_in h hv).mono ?_
  rintro _ w1 ⟨rfl, rfl⟩
  obtain ⟨A, x, rfl⟩ := hd.iface
  refine ⟨_, rfl, ?_⟩
  rw [eqNilI_iface]
  exact bsel_pos rfl (hd.kindOf fun w2 hk => ⟨_, rfl, rfl, hk⟩)
end
end Go.Fw


set_option autoImplicit false
set_option linter.unusedVariables false
namespace Go.Fw
open Go.Proofs Go.RowKit
theorem copy2 {w : World} {e : TypeId} {z0 z1 v0 v1 : Value} {K : Addr → World → Prop} (h : ∀ b w', Blk w' b e [v0, v1] → Keep No w w' → b = w.heap.size → K ⟨b, 0, none⟩ w') :
    newK w #[z0, z1] e fun a w1 => stK w1 (a.add 0) v0 fun w2 => stK w2 (a.add 1) v1 fun w3 => K a w3 := by
  refine newK_of fun b w1 hs hb hk => stK_add hb (by simp) fun w2 hb hk2 => ?_
  replace hk := hk.news hk2 (by rintro k rfl; omega)
  refine stK_add hb (by simp) fun w3 hb hk2 => ?_
  replace hk := hk.news hk2 (by rintro k rfl; omega)
  exact h b w3 hb hk hs
theorem set2 {w : World} {b : Nat} {e : TypeId} {z0 z1 v0 v1 : Value} {K : World → Prop} (hb : Blk w b e [z0, z1]) (h : ∀ w', Blk w' b e [v0, v1] → Keep (fun k => k = b) w w' → K w') :
    stK w ((⟨b, 0, none⟩ : Addr).add 0) v0 fun w2 => stK w2 ((⟨b, 0, none⟩ : Addr).add 1) v1 fun w3 => K w3 := by
  refine stK_add hb (by simp) fun w2 hb hk => stK_add hb (by simp) fun w3 hb hk2 => ?_
  exact h w3 hb (hk.trans hk2 fun _ _ e => e)
theorem copy1 {w : World} {e : TypeId} {z0 v0 : Value} {K : Addr → World → Prop} (h : ∀ b w', Blk w' b e [v0] → Keep No w w' → b = w.heap.size → K ⟨b, 0, none⟩ w') :
    newK w #[z0] e fun a w1 => stK w1 (a.add 0) v0 fun w2 => K a w2 := by
  refine newK_of fun b w1 hs hb hk => stK_add hb (by simp) fun w2 hb hk2 => ?_
  exact h b w2 hb (hk.news hk2 (by rintro k rfl; omega)) hs
section
variable {w : World} {s B : Nat} {S : St} {i j : Nat} {v u : Value} {d e : VD}
def WholeIs (w' : World) (r : Value) (d : VD) : Prop := match d.key with
  | some a => ∃ (y : Value) (neg : Bool) (ms : List Int) (R : Nat), r = .tuple #[y, .bool true] ∧ FormAt R w' y neg ms ∧ ms.length < 1000000000000 ∧ wkey neg ms = a
  | none => r = .tuple #[.agg #[.bool false, .slice none 0 0], .bool false]
theorem C42_in (h : StAt w s B S) (hv : S.vals[i]? = some v) (hd : VDAt w B v d) : Calls Tryz.prog 42 #[.pointer (some ⟨s, 0, none⟩), .int .i64 i] w fun r w' => ∃ x, r = .returned x ∧ WholeIs w' x d ∧ Keep No w w' := by
  refine (V42_sound _ _ w (fun r w' => WholeIs w' r d ∧ Keep No w w') ?_)
  unfold V42
  refine newK_of fun b w1 hs hb hk => (C41_in (h.no hk) hv).mono ?_
  rintro _ w1' ⟨rfl, rfl⟩
  refine ⟨_, rfl, ?_⟩
  have hno : ∀ {w2 : World}, d.key = none → Keep No w w2 → Blk w2 b 40 [.bool false, .slice none 0 0] → stK w2 ((⟨b, 0, none⟩ : Addr).add 0) (.bool false) fun w57 => stK w57 ((⟨b, 0, none⟩ : Addr).add 1) (.slice none 0 0) fun w58 =>
      ∃ t59 : Bool, ∃ t60 : Option Addr, ∃ t61 : Nat, ∃ t62 : Nat, CellsAt w58 ⟨b, 0, none⟩ [.bool t59, .slice t60 t61 t62] ∧ (WholeIs w58 (.tuple #[.agg #[.bool t59, .slice t60 t61 t62], .bool false]) d ∧ Keep No w w58) := by
    intro w2 hdk hk2 hb2
    refine set2 hb2 fun w3 hb3 hk3 => ⟨_, _, _, _, hb3.cells0, ?_, hk2.news hk3 fun k e => by omega⟩
    unfold WholeIs
    rw [hdk]
  have hfin : ∀ {w2 w3 : World} {y : Value} {neg : Bool} {ms : List Int} {R : Nat}, FormAt R w2 y neg ms → ms.length < 1000000000000 → d.key = some (wkey neg ms) → Keep No w w2 → Blk w2 b 40 [.bool false, .slice none 0 0] → ∀ {x : Bool} {a : Option Addr} {l c : Nat}, y = .agg #[.bool x, .slice a l c] →
      stK w2 ((⟨b, 0, none⟩ : Addr).add 0) (.bool x) fun w57 => stK w57 ((⟨b, 0, none⟩ : Addr).add 1) (.slice a l c) fun w58 =>
      ∃ t59 : Bool, ∃ t60 : Option Addr, ∃ t61 : Nat, ∃ t62 : Nat, CellsAt w58 ⟨b, 0, none⟩ [.bool t59, .slice t60 t61 t62] ∧ (WholeIs w58 (.tuple #[.agg #[.bool t59, .slice t60 t61 t62], .bool true]) d ∧ Keep No w w58) := by
    intro w2 w3 y neg ms R hy hl hdk hk2 hb2 x a l c hyx
    refine set2 hb2 fun w3 hb3 hk3 => ⟨_, _, _, _, hb3.cells0, ?_, hk2.news hk3 fun k e => by omega⟩
    unfold WholeIs
    rw [hdk]
    exact ⟨y, neg, ms, R, by rw [hyx], hy.one hb2 (by decide) hk3, hl, rfl⟩
  cases d with
  | none => cases hd; exact ⟨_, _, no72 (by decide) _ _, bsel_neg rfl ⟨_, _, _, _, _, no112 (by decide) _ _, bsel_neg rfl (hno rfl hk hb)⟩⟩
  | str t => cases hd; exact ⟨_, _, no72 (by decide) _ _, bsel_neg rfl ⟨_, _, _, _, _, no112 (by decide) _ _, bsel_neg rfl (hno rfl hk hb)⟩⟩
  | obj k n =>
    obtain ⟨_, A, p, e, rest, rfl, _, _, ht⟩ := hd
    have hA : A ≠ 87 ∧ A ≠ 172 := by rcases ht with ⟨rfl, _⟩ | ⟨rfl, _⟩ | ⟨rfl, _⟩ | ⟨rfl, _⟩ | ⟨rfl, _⟩ <;> decide
    exact ⟨_, _, no72 hA.1 _ _, bsel_neg rfl ⟨_, _, _, _, _, no112 hA.2 _ _, bsel_neg rfl (hno rfl hk hb)⟩⟩
  | bool c =>
    cases hd
    refine ⟨_, _, yes72 _ _, bsel_pos rfl (copy1 fun b2 w2 hb2 hk2 hs2 => ⟨_, hb2.add 0 rfl, ?_⟩)⟩
    have hk02 := hk.no hk2
    have hc93 := C93 w2 c
    cases c
    · refine bsel_neg rfl (hc93.mono ?_)
      rintro _ w3 ⟨y, rfl, hy, hk3⟩
      obtain ⟨a, cc, hya, _⟩ := hy.cells
      exact ⟨_, _, _, _, by rw [hya], hfin (w3 := w3) hy (by simp) rfl (hk02.no hk3) (hk3.nblk (hk2.nblk hb)) hya⟩
    · refine bsel_pos rfl (hc93.mono ?_)
      rintro _ w3 ⟨y, rfl, hy, hk3⟩
      obtain ⟨a, cc, hya, _⟩ := hy.cells
      exact ⟨_, _, _, _, by rw [hya], hfin (w3 := w3) hy (by simp) rfl (hk02.no hk3) (hk3.nblk (hk2.nblk hb)) hya⟩
  | int neg ms =>
    obtain ⟨hl, y, rfl, hy⟩ := hd
    obtain ⟨a, cc, hya, _⟩ := hy.cells
    subst hya
    refine ⟨_, _, no72 (by decide) _ _, bsel_neg rfl ⟨_, _, _, _, _, yes112 _ _, bsel_pos rfl (copy2 fun b2 w2 hb2 hk2 hs2 => ?_)⟩⟩
    have e0 : (⟨b2, 0, none⟩ : Addr).add 0 = ⟨b2, 0, none⟩ := by simp
    rw [e0]
    exact ⟨_, _, _, _, hb2.cells0, hfin (w3 := w2) ((hy.no hk).no hk2) hl rfl (hk.no hk2) (hk2.nblk hb) rfl⟩
theorem wkey_form (neg : Bool) (ms : List Int) : wkey (neg && !(trimmed ms).isEmpty) (trimmed ms) = wkey neg ms := by
  unfold wkey sgnI
  rw [trimmed_trimmed]
  cases h : (trimmed ms) with
  | nil => simp
  | cons m l => simp
theorem C16_in (h : StAt w s B S) (hv : S.vals[i]? = some v) (hd : VDAt w B v d) (hu : S.vals[j]? = some u) (he : VDAt w B u e) :
    Calls Tryz.prog 16 #[.pointer (some ⟨s, 0, none⟩), .int .i64 i, .int .i64 j] w fun r w' => ∃ b, r = .returned (.bool b) ∧ (b = true ↔ (i = j ∨ alikeD d e)) ∧ Keep No w w' := by
  refine (V16_sound _ _ _ w (fun r w' => ∃ b, r = .bool b ∧ (b = true ↔ (i = j ∨ alikeD d e)) ∧ Keep No w w') ?_).mono (by rintro _ w' ⟨_, rfl, b, rfl, h⟩; exact ⟨b, rfl, h⟩)
  unfold V16
  refine (C41_in h hv).mono ?_
  rintro _ w1 ⟨rfl, rfl⟩
  refine ⟨_, rfl, (C41_in h hu).mono ?_⟩
  rintro _ w1' ⟨rfl, rfl⟩
  obtain ⟨A, x, hvA⟩ := hd.iface
  obtain ⟨A', x', huA⟩ := he.iface
  refine ⟨_, rfl, ?_⟩
  have hJ : V16J2 w1' (fun r w' => ∃ b, r = .bool b ∧ (b = true ↔ (i = j ∨ alikeD d e)) ∧ Keep No w1' w') (some ⟨s, 0, none⟩) i j v u false w1' := by
    unfold V16J2
    refine bsel_neg rfl (bsel_split (fun hij => ?_) fun hij => ?_)
    · have hij : i = j := Int.ofNat_inj.1 (by simpa using hij)
      exact ⟨true, rfl, by simp [hij], Keep.refl _ _⟩
    have hij : i ≠ j := fun e => by subst e; simp at hij
    refine (C42_in h hv hd).mono ?_
    rintro _ w2 ⟨y, rfl, hy, hk2⟩
    have hyv : ∃ b1 a1 l1 c1 o1, y = .tuple #[.agg #[.bool b1, .slice a1 l1 c1], .bool o1] ∧ (o1 = true ↔ d.key ≠ none) := by
      unfold WholeIs at hy
      split at hy
      · rename_i a ha
        obtain ⟨y', neg, ms, R, rfl, hf, _⟩ := hy
        obtain ⟨a, c, rfl, _⟩ := hf.cells
        exact ⟨_, _, _, _, _, rfl, by simp [ha]⟩
      · rename_i ha
        exact ⟨_, _, _, _, _, hy, by simp [ha]⟩
    obtain ⟨b1, a1, l1, c1, o1, rfl, ho1⟩ := hyv
    refine ⟨_, _, _, _, _, rfl, copy2 fun p1 w3 hp1 hk3 hs3 => ?_⟩
    have hk03 := hk2.no hk3
    refine (C42_in (h.no hk03) hu (he.no hk03)).mono ?_
    rintro _ w4 ⟨z, rfl, hz, hk4⟩
    have hzv : ∃ b2 a2 l2 c2 o2, z = .tuple #[.agg #[.bool b2, .slice a2 l2 c2], .bool o2] ∧ (o2 = true ↔ e.key ≠ none) := by
      unfold WholeIs at hz
      split at hz
      · rename_i a ha
        obtain ⟨y', neg, ms, R, rfl, hf, _⟩ := hz
        obtain ⟨a, c, rfl, _⟩ := hf.cells
        exact ⟨_, _, _, _, _, rfl, by simp [ha]⟩
      · rename_i ha
        exact ⟨_, _, _, _, _, hz, by simp [ha]⟩
    obtain ⟨b2, a2, l2, c2, o2, rfl, ho2⟩ := hzv
    refine ⟨_, _, _, _, _, rfl, copy2 fun p2 w5 hp2 hk5 hs5 => ?_⟩
    have hk35 := hk4.no hk5
    have hk05 := hk03.no hk35
    -- where one is no whole number
    have hother : (d.key = none ∨ e.key = none) → V16J1 w1' (fun r w' => ∃ b, r = .bool b ∧ (b = true ↔ (i = j ∨ alikeD d e)) ∧ Keep No w1' w') (some ⟨s, 0, none⟩) i j v u ⟨p1, 0, none⟩ ⟨p2, 0, none⟩ false w5 := by
      intro hne
      unfold V16J1
      have hA105 : A ≠ 105 := by
        cases d with
        | none => cases hd; cases hvA; decide
        | bool b => cases hd; cases hvA; decide
        | str t => cases hd; cases hvA; decide
        | int neg ms => obtain ⟨_, y, rfl, _⟩ := hd; cases hvA; decide
        | obj k n =>
          obtain ⟨_, A, p, e, rest, rfl, _, _, ht⟩ := hd
          cases hvA
          rcases ht with ⟨rfl, _⟩ | ⟨rfl, _⟩ | ⟨rfl, _⟩ | ⟨rfl, _⟩ | ⟨rfl, _⟩ <;> decide
      refine bsel_neg rfl ⟨_, _, _, by rw [hvA]; exact no91 hA105 _ _, copy2 fun p3 w6 hp3 hk6 hs6 => bsel_neg rfl ?_⟩
      have hk06 := hk05.no hk6
      have hal : ∀ t, (d = .str t → e = .str t → True) := fun _ _ _ => trivial
      -- Text of each
      have htext : ∀ {n : Nat} {vv : Value} {dd : VD} {wa : World}, Keep No w1' wa → S.vals[n]? = some vv → VDAt w1' B vv dd → Calls Tryz.prog 44 #[.pointer (some ⟨s, 0, none⟩), .int .i64 n] wa fun r w' => ∃ (t : ByteArray) (o : Bool), r = .returned (.tuple #[.string t, .bool o]) ∧ (o = true → dd = .str t) ∧ (o = false → ∀ t', dd ≠ .str t') ∧ Keep No wa w' := by
        intro n vv dd wa hka hvv hdd
        obtain ⟨A2, x2, hA2⟩ := hdd.iface
        cases dd with
        | str t =>
          cases hdd
          refine (C44_str (h.no hka) hvv).mono ?_
          rintro _ w' ⟨rfl, hk'⟩
          exact ⟨t, true, rfl, fun _ => rfl, (fun hc => nomatch hc), hk'⟩
        | _ =>
          have hne : A2 ≠ 160 := by
            first
              | (cases hdd; cases hA2; decide)
              | (obtain ⟨_, y, rfl, _⟩ := hdd; cases hA2; decide)
              | (obtain ⟨_, A3, p, e, rest, rfl, _, _, ht⟩ := hdd
                 cases hA2
                 rcases ht with ⟨rfl, _⟩ | ⟨rfl, _⟩ | ⟨rfl, _⟩ | ⟨rfl, _⟩ | ⟨rfl, _⟩ <;> decide)
          rw [hA2] at hvv
          refine (C44_no (h.no hka) hvv hne).mono ?_
          rintro _ w' ⟨rfl, hk'⟩
          exact ⟨_, false, rfl, (fun hc => nomatch hc), (fun _ t' hc => nomatch hc), hk'⟩
      refine (htext hk06 hv hd).mono ?_
      rintro _ w7 ⟨t1, q1, rfl, hq1, hq1', hk7⟩
      refine ⟨_, _, rfl, (htext (hk06.no hk7) hu he).mono ?_⟩
      rintro _ w8 ⟨t2, q2, rfl, hq2, hq2', hk8⟩
      have hk08 := (hk06.no hk7).no hk8
      have hkinds : ¬ (∃ t, d = .str t ∧ e = .str t) → InvK Tryz.prog v "Kind" #[] w8 fun e80 w81 => ∃ t82 : Int, e80 = .returned (.int .i64 t82) ∧ bsel (t82 == 1) (InvK Tryz.prog u "Kind" #[] w81 fun e83 w84 => ∃ t85 : Int, e83 = .returned (.int .i64 t85) ∧ (∃ b, Value.bool (t85 == 1) = .bool b ∧ (b = true ↔ (i = j ∨ alikeD d e)) ∧ Keep No w1' w84)) (∃ b, Value.bool false = .bool b ∧ (b = true ↔ (i = j ∨ alikeD d e)) ∧ Keep No w1' w81) := by
        intro hns
        have hnk : ∀ a, ¬ (d.key = some a ∧ e.key = some a) := fun a ⟨x1, x2⟩ => by rcases hne with q | q <;> simp_all
        refine (hd.no hk08).kindOf fun w9 hk9 => ⟨_, rfl, bsel_split (fun hc => ?_) fun hc => ?_⟩
        · have hdn : d = .none := by
            cases d with
            | none => rfl
            | bool b => simp [VD.kind] at hc
            | int neg ms => simp [VD.kind] at hc
            | str t => simp [VD.kind] at hc
            | obj k n =>
              obtain ⟨h5, _⟩ := hd
              simp [VD.kind] at hc
              omega
          refine (he.no (hk08.no hk9)).kindOf fun w10 hk10 => ⟨_, rfl, _, rfl, ?_, (hk08.no hk9).no hk10⟩
          subst hdn
          cases e with
          | none => simp [VD.kind, alikeD]
          | bool b => simp [VD.kind, alikeD, hij, VD.key]
          | int neg ms => simp [VD.kind, alikeD, hij, VD.key]
          | str t => simp [VD.kind, alikeD, hij, VD.key]
          | obj k n =>
            obtain ⟨h5, _⟩ := he
            have h5' : k ≠ 1 := by omega
            simp [VD.kind, alikeD, hij, h5', VD.key]
        · refine ⟨false, rfl, ?_, hk08.no hk9⟩
          have hdn : d ≠ .none := fun e => by subst e; simp [VD.kind] at hc
          simp only [Bool.false_eq_true, false_iff]
          rintro (q | ⟨a, x1, x2⟩ | q | ⟨q, _⟩)
          · exact hij q
          · exact hnk a ⟨x1, x2⟩
          · exact hns q
          · exact hdn q
      refine ⟨_, _, rfl, bsel_split (fun c1 => bsel_split (fun c2 => bsel_split (fun c3 => ?_) fun c3 => ?_) fun c2 => ?_) fun c1 => ?_⟩
      · have hteq : t1 = t2 := by
          have : t1.toList = t2.toList := by simpa using c3
          rw [ByteArray.toList_eq, ByteArray.toList_eq] at this
          exact ByteArray.ext (Array.toList_inj.1 this)
        exact ⟨true, rfl, ⟨fun _ => .inr (.inr (.inl ⟨t1, hq1 c1, hteq ▸ hq2 c2⟩)), fun _ => rfl⟩, hk08⟩
      · refine hkinds ?_
        rintro ⟨t, rfl, rfl⟩
        have x1 := hq1 c1
        have x2 := hq2 c2
        cases x1; cases x2
        simp at c3
      · exact hkinds fun ⟨t, x1, x2⟩ => hq2' c2 t x2
      · exact hkinds fun ⟨t, x1, x2⟩ => hq1' c1 t x1
    refine bsel_split (fun c1 => ?_) fun c1 => ?_
    · have hdk := ho1.1 c1
      cases o2 with
      | false => exact hother (.inr (by
          apply Classical.byContradiction
          intro hc
          exact absurd (ho2.2 hc) (by simp)))
      | true =>
        have hek := ho2.1 rfl
        unfold WholeIs at hy hz
        split at hy
        · rename_i ka hka
          split at hz
          · rename_i kb hkb
            obtain ⟨y, neg1, ms1, R1, hy1, hy2, hy3, hy4⟩ := hy
            obtain ⟨z, neg2, ms2, R2, hz1, hz2, hz3, hz4⟩ := hz
            obtain ⟨ya, yc, hye, hyw, hyc⟩ := hy2.cells
            obtain ⟨za, zc, hze, hzw, hzc⟩ := hz2.cells
            rw [hye] at hy1
            rw [hze] at hz1
            cases hy1
            cases hz1
            unfold V16J1
            refine bsel_pos rfl ?_
            have hp1' := hk35.nblk hp1
            refine ⟨_, _, _, _, hp1'.cells0, _, _, _, _, hp2.cells0, ?_⟩
            have hl1 : (trimmed ms1).length < 1000000000000 := by have := trimmed_length_le ms1; omega
            have hl2 : (trimmed ms2).length < 1000000000000 := by have := trimmed_length_le ms2; omega
            refine (C43 (hyw.no (hk3.no hk35)) hyc hl1 (hzw.no hk5) hzc hl2).mono ?_
            rintro _ w6 ⟨r, rfl, hr, hk6⟩
            refine ⟨r, rfl, r == 0, rfl, ?_, hk05.no hk6⟩
            have e1 := wkey_form neg1 ms1
            have e2 := wkey_form neg2 ms2
            unfold wkey at e1 e2 hy4 hz4
            rw [beq_iff_eq, hr]
            simp only [Prod.mk.injEq] at e1 e2
            constructor
            · rintro ⟨x1, x2⟩
              refine .inr (.inl ⟨ka, hka, ?_⟩)
              rw [hkb, ← hy4, ← hz4]
              rw [e1.1, e2.1] at x1
              rw [trimmed_trimmed, trimmed_trimmed] at x2
              rw [x1, x2]
            · rintro (q | ⟨a, x1, x2⟩ | ⟨t, x1, x2⟩ | ⟨x1, x2⟩)
              · exact absurd q hij
              · rw [hka] at x1; rw [hkb] at x2
                cases x1
                have x2 := Option.some.inj x2
                rw [← hy4, ← hz4] at x2
                simp only [Prod.mk.injEq] at x2
                exact ⟨by rw [e1.1, e2.1, x2.1], by rw [trimmed_trimmed, trimmed_trimmed, x2.2]⟩
              · rw [x1] at hka; cases hka
              · rw [x1] at hka; cases hka
          · rename_i hkb; exact absurd hkb hek
        · rename_i hka; exact absurd hka hdk
    · exact hother (.inl (by
        apply Classical.byContradiction
        intro hc
        rw [ho1.2 hc] at c1; cases c1))
  rw [hvA, eqNilI_iface]
  refine bsel_neg rfl ?_
  rw [huA, eqNilI_iface]
  rw [← hvA, ← huA]
  exact hJ
theorem C17_in (h : StAt w s B S) (hv : S.vals[i]? = some v) (hd : VDAt w B v d) (hu : S.vals[j]? = some u) (he : VDAt w B u e) :
    Calls Tryz.prog 17 #[.pointer (some ⟨s, 0, none⟩), .int .i64 i, .int .i64 j] w fun r w' => ∃ b, r = .returned (.bool b) ∧ (b = true ↔ (d.kind = e.kind ∧ (i = j ∨ alikeD d e))) ∧ Keep No w w' := by
  refine (V17_sound _ _ _ w (fun r w' => ∃ b, r = .bool b ∧ (b = true ↔ (d.kind = e.kind ∧ (i = j ∨ alikeD d e))) ∧ Keep No w w') ?_).mono (by rintro _ w' ⟨_, rfl, b, rfl, h⟩; exact ⟨b, rfl, h⟩)
  unfold V17
  refine (C45_in h hv hd).mono ?_
  rintro _ w1 ⟨rfl, hk1⟩
  refine ⟨_, rfl, (C45_in (h.no hk1) hu (he.no hk1)).mono ?_⟩
  rintro _ w2 ⟨rfl, hk2⟩
  have hk02 := hk1.no hk2
  refine ⟨_, rfl, bsel_split (fun hc => ?_) fun hc => ?_⟩
  · have hc : d.kind = e.kind := by simpa using hc
    refine (C16_in (h.no hk02) hv (hd.no hk02) hu (he.no hk02)).mono ?_
    rintro _ w3 ⟨b, rfl, hb, hk3⟩
    exact ⟨b, rfl, b, rfl, by rw [hb]; simp [hc], hk02.no hk3⟩
  · have hc : d.kind ≠ e.kind := by simpa using hc
    exact ⟨false, rfl, by simp [hc], hk02⟩
end
end Go.Fw


set_option autoImplicit false
set_option linter.unusedVariables false
namespace Go.Fw
open Go.Proofs Go.RowKit
def nV (t : Tm) : Nat := if t.kind = 1 ∨ t.kind = 2 then 0 else if t.kind = 14 then 2 else 1
def nO (t : Tm) : Nat := if t.kind = 1 ∨ t.kind = 2 ∨ t.kind = 3 ∨ t.kind = 4 then 0 else if t.kind = 14 then 2 else 1
def cV (ts : List Tm) (i : Nat) : Nat := ((ts.take i).map nV).sum
def cO (ts : List Tm) (i : Nat) : Nat := ((ts.take i).map nO).sum
theorem sum_succ {f : Tm → Nat} {ts : List Tm} {i : Nat} {t : Tm} (h : ts[i]? = some t) : ((ts.take (i + 1)).map f).sum = ((ts.take i).map f).sum + f t := by
  obtain ⟨hi, he⟩ := List.getElem?_eq_some_iff.1 h
  rw [List.take_succ_eq_append_getElem hi, List.map_append, List.sum_append, he]
  simp
theorem cV_succ {ts : List Tm} {i : Nat} {t : Tm} (h : ts[i]? = some t) : cV ts (i + 1) = cV ts i + nV t := sum_succ h
theorem cO_succ {ts : List Tm} {i : Nat} {t : Tm} (h : ts[i]? = some t) : cO ts (i + 1) = cO ts i + nO t := sum_succ h
theorem sum_mono {f : Tm → Nat} {ts : List Tm} {i : Nat} : ∀ k, ((ts.take i).map f).sum ≤ ((ts.take (i + k)).map f).sum
  | 0 => Nat.le_refl _
  | k + 1 => by
    have ih := sum_mono (f := f) (ts := ts) (i := i) k
    cases h : ts[i + k]? with
    | none =>
      have hl := List.getElem?_eq_none_iff.1 h
      rw [show i + (k + 1) = i + k + 1 by omega, List.take_of_length_le (show ts.length ≤ i + k + 1 by omega)]
      rw [List.take_of_length_le hl] at ih
      exact ih
    | some t =>
      have := sum_succ (f := f) h
      rw [show i + (k + 1) = i + k + 1 by omega]
      omega
theorem cV_mono {ts : List Tm} {i j : Nat} (h : i ≤ j) : cV ts i ≤ cV ts j := by
  obtain ⟨k, rfl⟩ := Nat.exists_eq_add_of_le h
  exact sum_mono k
theorem sum_le2 {f : Tm → Nat} (hf : ∀ t, f t ≤ 2) : ∀ l : List Tm, (l.map f).sum ≤ 2 * l.length
  | [] => by simp
  | t :: l => by
    have := sum_le2 hf l
    have := hf t
    simp
    omega
theorem nV_le (t : Tm) : nV t ≤ 2 := by unfold nV; split <;> (try split) <;> omega
theorem nO_le (t : Tm) : nO t ≤ 2 := by unfold nO; split <;> (try split) <;> omega
theorem cV_le (ts : List Tm) (i : Nat) : cV ts i ≤ 2 * ts.length := by
  have h1 := sum_le2 nV_le (ts.take i)
  have h2 : (ts.take i).length ≤ ts.length := by simp; omega
  unfold cV; omega
theorem cO_le (ts : List Tm) (i : Nat) : cO ts i ≤ 2 * ts.length := by
  have h1 := sum_le2 nO_le (ts.take i)
  have h2 : (ts.take i).length ≤ ts.length := by simp; omega
  unfold cO; omega
def refT (t : Tm) (c : Nat) : Nat := if t.kind = 1 then 0 else if t.kind = 2 then (if t.b then 2 else 1) else if t.kind = 14 then 3 + c + 1 else 3 + c
def gref (ts : List Tm) (i : Nat) : Nat := match ts[i]? with
  | some t => refT t (cV ts i)
  | none => 0
def numT (t : Tm) (c : Nat) : Int := if t.kind = 14 then c + 2 else c + 1
def descT (t : Tm) (ms : List Int) (c : Nat) : VD := if t.kind = 1 then .none else if t.kind = 2 then .bool t.b else if t.kind = 3 then .int t.neg ms else if t.kind = 4 then .str t.text else .obj t.kind (numT t c)
def gdesc (ts : List Tm) (mss : Nat → List Int) (i : Nat) : VD := match ts[i]? with
  | some t => descT t (mss i) (cO ts i)
  | none => .none
theorem gref_of {ts : List Tm} {i : Nat} {t : Tm} (h : ts[i]? = some t) : gref ts i = refT t (cV ts i) := by unfold gref; rw [h]
theorem gdesc_of {ts : List Tm} {mss : Nat → List Int} {i : Nat} {t : Tm} (h : ts[i]? = some t) : gdesc ts mss i = descT t (mss i) (cO ts i) := by unfold gdesc; rw [h]
theorem gref_lt {ts : List Tm} {x y : Nat} {t u : Tm} (hx : ts[x]? = some t) (hy : ts[y]? = some u) (hxy : x < y) (ht : ¬ (t.kind = 1 ∨ t.kind = 2)) (hu : ¬ (u.kind = 1 ∨ u.kind = 2)) : gref ts x < gref ts y := by
  have h1 := cV_succ hx
  have h2 := cV_mono (ts := ts) (i := x + 1) (j := y) (by omega)
  rw [gref_of hx, gref_of hy]
  simp only [not_or] at ht hu
  have hn : nV t = if t.kind = 14 then 2 else 1 := by unfold nV; rw [if_neg (by omega)]
  unfold refT
  rw [if_neg ht.1, if_neg ht.2, if_neg hu.1, if_neg hu.2]
  by_cases h14 : t.kind = 14
  · rw [if_pos h14] at hn ⊢
    split <;> omega
  · rw [if_neg h14] at hn ⊢
    split <;> omega
theorem gref_plain {ts : List Tm} {x : Nat} {t : Tm} (hx : ts[x]? = some t) : (t.kind = 1 ∨ t.kind = 2) ↔ gref ts x < 3 := by
  rw [gref_of hx]
  unfold refT
  by_cases h1 : t.kind = 1
  · simp [h1]
  · by_cases h2 : t.kind = 2
    · rw [if_neg h1, if_pos h2]
      simp [h2]
      split <;> omega
    · rw [if_neg h1, if_neg h2]
      simp [h1, h2]
      split <;> omega
theorem gdesc_eq {ts : List Tm} {mss : Nat → List Int} {x y : Nat} {t u : Tm} (hx : ts[x]? = some t) (hy : ts[y]? = some u) (h : gref ts x = gref ts y) : gdesc ts mss x = gdesc ts mss y := by
  by_cases hp : t.kind = 1 ∨ t.kind = 2
  · have hq : u.kind = 1 ∨ u.kind = 2 := (gref_plain hy).2 (by rw [← h]; exact (gref_plain hx).1 hp)
    rw [gref_of hx, gref_of hy] at h
    rw [gdesc_of hx, gdesc_of hy]
    unfold refT at h
    unfold descT
    rcases hp with hp | hp <;> rcases hq with hq | hq
    · simp [hp, hq]
    · simp [hp, hq] at h
      split at h <;> omega
    · simp [hp, hq] at h
      split at h <;> omega
    · simp [hp, hq] at h ⊢
      cases h1 : t.b <;> cases h2 : u.b <;> simp [h1, h2] at h ⊢
  · have hq : ¬ (u.kind = 1 ∨ u.kind = 2) := fun hc => hp ((gref_plain hx).2 (by rw [h]; exact (gref_plain hy).1 hc))
    rcases Nat.lt_trichotomy x y with hc | hc | hc
    · have := gref_lt hx hy hc hp hq; omega
    · rw [hc]
    · have := gref_lt hy hx hc hq hp; omega
structure GVal (s B : Nat) (S : St) (ts : List Tm) (mss : Nat → List Int) (i : Nat) (w : World) : Prop where
  st : StAt w s B S
  vd : ∀ x t, ts[x]? = some t → x < i → ∃ v, S.vals[gref ts x]? = some v ∧ VDAt w B v (gdesc ts mss x)
theorem GVal.keep {s B : Nat} {S : St} {ts : List Tm} {mss : Nat → List Int} {i : Nat} {w w' : World} {fp : Nat → Prop} (h : GVal s B S ts mss i w) (hk : Keep fp w w') (hn : ∀ k, k < w.heap.size → fp k → ∃ e, etype w k = some e ∧ e ∉ storeTy ∧ e ∉ objE) : GVal s B S ts mss i w' := by
  refine ⟨h.st.types hk fun k hf hl => ?_, fun x t hx hi => ?_⟩
  · obtain ⟨e, h1, h2, _⟩ := hn k hl hf
    exact ⟨e, h1, h2⟩
  · obtain ⟨v, h1, h2⟩ := h.vd x t hx hi
    refine ⟨v, h1, h2.keep (fp := fun k => fp k ∧ k < w.heap.size) (hk.mono fun k hl hf => ⟨hf, hl⟩) fun k e hB he hm hf => ?_⟩
    obtain ⟨e', h3, _, h5⟩ := hn k hf.2 hf.1
    rw [he] at h3
    cases h3
    exact h5 hm
theorem GVal.no {s B : Nat} {S : St} {ts : List Tm} {mss : Nat → List Int} {i : Nat} {w w' : World} (h : GVal s B S ts mss i w) (hk : Keep No w w') : GVal s B S ts mss i w' := h.keep hk fun _ _ hf => hf.elim
def hashT (ts : List Tm) (mss : Nat → List Int) (x : Nat) : Int := match ts[x]? with
  | some t => if t.kind = 1 then hWhole true [7, 0] else if t.kind = 2 then hWhole false [if t.b then 1 else 0, 0] else if t.kind = 3 then hWhole t.neg (mss x) else if t.kind = 4 then hText t.text else
    if t.hash then hWhole t.neg (mss x) else hNumber (numT t (cO ts x))
  | none => 0
theorem hWhole_form (neg : Bool) (ms : List Int) : hWhole (neg && !(trimmed ms).isEmpty) (trimmed ms) = hWhole neg ms := by
  unfold hWhole
  rw [trimmed_trimmed]
  cases h : trimmed ms with
  | nil => cases neg <;> simp [restW]
  | cons m l => simp
theorem C93_m7 (w : World) : Calls Tryz.prog 93 #[.int .i64 (-7)] w fun e w' => ∃ v, e = .returned v ∧ FormAt w.heap.size w' v true [7, 0] ∧ Keep No w w' := by
  refine V93_sound (-7) w (fun v w' => FormAt w.heap.size w' v true [7, 0] ∧ Keep No w w') ?_
  unfold V93
  refine newK_of fun b w1 hb hbb hk => bsel_pos rfl ?_
  unfold V93J1
  refine ⟨by omega, newK_of fun b2 w2 hb2 hbb2 hk2 => ?_⟩
  have hkk := hk.no hk2
  have e1 : IntKind.wrap .u32 (IntKind.wrap .u64 (0 - IntKind.wrap .u64 (-7))) = 7 := rfl
  have e2 : IntKind.wrap .u32 (shr .u64 (IntKind.wrap .u64 (0 - IntKind.wrap .u64 (-7))) 32) = 0 := rfl
  rw [e1, e2] at hbb2
  have hw : WordsAt w2 (some ⟨b2, 0, none⟩) [7, 0] := by
    intro i m hm
    exact ⟨_, rfl, hbb2.add i (by
      rcases i with _ | _ | i
      · cases hm; rfl
      · cases hm; rfl
      · simp at hm)⟩
  rw [show decide ((-7 : Int) < 0) = true from rfl]
  refine (C147 hw (c := 2) (by simp) (by simp)).mono ?_
  rintro _ w3 ⟨rfl, hk3⟩
  have hbb3 := hk3.nblk (hk2.nblk hbb)
  refine ⟨_, _, _, _, rfl, stK_add hbb3 (by simp) fun w8 hb8 hk8 => stK_add hb8 (by simp) fun w9 hb9 hk9 => ?_⟩
  have hne : b2 ≠ b := by have := hbb.lt; omega
  have hkn : Keep (fun k => k = b) w3 w9 := hk8.trans hk9 fun k hk he => he
  have hb29 : Blk w9 b2 45 _ := hkn.blk (hk3.nblk hbb2) hne
  refine ⟨_, _, _, _, hb9.cells0, ⟨_, ⟨some ⟨b2, 0, none⟩, 2, rfl, fun i m hm => ⟨_, rfl, ?_⟩, by decide, fun p hp => ?_⟩, rfl⟩, ((hkk.no hk3).news hk8 (by rintro k rfl; omega)).news hk9 (by rintro k rfl; omega)⟩
  · refine hb29.add i ?_
    rcases i with _ | i
    · cases hm; rfl
    · simp [trimmed, trimN] at hm
  · cases hp
    exact ⟨by have := hk.size; simp only; omega, hb29.lt, hb29.etype⟩
theorem hash_form {w : World} {R : Nat} {y : Value} {neg : Bool} {ms : List Int} (hy : FormAt R w y neg ms) (hl : ms.length < 1000000000000) {x : Bool} {a : Option Addr} {l c : Nat} (hyx : y = .agg #[.bool x, .slice a l c]) :
    Calls Tryz.prog 103 #[.agg #[.bool x, .slice a l c]] w fun e w' => e = .returned (.int .i64 (hWhole neg ms)) ∧ Keep No w w' := by
  obtain ⟨a', c', hya, hw, hc⟩ := hy.cells
  rw [hya] at hyx
  cases hyx
  have hl' : (trimmed ms).length < 1000000000000 := by have := trimmed_length_le ms; omega
  rw [← hWhole_form]
  exact C103 hw hc hl'
section
variable {w : World} {s B b : Nat} {S : St} {ts : List Tm} {mss : Nat → List Int} {i : Nat} {ta : Option Addr} {tc : Nat} {v : Value} {R : Nat}
theorem row_get {x : Nat} (hrow : w.ownsRow R 3 1 v i (ints ((List.range i).map fun x => (gref ts x : Int)))) (hx : x < i) : ∃ g c, v = .slice (some ⟨g, 0, none⟩) i c ∧ w.cell? ⟨g, x, none⟩ = some (.int .i64 (gref ts x)) := by
  obtain ⟨g, c, h1, _, h2⟩ := row_cell hrow (i := x) (ints_get (n := (gref ts x : Int)) (by simp [hx]))
  exact ⟨g, c, h1, h2⟩
theorem C213_gen (hG : GVal s B S ts mss i w) (hb : Blk w b 92 [.pointer (some ⟨s, 0, none⟩), .slice ta ts.length tc, v]) (hts : TermsAt w ta ts) (hrow : w.ownsRow R 3 1 v i (ints ((List.range i).map fun x => (gref ts x : Int)))) {x : Nat} {t : Tm} (ht : ts[x]? = some t) (hx : x < i)
    (hms : WordsAt w t.ma (mss x) ∧ t.ml = (mss x).length ∧ (mss x).length ≤ t.mc ∧ (mss x).length < 1000000000000) (htx : t.text.size < 9000000000000000000) (hkey : t.kind = 1 ∨ t.kind = 2 ∨ t.kind = 3 ∨ t.kind = 4 ∨ t.kind = 14) :
    Calls Tryz.prog 213 #[.pointer (some ⟨b, 0, none⟩), .int .i64 x] w fun e w' => e = .returned (.int .i64 (hashT ts mss x)) ∧ Keep No w w' := by
  refine ret_mono (V213_sound _ _ w (fun r w' => r = .int .i64 (hashT ts mss x) ∧ Keep No w w') ?_) (by rintro _ _ ⟨rfl, h⟩; exact ⟨rfl, h⟩)
  obtain ⟨vv, hv1, hv2⟩ := hG.vd x t ht hx
  obtain ⟨g, rc, rfl, hcell⟩ := row_get hrow hx
  have hxn : x < ts.length := (List.getElem?_eq_some_iff.1 ht).1
  obtain ⟨p, rfl, hc⟩ := hts x t ht
  have hh : hashT ts mss x = if t.kind = 1 then hWhole true [7, 0] else if t.kind = 2 then hWhole false [if t.b then 1 else 0, 0] else if t.kind = 3 then hWhole t.neg (mss x) else if t.kind = 4 then hText t.text else
    if t.hash then hWhole t.neg (mss x) else hNumber (numT t (cO ts x)) := by unfold hashT; rw [ht]
  rw [gdesc_of ht] at hv2
  unfold V213
  simp only [nilK_some]
  refine ⟨_, _, _, hb.add 1 rfl, idxK_of hxn ⟨_, _, _, _, _, _, _, _, _, _, _, _, hc, termCopy fun c w1 hc1 hk1 hcs => ⟨_, hc1.add 0 rfl, ?_⟩⟩⟩
  refine bsel_split (fun h1 => ?_) fun h1 => ?_
  · have h1 : t.kind = 1 := by simpa using h1
    refine (C93_m7 w1).mono ?_
    rintro _ w2 ⟨y, rfl, hy, hk2⟩
    obtain ⟨a', c', hya, _⟩ := hy.cells
    refine ⟨_, _, _, _, by rw [hya], (hash_form hy (by simp) hya).mono ?_⟩
    rintro _ w3 ⟨rfl, hk3⟩
    exact ⟨_, rfl, by rw [hh, if_pos h1], (hk1.no hk2).no hk3⟩
  have h1 : t.kind ≠ 1 := by simpa using h1
  refine bsel_split (fun h4 => ?_) fun h4 => ?_
  · have h4 : t.kind = 4 := by simpa using h4
    refine ⟨_, hc1.add 4 rfl, (C104 t.text htx w1).mono ?_⟩
    rintro _ w2 ⟨rfl, hk2⟩
    exact ⟨_, rfl, by rw [hh]; simp [h4], hk1.no hk2⟩
  have h4 : t.kind ≠ 4 := by simpa using h4
  refine bsel_split (fun h14 => ?_) fun h14 => ?_
  · have h14 : t.kind = 14 := by simpa using h14
    refine ⟨_, hc1.add 6 rfl, bsel_split (fun hha => ?_) fun hha => ?_⟩
    · refine ⟨_, _, _, _, hc1.cellsAdd 2 rfl, ?_⟩
      obtain ⟨m1, m2, m3, m4⟩ := hms
      rw [m2]
      refine (C103 (m1.no hk1) m3 m4).mono ?_
      rintro _ w2 ⟨rfl, hk2⟩
      exact ⟨_, rfl, by rw [hh]; simp [h14, hha], hk1.no hk2⟩
    · have hkd := hk1.no (Keep.drawn w1)
      have hGd := hG.no hkd
      have hbd := hkd.nblk hb
      refine ⟨_, hbd.add 0 rfl, _, _, _, hbd.add 2 rfl, idxK_of hx ⟨_, by rw [add_mk, Nat.mul_one, Nat.zero_add]; exact hkd.cell hcell id, (C15_in hGd.st hv1 (hv2.no hkd)).mono ?_⟩⟩
      rintro _ w2 ⟨rfl, hk2⟩
      have hd : (descT t (mss x) (cO ts x)).num = numT t (cO ts x) := by unfold descT; simp [h14, VD.num]
      refine ⟨_, rfl, (C164 _ w2).mono ?_⟩
      rintro _ w3 ⟨rfl, hk3⟩
      exact ⟨_, rfl, by rw [hh, hd]; simp [h14, hha], (hkd.no hk2).no hk3⟩
  have h14 : t.kind ≠ 14 := by simpa using h14
  have h23 : t.kind = 2 ∨ t.kind = 3 := by omega
  have hkd := hk1.no (Keep.drawn w1)
  have hbd := hkd.nblk hb
  have hJ : ∀ {a : Nat} {w5 : World} {y : Value} {neg : Bool} {ms : List Int} {R : Nat} {x1 : Bool} {a1 : Option Addr} {l1 c1 : Nat}, Keep No w w5 → FormAt R w5 y neg ms → ms.length < 1000000000000 → y = .agg #[.bool x1, .slice a1 l1 c1] → wkey neg ms = wkey (if t.kind = 3 then t.neg else false) (if t.kind = 3 then mss x else [if t.b then 1 else 0, 0]) → Blk w5 a 40 [.bool x1, .slice a1 l1 c1] →
      V213J1 (fun r w' => r = .int .i64 (hashT ts mss x) ∧ Keep No w w') ⟨a, 0, none⟩ w5 := by
    intro a w5 y neg ms R x1 a1 l1 c1 hk5 hy hl hya hwk hba
    unfold V213J1
    refine ⟨_, _, _, _, hba.cells0, (hash_form hy hl hya).mono ?_⟩
    rintro _ w6 ⟨rfl, hk6⟩
    refine ⟨_, rfl, ?_, hk5.no hk6⟩
    have hwh : ∀ {n1 n2 : Bool} {m1 m2 : List Int}, wkey n1 m1 = wkey n2 m2 → hWhole n1 m1 = hWhole n2 m2 := by
      intro n1 n2 m1 m2 hw
      unfold wkey sgnI at hw
      simp only [Prod.mk.injEq] at hw
      obtain ⟨q1, q2⟩ := hw
      unfold hWhole
      rw [← q2] at q1 ⊢
      by_cases h0 : (trimmed m1).length = 0
      · have : trimmed m1 = [] := List.length_eq_zero_iff.1 h0
        rw [this]
        simp [restW]
      · rw [if_neg h0, if_neg h0] at q1
        cases n1 <;> cases n2 <;> simp at q1 ⊢
    rw [hwh hwk, hh]
    rcases h23 with h | h <;> simp [h]
  have hwhole : ∀ {wa : World}, Keep No w wa → Calls Tryz.prog 42 #[.pointer (some ⟨s, 0, none⟩), .int .i64 (gref ts x)] wa fun r w' => ∃ (y : Value) (neg : Bool) (ms : List Int) (R : Nat), r = .returned (.tuple #[y, .bool true]) ∧ FormAt R w' y neg ms ∧ ms.length < 1000000000000 ∧ wkey neg ms = wkey (if t.kind = 3 then t.neg else false) (if t.kind = 3 then mss x else [if t.b then 1 else 0, 0]) ∧ Keep No wa w' := by
    intro wa hka
    refine (C42_in (hG.st.no hka) hv1 (hv2.no hka)).mono ?_
    rintro _ w' ⟨r, rfl, hw, hk'⟩
    unfold WholeIs at hw
    have hkk : (descT t (mss x) (cO ts x)).key = some (wkey (if t.kind = 3 then t.neg else false) (if t.kind = 3 then mss x else [if t.b then 1 else 0, 0])) := by
      unfold descT
      rcases h23 with h | h <;> simp [h, VD.key]
    rw [hkk] at hw
    obtain ⟨y, neg, ms, R, rfl, q1, q2, q3⟩ := hw
    exact ⟨y, neg, ms, R, rfl, q1, q2, q3, hk'⟩
  refine ⟨_, hbd.add 0 rfl, _, _, _, hbd.add 2 rfl, idxK_of hx ⟨_, by rw [add_mk, Nat.mul_one, Nat.zero_add]; exact hkd.cell hcell id, ?_, ?_⟩⟩
  · refine (hwhole hkd).mono ?_
    rintro _ w2 ⟨y, neg, ms, R', rfl, q1, q2, q3, hk2⟩
    obtain ⟨a', c', hya, _⟩ := q1.cells
    refine ⟨_, _, _, _, _, by rw [hya], copy2 fun a w3 hba hk3 hs3 => hJ ((hkd.no hk2).no hk3) (q1.no hk3) q2 hya q3 hba⟩
  · refine newK_of fun a w2 hs2 hba hk2 => ⟨?_, (hk2.nblk hbd).add 2 rfl, (hk2.nblk hbd).add 0 rfl, (hwhole (hkd.no hk2)).mono ?_⟩
    · rw [add_mk, Nat.mul_one, Nat.zero_add]; exact (hkd.no hk2).cell hcell id
    rintro _ w3 ⟨y, neg, ms, R', rfl, q1, q2, q3, hk3⟩
    obtain ⟨a', c', hya, _⟩ := q1.cells
    refine ⟨_, _, _, _, _, by rw [hya], set2 (hk3.nblk hba) fun w4 hba4 hk4 => ?_⟩
    have hsz := hkd.size
    exact hJ (((hkd.no hk2).no hk3).news hk4 fun k e => by omega) (q1.one (hk3.nblk hba) (by decide) hk4) q2 hya q3 hba4
end
end Go.Fw


set_option autoImplicit false
set_option linter.unusedVariables false
namespace Go.Fw
open Go.Proofs Go.RowKit
def alikeP (ts : List Tm) (mss : Nat → List Int) (x : Nat) (k : Int) : Prop := ∃ y t, ts[y]? = some t ∧ (gref ts y : Int) = k ∧ (gref ts y = gref ts x ∨ alikeD (gdesc ts mss y) (gdesc ts mss x))
open Classical in
noncomputable def alikeR (ts : List Tm) (mss : Nat → List Int) (x : Nat) (k : Int) : Bool := decide (alikeP ts mss x k)
open Classical in
theorem alikeR_of {ts : List Tm} {mss : Nat → List Int} {x y : Nat} {t : Tm} (hy : ts[y]? = some t) {b : Bool} (hb : b = true ↔ (gref ts y = gref ts x ∨ alikeD (gdesc ts mss y) (gdesc ts mss x))) : b = alikeR ts mss x (gref ts y) := by
  have h2 : alikeR ts mss x (gref ts y) = true ↔ (gref ts y = gref ts x ∨ alikeD (gdesc ts mss y) (gdesc ts mss x)) := by
    unfold alikeR
    rw [decide_eq_true_iff]
    constructor
    · rintro ⟨z, u, hz, he, h⟩
      have he : gref ts z = gref ts y := Int.ofNat_inj.1 he
      rw [he, gdesc_eq (mss := mss) hz hy he] at h
      exact h
    · intro h
      exact ⟨y, t, hy, rfl, h⟩
  cases b
  · cases hc : alikeR ts mss x (gref ts y)
    · rfl
    · exact absurd (hb.2 (h2.1 hc)) (by simp)
  · exact (h2.2 (hb.1 rfl)).symm
theorem mfp_types {w : World} {R d B0 : Nat} {D : Dc} (h : DictAt w R d D) {k : Nat} (hk : Mfp B0 D d w k) : ∃ e, etype w k = some e ∧ (e ∈ dictTy ∨ e = 348 ∨ e = 395) := by
  rcases hk with hk | ⟨_, hk | hk⟩
  · obtain ⟨_, _, e, he, hm⟩ := h.ty hk
    exact ⟨e, he, .inl hm⟩
  · exact ⟨_, hk, .inr (.inl rfl)⟩
  · exact ⟨_, hk, .inr (.inr rfl)⟩
section
variable {w : World} {s B b : Nat} {S : St} {ts : List Tm} {mss : Nat → List Int} {i : Nat} {ta : Option Addr} {tc : Nat} {v : Value} {R : Nat}
def InAt (w : World) (t : Tm) (ms : List Int) : Prop := (WordsAt w t.ma ms ∧ t.ml = ms.length ∧ ms.length ≤ t.mc ∧ ms.length < 1000000000000) ∧ t.text.size < 9000000000000000000
theorem InAt.no {w w' : World} {t : Tm} {ms : List Int} (h : InAt w t ms) (hk : Keep No w w') : InAt w' t ms := ⟨⟨h.1.1.no hk, h.1.2⟩, h.2⟩
def isKeyK (t : Tm) : Prop := t.kind = 1 ∨ t.kind = 2 ∨ t.kind = 3 ∨ t.kind = 4 ∨ t.kind = 14
theorem C142_gen (hG : GVal s B S ts mss i w) (hb : Blk w b 92 [.pointer (some ⟨s, 0, none⟩), .slice ta ts.length tc, v]) (hts : TermsAt w ta ts) (hrow : w.ownsRow R 3 1 v i (ints ((List.range i).map fun x => (gref ts x : Int)))) {x : Nat} {t : Tm} (ht : ts[x]? = some t) (hx : x < i)
    (hin : InAt w t (mss x)) (hkey : isKeyK t) {p d : Nat} {num kind : Int} (hp : Blk w p 120 [.int .i64 num, .pointer (some ⟨d, 0, none⟩), .int .i64 kind]) {Rd : Nat} {D : Dc} (h : DictAt w Rd d D) (hok : DcOk D) (hmost : D.most ≤ 65536) (hn : D.T.turns < 1000000000000 ∧ D.T.made < 1000000000000)
    (hil : i ≤ ts.length) (hkeys : ∀ e ∈ D.T.es, ∃ y, y < i ∧ e.key = gref ts y) (value : Int) (hRd : Rd ≤ w.heap.size) :
    Calls Tryz.prog 142 #[.pointer (some ⟨b, 0, none⟩), .pointer (some ⟨p, 0, none⟩), .int .i64 x, .int .i64 value] w fun e w' => e = .returned (.tuple #[]) ∧ ∃ D', DictAt w' Rd d D' ∧ DcOk D' ∧ D'.T.es = putEs (alikeR ts mss x) D.most D.T.es (hashT ts mss x) (gref ts x) value ∧ D'.most = D.most ∧
      D'.T.turns ≤ D.T.turns + 1 ∧ D'.T.made ≤ D.T.made + 1 ∧ (∀ k, D'.own d k → D.own d k ∨ w.heap.size ≤ k) ∧ Keep (D.own d) w w' := by
  refine ret_mono (V142_sound _ _ _ _ w (fun r w' => r = .tuple #[] ∧ ∃ D', DictAt w' Rd d D' ∧ DcOk D' ∧ D'.T.es = putEs (alikeR ts mss x) D.most D.T.es (hashT ts mss x) (gref ts x) value ∧ D'.most = D.most ∧
      D'.T.turns ≤ D.T.turns + 1 ∧ D'.T.made ≤ D.T.made + 1 ∧ (∀ k, D'.own d k → D.own d k ∨ w.heap.size ≤ k) ∧ Keep (D.own d) w w') ?_) (by rintro _ _ ⟨rfl, h⟩; exact ⟨rfl, h⟩)
  have hb0 := hok.births
  have hl0 := hok.len
  obtain ⟨g, rc, rfl, hcell⟩ := row_get hrow hx
  unfold V142
  simp only [nilK_some]
  have hd := Keep.drawn w
  have hbd := hd.nblk hb
  have hpd := hd.nblk hp
  have hcell0 : w.drew.cell? ((⟨g, 0, none⟩ : Addr).add (x * 1)) = some (.int .i64 (gref ts x)) := by rw [add_mk, Nat.mul_one, Nat.zero_add]; exact hcell
  refine ⟨_, hpd.add 1 rfl, _, _, _, hbd.add 2 rfl, idxK_of hx ⟨_, hcell0, (C213_gen (hG.no hd) hbd (hts.no hd) (hd.nrow hrow) ht hx (hin.no hd).1 hin.2 hkey).mono ?_⟩⟩
  rintro _ w1 ⟨rfl, hk1⟩
  have hk01 := hd.no hk1
  have hb1 := hk01.nblk hb
  have hp1 := hk01.nblk hp
  refine ⟨_, rfl, hk1.cell hcell0 id, hb1.add 2 rfl, hp1.add 1 rfl, (C148 (goal := 2) (by decide) d _ _ value w1).mono ?_⟩
  rintro _ w2 ⟨m, rfl, hm, hmB, hk2⟩
  have hk02 := hk01.no hk2
  have hs1 := hk01.size
  have hs2 := hk2.size
  have h2 := h.no hk02
  have hG2 := hG.no hk02
  have hb2 := hk02.nblk hb
  have hcell2 := hk02.cell hcell id
  have hrow2 := hk02.nrow hrow
  have hgty : etype w2 g = some 3 := ownsRow_etype hrow2 rfl
  have hnm : ∀ {k : Nat} {e : TypeId}, etype w2 k = some e → e ∉ dictTy → e ≠ 348 → e ≠ 395 → ¬ Mfp w1.heap.size D d w2 k := by
    intro k e he q1 q2 q3 hk
    obtain ⟨e', he', hm⟩ := mfp_types h2 hk
    rw [he] at he'
    cases he'
    rcases hm with q | q | q
    · exact q1 q
    · exact q2 q
    · exact q3 q
  refine ⟨_, rfl, put_dialog (s := some ⟨s, 0, none⟩) (B := w1.heap.size) (alike := alikeR ts mss x) (st := fun w3 => Keep (Mfp w1.heap.size D d w2) w2 w3) (fun _ _ q1 q2 => q1.mfp2 q2) ?_ ?_ h2 hok.ok (by omega) ⟨by omega, hn.1, hn.2⟩ hm ⟨hmB, hs2, by omega⟩ (Keep.refl _ _) ?_⟩
  · rintro w3 k hk3 ⟨e, he, rfl⟩
    obtain ⟨y, hy, hyk⟩ := hkeys e he
    obtain ⟨u, hu⟩ : ∃ u, ts[y]? = some u := ⟨_, List.getElem?_eq_getElem (by omega)⟩
    have hG3 := hG2.keep hk3 fun k _ hf => by
      obtain ⟨e, he, hm⟩ := mfp_types h2 hf
      refine ⟨e, he, ?_⟩
      rcases hm with q | rfl | rfl
      · have : ∀ e ∈ dictTy, e ∉ storeTy ∧ e ∉ objE := by decide
        exact this e q
      · decide
      · decide
    obtain ⟨v1, q1, q2⟩ := hG3.vd y u hu hy
    obtain ⟨v2, q3, q4⟩ := hG3.vd x t ht hx
    rw [hyk]
    refine (C16_in hG3.st q1 q2 q3 q4).mono ?_
    rintro _ w4 ⟨bb, rfl, hbb, hk4⟩
    rw [alikeR_of hu hbb]
    exact ⟨rfl, hk4⟩
  · intro w3 hk3
    have hb3 := hk3.blk hb2 (hnm hb2.etype (by decide) (by decide) (by decide))
    refine ⟨g, i, rc, hb3.add 0 rfl, hb3.add 2 rfl, hx, hk3.cell hcell2 (hnm hgty (by decide) (by decide) (by decide))⟩
  · intro w3 D' hout h3 hown3 hk3
    obtain ⟨r1, r2, r3, r4, r5⟩ := hout.es hok
    refine ⟨rfl, D', h3, r1, r2, r3, r4, r5, fun k hk => ?_, ?_⟩
    · rcases hown3 k hk with q | q
      · exact .inl q
      · exact .inr (by omega)
    · refine hk02.of_no.trans hk3 fun k hk hf => ?_
      rcases hf with q | ⟨q, _⟩
      · exact q
      · omega
end
end Go.Fw


set_option autoImplicit false
set_option linter.unusedVariables false
namespace Go.Fw
open Go.Proofs Go.RowKit
def KeysAt (w : World) (B : Nat) (a : Option Addr) (l : List Int) : Prop := ∀ j k, l[j]? = some k → ∃ p, a = some p ∧ w.cell? (p.add j) = some (.int .i64 k) ∧ (p.block < B ∨ etype w p.block = some 3)
def evens (ks : List Int) (m : Nat) : List Int := (List.range m).map fun j => ks.getD (2 * j) 0
def keysL (t : Tm) (ks : List Int) : List Int := if t.kind = 8 ∨ t.kind = 9 then ks else if t.kind = 7 then evens ks ((ks.length + 1) / 2) else []
theorem evens_len (ks : List Int) (m : Nat) : (evens ks m).length = m := by simp [evens]
theorem evens_succ {ks : List Int} {m : Nat} {k : Int} (h : ks[2 * m]? = some k) : evens ks (m + 1) = evens ks m ++ [k] := by
  unfold evens
  rw [List.range_succ, List.map_append]
  simp [List.getD, h]
section
variable {w : World} {B : Nat} {t : Tm} {ks : List Int}
theorem C134_gen (hks : KidsAt w t ks) (hty : ∀ p, t.ka = some p → 0 < t.kl → p.block < B) (hkl : t.kl < 1000000000000) :
    Calls Tryz.prog 134 #[.agg t.cells.toArray] w fun e w' => ∃ a c, e = .returned (.slice a (keysL t ks).length c) ∧ KeysAt w' B a (keysL t ks) ∧ Keep No w w' := by
  refine ret_mono (V134_sound t.kind t.b t.neg t.ma t.ml t.mc t.text t.ka t.kl t.kc t.hash t.same w (fun r w' => ∃ a c, r = .slice a (keysL t ks).length c ∧ KeysAt w' B a (keysL t ks) ∧ Keep No w w') ?_) (by rintro _ _ ⟨a, c, rfl, h⟩; exact ⟨a, c, rfl, h⟩)
  have hlen := hks.1
  unfold V134
  refine newK_of fun b w1 hs hb hk => ⟨_, hb.add 0 rfl, ?_⟩
  have hset : (t.kind = 8 ∨ t.kind = 9) → V134J1 (fun r w' => ∃ a c, r = .slice a (keysL t ks).length c ∧ KeysAt w' B a (keysL t ks) ∧ Keep No w w') ⟨b, 0, none⟩ t.kind true w1 := by
    intro h89
    have e1 : keysL t ks = ks := by unfold keysL; rw [if_pos h89]
    unfold V134J1
    refine bsel_pos rfl ⟨_, _, _, hb.add 5 rfl, t.ka, t.kc, by rw [e1, hlen], ?_, hk⟩
    rw [e1]
    intro j k hj
    obtain ⟨q, hq, hc⟩ := hks.2 j k hj
    exact ⟨q, hq, hk.cell hc id, .inl (hty q hq (by have := (List.getElem?_eq_some_iff.1 hj).1; omega))⟩
  refine bsel_split (fun h8 => hset (.inl (by simpa using h8))) fun h8 => ?_
  have h8 : t.kind ≠ 8 := by simpa using h8
  by_cases h9 : t.kind = 9
  · rw [show (t.kind == 9) = true by simp [h9]]
    exact hset (.inr h9)
  rw [show (t.kind == 9) = false by simp [h9]]
  unfold V134J1
  refine bsel_neg rfl (bsel_split (fun h7 => ?_) fun h7 => ?_)
  · have h7 : t.kind = 7 := by simpa using h7
    have e1 : keysL t ks = evens ks ((ks.length + 1) / 2) := by unfold keysL; rw [if_neg (by omega), if_pos h7]
    refine ⟨fun a n c i w' => ∃ m : Nat, i = 2 * m ∧ n = m ∧ m ≤ (ks.length + 1) / 2 ∧ w'.ownsRow w.heap.size 3 1 (.slice a n c) m (ints (evens ks m)) ∧ Keep No w w' ∧ Blk w' b 42 t.cells, fun _ _ _ i _ => (ks.length + 1 - i).toNat, ⟨0, rfl, rfl, by omega, World.ownsRow_nil _ _ _ _, hk, hb⟩, ?_⟩
    rintro j a n c i w2 ⟨m, rfl, rfl, hm, hrow, hk2, hb2⟩
    refine ⟨_, _, _, hb2.add 5 rfl, bsel_split (fun hlt => ?_) fun hge => ?_⟩
    · have hlt : 2 * n < t.kl := by simp at hlt; omega
      obtain ⟨k, hkn⟩ : ∃ k, ks[2 * n]? = some k := ⟨_, List.getElem?_eq_getElem (by omega)⟩
      obtain ⟨q, hq, hc⟩ := hks.2 _ _ hkn
      refine ⟨_, _, _, hb2.add 5 rfl, ?_⟩
      rw [hq]
      have e2 : (2 * (n : Int)) = ((2 * n : Nat) : Int) := by omega
      rw [e2]
      refine idxK_of hlt ⟨k, by rw [Nat.mul_one]; exact hk2.cell hc id, newK_of fun b3 w3 hs3 hb3 hk3 => ?_⟩
      refine appendRow rowInts (hk3.nrow hrow) hb3 rfl (by omega) (by have := (hk2.no hk3).size; omega) fun g cap w4 hrow4 hk4 hat => ?_
      rw [wrap_i64 (by omega)]
      have hbne := ownsRow_ne (hk3.nrow hrow) (hk3.nblk hb2) (by decide)
      refine ⟨⟨n + 1, by omega, rfl, by omega, ?_, ?_, hk4.blk (hk3.nblk hb2) fun e => hbne e⟩, by simp only; omega⟩
      · rw [evens_succ hkn]
        simpa [ints] using hrow4
      · exact (hk2.no hk3).news hk4 fun x hx => ((hk3.nrow hrow).lt x hx).1
    · have hge : t.kl ≤ 2 * n := by simp at hge; omega
      have hmn : n = (ks.length + 1) / 2 := by omega
      subst hmn
      refine ⟨a, c, by rw [e1, evens_len], ?_, hk2⟩
      rw [e1]
      intro j k hj
      obtain ⟨g, cap, hv, _, hcell⟩ := row_cell hrow (ints_get hj)
      cases hv
      exact ⟨_, rfl, by rw [add_mk, Nat.zero_add]; exact hcell, .inr (ownsRow_etype hrow rfl)⟩
  · have h7 : t.kind ≠ 7 := by simpa using h7
    have e1 : keysL t ks = [] := by unfold keysL; rw [if_neg (by omega), if_neg h7]
    refine ⟨none, 0, by rw [e1]; rfl, ?_, hk⟩
    rw [e1]
    intro j k hj
    simp at hj
end
noncomputable def tabStep (ts : List Tm) (mss : Nat → List Int) (most : Int) (t : Tm) (ks : List Int) (es : List Ent) (j : Nat) : List Ent :=
  putEs (alikeR ts mss ((keysL t ks).getD j 0).toNat) most es (hashT ts mss ((keysL t ks).getD j 0).toNat) (gref ts ((keysL t ks).getD j 0).toNat) (if t.kind = 7 then gref ts (ks.getD (2 * j + 1) 0).toNat else 0)
noncomputable def tabEs (ts : List Tm) (mss : Nat → List Int) (most : Int) (t : Tm) (ks : List Int) (n : Nat) : List Ent := (List.range n).foldl (tabStep ts mss most t ks) []
theorem tabEs_succ (ts : List Tm) (mss : Nat → List Int) (most : Int) (t : Tm) (ks : List Int) (n : Nat) : tabEs ts mss most t ks (n + 1) = tabStep ts mss most t ks (tabEs ts mss most t ks n) n := by
  unfold tabEs
  rw [List.range_succ, List.foldl_append]
  rfl
theorem putEs_keys {alike : Int → Bool} {most : Int} {es : List Ent} {hash key value : Int} {P : Int → Prop} (h : ∀ e ∈ es, P e.key) (hk : P key) : ∀ e ∈ putEs alike most es hash key value, P e.key := by
  unfold putEs
  split
  · rename_i i _
    cases hi : es[i]? with
    | none => simpa using h
    | some e =>
      intro x hx
      simp only [Option.elim] at hx
      rcases List.mem_or_eq_of_mem_set hx with hx | rfl
      · exact h x hx
      · exact h e (List.mem_of_getElem? hi)
  · split
    · exact h
    · intro x hx
      simp at hx
      rcases hx with hx | rfl
      · exact h x hx
      · exact hk
end Go.Fw


set_option autoImplicit false
set_option linter.unusedVariables false
namespace Go.Fw
open Go.Proofs Go.RowKit
theorem DictAt.mono {w : World} {R R' d : Nat} {D : Dc} (h : DictAt w R d D) (hR : R' ≤ R) : DictAt w R' d D :=
  ⟨h.blk, ⟨h.tab.blk, ownsRow_mono h.tab.row hR, ⟨h.tab.cel.lg, h.tab.cel.blk, h.tab.cel.row, h.tab.cel.len, h.tab.cel.rng, by have := h.tab.cel.ge; omega⟩, by have := h.tab.ge; omega, h.tab.len⟩, by have := h.ge; omega⟩
theorem GVal.store {s B : Nat} {S S' : St} {ts : List Tm} {mss : Nat → List Int} {i : Nat} {w w' : World} {l : List Value} (h : GVal s B S ts mss i w) (hk : Keep (Ty B storeTy w) w w') (hs : StAt w' s B S') (hv : S'.vals = S.vals ++ l) : GVal s B S' ts mss i w' := by
  refine ⟨hs, fun x t hx hi => ?_⟩
  obtain ⟨v, h1, h2⟩ := h.vd x t hx hi
  refine ⟨v, by rw [hv, List.getElem?_append_left (List.getElem?_eq_some_iff.1 h1).1]; exact h1, h2.keep hk fun k e hB he hm hf => ?_⟩
  obtain ⟨_, e', he', hm'⟩ := hf
  rw [he] at he'
  cases he'
  have : ∀ e ∈ objE, e ∉ storeTy := by decide
  exact this e hm hm'
structure LowAt (w : World) (B : Nat) (ta : Option Addr) (ts : List Tm) (mss : Nat → List Int) : Prop where
  tm : TermsAt w ta ts
  low : ∀ p, ta = some p → p.block < B
  inp : ∀ (x : Nat) (u : Tm), ts[x]? = some u → InAt w u (mss x) ∧ ∀ p, u.ma = some p → 0 < u.ml → p.block < B
theorem LowAt.keep {w w' : World} {B : Nat} {ta : Option Addr} {ts : List Tm} {mss : Nat → List Int} {fp : Nat → Prop} (h : LowAt w B ta ts mss) (hk : Keep fp w w') (hf : ∀ k, fp k → B ≤ k) : LowAt w' B ta ts mss := by
  refine ⟨h.tm.keep hk fun p hp hx => ?_, h.low, fun x u hu => ?_⟩
  · have := h.low p hp; have := hf _ hx; omega
  · obtain ⟨⟨⟨q1, q2⟩, q3⟩, q4⟩ := h.inp x u hu
    refine ⟨⟨⟨fun i m hm => ?_, q2⟩, q3⟩, q4⟩
    obtain ⟨p, hp, hc⟩ := q1 i m hm
    refine ⟨p, hp, hk.cell hc fun hx => ?_⟩
    rw [add_block] at hx
    have := q4 p hp (by have := (List.getElem?_eq_some_iff.1 hm).1; have := q2.1; omega); have := hf _ hx; omega
theorem LowAt.no {w w' : World} {B : Nat} {ta : Option Addr} {ts : List Tm} {mss : Nat → List Int} (h : LowAt w B ta ts mss) (hk : Keep No w w') : LowAt w' B ta ts mss := h.keep hk fun _ hf => hf.elim
theorem KeysAt.keep {w w' : World} {B : Nat} {a : Option Addr} {l : List Int} {fp : Nat → Prop} (h : KeysAt w B a l) (hk : Keep fp w w') (hf : ∀ k, k < w.heap.size → fp k → B ≤ k ∧ etype w k ≠ some 3) : KeysAt w' B a l := by
  intro j k hj
  obtain ⟨p, hp, hc, hx⟩ := h j k hj
  have hlt : p.block < w.heap.size := by have := World.block_lt_of_cell? w _ hc; rwa [add_block] at this
  have hn : ¬ fp p.block := fun hq => by
    obtain ⟨q1, q2⟩ := hf _ hlt hq
    rcases hx with hx | hx
    · omega
    · exact q2 hx
  refine ⟨p, hp, hk.cell hc (by rw [add_block]; exact hn), ?_⟩
  rcases hx with hx | hx
  · exact .inl hx
  · exact .inr (by rw [hk.ett hlt hn]; exact hx)
section
variable {w : World} {s B b : Nat} {S : St} {ts : List Tm} {mss : Nat → List Int} {i : Nat} {ta : Option Addr} {tc : Nat} {v : Value} {R : Nat} {t : Tm} {ks : List Int}
theorem C88_gen (hG : GVal s B S ts mss i w) (hb : Blk w b 92 [.pointer (some ⟨s, 0, none⟩), .slice ta ts.length tc, v]) (hL : LowAt w B ta ts mss) (hrow : w.ownsRow R 3 1 v i (ints ((List.range i).map fun x => (gref ts x : Int)))) (hi : i ≤ ts.length) (hB : B ≤ w.heap.size)
    (hm : S.m = none) (hp : 0 ≤ S.pairs ∧ S.pairs ≤ 65536) (hl : S.vals.length < 100000000000) (h1 : 0 ≤ S.last ∧ S.last < 1000000000000) (h2 : -1000000000000 < S.live ∧ S.live < 1000000000000)
    (hk789 : t.kind = 7 ∨ t.kind = 8 ∨ t.kind = 9) (hks : KidsAt w t ks) (hty : ∀ p, t.ka = some p → 0 < t.kl → p.block < B) (hkl : t.kl < 100000000000) (hev : t.kind = 7 → ks.length % 2 = 0) (hkid : ∀ (j : Nat) (k : Int), ks[j]? = some k → 0 ≤ k ∧ k < i)
    (hkeyk : ∀ (j : Nat) (k : Int), (keysL t ks)[j]? = some k → ∀ u, ts[k.toNat]? = some u → isKeyK u) :
    Calls Tryz.prog 88 #[.pointer (some ⟨b, 0, none⟩), .agg t.cells.toArray] w fun e w' => e = .returned (.int .i64 S.vals.length) ∧ ∃ du p d D, w.heap.size ≤ p ∧ Blk w' p 120 [.int .i64 (S.last + 1), .pointer (some ⟨d, 0, none⟩), .int .i64 t.kind] ∧ DictAt w' w.heap.size d D ∧ DcOk D ∧ D.most = S.pairs ∧
      D.T.es = tabEs ts mss S.pairs t ks (keysL t ks).length ∧ StAt w' s B { S with due := du, last := S.last + 1, live := S.live + 1, vals := S.vals ++ [.iface 111 (.pointer (some ⟨p, 0, none⟩))] } ∧ Keep (Ty B storeTy w) w w' := by
  refine ret_mono (V88_sound (some ⟨b, 0, none⟩) t.kind t.b t.neg t.ma t.ml t.mc t.text t.ka t.kl t.kc t.hash t.same w (fun r w' => r = .int .i64 S.vals.length ∧ ∃ du p d D, w.heap.size ≤ p ∧ Blk w' p 120 [.int .i64 (S.last + 1), .pointer (some ⟨d, 0, none⟩), .int .i64 t.kind] ∧ DictAt w' w.heap.size d D ∧ DcOk D ∧ D.most = S.pairs ∧
      D.T.es = tabEs ts mss S.pairs t ks (keysL t ks).length ∧ StAt w' s B { S with due := du, last := S.last + 1, live := S.live + 1, vals := S.vals ++ [.iface 111 (.pointer (some ⟨p, 0, none⟩))] } ∧ Keep (Ty B storeTy w) w w') ?_) (by rintro _ _ ⟨rfl, h⟩; exact ⟨rfl, h⟩)
  have hklen := hks.1
  have hkL : (keysL t ks).length ≤ t.kl := by
    unfold keysL
    split
    · omega
    · split
      · rw [evens_len]; omega
      · simp
  unfold V88
  refine newK_of fun a w1 hs1 ha hk1 => ?_
  have hk1d := hk1.no (Keep.drawn w1)
  have hG1 := hG.no hk1d
  have hb1 := hk1d.nblk hb
  simp only [nilK_some]
  refine ⟨_, hb1.add 0 rfl, _, ha.drew.add 0 rfl, (C141 (kind := t.kind) hG1.st hm hp hl (by have := hk1d.size; omega) h1 h2).mono ?_⟩
  rintro _ w2 ⟨rfl, du, p, d, D0, hpB, hbp, hD0, hok0, hes0, hmost0, hbi0, htu0, hma0, hS2, hk2⟩
  have hs1' := hk1d.size
  have hkT : Keep (Ty B storeTy w) w w2 := (Keep.of_no hk1d).ty hk2
  have hlowT : ∀ k, Ty B storeTy w k → B ≤ k := fun k hk => hk.1
  have hlowT1 : ∀ k, Ty B storeTy w1.drew k → B ≤ k := fun k hk => hk.1
  have hG2 : GVal s B { S with due := du, last := S.last + 1, live := S.live + 1, vals := S.vals ++ [.iface 111 (.pointer (some ⟨p, 0, none⟩))] } ts mss i w2 := hG1.store hk2 hS2 rfl
  have hb2 := hk2.tblk hb1 (by decide)
  have ha2 := hk2.tblk ha.drew (by decide)
  have hrow2 := hk2.trow (hk1d.nrow hrow) (by decide)
  have hL2 := (hL.no hk1d).keep hk2 hlowT1
  have hks2 : KidsAt w2 t ks := (hks.no hk1d).keep0 hk2 fun p hp h0 hx => by have := hty p hp h0; have := hlowT1 _ hx; omega
  have hget : (S.vals ++ [.iface 111 (.pointer (some ⟨p, 0, none⟩))])[S.vals.length]? = some (.iface 111 (.pointer (some ⟨p, 0, none⟩))) := by simp
  refine ⟨_, rfl, _, hb2.add 0 rfl, (C41_in hS2 hget).mono ?_⟩
  rintro _ w2' ⟨rfl, rfl⟩
  refine ⟨_, rfl, _, _, yes98 _ _, bsel_neg rfl ⟨_, _, _, _, _, _, _, _, _, _, _, _, ha2.cells0, (C134_gen (B := B) hks2 hty (by omega)).mono ?_⟩⟩
  rintro _ W ⟨ka, kc, rfl, hkeys, hkW⟩
  have hGW := hG2.no hkW
  have hbW := hkW.nblk hb2
  have haW := hkW.nblk ha2
  have hrowW := hkW.nrow hrow2
  have hLW := hL2.no hkW
  have hksW := hks2.no hkW
  have hbpW := hkW.nblk hbp
  have hDW : DictAt W w.heap.size d D0 := (hD0.no hkW).mono hs1'
  have hkTW := hkT.no hkW
  have hsW := hkTW.size
  have hownT : ∀ {k : Nat} {e : TypeId}, etype W k = some e → e ∉ dictTy → ¬ D0.own d k := fun he hn => hDW.not_own he (by rintro _ ⟨⟩; exact hn)
  have hownB : ∀ k, D0.own d k → B ≤ k := fun k hk => by have := (hDW.ty hk).1; omega
  refine ⟨_, _, _, rfl, fun n w' => 0 ≤ n ∧ n ≤ (keysL t ks).length ∧ ∃ D, DictAt w' w.heap.size d D ∧ DcOk D ∧ D.most = S.pairs ∧ D.T.es = tabEs ts mss S.pairs t ks n.toNat ∧ D.T.turns ≤ n ∧ D.T.made ≤ n + 1 ∧ (∀ e ∈ D.T.es, ∃ y, y < i ∧ e.key = gref ts y) ∧ (∀ k, D.own d k → D0.own d k ∨ W.heap.size ≤ k) ∧ Keep (D0.own d) W w', fun n _ => ((keysL t ks).length - n).toNat,
    ⟨by omega, by omega, D0, hDW, ⟨hok0, by rw [hbi0, hes0]; rfl, by rw [hes0, hmost0]; simp; omega⟩, hmost0, by rw [hes0]; rfl, by omega, by omega, by rw [hes0]; simp, fun k hk => .inl hk, Keep.refl _ _⟩, ?_⟩
  rintro j n w3 ⟨hn0, hnl, D, hD, hok, hmost, hes, htu, hma, hkk, hown, hk3⟩
  have ha3 := hk3.blk haW (hownT haW.etype (by decide))
  refine bsel_split (fun hlt => ?_) fun hge => ?_
  · obtain ⟨n, rfl⟩ := Int.eq_ofNat_of_zero_le hn0
    have hlt : n < (keysL t ks).length := by simp at hlt; omega
    simp only [Int.toNat_natCast] at hes
    have hG3 := hGW.keep hk3 fun k _ hf => by
      obtain ⟨_, _, e, he, hm⟩ := hDW.ty hf
      have : ∀ e ∈ dictTy, e ∉ storeTy ∧ e ∉ objE := by decide
      exact ⟨e, he, this e hm⟩
    have hb3 := hk3.blk hbW (hownT hbW.etype (by decide))
    have hrow3 := hk3.row hrowW fun g hg => hownT (ownsRow_etype hrowW hg) (by decide)
    have hL3 := hLW.keep hk3 hownB
    have hp3 := hk3.blk hbpW (hownT hbpW.etype (by decide))
    have hkeys3 := hkeys.keep hk3 fun k _ hf => ⟨hownB k hf, fun he => hownT he (by decide) hf⟩
    obtain ⟨k, hkn⟩ : ∃ k, (keysL t ks)[n]? = some k := ⟨_, List.getElem?_eq_getElem hlt⟩
    obtain ⟨q, hq, hqc, _⟩ := hkeys3 n k hkn
    have hkr : 0 ≤ k ∧ k < i := by
      have hmem : k ∈ ks := by
        have h0 := List.mem_of_getElem? hkn
        unfold keysL at h0
        split at h0
        · exact h0
        · split at h0
          · unfold evens at h0
            rw [List.mem_map] at h0
            obtain ⟨m, hm1, hm2⟩ := h0
            rw [List.mem_range] at hm1
            have hm3 : 2 * m < ks.length := by omega
            rw [← hm2, List.getD_eq_getElem?_getD, List.getElem?_eq_getElem hm3]
            exact List.getElem_mem hm3
          · simp at h0
      obtain ⟨m, hm⟩ := List.getElem?_of_mem hmem
      exact hkid m k hm
    obtain ⟨x, rfl⟩ := Int.eq_ofNat_of_zero_le hkr.1
    have hx : x < i := by omega
    obtain ⟨u, hu⟩ : ∃ u, ts[x]? = some u := ⟨_, List.getElem?_eq_getElem (by omega)⟩
    have huk : isKeyK u := hkeyk n x hkn u (by simpa using hu)
    rw [hq]
    refine idxK_of hlt ⟨x, by rw [Nat.mul_one]; exact hqc, _, ha3.add 0 rfl, ?_⟩
    have hgetD : (keysL t ks).getD n 0 = (x : Int) := by rw [List.getD_eq_getElem?_getD, hkn]; rfl
    have hgo : ∀ {wv : World} {val : Int}, Keep No w3 wv → val = (if t.kind = 7 then gref ts (ks.getD (2 * n + 1) 0).toNat else 0 : Nat) →
        V88J1 (fun n w' => 0 ≤ n ∧ n ≤ (keysL t ks).length ∧ ∃ D, DictAt w' w.heap.size d D ∧ DcOk D ∧ D.most = S.pairs ∧ D.T.es = tabEs ts mss S.pairs t ks n.toNat ∧ D.T.turns ≤ n ∧ D.T.made ≤ n + 1 ∧ (∀ e ∈ D.T.es, ∃ y, y < i ∧ e.key = gref ts y) ∧ (∀ k, D.own d k → D0.own d k ∨ W.heap.size ≤ k) ∧ Keep (D0.own d) W w') (fun n _ => ((keysL t ks).length - n).toNat) n w3 (some ⟨b, 0, none⟩) ⟨a, 0, none⟩ S.vals.length (some ⟨p, 0, none⟩) x val (some q) (keysL t ks).length kc (keysL t ks).length n wv := by
      intro wv val hkv hval
      unfold V88J1
      refine (C142_gen (hG3.no hkv) (hkv.nblk hb3) (hL3.no hkv).tm (hkv.nrow hrow3) hu hx ((hL3.no hkv).inp x u hu).1 huk (hkv.nblk hp3) (hD.no hkv) hok (by omega) ⟨by omega, by omega⟩ hi hkk val (by have := hk3.size; have := hkv.size; omega)).mono ?_
      rintro _ w4 ⟨rfl, D', hD', hok', hes', hmost', htu', hma', hown', hk4⟩
      refine ⟨_, rfl, ?_⟩
      rw [wrap_i64 (by omega)]
      have e1 : ((n : Int) + 1).toNat = n + 1 := by omega
      have hs3 := hk3.size
      have hsv := hkv.size
      refine ⟨⟨by omega, by omega, D', hD', hok', by rw [hmost', hmost], ?_, by omega, by omega, ?_, fun k hk => ?_, ?_⟩, by simp only; omega⟩
      · rw [hes', e1, tabEs_succ, hes, hmost]
        unfold tabStep
        rw [hgetD, hval]
        simp only [Int.toNat_natCast]
        congr 1
        split <;> rfl
      · rw [hes']
        exact putEs_keys (P := fun k => ∃ y, y < i ∧ k = (gref ts y : Int)) hkk ⟨x, hx, rfl⟩
      · rcases hown' k hk with q | q
        · exact hown k q
        · exact .inr (by omega)
      · refine (hk3.no hkv).trans hk4 fun k hk hf => ?_
        rcases hown k hf with q | q
        · exact q
        · omega
    refine bsel_split (fun h7 => ?_) fun h7 => ?_
    · have h7 : t.kind = 7 := by simpa using h7
      have hd := Keep.drawn w3
      have hklen2 : (keysL t ks).length = (ks.length + 1) / 2 := by unfold keysL; rw [if_neg (by omega), if_pos h7, evens_len]
      have hev7 := hev h7
      have h2n : 2 * n + 1 < ks.length := by omega
      obtain ⟨kv, hkv⟩ : ∃ kv, ks[2 * n + 1]? = some kv := ⟨_, List.getElem?_eq_getElem h2n⟩
      have hks3 : KidsAt w3 t ks := hksW.keep0 hk3 fun p hp h0 hx => by have := hty p hp h0; have := hownB _ hx; omega
      obtain ⟨q2, hq2, hq2c⟩ := hks3.2 _ _ hkv
      obtain ⟨y, rfl⟩ := Int.eq_ofNat_of_zero_le (hkid _ _ hkv).1
      have hy : y < i := by have := (hkid _ _ hkv).2; omega
      obtain ⟨g, rc, hvg, hcg⟩ := row_get hrow3 hy
      subst hvg
      refine ⟨_, _, _, hb3.drew.add 2 rfl, _, _, _, ha3.drew.add 5 rfl, ?_⟩
      rw [hq2]
      have ei : IntKind.wrap .i64 (IntKind.wrap .i64 (2 * (n : Int)) + 1) = ((2 * n + 1 : Nat) : Int) := by
        rw [wrap_i64 (n := 2 * (n : Int)) (by omega), wrap_i64 (by omega)]; omega
      rw [ei]
      refine idxK_of (by omega) ⟨y, by rw [Nat.mul_one]; exact hq2c, idxK_of hy ⟨_, by rw [add_mk, Nat.mul_one, Nat.zero_add]; exact hcg, hgo hd ?_⟩⟩
      rw [if_pos h7, List.getD_eq_getElem?_getD, hkv]
      rfl
    · have h7 : t.kind ≠ 7 := by simpa using h7
      exact hgo (Keep.refl _ _) (by rw [if_neg h7]; rfl)
  · have hnl' : n = (keysL t ks).length := by simp at hge; omega
    subst hnl'
    rw [Int.toNat_natCast] at hes
    have hk03 : Keep (Ty B storeTy w) w w3 := hkTW.trans hk3 fun k hk hf => by
      have := (hDW.ty hf).1
      omega
    refine ⟨rfl, du, p, d, D, by omega, hk3.blk hbpW (hownT hbpW.etype (by decide)), hD, hok, hmost, hes, ?_, hk03⟩
    exact (hGW.keep hk3 fun k _ hf => by
      obtain ⟨_, _, e, he, hm⟩ := hDW.ty hf
      have : ∀ e ∈ dictTy, e ∉ storeTy ∧ e ∉ objE := by decide
      exact ⟨e, he, this e hm⟩).st
end
end Go.Fw


set_option autoImplicit false
set_option linter.unusedVariables false
namespace Go.Fw
open Go.Proofs Go.RowKit
theorem FormAt.low {B B' : Nat} {w : World} {y : Value} {neg : Bool} {ms : List Int} (h : FormAt B w y neg ms) (hB : B' ≤ B) : FormAt B' w y neg ms := h.mono hB
structure Made (s B : Nat) (S : St) (ts : List Tm) (mss : Nat → List Int) (i : Nat) (w w' : World) (S' : St) : Prop where
  val : GVal s B S' ts mss (i + 1) w'
  last : S'.last = cO ts (i + 1) ∧ S'.live = cO ts (i + 1)
  len : S'.vals.length = 3 + cV ts (i + 1)
  fix : S'.pairs = S.pairs ∧ S'.shared = S.shared ∧ S'.m = S.m
  pre : ∃ l, S'.vals = S.vals ++ l
  keep : Keep (Ty B storeTy w) w w'
theorem made_of {s B : Nat} {S S' : St} {ts : List Tm} {mss : Nat → List Int} {i : Nat} {w w' : World} {t : Tm} (ht : ts[i]? = some t) {l : List Value} (hG : GVal s B S ts mss i w) (hk : Keep (Ty B storeTy w) w w') (hs : StAt w' s B S') (hv : S'.vals = S.vals ++ l) (hl : S.vals.length = 3 + cV ts i) (hll : l.length = nV t) (hlast : S.last = cO ts i ∧ S.live = cO ts i) (hlast' : S'.last = S.last + nO t ∧ S'.live = S.live + nO t)
    (hfix : S'.pairs = S.pairs ∧ S'.shared = S.shared ∧ S'.m = S.m) {v : Value} (hnew : S'.vals[refT t (cV ts i)]? = some v) (hd : VDAt w' B v (descT t (mss i) (cO ts i))) : Made s B S ts mss i w w' S' := by
  have h1 := hG.store hk hs hv
  refine ⟨⟨hs, fun x u hx hlt => ?_⟩, ?_, ?_, hfix, ⟨l, hv⟩, hk⟩
  · by_cases hxi : x < i
    · exact h1.vd x u hx hxi
    · have : x = i := by omega
      subst this
      rw [ht] at hx
      cases hx
      exact ⟨v, by rw [gref_of ht]; exact hnew, by rw [gdesc_of ht]; exact hd⟩
  · rw [cO_succ ht, hlast'.1, hlast'.2, hlast.1, hlast.2]
    exact ⟨by omega, by omega⟩
  · rw [hv, List.length_append, hl, hll, cV_succ ht]; omega
section
variable {w : World} {s B b : Nat} {S : St} {ts : List Tm} {mss : Nat → List Int} {i : Nat} {rest : List Value} {t : Tm}
theorem C40_plain (ht : ts[i]? = some t) (hG : GVal s B S ts mss i w) (hk : t.kind = 1 ∨ t.kind = 2) (hl : S.vals.length = 3 + cV ts i) (hlast : S.last = cO ts i ∧ S.live = cO ts i) (hv0 : ∃ l, S.vals = val0 ++ l) :
    Calls Tryz.prog 40 #[.pointer (some ⟨b, 0, none⟩), .agg t.cells.toArray] w fun e w' => e = .returned (.int .i64 (gref ts i)) ∧ Made s B S ts mss i w w' S := by
  have hnv : nV t = 0 := by unfold nV; rw [if_pos hk]
  have hno : nO t = 0 := by unfold nO; rw [if_pos (by omega)]
  obtain ⟨l0, hl0⟩ := hv0
  have hmade : ∀ {w' : World}, Keep No w w' → Made s B S ts mss i w w' S := by
    intro w' hk'
    have hst := hG.st.no hk'
    rcases hk with hk | hk
    · refine made_of (l := []) ht hG hk'.of_no hst (by simp) hl (by simp [hnv]) hlast ⟨by omega, by omega⟩ ⟨rfl, rfl, rfl⟩ (v := .iface 85 (.agg #[])) ?_ ?_
      · unfold refT; rw [if_pos hk, hl0]; rfl
      · unfold descT; rw [if_pos hk]; exact rfl
    · refine made_of (l := []) ht hG hk'.of_no hst (by simp) hl (by simp [hnv]) hlast ⟨by omega, by omega⟩ ⟨rfl, rfl, rfl⟩ (v := .iface 87 (.agg #[.bool t.b])) ?_ ?_
      · unfold refT; rw [if_neg (by omega), if_pos hk, hl0]; cases t.b <;> rfl
      · unfold descT; rw [if_neg (by omega), if_pos hk]; exact rfl
  refine ret_mono (V40_sound _ t.kind t.b t.neg t.ma t.ml t.mc t.text t.ka t.kl t.kc t.hash t.same w (fun r w' => r = .int .i64 (gref ts i) ∧ Made s B S ts mss i w w' S) ?_) (by rintro _ _ ⟨rfl, h⟩; exact ⟨rfl, h⟩)
  unfold V40
  refine newK_of fun c w1 hs hc hk1 => ⟨_, hc.add 0 rfl, bsel_split (fun h1 => ?_) fun h1 => ?_⟩
  · have h1 : t.kind = 1 := by simpa using h1
    exact ⟨by rw [gref_of ht]; unfold refT; rw [if_pos h1]; rfl, hmade hk1⟩
  · have h1 : t.kind ≠ 1 := by simpa using h1
    have h2 : t.kind = 2 := by omega
    refine bsel_pos (by simp [h2]) ⟨_, hc.add 1 rfl, (V83_sound t.b w1 (fun r w' => r = .int .i64 (if t.b then 2 else 1) ∧ w' = w1) ?_).mono ?_⟩
    · unfold V83
      cases t.b <;> exact ⟨rfl, rfl⟩
    · rintro _ w2 ⟨_, rfl, rfl, rfl⟩
      refine ⟨_, rfl, ?_, hmade hk1⟩
      rw [gref_of ht]
      unfold refT
      rw [if_neg h1, if_pos h2]
      cases t.b <;> rfl
theorem C40_int (ht : ts[i]? = some t) (hG : GVal s B S ts mss i w) (hb : Blk w b 92 (.pointer (some ⟨s, 0, none⟩) :: rest)) (hk : t.kind = 3) (hin : InAt w t (mss i)) (hB : B ≤ w.heap.size) (hl : S.vals.length = 3 + cV ts i) (hlt : S.vals.length < 100000000000) (hlast : S.last = cO ts i ∧ S.live = cO ts i) :
    Calls Tryz.prog 40 #[.pointer (some ⟨b, 0, none⟩), .agg t.cells.toArray] w fun e w' => e = .returned (.int .i64 (gref ts i)) ∧ ∃ S', Made s B S ts mss i w w' S' := by
  refine ret_mono (V40_sound _ t.kind t.b t.neg t.ma t.ml t.mc t.text t.ka t.kl t.kc t.hash t.same w (fun r w' => r = .int .i64 (gref ts i) ∧ ∃ S', Made s B S ts mss i w w' S') ?_) (by rintro _ _ ⟨rfl, h⟩; exact ⟨rfl, h⟩)
  obtain ⟨⟨m1, m2, m3, m4⟩, _⟩ := hin
  unfold V40
  refine newK_of fun c w1 hs hc hk1 => ⟨_, hc.add 0 rfl, bsel_neg (by simp [hk]) (bsel_neg (by simp [hk]) (bsel_pos (by simp [hk]) ?_))⟩
  have hk1d := hk1.no (Keep.drawn w1)
  have hbd := hk1d.nblk hb
  rw [nilK_some]
  refine ⟨_, hbd.add 0 rfl, _, _, _, _, hc.drew.cellsAdd 2 rfl, ?_⟩
  rw [m2]
  refine (C85 (m1.no hk1d) m3 m4).mono ?_
  rintro _ w2 ⟨y, rfl, hy, hk2⟩
  have hk02 := hk1d.no hk2
  obtain ⟨x, a, l, cc, hya, hcall⟩ := C84 (hG.st.no hk02) hlt (by have := hk02.size; omega) hy
  refine ⟨_, _, _, _, by rw [hya], (hk2.nblk hbd).add 0 rfl, hcall.mono ?_⟩
  rintro _ w3 ⟨rfl, du, hS3, hk3⟩
  have hk03 : Keep (Ty B storeTy w) w w3 := (Keep.of_no hk02).ty hk3
  have e1 : refT t (cV ts i) = S.vals.length := by unfold refT; rw [if_neg (by omega), if_neg (by omega), if_neg (by omega)]; omega
  refine ⟨_, rfl, by rw [gref_of ht, e1], _, made_of (l := [.iface 172 y]) ht hG hk03 hS3 rfl hl (by unfold nV; rw [if_neg (by omega), if_neg (by omega)]; rfl) hlast (by unfold nO; rw [if_pos (by omega)]; exact ⟨by simp, by simp⟩) ⟨rfl, rfl, rfl⟩ (v := .iface 172 y) ?_ ?_⟩
  · rw [e1]; simp
  · unfold descT
    rw [if_neg (by omega), if_neg (by omega), if_pos hk]
    refine ⟨m4, y, rfl, ?_⟩
    have hyB : FormAt B w2 y t.neg (mss i) := hy.low (by have := hk1d.size; omega)
    exact hyB.keepT hk3 fun k hB' he hf => by
      obtain ⟨_, e, he', hm⟩ := hf
      rw [he] at he'
      cases he'
      revert hm
      decide
theorem C40_strs (ht : ts[i]? = some t) (hG : GVal s B S ts mss i w) (hb : Blk w b 92 (.pointer (some ⟨s, 0, none⟩) :: rest)) (hk : t.kind = 4) (hB : B ≤ w.heap.size) (hl : S.vals.length = 3 + cV ts i) (hlt : S.vals.length < 100000000000) (hlast : S.last = cO ts i ∧ S.live = cO ts i) :
    Calls Tryz.prog 40 #[.pointer (some ⟨b, 0, none⟩), .agg t.cells.toArray] w fun e w' => e = .returned (.int .i64 (gref ts i)) ∧ ∃ S', Made s B S ts mss i w w' S' := by
  refine ret_mono (V40_sound _ t.kind t.b t.neg t.ma t.ml t.mc t.text t.ka t.kl t.kc t.hash t.same w (fun r w' => r = .int .i64 (gref ts i) ∧ ∃ S', Made s B S ts mss i w w' S') ?_) (by rintro _ _ ⟨rfl, h⟩; exact ⟨rfl, h⟩)
  unfold V40
  refine newK_of fun c w1 hs hc hk1 => ⟨_, hc.add 0 rfl, bsel_neg (by simp [hk]) (bsel_neg (by simp [hk]) (bsel_neg (by simp [hk]) (bsel_pos (by simp [hk]) ?_)))⟩
  have hk1d := hk1.no (Keep.drawn w1)
  have hbd := hk1d.nblk hb
  rw [nilK_some]
  refine ⟨_, hbd.add 0 rfl, _, hc.drew.add 4 rfl, (C86 (t := t.text) (hG.st.no hk1d) hlt (by have := hk1d.size; omega)).mono ?_⟩
  rintro _ w3 ⟨rfl, du, hS3, hk3⟩
  have hk03 : Keep (Ty B storeTy w) w w3 := (Keep.of_no hk1d).ty hk3
  have e1 : refT t (cV ts i) = S.vals.length := by unfold refT; rw [if_neg (by omega), if_neg (by omega), if_neg (by omega)]; omega
  refine ⟨_, rfl, by rw [gref_of ht, e1], _, made_of (l := [.iface 160 (.agg #[.string t.text])]) ht hG hk03 hS3 rfl hl (by unfold nV; rw [if_neg (by omega), if_neg (by omega)]; rfl) hlast (by unfold nO; rw [if_pos (by omega)]; exact ⟨by simp, by simp⟩) ⟨rfl, rfl, rfl⟩ (v := .iface 160 (.agg #[.string t.text])) ?_ ?_⟩
  · rw [e1]; simp
  · unfold descT
    rw [if_neg (by omega), if_neg (by omega), if_neg (by omega), if_pos hk]
    exact rfl
theorem C40_rows (ht : ts[i]? = some t) (hG : GVal s B S ts mss i w) (hb : Blk w b 92 (.pointer (some ⟨s, 0, none⟩) :: rest)) (hk : t.kind = 5 ∨ t.kind = 6) (hkl : t.kl < 1000000000000) (hB : B ≤ w.heap.size) (hl : S.vals.length = 3 + cV ts i) (hlt : S.vals.length < 100000000000) (hlast : S.last = cO ts i ∧ S.live = cO ts i) (hlo : S.last < 1000000000000) :
    Calls Tryz.prog 40 #[.pointer (some ⟨b, 0, none⟩), .agg t.cells.toArray] w fun e w' => e = .returned (.int .i64 (gref ts i)) ∧ ∃ S' r g, Made s B S ts mss i w w' S' ∧ S'.vals[gref ts i]? = some (.iface 94 (.pointer (some ⟨r, 0, none⟩))) ∧ w.heap.size ≤ r ∧ w.heap.size ≤ g ∧
      Blk w' r 100 [.int .i64 (S.last + 1), .slice (some ⟨g, 0, none⟩) t.kl t.kl, .int .i64 t.kind] ∧ Blk w' g 3 (List.replicate t.kl (.int .i64 0)) := by
  have hno : nO t = 1 := by unfold nO; rw [if_neg (by omega), if_neg (by omega)]
  have hnv : nV t = 1 := by unfold nV; rw [if_neg (by omega), if_neg (by omega)]
  refine (C40_row hG.st hb hlt hB hk hkl ⟨by omega, hlo⟩ ⟨by omega, by omega⟩).mono ?_
  rintro _ w' ⟨rfl, du, r, g, hr, hg, hbr, hbg, hS', hk'⟩
  have e1 : refT t (cV ts i) = S.vals.length := by unfold refT; rw [if_neg (by omega), if_neg (by omega), if_neg (by omega)]; omega
  refine ⟨by rw [gref_of ht, e1], _, r, g, made_of (l := [.iface 94 (.pointer (some ⟨r, 0, none⟩))]) ht hG hk' hS' rfl hl (by rw [hnv]; rfl) hlast (by rw [hno]; exact ⟨by simp, by simp⟩) ⟨rfl, rfl, rfl⟩ (v := .iface 94 (.pointer (some ⟨r, 0, none⟩))) ?_ ?_, ?_, hr, hg, hbr, hbg⟩
  · rw [e1]; simp
  · unfold descT
    rw [if_neg (by omega), if_neg (by omega), if_neg (by omega), if_neg (by omega)]
    refine ⟨by omega, 94, r, 100, [.slice (some ⟨g, 0, none⟩) t.kl t.kl, .int .i64 t.kind], rfl, by omega, ?_, .inl ⟨rfl, rfl, rfl⟩⟩
    have e2 : numT t (cO ts i) = S.last + 1 := by unfold numT; rw [if_neg (by omega), hlast.1]
    rw [e2]; exact hbr
  · rw [gref_of ht, e1]; simp
theorem J3_enter (hk : 7 ≤ t.kind) {Q : Value → World → Prop} {c : Nat} {w1 : World} (h : V40J3 w Q (some ⟨b, 0, none⟩) ⟨c, 0, none⟩ t.kind (t.kind == 7 || t.kind == 8 || t.kind == 9) w1) : V40J4 w Q (some ⟨b, 0, none⟩) ⟨c, 0, none⟩ t.kind (t.kind == 6) w1 := by
  unfold V40J4
  refine bsel_neg (by simp; omega) (bsel_split (fun h7 => ?_) fun h7 => bsel_split (fun h8 => ?_) fun h8 => ?_)
  · simpa [h7] using h
  · simpa [h8] using h
  · simpa [h7, h8] using h
theorem V40_enter (hk : 7 ≤ t.kind) {Q : Value → World → Prop} (h : ∀ c w1, Blk w1 c 42 t.cells → Keep No w w1 → V40J3 w Q (some ⟨b, 0, none⟩) ⟨c, 0, none⟩ t.kind (t.kind == 7 || t.kind == 8 || t.kind == 9) w1) :
    V40 (some ⟨b, 0, none⟩) t.kind t.b t.neg t.ma t.ml t.mc t.text t.ka t.kl t.kc t.hash t.same w Q := by
  unfold V40
  exact newK_of fun c w1 hs hc hk1 => ⟨_, hc.add 0 rfl, bsel_neg (by simp; omega) (bsel_neg (by simp; omega) (bsel_neg (by simp; omega) (bsel_neg (by simp; omega) (bsel_neg (by simp; omega) (J3_enter hk (h c w1 hc hk1))))))⟩
variable {ta : Option Addr} {tc : Nat} {v : Value} {R : Nat} {ks : List Int}
theorem C40_table (ht : ts[i]? = some t) (hG : GVal s B S ts mss i w) (hb : Blk w b 92 [.pointer (some ⟨s, 0, none⟩), .slice ta ts.length tc, v]) (hL : LowAt w B ta ts mss) (hrow : w.ownsRow R 3 1 v i (ints ((List.range i).map fun x => (gref ts x : Int)))) (hk789 : t.kind = 7 ∨ t.kind = 8 ∨ t.kind = 9) (hB : B ≤ w.heap.size) (hl : S.vals.length = 3 + cV ts i) (hlt : S.vals.length < 100000000000) (hlast : S.last = cO ts i ∧ S.live = cO ts i) (hlo : S.last < 1000000000000)
    (hm : S.m = none) (hp : 0 ≤ S.pairs ∧ S.pairs ≤ 65536) (hks : KidsAt w t ks) (hty : ∀ p, t.ka = some p → 0 < t.kl → p.block < B) (hkl : t.kl < 100000000000) (hev : t.kind = 7 → ks.length % 2 = 0) (hkid : ∀ (j : Nat) (k : Int), ks[j]? = some k → 0 ≤ k ∧ k < i)
    (hkeyk : ∀ (j : Nat) (k : Int), (keysL t ks)[j]? = some k → ∀ u, ts[k.toNat]? = some u → isKeyK u) :
    Calls Tryz.prog 40 #[.pointer (some ⟨b, 0, none⟩), .agg t.cells.toArray] w fun e w' => e = .returned (.int .i64 (gref ts i)) ∧ ∃ S' p d D, Made s B S ts mss i w w' S' ∧ S'.vals[gref ts i]? = some (.iface 111 (.pointer (some ⟨p, 0, none⟩))) ∧ w.heap.size ≤ p ∧
      Blk w' p 120 [.int .i64 (S.last + 1), .pointer (some ⟨d, 0, none⟩), .int .i64 t.kind] ∧ DictAt w' w.heap.size d D ∧ DcOk D ∧ D.most = S.pairs ∧ D.T.es = tabEs ts mss S.pairs t ks (keysL t ks).length := by
  have hil : i < ts.length := (List.getElem?_eq_some_iff.1 ht).1
  refine ret_mono (V40_sound _ t.kind t.b t.neg t.ma t.ml t.mc t.text t.ka t.kl t.kc t.hash t.same w (fun r w' => r = .int .i64 (gref ts i) ∧ ∃ S' p d D, Made s B S ts mss i w w' S' ∧ S'.vals[gref ts i]? = some (.iface 111 (.pointer (some ⟨p, 0, none⟩))) ∧ w.heap.size ≤ p ∧
      Blk w' p 120 [.int .i64 (S.last + 1), .pointer (some ⟨d, 0, none⟩), .int .i64 t.kind] ∧ DictAt w' w.heap.size d D ∧ DcOk D ∧ D.most = S.pairs ∧ D.T.es = tabEs ts mss S.pairs t ks (keysL t ks).length) (V40_enter (by omega) fun c w1 hc hk1 => ?_)) (by rintro _ _ ⟨rfl, h⟩; exact ⟨rfl, h⟩)
  unfold V40J3
  refine bsel_pos (by rcases hk789 with h | h | h <;> simp [h]) ⟨_, _, _, _, _, _, _, _, _, _, _, _, hc.cells0, ?_⟩
  refine (C88_gen (hG.no hk1) (hk1.nblk hb) (hL.no hk1) (hk1.nrow hrow) (by omega) (by have := hk1.size; omega) hm hp hlt ⟨by omega, hlo⟩ ⟨by omega, by omega⟩ hk789 (hks.no hk1) hty hkl hev hkid hkeyk).mono ?_
  rintro _ w' ⟨rfl, du, p, d, D, hpB, hbp, hD, hok, hmost, hes, hS', hk'⟩
  have hs1 := hk1.size
  have hk0 : Keep (Ty B storeTy w) w w' := (Keep.of_no hk1).ty hk'
  have hno : nO t = 1 := by unfold nO; rw [if_neg (by omega), if_neg (by omega)]
  have hnv : nV t = 1 := by unfold nV; rw [if_neg (by omega), if_neg (by omega)]
  have e1 : refT t (cV ts i) = S.vals.length := by unfold refT; rw [if_neg (by omega), if_neg (by omega), if_neg (by omega)]; omega
  refine ⟨_, rfl, by rw [gref_of ht, e1], _, p, d, D, made_of (l := [.iface 111 (.pointer (some ⟨p, 0, none⟩))]) ht hG hk0 hS' rfl hl (by rw [hnv]; rfl) hlast (by rw [hno]; exact ⟨by simp, by simp⟩) ⟨rfl, rfl, rfl⟩ (v := .iface 111 (.pointer (some ⟨p, 0, none⟩))) ?_ ?_, ?_, by omega, hbp, hD.mono hs1, hok, hmost, hes⟩
  · rw [e1]; simp
  · unfold descT
    rw [if_neg (by omega), if_neg (by omega), if_neg (by omega), if_neg (by omega)]
    refine ⟨by omega, 111, p, 120, [.pointer (some ⟨d, 0, none⟩), .int .i64 t.kind], rfl, by omega, ?_, .inr (.inl ⟨rfl, rfl, rfl⟩)⟩
    have e2 : numT t (cO ts i) = S.last + 1 := by unfold numT; rw [if_neg (by omega), hlast.1]
    rw [e2]; exact hbp
  · rw [gref_of ht, e1]; simp
theorem C40_view (ht : ts[i]? = some t) (hG : GVal s B S ts mss i w) (hb : Blk w b 92 [.pointer (some ⟨s, 0, none⟩), .slice ta ts.length tc, v]) (hrow : w.ownsRow R 3 1 v i (ints ((List.range i).map fun x => (gref ts x : Int)))) (hk : 15 ≤ t.kind) (hB : B ≤ w.heap.size) (hl : S.vals.length = 3 + cV ts i) (hlt : S.vals.length < 100000000000) (hlast : S.last = cO ts i ∧ S.live = cO ts i) (hlo : S.last < 1000000000000)
    (hks : KidsAt w t ks) {k : Nat} (hk0 : ks[0]? = some (k : Int)) (hki : k < i) :
    Calls Tryz.prog 40 #[.pointer (some ⟨b, 0, none⟩), .agg t.cells.toArray] w fun e w' => e = .returned (.int .i64 (gref ts i)) ∧ ∃ S' p, Made s B S ts mss i w w' S' ∧ S'.vals[gref ts i]? = some (.iface 162 (.pointer (some ⟨p, 0, none⟩))) ∧ w.heap.size ≤ p ∧ Blk w' p 166 [.int .i64 (S.last + 1), .int .i64 (gref ts k), .int .i64 t.kind] := by
  refine ret_mono (V40_sound _ t.kind t.b t.neg t.ma t.ml t.mc t.text t.ka t.kl t.kc t.hash t.same w (fun r w' => r = .int .i64 (gref ts i) ∧ ∃ S' p, Made s B S ts mss i w w' S' ∧ S'.vals[gref ts i]? = some (.iface 162 (.pointer (some ⟨p, 0, none⟩))) ∧ w.heap.size ≤ p ∧ Blk w' p 166 [.int .i64 (S.last + 1), .int .i64 (gref ts k), .int .i64 t.kind]) (V40_enter (by omega) fun c w1 hc hk1 => ?_)) (by rintro _ _ ⟨rfl, h⟩; exact ⟨rfl, h⟩)
  have hk1d := hk1.no (Keep.drawn w1)
  have hbd := hk1d.nblk hb
  obtain ⟨q, hq, hqc⟩ := (hks.no hk1d).2 0 _ hk0
  obtain ⟨g, rc, rfl, hcg⟩ := row_get (hk1d.nrow hrow) hki
  have hkl : 0 < t.kl := by have := (List.getElem?_eq_some_iff.1 hk0).1; have := hks.1; omega
  unfold V40J3
  refine bsel_neg (by simp; omega) (bsel_neg (by simp; omega) ?_)
  simp only [nilK_some]
  refine ⟨_, hbd.add 0 rfl, _, hc.drew.add 0 rfl, _, _, _, hbd.add 2 rfl, _, _, _, hc.drew.add 5 rfl, ?_⟩
  rw [hq]
  refine idxK_of (i := 0) hkl ⟨_, by rw [Nat.zero_mul]; exact hqc, idxK_of hki ⟨_, by rw [add_mk, Nat.mul_one, Nat.zero_add]; exact hcg, ?_⟩⟩
  refine (C91 (hG.st.no hk1d) hlt (by have := hk1d.size; omega) ⟨by omega, hlo⟩ ⟨by omega, by omega⟩).mono ?_
  rintro _ w' ⟨rfl, du, p, hpB, hbp, hS', hk'⟩
  have hs1 := hk1d.size
  have hk00 : Keep (Ty B storeTy w) w w' := (Keep.of_no hk1d).ty hk'
  have hno : nO t = 1 := by unfold nO; rw [if_neg (by omega), if_neg (by omega)]
  have hnv : nV t = 1 := by unfold nV; rw [if_neg (by omega), if_neg (by omega)]
  have e1 : refT t (cV ts i) = S.vals.length := by unfold refT; rw [if_neg (by omega), if_neg (by omega), if_neg (by omega)]; omega
  refine ⟨_, rfl, by rw [gref_of ht, e1], _, p, made_of (l := [.iface 162 (.pointer (some ⟨p, 0, none⟩))]) ht hG hk00 hS' rfl hl (by rw [hnv]; rfl) hlast (by rw [hno]; exact ⟨by simp, by simp⟩) ⟨rfl, rfl, rfl⟩ (v := .iface 162 (.pointer (some ⟨p, 0, none⟩))) ?_ ?_, ?_, by omega, hbp⟩
  · rw [e1]; simp
  · unfold descT
    rw [if_neg (by omega), if_neg (by omega), if_neg (by omega), if_neg (by omega)]
    refine ⟨by omega, 162, p, 166, [.int .i64 (gref ts k), .int .i64 t.kind], rfl, by omega, ?_, .inr (.inr (.inl ⟨rfl, rfl, rfl⟩))⟩
    have e2 : numT t (cO ts i) = S.last + 1 := by unfold numT; rw [if_neg (by omega), hlast.1]
    rw [e2]; exact hbp
  · rw [gref_of ht, e1]; simp
theorem C40_inst (ht : ts[i]? = some t) (hG : GVal s B S ts mss i w) (hb : Blk w b 92 (.pointer (some ⟨s, 0, none⟩) :: rest)) (hk : t.kind = 14) (hB : B ≤ w.heap.size) (hl : S.vals.length = 3 + cV ts i) (hlt : S.vals.length < 10000000000) (hlast : S.last = cO ts i ∧ S.live = cO ts i) (hlo : S.last < 100000000000) (hm : S.m = none) (hp : 0 ≤ S.pairs ∧ S.pairs ≤ 65536) (hsh : 0 ≤ S.shared ∧ S.shared ≤ 256) :
    Calls Tryz.prog 40 #[.pointer (some ⟨b, 0, none⟩), .agg t.cells.toArray] w fun e w' => e = .returned (.int .i64 (gref ts i)) ∧ ∃ S' p sp ro c d D f, Made s B S ts mss i w w' S' ∧ S'.vals[gref ts i]? = some (.iface 163 (.pointer (some ⟨p, 0, none⟩))) ∧ S'.vals[S.vals.length]? = some (.iface 190 (.pointer (some ⟨c, 0, none⟩))) ∧ gref ts i = S.vals.length + 1 ∧ w.heap.size ≤ p ∧ w.heap.size ≤ c ∧
      Blk w' p 169 [.int .i64 (S.last + 2), .pointer (some ⟨sp, 0, none⟩), .int .i64 S.vals.length] ∧ Blk w' sp 239 [.pointer (some ⟨f, 0, none⟩), .iface 336 (.pointer (some ⟨ro, 0, none⟩)), .int .u64 0] ∧ Blk w' ro 338 [.slice none 0 0] ∧
      Blk w' c 194 [.int .i64 (S.last + 1), .pointer (some ⟨d, 0, none⟩), .string ⟨#[67]⟩, .int .i64 (-1), .pointer (some ⟨f, 0, none⟩), .bool t.hash, .bool t.same] ∧ DictAt w' w.heap.size d D ∧ TbOk D.T ∧ D.T.es = [] ∧ D.most = S.pairs ∧ FamAt w' w.heap.size f S.shared S.pairs := by
  refine ret_mono (V40_sound _ t.kind t.b t.neg t.ma t.ml t.mc t.text t.ka t.kl t.kc t.hash t.same w (fun r w' => r = .int .i64 (gref ts i) ∧ ∃ S' p sp ro c d D f, Made s B S ts mss i w w' S' ∧ S'.vals[gref ts i]? = some (.iface 163 (.pointer (some ⟨p, 0, none⟩))) ∧ S'.vals[S.vals.length]? = some (.iface 190 (.pointer (some ⟨c, 0, none⟩))) ∧ gref ts i = S.vals.length + 1 ∧ w.heap.size ≤ p ∧ w.heap.size ≤ c ∧
      Blk w' p 169 [.int .i64 (S.last + 2), .pointer (some ⟨sp, 0, none⟩), .int .i64 S.vals.length] ∧ Blk w' sp 239 [.pointer (some ⟨f, 0, none⟩), .iface 336 (.pointer (some ⟨ro, 0, none⟩)), .int .u64 0] ∧ Blk w' ro 338 [.slice none 0 0] ∧
      Blk w' c 194 [.int .i64 (S.last + 1), .pointer (some ⟨d, 0, none⟩), .string ⟨#[67]⟩, .int .i64 (-1), .pointer (some ⟨f, 0, none⟩), .bool t.hash, .bool t.same] ∧ DictAt w' w.heap.size d D ∧ TbOk D.T ∧ D.T.es = [] ∧ D.most = S.pairs ∧ FamAt w' w.heap.size f S.shared S.pairs) (V40_enter (by omega) fun c0 w1 hc hk1 => ?_)) (by rintro _ _ ⟨rfl, h⟩; exact ⟨rfl, h⟩)
  have hs1 := hk1.size
  unfold V40J3
  refine bsel_neg (by simp [hk]) (bsel_pos (by simp [hk]) ?_)
  simp only [nilK_some]
  refine ⟨_, (hk1.nblk hb).add 0 rfl, (C89 (name := ⟨#[67]⟩) (base := -1) (hG.st.no hk1) hm hp hsh (by omega) (by omega) ⟨by omega, by omega⟩ ⟨by omega, by omega⟩).mono ?_⟩
  rintro _ w2 ⟨rfl, du, c, d, D, f, hcB, hbc, hD, hok, hes, hmost, hf, hS2, hk2⟩
  have hb2 := hk2.tblk (hk1.nblk hb) (by decide)
  have hc2 := hk2.tblk hc (by decide)
  have hget : (S.vals ++ [.iface 190 (.pointer (some ⟨c, 0, none⟩))])[S.vals.length]? = some (.iface 190 (.pointer (some ⟨c, 0, none⟩))) := by simp
  refine ⟨_, rfl, _, hb2.add 0 rfl, (C41_in hS2 hget).mono ?_⟩
  rintro _ w2' ⟨rfl, rfl⟩
  refine ⟨_, rfl, _, _, yes117 _ _, bsel_pos rfl ⟨_, hc2.drew.add 6 rfl, _, hc2.drew.add 7 rfl, ?_⟩⟩
  simp only [nilK_some]
  refine stK_add hbc.drew (by simp) fun w3 hbc3 hk3 => ⟨(hk3.blk hc2.drew (hc2.ne hbc (by decide))).add 7 rfl, ?_⟩
  refine stK_add hbc3 (by simp) fun w4 hbc4 hk4 => ?_
  have hkc : Keep (fun k => k = c) w2' w4 := ((Keep.drawn w2').of_no.trans hk3 fun _ _ e => e).trans hk4 fun _ _ e => e
  have hs2 := hk2.size
  have hS4 := hS2.keep hkc fun k _ e => by subst e; exact ⟨194, hbc.etype, by decide⟩
  have hD4 := hD.keep hkc fun k hk e => by subst e; exact hD.not_own hbc.etype (by rintro _ ⟨⟩; decide) hk
  have hf4 := hf.keep hkc fun k _ _ hx e => by
    subst e
    rcases hx _ hbc.etype with q | q
    · cases q
    · revert q; decide
  have hb4 := hkc.blk hb2 (hb2.ne hbc (by decide))
  have hk14 : Keep (Ty B storeTy w1) w1 w4 := hk2.trans hkc fun k hk e => by omega
  unfold V40J2 V40J1
  simp only [nilK_some]
  refine ⟨_, hb4.add 0 rfl, (C90 (cref := S.vals.length) hS4 hget hbc4 hf4 (by simp; omega) (by have := hkc.size; omega) ⟨by simp only; omega, by simp only; omega⟩ ⟨by simp only; omega, by simp only; omega⟩).mono ?_⟩
  rintro _ w5 ⟨rfl, du5, p, sp, ro, hpB, hbp, hbsp, hbro, hS5, hk5⟩
  have hk05 : Keep (Ty B storeTy w) w w5 := (Keep.of_no hk1).ty (hk14.ty hk5)
  have hkcs := hkc.size
  have hno : nO t = 2 := by unfold nO; rw [if_neg (by omega), if_pos hk]
  have hnv : nV t = 2 := by unfold nV; rw [if_neg (by omega), if_pos hk]
  have e1 : refT t (cV ts i) = S.vals.length + 1 := by unfold refT; rw [if_neg (by omega), if_neg (by omega), if_pos hk]; omega
  have e3 : S.last + 1 + 1 = S.last + 2 := by omega
  simp only [e3] at hbp
  have hD5 := hD4.keep hk5 fun k hk hx => by
    obtain ⟨_, _, e, he, hm⟩ := hD4.ty hk
    obtain ⟨_, e', he', hm'⟩ := hx
    rw [he] at he'
    cases he'
    have : ∀ e ∈ dictTy, e ∉ storeTy := by decide
    exact this e hm hm'
  have hf5 := hf4.keep hk5 fun k _ _ hx hy => by
    obtain ⟨_, e, he, hm⟩ := hy
    rcases hx e he with rfl | q
    · revert hm; decide
    · have : ∀ e ∈ tabTy, e ∉ storeTy := by decide
      exact this e q hm
  refine ⟨_, rfl, by rw [gref_of ht, e1]; simp, _, p, sp, ro, c, d, D, f, made_of (l := [.iface 190 (.pointer (some ⟨c, 0, none⟩)), .iface 163 (.pointer (some ⟨p, 0, none⟩))]) ht hG hk05 hS5 (by simp) hl (by rw [hnv]; rfl) hlast (by rw [hno]; exact ⟨by simp only; omega, by simp only; omega⟩) ⟨rfl, rfl, rfl⟩ (v := .iface 163 (.pointer (some ⟨p, 0, none⟩))) ?_ ?_, ?_, ?_, by rw [gref_of ht, e1], by omega, by omega, hbp, hbsp, hbro, hk5.tblk hbc4 (by decide), hD5.mono (by omega), hok, hes, hmost, hf5.mono (by omega)⟩
  · rw [e1]; simp
  · unfold descT
    rw [if_neg (by omega), if_neg (by omega), if_neg (by omega), if_neg (by omega)]
    refine ⟨by omega, 163, p, 169, [.pointer (some ⟨sp, 0, none⟩), .int .i64 S.vals.length], rfl, by omega, ?_, .inr (.inr (.inr (.inl ⟨rfl, rfl, hk⟩)))⟩
    have e2 : numT t (cO ts i) = S.last + 2 := by unfold numT; rw [if_pos hk, hlast.1]
    rw [e2]; exact hbp
  · rw [gref_of ht, e1]; simp
  · simp
end
end Go.Fw


set_option autoImplicit false
set_option linter.unusedVariables false
namespace Go.Fw
open Go.Proofs Go.RowKit
structure FineT (ts : List Tm) (i : Nat) (t : Tm) (ks : List Int) : Prop where
  kind : (1 ≤ t.kind ∧ t.kind ≤ 9) ∨ t.kind = 14 ∨ (15 ≤ t.kind ∧ t.kind ≤ 17)
  kl : t.kl < 100000000000
  kids : ∀ (j : Nat) (k : Int), ks[j]? = some k → 0 ≤ k ∧ k < limit ts.length i t
  even : t.kind = 7 → ks.length % 2 = 0
  keys : ∀ (j : Nat) (k : Int), (keysL t ks)[j]? = some k → ∀ u, ts[k.toNat]? = some u → isKeyK u
  view : 15 ≤ t.kind → ∃ k : Nat, ks[0]? = some (k : Int) ∧ k < i
structure GX (w : World) (B : Nat) (pairs shared : Int) (ts : List Tm) (mss : Nat → List Int) (ks : List Int) (vals : List Value) (x : Nat) (t : Tm) : Prop where
  tab : t.kind = 7 ∨ t.kind = 8 ∨ t.kind = 9 → ∃ p d D, vals[gref ts x]? = some (.iface 111 (.pointer (some ⟨p, 0, none⟩))) ∧ Blk w p 120 [.int .i64 (numT t (cO ts x)), .pointer (some ⟨d, 0, none⟩), .int .i64 t.kind] ∧ DictAt w B d D ∧ DcOk D ∧ D.most = pairs ∧ D.T.es = tabEs ts mss pairs t ks (keysL t ks).length
  view : 15 ≤ t.kind → ∃ p k, vals[gref ts x]? = some (.iface 162 (.pointer (some ⟨p, 0, none⟩))) ∧ ks[0]? = some ((k : Nat) : Int) ∧ Blk w p 166 [.int .i64 (numT t (cO ts x)), .int .i64 (gref ts k), .int .i64 t.kind]
  inst : t.kind = 14 → ∃ p sp ro c d D f, vals[gref ts x]? = some (.iface 163 (.pointer (some ⟨p, 0, none⟩))) ∧ vals[gref ts x - 1]? = some (.iface 190 (.pointer (some ⟨c, 0, none⟩))) ∧
    Blk w p 169 [.int .i64 (numT t (cO ts x)), .pointer (some ⟨sp, 0, none⟩), .int .i64 (gref ts x - 1 : Nat)] ∧ Blk w sp 239 [.pointer (some ⟨f, 0, none⟩), .iface 336 (.pointer (some ⟨ro, 0, none⟩)), .int .u64 0] ∧ Blk w ro 338 [.slice none 0 0] ∧
    Blk w c 194 [.int .i64 (numT t (cO ts x) - 1), .pointer (some ⟨d, 0, none⟩), .string ⟨#[67]⟩, .int .i64 (-1), .pointer (some ⟨f, 0, none⟩), .bool t.hash, .bool t.same] ∧ DictAt w B d D ∧ TbOk D.T ∧ D.T.es = [] ∧ D.most = pairs ∧ FamAt w B f shared pairs
def gxTy : List TypeId := [120, 166, 169, 239, 338, 194, 334, 235, 315, 295, 440, 505, 506, 21]
theorem GX.keep {fp : Nat → Prop} {w w' : World} {B : Nat} {pairs shared : Int} {ts : List Tm} {mss : Nat → List Int} {ks : List Int} {vals vals' : List Value} {x : Nat} {t : Tm} (h : GX w B pairs shared ts mss ks vals x t) (hk : Keep fp w w') (hn : ∀ k, k < w.heap.size → fp k → ∃ e, etype w k = some e ∧ e ∉ gxTy) (hv : ∀ (n : Nat) (y : Value), vals[n]? = some y → vals'[n]? = some y) : GX w' B pairs shared ts mss ks vals' x t := by
  have hb : ∀ {b : Nat} {e : TypeId} {cs : List Value}, Blk w b e cs → e ∈ gxTy → Blk w' b e cs := fun hb he => hk.blk hb fun hf => by
    obtain ⟨e', h1, h2⟩ := hn _ hb.lt hf
    rw [hb.etype] at h1
    cases h1
    exact h2 he
  have hd : ∀ {d : Nat} {D : Dc}, DictAt w B d D → DictAt w' B d D := fun hd => hd.keep hk fun k hk' hf => by
    obtain ⟨_, hlt, e, he, hm⟩ := hd.ty hk'
    obtain ⟨e', h1, h2⟩ := hn _ hlt hf
    rw [he] at h1
    cases h1
    have : ∀ e ∈ dictTy, e ∈ gxTy := by decide
    exact h2 (this e hm)
  refine ⟨fun ht => ?_, fun ht => ?_, fun ht => ?_⟩
  · obtain ⟨p, d, D, h1, h2, h3, h4⟩ := h.tab ht
    exact ⟨p, d, D, hv _ _ h1, hb h2 (by decide), hd h3, h4⟩
  · obtain ⟨p, k, h1, h2, h3⟩ := h.view ht
    exact ⟨p, k, hv _ _ h1, h2, hb h3 (by decide)⟩
  · obtain ⟨p, sp, ro, c, d, D, f, h1, h2, h3, h4, h5, h6, h7, h8, h9, h10, h11⟩ := h.inst ht
    refine ⟨p, sp, ro, c, d, D, f, hv _ _ h1, hv _ _ h2, hb h3 (by decide), hb h4 (by decide), hb h5 (by decide), hb h6 (by decide), hd h7, h8, h9, h10, h11.keep hk fun k _ hlt hx hf => ?_⟩
    obtain ⟨e', q1, q2⟩ := hn _ hlt hf
    rcases hx e' q1 with rfl | q
    · exact q2 (by decide)
    · have : ∀ e ∈ tabTy, e ∈ gxTy := by decide
      exact q2 (this e' q)
theorem StAt.vals_eq {w : World} {s B B' : Nat} {S S' : St} (h : StAt w s B S) (h' : StAt w s B' S') {i : Nat} {x y : Value} (hx : S.vals[i]? = some x) (hy : S'.vals[i]? = some y) : x = y := by
  obtain ⟨q1, q2, q3, q4, c1, c2, c3, c4, c5⟩ := h.slots.at hx
  obtain ⟨q1', q2', q3', q4', c1', c2', c3', c4', c5'⟩ := h'.slots.at hy
  have hcells := (h.blk.uniq h'.blk).2
  simp only [St.cells, List.cons.injEq, Value.pointer.injEq, Option.some.injEq, Addr.mk.injEq] at hcells
  have ha : S.a = S'.a := by simp at hcells; exact hcells.2.2.2.2.2.2.1
  rw [ha, c1'] at c1
  simp at c1
  have hq : q1' = q1 := c1.1
  subst hq
  rw [c4'] at c4
  exact (Option.some.inj c4).symm
section
variable (w0 : World) (s B : Nat) (S : St) (ts : List Tm) (mss kss : Nat → List Int)
structure GI (m i j : Nat) (gs : Nat → Nat) (S' : St) (own : Nat → Prop) (w : World) : Prop where
  le : m ≤ ts.length
  val : GVal s B S' ts mss m w
  last : S'.last = cO ts m ∧ S'.live = cO ts m
  len : S'.vals.length = 3 + cV ts m
  fix : S'.pairs = S.pairs ∧ S'.shared = S.shared ∧ S'.m = S.m
  pre : ∃ l, S'.vals = val0 ++ l
  row : ∀ x t, ts[x]? = some t → x < m → isRow t → ∃ r cs, S'.vals[gref ts x]? = some (.iface 94 (.pointer (some ⟨r, 0, none⟩))) ∧ Blk w r 100 [.int .i64 (numT t (cO ts x)), .slice (some ⟨gs x, 0, none⟩) t.kl t.kl, .int .i64 t.kind] ∧ Blk w (gs x) 3 cs ∧ cs.length = t.kl ∧ own (gs x) ∧ w0.heap.size ≤ gs x ∧
    ∀ (pos : Nat) (kid : Int), (kss x)[pos]? = some kid → (x < i ∨ x = i ∧ pos < j) → cs[pos]? = some (.int .i64 (gref ts kid.toNat))
  one : ∀ (x x' : Nat) (t t' : Tm), ts[x]? = some t → ts[x']? = some t' → isRow t → isRow t' → x < m → x' < m → gs x = gs x' → x = x'
  mem : ∀ k, own k → ∃ (x : Nat) (t : Tm), ts[x]? = some t ∧ isRow t ∧ x < m ∧ k = gs x
  more : ∀ x t, ts[x]? = some t → x < m → GX w B S.pairs S.shared ts mss (kss x) S'.vals x t
def GInv (m i j : Nat) (refs : List Int) (own : Nat → Prop) (w : World) : Prop := refs = (List.range m).map (fun x => (gref ts x : Int)) ∧ ∃ gs S', GI w0 s B S ts mss kss m i j gs S' own w
theorem ginv_stab (m i j : Nat) (refs : List Int) (own : Nat → Prop) (w w' : World) (X : Nat → Prop) (h : GInv w0 s B S ts mss kss m i j refs own w) (hk : Keep X w w') (hX : ∀ k, X k → k < w.heap.size → (etype w k = some 3 ∨ etype w k = some 92) ∧ ¬ own k) : GInv w0 s B S ts mss kss m i j refs own w' := by
  have hX' : ∀ k, k < w.heap.size → X k → ∃ e, etype w k = some e ∧ (e = 3 ∨ e = 92) := fun k h1 h2 => by
    rcases (hX k h2 h1).1 with h | h
    · exact ⟨3, h, .inl rfl⟩
    · exact ⟨92, h, .inr rfl⟩
  obtain ⟨hr, gs, S', h1, h2, h3, h4, h5, h6, h7, h8, h9, h10⟩ := h
  refine ⟨hr, gs, S', h1, h2.keep hk fun k hl hx => ?_, h3, h4, h5, h6, fun x t hx hm ht => ?_, h8, h9, fun x t hx hm => (h10 x t hx hm).keep hk (fun k hl hx => ?_) fun _ _ h => h⟩
  · obtain ⟨e, q1, q2⟩ := hX' k hl hx
    rcases q2 with rfl | rfl
    · exact ⟨_, q1, by decide, by decide⟩
    · exact ⟨_, q1, by decide, by decide⟩
  · obtain ⟨r, cs, g1, g2, g3, g4, g5, g6, g7⟩ := h7 x t hx hm ht
    refine ⟨r, cs, g1, hk.xblk g2 fun hl hx => ?_, hk.xblk g3 fun hl hx => (hX _ hx hl).2 g5, g4, g5, g6, g7⟩
    rcases (hX r hx hl).1 with h | h <;> rw [g2.etype] at h <;> cases h
  · obtain ⟨e, q1, q2⟩ := hX' k hl hx
    rcases q2 with rfl | rfl
    · exact ⟨_, q1, by decide⟩
    · exact ⟨_, q1, by decide⟩
end
section
variable {w0 : World} {s B b : Nat} {S : St} {ts : List Tm} {mss kss : Nat → List Int}
theorem GInv.next {m i j i' j' : Nat} {refs : List Int} {own : Nat → Prop} {w : World} (h : GInv w0 s B S ts mss kss m i j refs own w) (hh : ∀ x t, ts[x]? = some t → isRow t → ∀ pos, pos < (kss x).length → (x < i' ∨ x = i' ∧ pos < j') → (x < i ∨ x = i ∧ pos < j)) : GInv w0 s B S ts mss kss m i' j' refs own w := by
  obtain ⟨hr, gs, S', h1, h2, h3, h4, h5, h6, h7, h8, h9, h10⟩ := h
  refine ⟨hr, gs, S', h1, h2, h3, h4, h5, h6, fun x t hx hm ht => ?_, h8, h9, h10⟩
  obtain ⟨r, cs, g1, g2, g3, g4, g5, g6, g7⟩ := h7 x t hx hm ht
  exact ⟨r, cs, g1, g2, g3, g4, g5, g6, fun pos kid hp hc => g7 pos kid hp (hh x t hx ht pos (List.getElem?_eq_some_iff.1 hp).1 hc)⟩
theorem GI.more1 {m : Nat} {gs : Nat → Nat} {S' S2 : St} {own : Nat → Prop} {w w' : World} {t : Tm} (h : GI w0 s B S ts mss kss m 0 0 gs S' own w) (ht : ts[m]? = some t) (hM : Made s B S' ts mss m w w' S2) (hr : ¬ isRow t) (hx : GX w' B S.pairs S.shared ts mss (kss m) S2.vals m t) : GI w0 s B S ts mss kss (m + 1) 0 0 gs S2 own w' := by
  obtain ⟨h1, h2, h3, h4, h5, h6, h7, h8, h9, h10⟩ := h
  obtain ⟨l, hl⟩ := hM.pre
  obtain ⟨l0, hl0⟩ := h6
  have hgrow : ∀ (n : Nat) (y : Value), S'.vals[n]? = some y → S2.vals[n]? = some y := fun n y hn => by
    rw [hl, List.getElem?_append_left (List.getElem?_eq_some_iff.1 hn).1]; exact hn
  have hlt := (List.getElem?_eq_some_iff.1 ht).1
  have old : ∀ {x : Nat} {u : Tm}, ts[x]? = some u → isRow u → x < m + 1 → x < m := fun {x u} hu hru hx => by
    by_cases hc : x = m
    · subst hc; rw [ht] at hu; cases hu; exact absurd hru hr
    · omega
  refine ⟨by omega, hM.val, hM.last, hM.len, ⟨hM.fix.1.trans h5.1, hM.fix.2.1.trans h5.2.1, hM.fix.2.2.trans h5.2.2⟩, ⟨l0 ++ l, by rw [hl, hl0, List.append_assoc]⟩, fun x u hu hlt hru => ?_, fun x x' u u' hu hu' hru hru' hx1 hx2 he => h8 x x' u u' hu hu' hru hru' (old hu hru hx1) (old hu' hru' hx2) he, fun k hk => ?_, fun x u hu hlt => ?_⟩
  · obtain ⟨r, cs, g1, g2, g3, g4, g5, g6, g7⟩ := h7 x u hu (old hu hru hlt) hru
    exact ⟨r, cs, hgrow _ _ g1, hM.keep.tblk g2 (by decide), hM.keep.tblk g3 (by decide), g4, g5, g6, g7⟩
  · obtain ⟨x, u, a1, a2, a3, a4⟩ := h9 k hk
    exact ⟨x, u, a1, a2, by omega, a4⟩
  · by_cases hc : x = m
    · subst hc; rw [ht] at hu; cases hu; exact hx
    · exact (h10 x u hu (by omega)).keep hM.keep (fun k _ hf => by
        obtain ⟨_, e, he, hm⟩ := hf
        have : ∀ e ∈ storeTy, e ∉ gxTy := by decide
        exact ⟨e, he, this e hm⟩) hgrow
theorem GX.of_plain {w : World} {pairs shared : Int} {ks : List Int} {vals : List Value} {x : Nat} {t : Tm} (h : t.kind ≤ 6) : GX w B pairs shared ts mss ks vals x t := ⟨fun h' => by omega, fun h' => by omega, fun h' => by omega⟩
theorem GI.moreR {m : Nat} {gs : Nat → Nat} {S' S2 : St} {own : Nat → Prop} {w w' : World} {t : Tm} {r g : Nat} (h : GI w0 s B S ts mss kss m 0 0 gs S' own w) (hw : w0.heap.size ≤ w.heap.size) (ht : ts[m]? = some t) (hM : Made s B S' ts mss m w w' S2) (hr : isRow t) (hv : S2.vals[gref ts m]? = some (.iface 94 (.pointer (some ⟨r, 0, none⟩)))) (hg : w.heap.size ≤ g)
    (hb : Blk w' r 100 [.int .i64 (numT t (cO ts m)), .slice (some ⟨g, 0, none⟩) t.kl t.kl, .int .i64 t.kind]) (hbg : Blk w' g 3 (List.replicate t.kl (.int .i64 0))) :
    GI w0 s B S ts mss kss (m + 1) 0 0 (fun x => if x = m then g else gs x) S2 (fun k => own k ∨ k = g) w' := by
  obtain ⟨h1, h2, h3, h4, h5, h6, h7, h8, h9, h10⟩ := h
  obtain ⟨l, hl⟩ := hM.pre
  obtain ⟨l0, hl0⟩ := h6
  have hgrow : ∀ (n : Nat) (y : Value), S'.vals[n]? = some y → S2.vals[n]? = some y := fun n y hn => by
    rw [hl, List.getElem?_append_left (List.getElem?_eq_some_iff.1 hn).1]; exact hn
  have hlt := (List.getElem?_eq_some_iff.1 ht).1
  have holdg : ∀ {x : Nat} {u : Tm}, ts[x]? = some u → isRow u → x < m → gs x < w.heap.size := fun {x u} hu hru hx => by
    obtain ⟨r, cs, g1, g2, g3, _⟩ := h7 x u hu hx hru
    exact g3.lt
  refine ⟨by omega, hM.val, hM.last, hM.len, ⟨hM.fix.1.trans h5.1, hM.fix.2.1.trans h5.2.1, hM.fix.2.2.trans h5.2.2⟩, ⟨l0 ++ l, by rw [hl, hl0, List.append_assoc]⟩, fun x u hu hlt' hru => ?_, fun x x' u u' hu hu' hru hru' hx1 hx2 he => ?_, fun k hk => ?_, fun x u hu hlt' => ?_⟩
  · by_cases hc : x = m
    · subst hc
      rw [ht] at hu; cases hu
      simp only [if_true]
      refine ⟨r, _, hv, hb, hbg, by simp, .inr trivial, by omega, fun pos kid _ hc => ?_⟩
      rcases hc with hc | hc <;> omega
    · simp only [if_neg hc]
      obtain ⟨r', cs, g1, g2, g3, g4, g5, g6, g7⟩ := h7 x u hu (by omega) hru
      exact ⟨r', cs, hgrow _ _ g1, hM.keep.tblk g2 (by decide), hM.keep.tblk g3 (by decide), g4, .inl g5, g6, g7⟩
  · by_cases hc : x = m <;> by_cases hc' : x' = m
    · omega
    · simp only [if_pos hc, if_neg hc'] at he
      have := holdg hu' hru' (by omega); omega
    · simp only [if_neg hc, if_pos hc'] at he
      have := holdg hu hru (by omega); omega
    · simp only [if_neg hc, if_neg hc'] at he
      exact h8 x x' u u' hu hu' hru hru' (by omega) (by omega) he
  · rcases hk with hk | rfl
    · obtain ⟨x, u, a1, a2, a3, a4⟩ := h9 k hk
      exact ⟨x, u, a1, a2, by omega, by rw [if_neg (by omega)]; exact a4⟩
    · exact ⟨m, t, ht, hr, by omega, by rw [if_pos rfl]⟩
  · by_cases hc : x = m
    · subst hc
      rw [ht] at hu; cases hu
      exact GX.of_plain (by unfold isRow at hr; omega)
    · exact (h10 x u hu (by omega)).keep hM.keep (fun k _ hf => by
        obtain ⟨_, e, he, hm⟩ := hf
        have : ∀ e ∈ storeTy, e ∉ gxTy := by decide
        exact ⟨e, he, this e hm⟩) hgrow
end
end Go.Fw


set_option autoImplicit false
set_option linter.unusedVariables false
namespace Go.Fw
open Go.Proofs Go.RowKit
theorem ginv_start {w0 : World} {s B : Nat} {S : St} {ts : List Tm} {mss kss : Nat → List Int} (h0 : ∃ d, StAt w0 s B { S with due := d, last := 0, live := 0 }) (hS : S.vals = val0) : GInv w0 s B S ts mss kss 0 0 0 [] No w0 := by
  obtain ⟨d, h0⟩ := h0
  refine ⟨rfl, fun _ => 0, _, ⟨by omega, ⟨h0, fun x t _ h => by omega⟩, ⟨rfl, rfl⟩, by simp [hS, val0, cV], ⟨rfl, rfl, rfl⟩, ⟨[], by simp [hS]⟩, fun x t _ h => by omega, fun x x' _ _ _ _ _ _ h => by omega, fun k h => h.elim, fun x t _ h => by omega⟩⟩
theorem gen_laws {w0 : World} {s B b : Nat} {S : St} {ts : List Tm} {mss kss : Nat → List Int} {ta : Option Addr} {tc : Nat} {err : Nat → Int} (hb : b = w0.heap.size) (hB : B ≤ w0.heap.size) (hm : S.m = none) (hp : 0 ≤ S.pairs ∧ S.pairs ≤ 65536) (hsh : 0 ≤ S.shared ∧ S.shared ≤ 256)
    (hL : LowAt w0 B ta ts mss) (hn : ts.length < 1000000) (hkids : ∀ i t, ts[i]? = some t → KidsAt w0 t (kss i) ∧ (∀ p, t.ka = some p → 0 < t.kl → p.block < B))
    (hwrong : ∀ i w, i < ts.length → Keep No w0 w → Blk w b 92 [.pointer (some ⟨s, 0, none⟩), .slice ta ts.length tc, .slice none 0 0] → Calls Tryz.prog 39 #[.pointer (some ⟨b, 0, none⟩), .int .i64 i] w fun e w' => e = .returned (.int .i64 (err i)) ∧ Keep No w w')
    (hfine : (∀ j, j < ts.length → err j = 0) → ∀ i t, ts[i]? = some t → FineT ts i t (kss i)) :
    Laws w0 s b ta tc ts (fun k => Ty B storeTy w0 k) err (fun i => GInv w0 s B S ts mss kss i 0 0) (fun i j => GInv w0 s B S ts mss kss ts.length i j) := by
  have hTy : ∀ {w : World} {k : Nat}, Keep (fun k => Ty B storeTy w0 k) w0 w → Ty B storeTy w k → k < w0.heap.size → Ty B storeTy w0 k := by
    intro w k hk ht hlt
    by_cases hc : Ty B storeTy w0 k
    · exact hc
    · obtain ⟨h1, e, h2, h3⟩ := ht
      refine ⟨h1, e, ?_, h3⟩
      rw [← h2]
      unfold etype
      rw [hk.block k hlt hc]
  refine ⟨hwrong, fun m => ginv_stab w0 s B S ts mss kss m 0 0, ?_, fun refs own w _ _ h => h, fun i j => ginv_stab w0 s B S ts mss kss ts.length i j, ?_⟩
  · intro i t refs own w v herr ht hrl hInv hk htsw hbb hrow hown
    have hil := (List.getElem?_eq_some_iff.1 ht).1
    obtain ⟨hrefs, gs, S', hGI⟩ := hInv
    have hF := hfine herr i t ht
    have hsz := hk.size
    have hfoot : ∀ k, Ty B storeTy w k → k ≠ b ∧ v.ownBlock ≠ some k ∧ (k < w0.heap.size → Ty B storeTy w0 k) := by
      intro k hT
      have hT' := hT
      obtain ⟨_, e, he, hm⟩ := hT
      refine ⟨fun h => ?_, fun h => ?_, hTy hk hT'⟩
      · subst h; rw [hbb.etype] at he; cases he; exact absurd hm (by decide)
      · rw [ownsRow_etype hrow h] at he; cases he; exact absurd hm (by decide)
    have hLw : LowAt w B ta ts mss := hL.keep hk fun k hk => hk.1
    obtain ⟨hks0, hkb⟩ := hkids i t ht
    have hks : KidsAt w t (kss i) := hks0.keep0 hk fun p hp h0 hx => by have := hkb p hp h0; have := hx.1; omega
    have hrefs' : refs ++ [(gref ts i : Int)] = (List.range (i + 1)).map (fun x => (gref ts x : Int)) := by
      rw [List.range_succ, List.map_append, hrefs]; rfl
    have hcv := cV_le ts i
    have hco := cO_le ts i
    have hvl := hGI.len
    have hlast := hGI.last
    have hlt1 : S'.vals.length < 10000000000 := by omega
    have hlo : S'.last < 100000000000 := by omega
    have hfix := hGI.fix
    have hm' : S'.m = none := hfix.2.2.trans hm
    have hp' : 0 ≤ S'.pairs ∧ S'.pairs ≤ 65536 := by rw [hfix.1]; exact hp
    have hsh' : 0 ≤ S'.shared ∧ S'.shared ≤ 256 := by rw [hfix.2.1]; exact hsh
    have hrow' : w.ownsRow w0.heap.size 3 1 v i (ints ((List.range i).map fun x => (gref ts x : Int))) := by rw [← hrefs]; exact hrow
    have hplainEnd : ∀ {w' : World} {S2 : St}, ¬ isRow t → Made s B S' ts mss i w w' S2 → GX w' B S.pairs S.shared ts mss (kss i) S2.vals i t → GInv w0 s B S ts mss kss (i + 1) 0 0 (refs ++ [(gref ts i : Int)]) own w' ∧ Keep (fun k => k ≠ b ∧ v.ownBlock ≠ some k ∧ (k < w0.heap.size → Ty B storeTy w0 k)) w w' := by
      intro w' S2 hr hM hx
      exact ⟨⟨hrefs', gs, S2, hGI.more1 ht hM hr hx⟩, hM.keep.mono fun k _ h => hfoot k h⟩
    have hnum1 : t.kind ≠ 14 → numT t (cO ts i) = S'.last + 1 := fun h => by unfold numT; rw [if_neg h, hlast.1]
    by_cases h12 : t.kind = 1 ∨ t.kind = 2
    · refine (C40_plain (b := b) ht hGI.val h12 hvl hlast hGI.pre).mono ?_
      rintro _ w' ⟨rfl, hM⟩
      obtain ⟨q1, q2⟩ := hplainEnd (by unfold isRow; omega) hM (GX.of_plain (by omega))
      exact ⟨_, own, rfl, q1, q2, fun k h => .inl h⟩
    by_cases h3 : t.kind = 3
    · refine (C40_int ht hGI.val hbb h3 (hLw.inp i t ht).1 (by omega) hvl (by omega) hlast).mono ?_
      rintro _ w' ⟨rfl, S2, hM⟩
      obtain ⟨q1, q2⟩ := hplainEnd (by unfold isRow; omega) hM (GX.of_plain (by omega))
      exact ⟨_, own, rfl, q1, q2, fun k h => .inl h⟩
    by_cases h4 : t.kind = 4
    · refine (C40_strs ht hGI.val hbb h4 (by omega) hvl (by omega) hlast).mono ?_
      rintro _ w' ⟨rfl, S2, hM⟩
      obtain ⟨q1, q2⟩ := hplainEnd (by unfold isRow; omega) hM (GX.of_plain (by omega))
      exact ⟨_, own, rfl, q1, q2, fun k h => .inl h⟩
    by_cases h56 : t.kind = 5 ∨ t.kind = 6
    · refine (C40_rows ht hGI.val hbb h56 (by have := hF.kl; omega) (by omega) hvl (by omega) hlast (by omega)).mono ?_
      rintro _ w' ⟨rfl, S2, r, g, hM, hv, hr1, hg1, hbr, hbg⟩
      rw [← hnum1 (by omega)] at hbr
      exact ⟨_, fun k => own k ∨ k = g, rfl, ⟨hrefs', _, S2, hGI.moreR hsz ht hM h56 hv hg1 hbr hbg⟩, hM.keep.mono fun k _ h => hfoot k h, fun k h => by
        rcases h with h | rfl
        · exact .inl h
        · exact .inr ⟨hg1, hbg.lt⟩⟩
    by_cases h789 : t.kind = 7 ∨ t.kind = 8 ∨ t.kind = 9
    · refine (C40_table ht hGI.val hbb hLw hrow' h789 (by omega) hvl (by omega) hlast (by omega) hm' hp' hks hkb hF.kl hF.even (fun j k hj => by
        have := hF.kids j k hj
        unfold limit at this
        rw [if_neg (by omega)] at this
        exact this) hF.keys).mono ?_
      rintro _ w' ⟨rfl, S2, p, d, D, hM, hv, hpB, hbp, hD, hok, hmost, hes⟩
      rw [← hnum1 (by omega)] at hbp
      obtain ⟨q1, q2⟩ := hplainEnd (by unfold isRow; omega) hM ⟨fun _ => ⟨p, d, D, hv, hbp, hD.mono (by omega), hok, hmost.trans hfix.1, by rw [hes, hfix.1]⟩, fun h => by omega, fun h => by omega⟩
      exact ⟨_, own, rfl, q1, q2, fun k h => .inl h⟩
    by_cases h14 : t.kind = 14
    · refine (C40_inst ht hGI.val hbb h14 (by omega) hvl hlt1 hlast hlo hm' hp' hsh').mono ?_
      rintro _ w' ⟨rfl, S2, p, sp, ro, c, d, D, f, hM, hv, hvc, hgr, hpB, hcB, hbp, hbsp, hbro, hbc, hD, hok, hes, hmost, hf⟩
      have e2 : numT t (cO ts i) = S'.last + 2 := by unfold numT; rw [if_pos h14, hlast.1]
      have e3 : gref ts i - 1 = S'.vals.length := by omega
      obtain ⟨q1, q2⟩ := hplainEnd (by unfold isRow; omega) hM ⟨fun h => by omega, fun h => by omega, fun _ => ⟨p, sp, ro, c, d, D, f, hv, by rw [e3]; exact hvc, by rw [e2, e3]; exact hbp, hbsp, hbro, by
        have e4 : numT t (cO ts i) - 1 = S'.last + 1 := by omega
        rw [e4]; exact hbc, hD.mono (by omega), hok, hes, hmost.trans hfix.1, by rw [← hfix.1, ← hfix.2.1]; exact hf.mono (by omega)⟩⟩
      exact ⟨_, own, rfl, q1, q2, fun k h => .inl h⟩
    · have h15 : 15 ≤ t.kind := by have := hF.kind; omega
      obtain ⟨k, hk0, hki⟩ := hF.view h15
      refine (C40_view ht hGI.val hbb hrow' h15 (by omega) hvl (by omega) hlast (by omega) hks hk0 hki).mono ?_
      rintro _ w' ⟨rfl, S2, p, hM, hv, hpB, hbp⟩
      rw [← hnum1 h14] at hbp
      obtain ⟨q1, q2⟩ := hplainEnd (by unfold isRow; omega) hM ⟨fun h => by omega, fun _ => ⟨p, k, hv, hk0, hbp⟩, fun h => by omega⟩
      exact ⟨_, own, rfl, q1, q2, fun k h => .inl h⟩
  · intro i t refs own w ref herr ht href hrl hk hFil
    have hil := (List.getElem?_eq_some_iff.1 ht).1
    have hFil0 := hFil
    have hF := hfine herr i t ht
    obtain ⟨hrefs, gs, S', hGI⟩ := hFil
    have hrefv : ref = (gref ts i : Int) := by
      rw [hrefs] at href
      simp [hil] at href
      exact href.symm
    subst hrefv
    obtain ⟨vv, hv1, hv2⟩ := hGI.val.vd i t ht hil
    refine ⟨vv, C41_in hGI.val.st hv1, ?_⟩
    by_cases hr : isRow t
    · right
      obtain ⟨r, cs, g1, g2, g3, g4, g5, g6, g7⟩ := hGI.row i t ht hil hr
      rw [hv1] at g1
      cases g1
      refine ⟨r, rfl, fun w1 hF1 => hF1.next fun x u hx hu pos hpos hc => ?_, ?_⟩
      · rcases hc with hc | hc
        · by_cases hxi : x = i
          · subst hxi
            rw [ht] at hx; cases hx
            have := (hkids x t ht).1.1
            exact .inr ⟨rfl, by omega⟩
          · exact .inl (by omega)
        · omega
      · intro j w1 hj hkk hko hF1
        obtain ⟨_, gs1, S1, hG1⟩ := id hF1
        obtain ⟨r', cs', f1, f2, f3, f4, f5, f6, f7⟩ := hG1.row i t ht hil hr
        have hownT : ∀ k, own k → k < w.heap.size → etype w k = some 3 := fun k hk1 _ => by
          obtain ⟨x, u, a1, a2, a3, rfl⟩ := hGI.mem k hk1
          obtain ⟨r2, cs2, b1, b2, b3, _⟩ := hGI.row x u a1 a3 a2
          exact b3.etype
        have hrw : Blk w1 r 100 [.int .i64 (numT t (cO ts i)), .slice (some ⟨gs i, 0, none⟩) t.kl t.kl, .int .i64 t.kind] := hko.blk g2 fun h => by
          have := hownT r h g2.lt
          rw [g2.etype] at this; cases this
        have hold : StAt w1 s B S' := hGI.val.st.types hko fun k hk1 hk2 => ⟨3, hownT k hk1 hk2, by decide⟩
        have hrr : r' = r := by
          have := hold.vals_eq hG1.val.st hv1 f1
          simp at this
          exact this.symm
        subst hrr
        have hgg : gs1 i = gs i := by
          have := (f2.uniq hrw).2
          simp at this
          exact this
        obtain ⟨kid, hkid⟩ : ∃ k, (kss i)[j]? = some k := ⟨_, List.getElem?_eq_getElem (by have := (hkids i t ht).1.1; omega)⟩
        obtain ⟨q, hq, hqc⟩ := (hkids i t ht).1.2 j kid hkid
        have hq3 := (hkids i t ht).2 q hq (by omega)
        have hlim := hF.kids j kid hkid
        have hkidlt : 0 ≤ kid ∧ kid < ts.length := by
          refine ⟨hlim.1, Int.lt_of_lt_of_le hlim.2 ?_⟩
          unfold limit; split <;> omega
        refine ⟨gs1 i, t.kl, t.kl, q, kid, f2.cell rfl, hj, f5, f6, ?_, f3.frozen, hq, ?_, hkidlt.1, hkidlt.2, ?_⟩
        · rw [f3.cell (List.getElem?_eq_getElem (by omega))]; rfl
        · exact hkk.cell hqc fun h => by
            rw [add_block] at h
            have := h.1
            omega
        · intro v hv
          obtain ⟨e1, _⟩ := id hF1
          have hv' : v = (gref ts kid.toNat : Int) := by
            rw [e1] at hv
            have := (List.getElem?_eq_some_iff.1 hv).1
            simp at this
            simp [this] at hv
            exact hv.symm
          subst hv'
          have hone := Keep.one w1 ⟨gs1 i, j, none⟩ (.int .i64 (gref ts kid.toNat))
          have hty3 : ∀ k, k < w1.heap.size → k = gs1 i → ∃ e, etype w1 k = some e ∧ e = 3 := fun k _ e => by subst e; exact ⟨3, f3.etype, rfl⟩
          obtain ⟨h1, h2, h3, h4, h5, h6, h7, h8, h9, h10⟩ := hG1
          refine ⟨e1, gs1, S1, h1, h2.keep hone fun k hl hx => ?_, h3, h4, h5, h6, fun x u hx hm hu => ?_, h8, h9, fun x u hx hm => (h10 x u hx hm).keep hone (fun k hl hx => ?_) fun _ _ h => h⟩
          · obtain ⟨e, q1, rfl⟩ := hty3 k hl hx
            exact ⟨3, q1, by decide, by decide⟩
          · obtain ⟨r2, cs2, b1, b2, b3, b4, b5, b6, b7⟩ := h7 x u hx hm hu
            by_cases hxi : x = i
            · subst hxi
              rw [ht] at hx; cases hx
              have hce := (f3.uniq b3).2
              subst hce
              refine ⟨r2, cs'.set j (.int .i64 (gref ts kid.toNat)), b1, hone.blk b2 (b2.ne f3 (by decide)), f3.set, by simp [f4], f5, f6, fun pos kid' hpk hc => ?_⟩
              rw [List.getElem?_set]
              by_cases hpj : j = pos
              · subst hpj
                rw [if_pos rfl, if_pos (by omega)]
                rw [hkid] at hpk; cases hpk; rfl
              · rw [if_neg hpj]
                exact f7 pos kid' hpk (by omega)
            · have hne : gs1 x ≠ gs1 i := fun e => hxi (h8 x i u t hx ht hu hr hm hil e)
              exact ⟨r2, cs2, b1, hone.blk b2 (b2.ne f3 (by decide)), hone.blk b3 hne, b4, b5, b6, fun pos kid' hpk hc => b7 pos kid' hpk (by omega)⟩
          · obtain ⟨e, q1, rfl⟩ := hty3 k hl hx
            exact ⟨3, q1, by decide⟩
    · left
      constructor
      · rw [gdesc_of ht] at hv2
        have hno94 : ∀ {u : TypeId} {x : Value}, u ≠ 94 → ∀ w : World, (Instr.typeAssert (.iface u x) 77 94 true).run Tryz.prog w = .ok (.tuple #[.pointer none, .bool false]) w := fun hu => no80 hu _ _
        unfold descT at hv2
        unfold isRow at hr
        split at hv2
        · cases hv2; exact hno94 (by decide)
        split at hv2
        · cases hv2; exact hno94 (by decide)
        split at hv2
        · obtain ⟨_, y, rfl, _⟩ := hv2; exact hno94 (by decide)
        split at hv2
        · cases hv2; exact hno94 (by decide)
        · obtain ⟨_, A, p, e, rest, rfl, _, hb', ht'⟩ := hv2
          refine hno94 ?_
          rcases ht' with ⟨rfl, rfl, hk'⟩ | ⟨rfl, _⟩ | ⟨rfl, _⟩ | ⟨rfl, _⟩ | ⟨rfl, _⟩
          · exfalso
            -- a value of the rows' type that is no row: its kind tells
            rcases hF.kind with q | q | q
            · have h79 : t.kind = 7 ∨ t.kind = 8 ∨ t.kind = 9 := by omega
              obtain ⟨p2, d2, D2, x1, _⟩ := (hGI.more i t ht hil).tab h79
              rw [hv1] at x1; cases x1
            · obtain ⟨p2, sp, ro, c, d2, D2, f, x1, _⟩ := (hGI.more i t ht hil).inst q
              rw [hv1] at x1; cases x1
            · obtain ⟨p2, k2, x1, _⟩ := (hGI.more i t ht hil).view q.1
              rw [hv1] at x1; cases x1
          all_goals decide
      · intro w1 hF1
        refine hF1.next fun x u hx hu pos hpos hc => ?_
        by_cases hxi : x = i
        · subst hxi; rw [ht] at hx; cases hx; exact absurd hu hr
        · omega
end Go.Fw


set_option autoImplicit false
set_option linter.unusedVariables false
namespace Go.Fw
open Go.Proofs Go.RowKit
def isKeyB (t : Tm) : Bool := (decide (1 ≤ t.kind) && decide (t.kind ≤ 4)) || (t.kind == 14 && (t.hash || !t.same))
def kidBad (ts : List Tm) (i : Nat) (t : Tm) (k : Int) : Bool := decide (k < 0) || decide ((limit ts.length i t : Int) ≤ k)
def keyBad (ts : List Tm) (k : Int) : Bool := !((ts[k.toNat]?).any isKeyB)
def shapeBad (ts : List Tm) (t : Tm) (ks : List Int) : Bool :=
  if t.kind = 5 ∨ t.kind = 6 ∨ t.kind = 8 ∨ t.kind = 9 then false else if t.kind = 7 then ks.length % 2 == 1 else
  if t.kind = 15 ∨ t.kind = 16 ∨ t.kind = 17 then ks.length != 1 || !((ts[(ks.getD 0 0).toNat]?).any fun u => u.kind == 7) else decide (0 < ks.length)
def badK (ts : List Tm) (i : Nat) (t : Tm) (ks : List Int) : Bool := ks.any (kidBad ts i t) || ((keysL t ks).any (keyBad ts) || shapeBad ts t ks)
theorem C135 (t : Tm) (w : World) : Calls Tryz.prog 135 #[.agg t.cells.toArray] w fun e w' => e = .returned (.bool (isKeyB t)) ∧ Keep No w w' := by
  refine ret_mono (V135_sound t.kind t.b t.neg t.ma t.ml t.mc t.text t.ka t.kl t.kc t.hash t.same w (fun r w' => r = .bool (isKeyB t) ∧ Keep No w w') ?_) (by rintro _ _ ⟨rfl, h⟩; exact ⟨rfl, h⟩)
  unfold V135
  refine newK_of fun b w1 hs hb hk => ⟨_, hb.add 0 rfl, ?_⟩
  have h14 : ¬ (1 ≤ t.kind ∧ t.kind ≤ 4) → ∃ t22 : Int, w1.cell? ((⟨b, 0, none⟩ : Addr).add 0) = some (.int .i64 t22) ∧ bsel (t22 == 14) (∃ t23 : Bool, w1.cell? ((⟨b, 0, none⟩ : Addr).add 6) = some (.bool t23) ∧ bsel t23 (Value.bool true = .bool (isKeyB t) ∧ Keep No w w1) (∃ t24 : Bool, w1.cell? ((⟨b, 0, none⟩ : Addr).add 7) = some (.bool t24) ∧ (Value.bool (!t24) = .bool (isKeyB t) ∧ Keep No w w1))) (Value.bool false = .bool (isKeyB t) ∧ Keep No w w1) := by
    intro hn
    refine ⟨_, hb.add 0 rfl, bsel_split (fun h => ⟨_, hb.add 6 rfl, bsel_split (fun h2 => ⟨?_, hk⟩) fun h2 => ⟨_, hb.add 7 rfl, ?_, hk⟩⟩) fun h => ⟨?_, hk⟩⟩
    · have h : t.kind = 14 := by simpa using h
      simp [isKeyB, h, h2]
    · have h : t.kind = 14 := by simpa using h
      simp [isKeyB, h, h2]
    · have h : t.kind ≠ 14 := by simpa using h
      simp [isKeyB, h]
      omega
  refine bsel_split (fun h1 => ⟨_, hb.add 0 rfl, bsel_split (fun h4 => ⟨?_, hk⟩) fun h4 => h14 ?_⟩) fun h1 => h14 ?_
  · have h1 : 1 ≤ t.kind := by simpa using h1
    have h4 : t.kind ≤ 4 := by simpa using h4
    simp [isKeyB, h1, h4]
  · have h4 : ¬ t.kind ≤ 4 := by simpa using h4
    omega
  · have h1 : ¬ 1 ≤ t.kind := by simpa using h1
    omega
theorem any_false {α : Type} {p : α → Bool} {l : List α} : l.any p = false ↔ ∀ a ∈ l, p a = false := by
  rw [Bool.eq_false_iff, Ne, List.any_eq_true]
  constructor
  · intro h a ha
    cases hc : p a
    · rfl
    · exact absurd ⟨a, ha, hc⟩ h
  · rintro h ⟨a, ha, hc⟩
    rw [h a ha] at hc; cases hc
section
variable {w : World} {s b B : Nat} {ta : Option Addr} {tc : Nat} {ts : List Tm} {rv : Value}
theorem C80_gen (hb : Blk w b 92 [.pointer (some ⟨s, 0, none⟩), .slice ta ts.length tc, rv]) (hts : TermsAt w ta ts) (hn : ts.length < 1000000) {n : Nat} {t : Tm} (ht : ts[n]? = some t) {ks : List Int} (hks : KidsAt w t ks) (hkb : ∀ p, t.ka = some p → 0 < t.kl → p.block < B) (hkl : t.kl < 100000000000) :
    Calls Tryz.prog 80 #[.pointer (some ⟨b, 0, none⟩), .int .i64 n] w fun e w' => e = .returned (.bool (badK ts n t ks)) ∧ Keep No w w' := by
  refine ret_mono (V80_sound _ _ w (fun r w' => r = .bool (badK ts n t ks) ∧ Keep No w w') ?_) (by rintro _ _ ⟨rfl, h⟩; exact ⟨rfl, h⟩)
  have hnl : n < ts.length := (List.getElem?_eq_some_iff.1 ht).1
  have hlen := hks.1
  obtain ⟨p, rfl, hc⟩ := hts _ t ht
  unfold V80
  rw [nilK_some]
  refine ⟨_, _, _, hb.add 1 rfl, idxK_of hnl ⟨_, _, _, _, _, _, _, _, _, _, _, _, hc, termCopy fun c w1 hc1 hk1 hcs => ⟨_, hc1.add 0 rfl, ?_⟩⟩⟩
  have hgo : V80J3 (fun r w' => r = .bool (badK ts n t ks) ∧ Keep No w w') (some ⟨b, 0, none⟩) ⟨c, 0, none⟩ (limit ts.length n t) w1 := by
    unfold V80J3
    refine ⟨_, _, _, hc1.add 5 rfl, fun i w' => 0 ≤ i ∧ i ≤ t.kl ∧ Keep No w w' ∧ Blk w' c 42 t.cells ∧ (∀ (j : Nat) (k : Int), (j : Int) < i → ks[j]? = some k → kidBad ts n t k = false), fun i _ => (t.kl - i).toNat, ⟨by omega, by omega, hk1, hc1, fun j k hj => by omega⟩, ?_⟩
    rintro j i w2 ⟨hi0, hin, hk2, hc2, hgood⟩
    refine bsel_split (fun hlt => ?_) fun hge => ?_
    · simp at hlt
      obtain ⟨m, rfl⟩ := Int.eq_ofNat_of_zero_le hi0
      obtain ⟨k, hkm⟩ : ∃ k, ks[m]? = some k := ⟨_, List.getElem?_eq_getElem (by omega)⟩
      obtain ⟨q, hq, hqc⟩ := (hks.no hk2).2 m k hkm
      have hbad : kidBad ts n t k = true → badK ts n t ks = true := fun h => by
        unfold badK
        rw [Bool.or_eq_true]
        exact .inl (List.any_eq_true.2 ⟨k, List.mem_of_getElem? hkm, h⟩)
      rw [hq]
      refine idxK_of (by omega) ⟨k, by rw [Nat.mul_one]; exact hqc, bsel_split (fun h0 => ⟨?_, hk2⟩) fun h0 => bsel_split (fun h1 => ⟨?_, hk2⟩) fun h1 => ?_⟩
      · rw [hbad (by unfold kidBad; rw [h0]; rfl)]
      · rw [hbad (by unfold kidBad; simp at h1; simp [h1])]
      · rw [wrap_i64 (by omega)]
        refine ⟨⟨by omega, by omega, hk2, hc2, fun j' k' hj' hk' => ?_⟩, by simp only; omega⟩
        by_cases hc' : j' = m
        · subst hc'
          rw [hkm] at hk'; cases hk'
          unfold kidBad
          simp at h0 h1
          simp [h0, h1]
        · exact hgood j' k' (by omega) hk'
    · simp at hge
      have hie : i = t.kl := by omega
      subst hie
      have hany : ks.any (kidBad ts n t) = false := any_false.2 fun k hk => by
        obtain ⟨j', hj'⟩ := List.getElem?_of_mem hk
        have := (List.getElem?_eq_some_iff.1 hj').1
        exact hgood j' k (by omega) hj'
      have hrange : ∀ k ∈ ks, 0 ≤ k ∧ k < ts.length := fun k hk => by
        have := any_false.1 hany k hk
        unfold kidBad limit at this
        simp at this
        split at this <;> omega
      have hkeysub : ∀ k ∈ keysL t ks, k ∈ ks := by
        intro k hk
        unfold keysL at hk
        split at hk
        · exact hk
        · split at hk
          · unfold evens at hk
            rw [List.mem_map] at hk
            obtain ⟨m, hm1, hm2⟩ := hk
            rw [List.mem_range] at hm1
            have hm3 : 2 * m < ks.length := by omega
            rw [← hm2, List.getD_eq_getElem?_getD, List.getElem?_eq_getElem hm3]
            exact List.getElem_mem hm3
          · simp at hk
      refine ⟨_, _, _, _, _, _, _, _, _, _, _, _, hc2.cells0, (C134_gen (B := B) (hks.no hk2) hkb (by omega)).mono ?_⟩
      rintro _ w3 ⟨ka, kc, rfl, hkeys, hk3⟩
      have hk03 := hk2.no hk3
      have hc3 := hk3.nblk hc2
      have hkL : (keysL t ks).length ≤ t.kl := by
        unfold keysL
        split
        · omega
        · split
          · rw [evens_len]; omega
          · simp
      refine ⟨_, _, _, rfl, fun i w' => 0 ≤ i ∧ i ≤ (keysL t ks).length ∧ Keep No w3 w' ∧ (∀ (j : Nat) (k : Int), (j : Int) < i → (keysL t ks)[j]? = some k → keyBad ts k = false), fun i _ => ((keysL t ks).length - i).toNat, ⟨by omega, by omega, Keep.refl _ _, fun j k hj => by omega⟩, ?_⟩
      rintro j2 i w4 ⟨hi0, hin2, hk4, hgood2⟩
      have hk04 := hk03.no hk4
      have hb4 := hk04.nblk hb
      have hc4 := hk4.nblk hc3
      refine bsel_split (fun hlt => ?_) fun hge2 => ?_
      · simp at hlt
        obtain ⟨m, rfl⟩ := Int.eq_ofNat_of_zero_le hi0
        obtain ⟨k, hkm⟩ : ∃ k, (keysL t ks)[m]? = some k := ⟨_, List.getElem?_eq_getElem (by omega)⟩
        obtain ⟨q, hq, hqc, _⟩ := hkeys m k hkm
        obtain ⟨kr1, kr2⟩ := hrange k (hkeysub k (List.mem_of_getElem? hkm))
        obtain ⟨x, rfl⟩ := Int.eq_ofNat_of_zero_le kr1
        obtain ⟨u, hu⟩ : ∃ u, ts[x]? = some u := ⟨_, List.getElem?_eq_getElem (by omega)⟩
        obtain ⟨p2, hp2, hcu⟩ := (hts.no hk04) x u hu
        cases hp2
        have hkb2 : keyBad ts (x : Int) = !isKeyB u := by unfold keyBad; rw [Int.toNat_natCast, hu]; rfl
        rw [hq]
        refine idxK_of (by omega) ⟨x, by rw [Nat.mul_one]; exact hk4.cell hqc id, ?_⟩
        rw [nilK_some]
        refine ⟨_, _, _, hb4.add 1 rfl, idxK_of (by omega) ⟨_, _, _, _, _, _, _, _, _, _, _, _, hcu, (C135 u w4).mono ?_⟩⟩
        rintro _ w5 ⟨rfl, hk5⟩
        refine ⟨_, rfl, bsel_split (fun hx => ⟨?_, hk04.no hk5⟩) fun hx => ?_⟩
        · have : badK ts n t ks = true := by
            unfold badK
            rw [Bool.or_eq_true, Bool.or_eq_true]
            exact .inr (.inl (List.any_eq_true.2 ⟨_, List.mem_of_getElem? hkm, by rw [hkb2]; exact hx⟩))
          rw [this]
        · rw [wrap_i64 (by omega)]
          refine ⟨⟨by omega, by omega, hk4.no hk5, fun j' k' hj' hk' => ?_⟩, by simp only; omega⟩
          by_cases hc' : j' = m
          · subst hc'
            rw [hkm] at hk'; cases hk'
            rw [hkb2]; exact hx
          · exact hgood2 j' k' (by omega) hk'
      · simp at hge2
        have hie : i = (keysL t ks).length := by omega
        subst hie
        have hany2 : (keysL t ks).any (keyBad ts) = false := any_false.2 fun k hk => by
          obtain ⟨j', hj'⟩ := List.getElem?_of_mem hk
          have := (List.getElem?_eq_some_iff.1 hj').1
          exact hgood2 j' k (by omega) hj'
        have hbk : badK ts n t ks = shapeBad ts t ks := by unfold badK; rw [hany, hany2]; rfl
        rw [hbk]
        refine ⟨_, hc4.add 0 rfl, ?_⟩
        have hfalse : (t.kind = 5 ∨ t.kind = 6 ∨ t.kind = 8 ∨ t.kind = 9) → V80J2 (fun r w' => r = .bool (shapeBad ts t ks) ∧ Keep No w w') (some ⟨b, 0, none⟩) ⟨c, 0, none⟩ t.kind true w4 := fun h => by
          unfold V80J2
          refine bsel_pos rfl ⟨?_, hk04⟩
          unfold shapeBad
          rw [if_pos h]
        refine bsel_split (fun h5 => hfalse (.inl (by simpa using h5))) fun h5 => bsel_split (fun h6 => hfalse (.inr (.inl (by simpa using h6)))) fun h6 => bsel_split (fun h8 => hfalse (.inr (.inr (.inl (by simpa using h8))))) fun h8 => ?_
        have h5 : t.kind ≠ 5 := by simpa using h5
        have h6 : t.kind ≠ 6 := by simpa using h6
        have h8 : t.kind ≠ 8 := by simpa using h8
        by_cases h9 : t.kind = 9
        · rw [show (t.kind == 9) = true by simp [h9]]
          exact hfalse (by omega)
        rw [show (t.kind == 9) = false by simp [h9]]
        have hsb : shapeBad ts t ks = if t.kind = 7 then ks.length % 2 == 1 else if t.kind = 15 ∨ t.kind = 16 ∨ t.kind = 17 then ks.length != 1 || !((ts[(ks.getD 0 0).toNat]?).any fun u => u.kind == 7) else decide (0 < ks.length) := by
          unfold shapeBad; rw [if_neg (by omega)]
        unfold V80J2
        refine bsel_neg rfl (bsel_split (fun h7 => ⟨_, _, _, hc4.add 5 rfl, by decide, ?_, hk04⟩) fun h7 => ?_)
        · have h7 : t.kind = 7 := by simpa using h7
          rw [hsb, if_pos h7, Int.tmod_eq_emod_of_nonneg (by omega), hlen]
          congr 1
          rw [Bool.eq_iff_iff, beq_iff_eq, beq_iff_eq]
          omega
        have h7 : t.kind ≠ 7 := by simpa using h7
        have hview : (t.kind = 15 ∨ t.kind = 16 ∨ t.kind = 17) → V80J1 (fun r w' => r = .bool (shapeBad ts t ks) ∧ Keep No w w') (some ⟨b, 0, none⟩) ⟨c, 0, none⟩ true w4 := fun h => by
          unfold V80J1
          have hkd := hk04.no (Keep.drawn w4)
          refine bsel_pos rfl ⟨_, _, _, hc4.drew.add 5 rfl, bsel_split (fun h1 => ⟨?_, hkd⟩) fun h1 => ?_⟩
          · have h1 : t.kl ≠ 1 := by simp at h1; omega
            rw [hsb, if_neg h7, if_pos h]
            simp [hlen, h1]
          · have h1 : t.kl = 1 := by simp at h1; omega
            obtain ⟨k, hk0⟩ : ∃ k, ks[0]? = some k := ⟨_, List.getElem?_eq_getElem (by omega)⟩
            obtain ⟨kr1, kr2⟩ := hrange k (List.mem_of_getElem? hk0)
            obtain ⟨x, rfl⟩ := Int.eq_ofNat_of_zero_le kr1
            obtain ⟨u, hu⟩ : ∃ u, ts[x]? = some u := ⟨_, List.getElem?_eq_getElem (by omega)⟩
            obtain ⟨p2, hp2, hcu⟩ := (hts.no hkd) x u hu
            cases hp2
            obtain ⟨q, hq, hqc⟩ := (hks.no hkd).2 0 _ hk0
            rw [nilK_some]
            refine ⟨_, _, _, hb4.drew.add 1 rfl, _, _, _, hc4.drew.add 5 rfl, ?_⟩
            rw [hq]
            refine idxK_of (i := 0) (by omega) ⟨x, by rw [Nat.zero_mul]; exact hqc, idxK_of (by omega) ⟨_, hcu.get 0 rfl, ?_, hkd⟩⟩
            have hgD : (ks.getD 0 0).toNat = x := by rw [List.getD_eq_getElem?_getD, hk0]; rfl
            rw [hsb, if_neg h7, if_pos h, hgD, hu]
            simp [hlen, h1, bne]
        refine bsel_split (fun h15 => hview (.inl (by simpa using h15))) fun h15 => bsel_split (fun h16 => hview (.inr (.inl (by simpa using h16)))) fun h16 => ?_
        have h15 : t.kind ≠ 15 := by simpa using h15
        have h16 : t.kind ≠ 16 := by simpa using h16
        by_cases h17 : t.kind = 17
        · rw [show (t.kind == 17) = true by simp [h17]]
          exact hview (.inr (.inr h17))
        rw [show (t.kind == 17) = false by simp [h17]]
        unfold V80J1
        refine bsel_neg rfl ⟨_, _, _, hc4.add 5 rfl, ?_, hk04⟩
        rw [hsb, if_neg h7, if_neg (by omega), hlen]
        congr 1
        rw [Bool.eq_iff_iff]
        simp
  refine bsel_split (fun h6 => ?_) fun h6 => ?_
  · have h6 : t.kind = 6 := by simpa using h6
    rw [nilK_some]
    refine ⟨_, _, _, (hk1.nblk hb).add 1 rfl, ?_⟩
    unfold limit at hgo
    rwa [if_pos h6] at hgo
  · have h6 : ¬ t.kind = 6 := by simpa using h6
    unfold limit at hgo
    rwa [if_neg h6] at hgo
end
end Go.Fw


set_option autoImplicit false
set_option linter.unusedVariables false
namespace Go.Fw
open Go.Proofs Go.RowKit
noncomputable def sameT (t : Tm) (ms : List Int) (it : ByteArray) : ByteArray :=
  if t.kind = 1 then ⟨#[110, 111, 110, 101]⟩ else if t.kind = 2 then (if t.b then ⟨#[105, 49]⟩ else ⟨#[105, 48]⟩) else if t.kind = 3 then ⟨#[105]⟩ ++ textW t.neg (valI ms) else if t.kind = 4 then ⟨#[115]⟩ ++ t.text else ⟨#[111]⟩ ++ it
section
variable {w : World} {s b B : Nat} {ta : Option Addr} {tc : Nat} {ts : List Tm} {rv : Value}
theorem C137_gen (hb : Blk w b 92 [.pointer (some ⟨s, 0, none⟩), .slice ta ts.length tc, rv]) (hts : TermsAt w ta ts) {x : Nat} {t : Tm} (ht : ts[x]? = some t) {ms : List Int} (hin : InAt w t ms) (hl : ms.length < 10000000000) (hr : ∀ m ∈ ms, 0 ≤ m ∧ m < 4294967296) (hsz : ∀ neg, (textW neg (valI ms)).size < 9000000000000000000)
    {it : ByteArray} (hit : ∀ w1, Keep No w w1 → Calls Tryz.prog 77 #[.int .i64 x] w1 fun e w' => e = .returned (.string it) ∧ Keep No w1 w') (his : it.size < 1000) :
    Calls Tryz.prog 137 #[.pointer (some ⟨b, 0, none⟩), .int .i64 x] w fun e w' => e = .returned (.string (sameT t ms it)) ∧ Keep No w w' := by
  refine ret_mono (V137_sound _ _ w (fun r w' => r = .string (sameT t ms it) ∧ Keep No w w') ?_) (by rintro _ _ ⟨rfl, h⟩; exact ⟨rfl, h⟩)
  have hxn : x < ts.length := (List.getElem?_eq_some_iff.1 ht).1
  obtain ⟨p, rfl, hc⟩ := hts x t ht
  obtain ⟨⟨m1, m2, m3, m4⟩, htx⟩ := hin
  unfold V137
  rw [nilK_some]
  refine ⟨_, _, _, hb.add 1 rfl, idxK_of hxn ⟨_, _, _, _, _, _, _, _, _, _, _, _, hc, termCopy fun c w1 hc1 hk1 hcs => ⟨_, hc1.add 0 rfl, ?_⟩⟩⟩
  refine bsel_split (fun h1 => ⟨?_, hk1⟩) fun h1 => bsel_split (fun h2 => ⟨_, hc1.add 1 rfl, bsel_split (fun h3 => ⟨?_, hk1⟩) fun h3 => ⟨?_, hk1⟩⟩) fun h2 => bsel_split (fun h3 => ?_) fun h3 => bsel_split (fun h4 => ?_) fun h4 => ?_
  · have h1 : t.kind = 1 := by simpa using h1
    simp [sameT, h1]
  · have h2 : t.kind = 2 := by simpa using h2
    simp [sameT, h2, h3]
  · have h2 : t.kind = 2 := by simpa using h2
    simp [sameT, h2, h3]
  · have h3 : t.kind = 3 := by simpa using h3
    refine ⟨_, _, _, _, hc1.cellsAdd 2 rfl, ?_⟩
    rw [m2]
    refine (C75 (m1.no hk1) m3 hl hr).mono ?_
    rintro _ w2 ⟨rfl, hk2⟩
    have := hsz t.neg
    have e1 : (⟨#[105]⟩ : ByteArray).size = 1 := rfl
    exact ⟨_, rfl, by rw [e1]; omega, by simp [sameT, h3], hk1.no hk2⟩
  · have h4 : t.kind = 4 := by simpa using h4
    have e1 : (⟨#[115]⟩ : ByteArray).size = 1 := rfl
    exact ⟨_, hc1.add 4 rfl, by rw [e1]; omega, by simp [sameT, h4], hk1⟩
  · have h1 : t.kind ≠ 1 := by simpa using h1
    have h2 : t.kind ≠ 2 := by simpa using h2
    have h3 : t.kind ≠ 3 := by simpa using h3
    have h4 : t.kind ≠ 4 := by simpa using h4
    refine (hit w1 hk1).mono ?_
    rintro _ w2 ⟨rfl, hk2⟩
    have e1 : (⟨#[111]⟩ : ByteArray).size = 1 := rfl
    exact ⟨_, rfl, by rw [e1]; omega, by simp [sameT, h1, h2, h3, h4], hk1.no hk2⟩
end
end Go.Fw

