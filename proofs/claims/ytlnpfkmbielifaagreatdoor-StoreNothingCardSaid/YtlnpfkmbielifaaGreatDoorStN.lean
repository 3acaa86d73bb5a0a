/- Part of a proof over the given program: a text of lemmas (conditions: none beyond each lemma as stated). -/
import Derived.Test.YtlnpfkmbielifaaGreatDoorVStA
import Derived.Test.YtlnpfkmbielifaaGreatDoorFwT
set_option linter.unnecessarySimpa false
set_option linter.unusedSimpArgs false
set_option autoImplicit false
set_option linter.unusedVariables false
namespace Go.Fw
open Go.Proofs Go.RowKit

@[simp] theorem eqNilI_nil (K : Bool → Prop) : eqNilI .nilIface K = K true := rfl
@[simp] theorem eqNilI_iface (u : TypeId) (v : Value) (K : Bool → Prop) : eqNilI (.iface u v) K = K false := rfl

/-! The nil Store. -/
theorem C25_nil (v : Int) (w : World) : Calls Tryz.prog 25 #[.pointer none, .int .i64 v] w fun e w' => e = .returned .nilIface ∧ w' = w :=
  ret_mono (V25_sound none v w (fun r w' => r = .nilIface ∧ w' = w) (by unfold V25; exact bsel_pos rfl ⟨rfl, rfl⟩)) (by rintro _ _ ⟨rfl, rfl⟩; exact ⟨rfl, rfl⟩)
theorem C9_nil (a : Option Addr) (l c : Nat) (w : World) : Calls Tryz.prog 9 #[.pointer none, .slice a l c] w fun e w' => e = .returned (.tuple #[.slice none 0 0, .int .i64 1]) ∧ w' = w :=
  ret_mono (V9_sound none a l c w (fun r w' => r = .tuple #[.slice none 0 0, .int .i64 1] ∧ w' = w) (by unfold V9; exact bsel_pos rfl ⟨rfl, rfl⟩)) (by rintro _ _ ⟨rfl, rfl⟩; exact ⟨rfl, rfl⟩)
theorem C10_nil (w : World) : Calls Tryz.prog 10 #[.pointer none] w fun e w' => e = .returned (.int .i64 0) ∧ w' = w :=
  ret_mono (V10_sound none w (fun r w' => r = .int .i64 0 ∧ w' = w) (by unfold V10; exact bsel_pos rfl ⟨rfl, rfl⟩)) (by rintro _ _ ⟨rfl, rfl⟩; exact ⟨rfl, rfl⟩)
theorem C19_nil (a : Option Addr) (l c : Nat) (w : World) : Calls Tryz.prog 19 #[.pointer none, .slice a l c] w fun e w' => e = .returned (.int .i64 0) ∧ w' = w :=
  ret_mono (V19_sound none a l c w (fun r w' => r = .int .i64 0 ∧ w' = w) (by unfold V19; exact bsel_pos rfl ⟨rfl, rfl⟩)) (by rintro _ _ ⟨rfl, rfl⟩; exact ⟨rfl, rfl⟩)

/-- What a value that is none answers: over whatever Store whose 'get' gives nil. -/
def GetsNil (p : Option Addr) (v : Int) (w : World) : Prop := ∀ w1, Keep No w w1 → Calls Tryz.prog 25 #[.pointer p, .int .i64 v] w1 fun e w' => e = .returned .nilIface ∧ Keep No w1 w'
theorem GetsNil.keep {p : Option Addr} {v : Int} {w w1 : World} (h : GetsNil p v w) (hk : Keep No w w1) : GetsNil p v w1 := fun w2 h2 => h w2 (hk.no h2)
theorem getsNil_nil (v : Int) (w : World) : GetsNil none v w := fun w1 _ => (C25_nil v w1).mono (by rintro _ _ ⟨rfl, rfl⟩; exact ⟨rfl, Keep.refl _ _⟩)

theorem C11_none {p : Option Addr} {v : Int} {w : World} (h : GetsNil p v w) : Calls Tryz.prog 11 #[.pointer p, .int .i64 v] w fun e w' => e = .returned (.int .i64 0) ∧ Keep No w w' := by
  refine ret_mono (V11_sound p v w (fun r w' => r = .int .i64 0 ∧ Keep No w w') ?_) (by rintro _ _ ⟨rfl, h⟩; exact ⟨rfl, h⟩)
  unfold V11
  refine (h w (Keep.refl _ _)).mono ?_
  rintro _ w1 ⟨rfl, hk⟩
  exact ⟨_, rfl, by simpa using hk⟩
theorem C15_none {p : Option Addr} {v : Int} {w : World} (h : GetsNil p v w) : Calls Tryz.prog 15 #[.pointer p, .int .i64 v] w fun e w' => e = .returned (.int .i64 0) ∧ Keep No w w' := by
  refine ret_mono (V15_sound p v w (fun r w' => r = .int .i64 0 ∧ Keep No w w') ?_) (by rintro _ _ ⟨rfl, h⟩; exact ⟨rfl, h⟩)
  unfold V15
  refine (h w (Keep.refl _ _)).mono ?_
  rintro _ w1 ⟨rfl, hk⟩
  exact ⟨_, rfl, by simpa using hk⟩
theorem C16_none {p : Option Addr} {v : Int} {w : World} (h : GetsNil p v w) : Calls Tryz.prog 16 #[.pointer p, .int .i64 v] w fun e w' => e = .returned (.string ⟨#[]⟩) ∧ Keep No w w' := by
  refine ret_mono (V16_sound p v w (fun r w' => r = .string ⟨#[]⟩ ∧ Keep No w w') ?_) (by rintro _ _ ⟨rfl, h⟩; exact ⟨rfl, h⟩)
  unfold V16
  refine (h w (Keep.refl _ _)).mono ?_
  rintro _ w1 ⟨rfl, hk⟩
  exact ⟨_, rfl, by simpa using hk⟩
theorem C14_none {p : Option Addr} {v : Int} {w : World} (h : GetsNil p v w) : Calls Tryz.prog 14 #[.pointer p, .int .i64 v] w fun e w' => e = .returned (.tuple #[.int .i64 0, .int .i64 12]) ∧ Keep No w w' := by
  refine ret_mono (V14_sound p v w (fun r w' => r = .tuple #[.int .i64 0, .int .i64 12] ∧ Keep No w w') ?_) (by rintro _ _ ⟨rfl, h⟩; exact ⟨rfl, h⟩)
  unfold V14
  refine (h w (Keep.refl _ _)).mono ?_
  rintro _ w1 ⟨rfl, hk⟩
  exact ⟨_, rfl, _, _, nil96 _, _, _, nil80 _, _, _, nil98 _, _, _, nil102 _, rfl, hk⟩
theorem C17_none {p : Option Addr} {v : Int} {w : World} (h : GetsNil p v w) : Calls Tryz.prog 17 #[.pointer p, .int .i64 v] w fun e w' => e = .returned (.bool false) ∧ Keep No w w' := by
  refine ret_mono (V17_sound p v w (fun r w' => r = .bool false ∧ Keep No w w') ?_) (by rintro _ _ ⟨rfl, h⟩; exact ⟨rfl, h⟩)
  unfold V17
  refine (h w (Keep.refl _ _)).mono ?_
  rintro _ w1 ⟨rfl, hk⟩
  exact ⟨_, rfl, _, nil70 _, by simpa [V17J2] using hk⟩
theorem C18_none {p : Option Addr} {v : Int} {w : World} (h : GetsNil p v w) : Calls Tryz.prog 18 #[.pointer p, .int .i64 v] w fun e w' => e = .returned (.slice none 0 0) ∧ Keep No w w' := by
  refine ret_mono (V18_sound p v w (fun r w' => r = .slice none 0 0 ∧ Keep No w w') ?_) (by rintro _ _ ⟨rfl, h⟩; exact ⟨rfl, h⟩)
  unfold V18
  refine (h w (Keep.refl _ _)).mono ?_
  rintro _ w1 ⟨rfl, hk⟩
  exact ⟨_, rfl, _, _, nil80 _, _, _, nil98 _, _, _, nil117 _, _, _, nil103 _, _, _, nil102 _, rfl, hk⟩
theorem C12_none {p : Option Addr} {v : Int} {w : World} (h : GetsNil p v w) : Calls Tryz.prog 12 #[.pointer p, .int .i64 v, .int .i64 v] w fun e w' => e = .returned (.bool false) ∧ Keep No w w' := by
  refine ret_mono (V12_sound p v v w (fun r w' => r = .bool false ∧ Keep No w w') ?_) (by rintro _ _ ⟨rfl, h⟩; exact ⟨rfl, h⟩)
  unfold V12
  refine (h w (Keep.refl _ _)).mono ?_
  rintro _ w1 ⟨rfl, hk⟩
  refine ⟨_, rfl, (h w1 hk).mono ?_⟩
  rintro _ w2 ⟨rfl, hk2⟩
  exact ⟨_, rfl, by simpa [V12J2] using hk.no hk2⟩
theorem C13_none {p : Option Addr} {v : Int} {w : World} (h : GetsNil p v w) : Calls Tryz.prog 13 #[.pointer p, .int .i64 v, .int .i64 v] w fun e w' => e = .returned (.bool false) ∧ Keep No w w' := by
  refine ret_mono (V13_sound p v v w (fun r w' => r = .bool false ∧ Keep No w w') ?_) (by rintro _ _ ⟨rfl, h⟩; exact ⟨rfl, h⟩)
  unfold V13
  refine (C15_none h).mono ?_
  rintro _ w1 ⟨rfl, hk⟩
  refine ⟨_, rfl, (C15_none (h.keep hk)).mono ?_⟩
  rintro _ w2 ⟨rfl, hk2⟩
  refine ⟨_, rfl, bsel_pos rfl ((C12_none (h.keep (hk.no hk2))).mono ?_)⟩
  rintro _ w3 ⟨rfl, hk3⟩
  exact ⟨_, rfl, rfl, (hk.no hk2).no hk3⟩

/-! The values that are none of a Store that is there: below 0. -/
theorem C94_neg {p : Option Addr} {v : Int} (hv : v < 0) (w : World) : Calls Tryz.prog 94 #[.pointer p, .int .i64 v] w fun e w' => e = .returned (.bool false) ∧ w' = w := by
  refine ret_mono (V94_sound p v w (fun r w' => r = .bool false ∧ w' = w) ?_) (by rintro _ _ ⟨rfl, h⟩; exact ⟨rfl, h⟩)
  unfold V94
  have : decide (v ≥ 0) = false := by simp; omega
  cases p <;> simp [this]
theorem C57_neg {p : Option Addr} {v : Int} (hv : v < 0) (w : World) : Calls Tryz.prog 57 #[.pointer p, .int .i64 v] w fun e w' => e = .returned (.tuple #[.nilIface, .bool false]) ∧ Keep No w w' := by
  refine ret_mono (V57_sound p v w (fun r w' => r = .tuple #[.nilIface, .bool false] ∧ Keep No w w') ?_) (by rintro _ _ ⟨rfl, h⟩; exact ⟨rfl, h⟩)
  unfold V57
  refine (C94_neg hv w).mono ?_
  rintro _ w1 ⟨rfl, rfl⟩
  refine ⟨_, rfl, bsel_pos rfl (newK_of fun b w2 _ hb hk => ⟨_, hb.cell rfl, rfl, hk⟩)⟩
theorem C25_neg {s : Nat} {v : Int} {all : Option Addr} (hv : v < 0) {w : World} (hs : w.cell? ⟨s, 6, none⟩ = some (.pointer all)) :
    Calls Tryz.prog 25 #[.pointer (some ⟨s, 0, none⟩), .int .i64 v] w fun e w' => e = .returned .nilIface ∧ Keep No w w' := by
  refine ret_mono (V25_sound _ v w (fun r w' => r = .nilIface ∧ Keep No w w') ?_) (by rintro _ _ ⟨rfl, h⟩; exact ⟨rfl, h⟩)
  unfold V25
  refine bsel_neg rfl ?_
  rw [nilK_some]
  refine ⟨all, by simpa using hs, (C57_neg hv w).mono ?_⟩
  rintro _ w1 ⟨rfl, hk⟩
  exact ⟨_, _, rfl, rfl, hk⟩
theorem getsNil_neg {s : Nat} {v : Int} {all : Option Addr} (hv : v < 0) {w : World} (hs : w.cell? ⟨s, 6, none⟩ = some (.pointer all)) : GetsNil (some ⟨s, 0, none⟩) v w :=
  fun w1 hk => C25_neg hv (hk.cell hs id)
end Go.Fw
