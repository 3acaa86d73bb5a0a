/-
  DERIVED. GIVEN WITH THE SEED: THE CARDS: each row of YtdmoefbfepeeaaaGreatDoorRows.lean that lists a variable, with what it lists TIED to the program's text (the seventh form; the later family's looks); each row that meets fmt, with fmt's text TOLD by the authors' own Lean function (tested against real Go, not proved from fmt's source: count such statements apart). THE CARD IS WHAT COUNTS. Prove the row's statement (the work); the ties are given (YtdmoefbfepeeaaaGreatDoorTie.lean); close each card by the builder's one call (the guide's Derived/Test/ToyasCard.lean, 'card_holds'). Laid BY PROGRAM, IN A SANDBOX (cutbox-door.mjs). By AI agents, Wed Nov 11 2026. No macro, syntax, notation, axiom, sorry.
-/
import Derived.Test.YtdmoefbfepeeaaaGreatDoorRows
import GoSem.ClaimSeven
namespace Go.Proofs.YtdmoefbfepeeaaaGreatDoor
namespace Rows

/-- THE TIED CARD OF 'lexiconlaw19.StoreOrders'. -/
def storeOrdersCard : Claim7 := { stood := { row := storeOrdersRow, standIns := [], harness := (true, "4243b92fe792b895953a9d0a3cd1ce26192605eadd47aad8d6d7a1e491494870"), looks := true }, kinds := [], alts := [], laidByText := true, laidKinds := [.data, .data, .data, .data, .pinned], laidTests := true, laidLooks := .later }
def StoreOrdersCardSaid : Prop := Claim7.holds Tryz.pinned (.plain (OpenSpec.ofChange storeOrdersSpec)) storeOrdersCard

/-- THE TIED CARD OF 'lexiconlaw20.EqualAsks'. -/
def equalAsksCard : Claim7 := { stood := { row := equalAsksRow, standIns := [], harness := (true, "4243b92fe792b895953a9d0a3cd1ce26192605eadd47aad8d6d7a1e491494870"), looks := true }, kinds := [], alts := [], laidByText := true, laidKinds := [.data, .data, .data, .data, .pinned], laidTests := true, laidLooks := .later }
def EqualAsksCardSaid : Prop := Claim7.holds Tryz.pinned (.plain (OpenSpec.ofChange equalAsksSpec)) equalAsksCard

/-- THE TIED CARD OF 'lexiconlaw20.EqualNothing'. -/
def equalNothingCard : Claim7 := { stood := { row := equalNothingRow, standIns := [], harness := (true, "4243b92fe792b895953a9d0a3cd1ce26192605eadd47aad8d6d7a1e491494870"), looks := true }, kinds := [], alts := [], laidByText := true, laidKinds := [.data, .data, .data, .data, .pinned], laidTests := true, laidLooks := .later }
def EqualNothingCardSaid : Prop := Claim7.holds Tryz.pinned (.plain (OpenSpec.ofChange equalNothingSpec)) equalNothingCard

/-- THE TIED CARD OF 'lexiconlaw22.ShowNothing'. -/
def showNothingCard : Claim7 := { stood := { row := showNothingRow, standIns := [], harness := (true, "4243b92fe792b895953a9d0a3cd1ce26192605eadd47aad8d6d7a1e491494870"), looks := true }, kinds := [], alts := [], laidByText := true, laidKinds := [.data, .data, .data, .data, .pinned], laidTests := true, laidLooks := .later }
def ShowNothingCardSaid : Prop := Claim7.holds Tryz.pinned (.plain (OpenSpec.ofChange showNothingSpec)) showNothingCard

/-- THE TIED CARD OF 'lexiconlaw22.ShowBounds'. -/
def showBoundsCard : Claim7 := { stood := { row := showBoundsRow, standIns := [], harness := (true, "4243b92fe792b895953a9d0a3cd1ce26192605eadd47aad8d6d7a1e491494870"), looks := true }, kinds := [], alts := [], laidByText := true, laidKinds := [.data, .data, .data, .data, .pinned], laidTests := true, laidLooks := .later }
def ShowBoundsCardSaid : Prop := Claim7.holds Tryz.pinned (.plain (OpenSpec.ofChange showBoundsSpec)) showBoundsCard

/-- THE TIED CARD OF 'lexiconlaw22.ShowLoops'. -/
def showLoopsCard : Claim7 := { stood := { row := showLoopsRow, standIns := [], harness := (true, "4243b92fe792b895953a9d0a3cd1ce26192605eadd47aad8d6d7a1e491494870"), looks := true }, kinds := [], alts := [], laidByText := true, laidKinds := [.data, .data, .data, .data, .pinned], laidTests := true, laidLooks := .later }
def ShowLoopsCardSaid : Prop := Claim7.holds Tryz.pinned (.plain (OpenSpec.ofChange showLoopsSpec)) showLoopsCard

/-- THE SECOND FORM's CARD OF 'lexiconlaw19.StoreOrders'. -/
def storeOrdersUptoCard : Claim7 := { stood := { row := storeOrdersUptoRow, standIns := [], harness := (true, "4243b92fe792b895953a9d0a3cd1ce26192605eadd47aad8d6d7a1e491494870"), looks := true }, kinds := [], alts := [], laidByText := true, laidKinds := [.data, .data, .data, .data, .pinned], laidTests := true, laidLooks := .later }
def StoreOrdersUptoCardSaid : Prop := Claim7.holds Tryz.pinned (.plain (OpenSpec.upto storeOrdersSpec)) storeOrdersUptoCard

/-- THE SECOND FORM's CARD OF 'lexiconlaw20.EqualAsks'. -/
def equalAsksUptoCard : Claim7 := { stood := { row := equalAsksUptoRow, standIns := [], harness := (true, "4243b92fe792b895953a9d0a3cd1ce26192605eadd47aad8d6d7a1e491494870"), looks := true }, kinds := [], alts := [], laidByText := true, laidKinds := [.data, .data, .data, .data, .pinned], laidTests := true, laidLooks := .later }
def EqualAsksUptoCardSaid : Prop := Claim7.holds Tryz.pinned (.plain (OpenSpec.upto equalAsksSpec)) equalAsksUptoCard

/-- THE SECOND FORM's CARD OF 'lexiconlaw20.EqualNothing'. -/
def equalNothingUptoCard : Claim7 := { stood := { row := equalNothingUptoRow, standIns := [], harness := (true, "4243b92fe792b895953a9d0a3cd1ce26192605eadd47aad8d6d7a1e491494870"), looks := true }, kinds := [], alts := [], laidByText := true, laidKinds := [.data, .data, .data, .data, .pinned], laidTests := true, laidLooks := .later }
def EqualNothingUptoCardSaid : Prop := Claim7.holds Tryz.pinned (.plain (OpenSpec.upto equalNothingSpec)) equalNothingUptoCard

/-- THE SECOND FORM's CARD OF 'lexiconlaw22.ShowNothing'. -/
def showNothingUptoCard : Claim7 := { stood := { row := showNothingUptoRow, standIns := [], harness := (true, "4243b92fe792b895953a9d0a3cd1ce26192605eadd47aad8d6d7a1e491494870"), looks := true }, kinds := [], alts := [], laidByText := true, laidKinds := [.data, .data, .data, .data, .pinned], laidTests := true, laidLooks := .later }
def ShowNothingUptoCardSaid : Prop := Claim7.holds Tryz.pinned (.plain (OpenSpec.upto showNothingSpec)) showNothingUptoCard

/-- THE SECOND FORM's CARD OF 'lexiconlaw22.ShowBounds'. -/
def showBoundsUptoCard : Claim7 := { stood := { row := showBoundsUptoRow, standIns := [], harness := (true, "4243b92fe792b895953a9d0a3cd1ce26192605eadd47aad8d6d7a1e491494870"), looks := true }, kinds := [], alts := [], laidByText := true, laidKinds := [.data, .data, .data, .data, .pinned], laidTests := true, laidLooks := .later }
def ShowBoundsUptoCardSaid : Prop := Claim7.holds Tryz.pinned (.plain (OpenSpec.upto showBoundsSpec)) showBoundsUptoCard

/-- THE SECOND FORM's CARD OF 'lexiconlaw22.ShowLoops'. -/
def showLoopsUptoCard : Claim7 := { stood := { row := showLoopsUptoRow, standIns := [], harness := (true, "4243b92fe792b895953a9d0a3cd1ce26192605eadd47aad8d6d7a1e491494870"), looks := true }, kinds := [], alts := [], laidByText := true, laidKinds := [.data, .data, .data, .data, .pinned], laidTests := true, laidLooks := .later }
def ShowLoopsUptoCardSaid : Prop := Claim7.holds Tryz.pinned (.plain (OpenSpec.upto showLoopsSpec)) showLoopsUptoCard
end Rows
end Go.Proofs.YtdmoefbfepeeaaaGreatDoor
