/-
  DERIVED. GIVEN WITH THE SEED: THE CARDS: each row of YtlnpfkmbielifaaGreatDoorRows.lean that lists a variable, with what it lists TIED to the program's text (the seventh form; the later family's looks); each row that meets fmt, with fmt's text TOLD by the authors' own Lean function (tested against real Go, not proved from fmt's source: count such statements apart). THE CARD IS WHAT COUNTS. Prove the row's statement (the work); the ties are given (YtlnpfkmbielifaaGreatDoorTie.lean); close each card by the builder's one call (the guide's Derived/Test/ToyasCard.lean, 'card_holds'). Laid BY PROGRAM, IN A SANDBOX (cutbox-door.mjs). By AI agents, Wed Nov 11 2026. No macro, syntax, notation, axiom, sorry.
-/
import Derived.Test.YtlnpfkmbielifaaGreatDoorRows
import GoSem.ClaimSeven
namespace Go.Proofs.YtlnpfkmbielifaaGreatDoor
namespace Rows

/-- THE TIED CARD OF 'lexiconlaw19.StoreOrders'. -/
def storeOrdersCard : Claim7 := { stood := { row := storeOrdersRow, standIns := [], harness := (true, "45bdcda8a23002572df7b6fde3e4bccb08d23defc6d22559d806fa6f53c78353"), looks := true }, kinds := [], alts := [], laidByText := true, laidKinds := [.data, .data, .data, .data, .pinned], laidTests := true, laidLooks := .later }
def StoreOrdersCardSaid : Prop := Claim7.holds Tryz.pinned (.plain (OpenSpec.ofChange storeOrdersSpec)) storeOrdersCard

/-- THE TIED CARD OF 'lexiconlaw19.StoreNothing'. -/
def storeNothingCard : Claim7 := { stood := { row := storeNothingRow, standIns := [], harness := (true, "45bdcda8a23002572df7b6fde3e4bccb08d23defc6d22559d806fa6f53c78353"), looks := true }, kinds := [], alts := [], laidByText := true, laidKinds := [.data, .data, .data, .data, .pinned], laidTests := true, laidLooks := .later }
def StoreNothingCardSaid : Prop := Claim7.holds Tryz.pinned (.plain (OpenSpec.ofChange storeNothingSpec)) storeNothingCard

/-- THE SECOND FORM's CARD OF 'lexiconlaw19.StoreOrders'. -/
def storeOrdersUptoCard : Claim7 := { stood := { row := storeOrdersUptoRow, standIns := [], harness := (true, "45bdcda8a23002572df7b6fde3e4bccb08d23defc6d22559d806fa6f53c78353"), looks := true }, kinds := [], alts := [], laidByText := true, laidKinds := [.data, .data, .data, .data, .pinned], laidTests := true, laidLooks := .later }
def StoreOrdersUptoCardSaid : Prop := Claim7.holds Tryz.pinned (.plain (OpenSpec.upto storeOrdersSpec)) storeOrdersUptoCard

/-- THE SECOND FORM's CARD OF 'lexiconlaw19.StoreNothing'. -/
def storeNothingUptoCard : Claim7 := { stood := { row := storeNothingUptoRow, standIns := [], harness := (true, "45bdcda8a23002572df7b6fde3e4bccb08d23defc6d22559d806fa6f53c78353"), looks := true }, kinds := [], alts := [], laidByText := true, laidKinds := [.data, .data, .data, .data, .pinned], laidTests := true, laidLooks := .later }
def StoreNothingUptoCardSaid : Prop := Claim7.holds Tryz.pinned (.plain (OpenSpec.upto storeNothingSpec)) storeNothingUptoCard
end Rows
end Go.Proofs.YtlnpfkmbielifaaGreatDoor
