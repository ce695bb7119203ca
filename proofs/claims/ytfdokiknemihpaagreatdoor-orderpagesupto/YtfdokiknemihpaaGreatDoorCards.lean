/-
  DERIVED. GIVEN WITH THE SEED: THE CARDS: each row of YtfdokiknemihpaaGreatDoorRows.lean that lists a variable, with what it lists TIED to the program's text (the seventh form; the later family's looks); each row that meets fmt, with fmt's text TOLD by the authors' own Lean function (tested against real Go, not proved from fmt's source: count such statements apart). THE CARD IS WHAT COUNTS. Prove the row's statement (the work); the ties are given (YtfdokiknemihpaaGreatDoorTie.lean); close each card by the builder's one call (the guide's Derived/Test/ToyasCard.lean, 'card_holds'). Laid BY PROGRAM, IN A SANDBOX (cutbox-door.mjs). By AI agents, Wed Nov 11 2026. No macro, syntax, notation, axiom, sorry.
-/
import Derived.Test.YtfdokiknemihpaaGreatDoorRows
import GoSem.ClaimSeven
namespace Go.Proofs.YtfdokiknemihpaaGreatDoor
namespace Rows

/-- THE TIED CARD OF 'styluslaw23.OrderTells'. -/
def orderTellsCard : Claim7 := { stood := { row := orderTellsRow, standIns := [], harness := (true, "2c4219c927202cc6b13869097ca07d39e135e9155aeeb7dd0baa1a586e1fe084"), looks := false }, kinds := [], alts := [], laidByText := true, laidKinds := [.data, .pinned], laidTests := true, laidLooks := .later }
def OrderTellsCardSaid : Prop := Claim7.holds Tryz.pinned (.plain (OpenSpec.ofChange orderTellsSpec)) orderTellsCard

/-- THE TIED CARD OF 'styluslaw23.OrderPages'. -/
def orderPagesCard : Claim7 := { stood := { row := orderPagesRow, standIns := [], harness := (true, "2c4219c927202cc6b13869097ca07d39e135e9155aeeb7dd0baa1a586e1fe084"), looks := false }, kinds := [], alts := [], laidByText := true, laidKinds := [.data, .pinned], laidTests := true, laidLooks := .later }
def OrderPagesCardSaid : Prop := Claim7.holds Tryz.pinned (.plain (OpenSpec.ofChange orderPagesSpec)) orderPagesCard

/-- THE TIED CARD OF 'styluslaw23.OrderOnce'. -/
def orderOnceCard : Claim7 := { stood := { row := orderOnceRow, standIns := [], harness := (true, "2c4219c927202cc6b13869097ca07d39e135e9155aeeb7dd0baa1a586e1fe084"), looks := false }, kinds := [], alts := [], laidByText := true, laidKinds := [.data, .pinned], laidTests := true, laidLooks := .later }
def OrderOnceCardSaid : Prop := Claim7.holds Tryz.pinned (.plain (OpenSpec.ofChange orderOnceSpec)) orderOnceCard

/-- THE SECOND FORM's CARD OF 'styluslaw23.OrderTells'. -/
def orderTellsUptoCard : Claim7 := { stood := { row := orderTellsUptoRow, standIns := [], harness := (true, "2c4219c927202cc6b13869097ca07d39e135e9155aeeb7dd0baa1a586e1fe084"), looks := false }, kinds := [], alts := [], laidByText := true, laidKinds := [.data, .pinned], laidTests := true, laidLooks := .later }
def OrderTellsUptoCardSaid : Prop := Claim7.holds Tryz.pinned (.plain (OpenSpec.upto orderTellsSpec)) orderTellsUptoCard

/-- THE SECOND FORM's CARD OF 'styluslaw23.OrderPages'. -/
def orderPagesUptoCard : Claim7 := { stood := { row := orderPagesUptoRow, standIns := [], harness := (true, "2c4219c927202cc6b13869097ca07d39e135e9155aeeb7dd0baa1a586e1fe084"), looks := false }, kinds := [], alts := [], laidByText := true, laidKinds := [.data, .pinned], laidTests := true, laidLooks := .later }
def OrderPagesUptoCardSaid : Prop := Claim7.holds Tryz.pinned (.plain (OpenSpec.upto orderPagesSpec)) orderPagesUptoCard

/-- THE SECOND FORM's CARD OF 'styluslaw23.OrderOnce'. -/
def orderOnceUptoCard : Claim7 := { stood := { row := orderOnceUptoRow, standIns := [], harness := (true, "2c4219c927202cc6b13869097ca07d39e135e9155aeeb7dd0baa1a586e1fe084"), looks := false }, kinds := [], alts := [], laidByText := true, laidKinds := [.data, .pinned], laidTests := true, laidLooks := .later }
def OrderOnceUptoCardSaid : Prop := Claim7.holds Tryz.pinned (.plain (OpenSpec.upto orderOnceSpec)) orderOnceUptoCard
end Rows
end Go.Proofs.YtfdokiknemihpaaGreatDoor
