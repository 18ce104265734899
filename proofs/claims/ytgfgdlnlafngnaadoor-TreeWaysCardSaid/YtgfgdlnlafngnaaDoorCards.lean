/-
  DERIVED. GIVEN WITH THE SEED: THE CARDS: each row of YtgfgdlnlafngnaaDoorRows.lean that lists a variable, with what it lists TIED to the program's text (the seventh form; the later family's looks); each row that meets fmt, with fmt's text TOLD by the authors' own Lean function (tested against real Go, not proved from fmt's source: count such statements apart). THE CARD IS WHAT COUNTS. Prove the row's statement (the work); the ties are given (YtgfgdlnlafngnaaDoorTie.lean); close each card by the builder's one call (the guide's Derived/Test/ToyasCard.lean, 'card_holds'). Laid BY PROGRAM, IN A SANDBOX (cutbox-door.mjs). By AI agents, Wed Nov 11 2026. No macro, syntax, notation, axiom, sorry.
-/
import Derived.Test.YtgfgdlnlafngnaaDoorRows
import GoSem.ClaimSeven
namespace Go.Proofs.YtgfgdlnlafngnaaDoor
namespace Rows

/-- THE TIED CARD OF 'spencelaw09.PackOpens'. -/
def packOpensCard : Claim7 := { stood := { row := packOpensRow, standIns := [], harness := (true, "485ef1eada1e41360b30508796b68da466e80ad7e7bea603eac55d875ee7967a"), looks := false }, kinds := [], alts := [], laidByText := true, laidKinds := [.data, .pinned], laidTests := true, laidLooks := .later }
def PackOpensCardSaid : Prop := Claim7.holds Tryd.pinned (.plain (OpenSpec.ofChange packOpensSpec)) packOpensCard

/-- THE TIED CARD OF 'spencelaw09.PackBack'. -/
def packBackCard : Claim7 := { stood := { row := packBackRow, standIns := [], harness := (true, "485ef1eada1e41360b30508796b68da466e80ad7e7bea603eac55d875ee7967a"), looks := false }, kinds := [], alts := [], laidByText := true, laidKinds := [.data, .pinned], laidTests := true, laidLooks := .later }
def PackBackCardSaid : Prop := Claim7.holds Tryd.pinned (.plain (OpenSpec.ofChange packBackSpec)) packBackCard

/-- THE TIED CARD OF 'spencelaw09.PackParts'. -/
def packPartsCard : Claim7 := { stood := { row := packPartsRow, standIns := [], harness := (true, "485ef1eada1e41360b30508796b68da466e80ad7e7bea603eac55d875ee7967a"), looks := false }, kinds := [], alts := [], laidByText := true, laidKinds := [.data, .pinned], laidTests := true, laidLooks := .later }
def PackPartsCardSaid : Prop := Claim7.holds Tryd.pinned (.plain (OpenSpec.ofChange packPartsSpec)) packPartsCard

/-- THE TIED CARD OF 'spencelaw08.TreeTurns'. -/
def treeTurnsCard : Claim7 := { stood := { row := treeTurnsRow, standIns := [], harness := (true, "485ef1eada1e41360b30508796b68da466e80ad7e7bea603eac55d875ee7967a"), looks := false }, kinds := [], alts := [], laidByText := true, laidKinds := [.data, .pinned], laidTests := true, laidLooks := .later }
def TreeTurnsCardSaid : Prop := Claim7.holds Tryd.pinned (.plain (OpenSpec.ofChange treeTurnsSpec)) treeTurnsCard

/-- THE TIED CARD OF 'spencelaw08.TreeWays'. -/
def treeWaysCard : Claim7 := { stood := { row := treeWaysRow, standIns := [], harness := (true, "485ef1eada1e41360b30508796b68da466e80ad7e7bea603eac55d875ee7967a"), looks := false }, kinds := [], alts := [], laidByText := true, laidKinds := [.data, .pinned], laidTests := true, laidLooks := .later }
def TreeWaysCardSaid : Prop := Claim7.holds Tryd.pinned (.plain (OpenSpec.ofChange treeWaysSpec)) treeWaysCard

/-- THE TIED CARD OF 'spencelaw08.TreePuts'. -/
def treePutsCard : Claim7 := { stood := { row := treePutsRow, standIns := [], harness := (true, "485ef1eada1e41360b30508796b68da466e80ad7e7bea603eac55d875ee7967a"), looks := false }, kinds := [], alts := [], laidByText := true, laidKinds := [.data, .pinned], laidTests := true, laidLooks := .later }
def TreePutsCardSaid : Prop := Claim7.holds Tryd.pinned (.plain (OpenSpec.ofChange treePutsSpec)) treePutsCard

/-- THE SECOND FORM's CARD OF 'spencelaw09.PackOpens'. -/
def packOpensUptoCard : Claim7 := { stood := { row := packOpensUptoRow, standIns := [], harness := (true, "485ef1eada1e41360b30508796b68da466e80ad7e7bea603eac55d875ee7967a"), looks := false }, kinds := [], alts := [], laidByText := true, laidKinds := [.data, .pinned], laidTests := true, laidLooks := .later }
def PackOpensUptoCardSaid : Prop := Claim7.holds Tryd.pinned (.plain (OpenSpec.upto packOpensSpec)) packOpensUptoCard

/-- THE SECOND FORM's CARD OF 'spencelaw09.PackBack'. -/
def packBackUptoCard : Claim7 := { stood := { row := packBackUptoRow, standIns := [], harness := (true, "485ef1eada1e41360b30508796b68da466e80ad7e7bea603eac55d875ee7967a"), looks := false }, kinds := [], alts := [], laidByText := true, laidKinds := [.data, .pinned], laidTests := true, laidLooks := .later }
def PackBackUptoCardSaid : Prop := Claim7.holds Tryd.pinned (.plain (OpenSpec.upto packBackSpec)) packBackUptoCard

/-- THE SECOND FORM's CARD OF 'spencelaw09.PackParts'. -/
def packPartsUptoCard : Claim7 := { stood := { row := packPartsUptoRow, standIns := [], harness := (true, "485ef1eada1e41360b30508796b68da466e80ad7e7bea603eac55d875ee7967a"), looks := false }, kinds := [], alts := [], laidByText := true, laidKinds := [.data, .pinned], laidTests := true, laidLooks := .later }
def PackPartsUptoCardSaid : Prop := Claim7.holds Tryd.pinned (.plain (OpenSpec.upto packPartsSpec)) packPartsUptoCard

/-- THE SECOND FORM's CARD OF 'spencelaw08.TreeTurns'. -/
def treeTurnsUptoCard : Claim7 := { stood := { row := treeTurnsUptoRow, standIns := [], harness := (true, "485ef1eada1e41360b30508796b68da466e80ad7e7bea603eac55d875ee7967a"), looks := false }, kinds := [], alts := [], laidByText := true, laidKinds := [.data, .pinned], laidTests := true, laidLooks := .later }
def TreeTurnsUptoCardSaid : Prop := Claim7.holds Tryd.pinned (.plain (OpenSpec.upto treeTurnsSpec)) treeTurnsUptoCard

/-- THE SECOND FORM's CARD OF 'spencelaw08.TreeWays'. -/
def treeWaysUptoCard : Claim7 := { stood := { row := treeWaysUptoRow, standIns := [], harness := (true, "485ef1eada1e41360b30508796b68da466e80ad7e7bea603eac55d875ee7967a"), looks := false }, kinds := [], alts := [], laidByText := true, laidKinds := [.data, .pinned], laidTests := true, laidLooks := .later }
def TreeWaysUptoCardSaid : Prop := Claim7.holds Tryd.pinned (.plain (OpenSpec.upto treeWaysSpec)) treeWaysUptoCard

/-- THE SECOND FORM's CARD OF 'spencelaw08.TreePuts'. -/
def treePutsUptoCard : Claim7 := { stood := { row := treePutsUptoRow, standIns := [], harness := (true, "485ef1eada1e41360b30508796b68da466e80ad7e7bea603eac55d875ee7967a"), looks := false }, kinds := [], alts := [], laidByText := true, laidKinds := [.data, .pinned], laidTests := true, laidLooks := .later }
def TreePutsUptoCardSaid : Prop := Claim7.holds Tryd.pinned (.plain (OpenSpec.upto treePutsSpec)) treePutsUptoCard
end Rows
end Go.Proofs.YtgfgdlnlafngnaaDoor
