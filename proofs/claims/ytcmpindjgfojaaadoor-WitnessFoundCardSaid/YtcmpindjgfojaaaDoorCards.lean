/-
  DERIVED. GIVEN WITH THE SEED: THE CARDS: each row of YtcmpindjgfojaaaDoorRows.lean that lists a variable, with what it lists TIED to the program's text (the seventh form; the later family's looks); each row that meets fmt, with fmt's text TOLD by the authors' own Lean function (tested against real Go, not proved from fmt's source: count such statements apart). THE CARD IS WHAT COUNTS. Prove the row's statement (the work); the ties are given (YtcmpindjgfojaaaDoorTie.lean); close each card by the builder's one call (the guide's Derived/Test/ToyasCard.lean, 'card_holds'). Laid BY PROGRAM, IN A SANDBOX (cutbox-door.mjs). By AI agents, Wed Nov 11 2026. No macro, syntax, notation, axiom, sorry.
-/
import Derived.Test.YtcmpindjgfojaaaDoorRows
import GoSem.ClaimSeven
namespace Go.Proofs.YtcmpindjgfojaaaDoor
namespace Rows

/-- THE TIED CARD OF 'astragallaw11.WitnessHashes'. -/
def witnessHashesCard : Claim7 := { stood := { row := witnessHashesRow, standIns := [], harness := (true, "bfcf5a73292f4b18789a66c1678b24aaa0c1b5fc5c6b53ac8110b34f08088051"), looks := true }, kinds := [], alts := [], laidByText := true, laidKinds := [.data, .data, .data, .data, .pinned], laidTests := true, laidLooks := .later }
def WitnessHashesCardSaid : Prop := Claim7.holds Tryd.pinned (.plain (OpenSpec.ofChange witnessHashesSpec)) witnessHashesCard

/-- THE TIED CARD OF 'astragallaw11.WitnessShares'. -/
def witnessSharesCard : Claim7 := { stood := { row := witnessSharesRow, standIns := [], harness := (true, "bfcf5a73292f4b18789a66c1678b24aaa0c1b5fc5c6b53ac8110b34f08088051"), looks := true }, kinds := [], alts := [], laidByText := true, laidKinds := [.data, .data, .data, .data, .pinned], laidTests := true, laidLooks := .later }
def WitnessSharesCardSaid : Prop := Claim7.holds Tryd.pinned (.plain (OpenSpec.ofChange witnessSharesSpec)) witnessSharesCard

/-- THE TIED CARD OF 'astragallaw11.WitnessMissing'. -/
def witnessMissingCard : Claim7 := { stood := { row := witnessMissingRow, standIns := [], harness := (true, "bfcf5a73292f4b18789a66c1678b24aaa0c1b5fc5c6b53ac8110b34f08088051"), looks := true }, kinds := [], alts := [], laidByText := true, laidKinds := [.data, .data, .data, .data, .pinned], laidTests := true, laidLooks := .later }
def WitnessMissingCardSaid : Prop := Claim7.holds Tryd.pinned (.plain (OpenSpec.ofChange witnessMissingSpec)) witnessMissingCard

/-- THE TIED CARD OF 'astragallaw11.WitnessOne'. -/
def witnessOneCard : Claim7 := { stood := { row := witnessOneRow, standIns := [], harness := (true, "bfcf5a73292f4b18789a66c1678b24aaa0c1b5fc5c6b53ac8110b34f08088051"), looks := true }, kinds := [], alts := [], laidByText := true, laidKinds := [.data, .data, .data, .data, .pinned], laidTests := true, laidLooks := .later }
def WitnessOneCardSaid : Prop := Claim7.holds Tryd.pinned (.plain (OpenSpec.ofChange witnessOneSpec)) witnessOneCard

/-- THE TIED CARD OF 'astragallaw11.WitnessProved'. -/
def witnessProvedCard : Claim7 := { stood := { row := witnessProvedRow, standIns := [], harness := (true, "bfcf5a73292f4b18789a66c1678b24aaa0c1b5fc5c6b53ac8110b34f08088051"), looks := true }, kinds := [], alts := [], laidByText := true, laidKinds := [.data, .data, .data, .data, .pinned], laidTests := true, laidLooks := .later }
def WitnessProvedCardSaid : Prop := Claim7.holds Tryd.pinned (.plain (OpenSpec.ofChange witnessProvedSpec)) witnessProvedCard

/-- THE TIED CARD OF 'astragallaw11.WitnessFound'. -/
def witnessFoundCard : Claim7 := { stood := { row := witnessFoundRow, standIns := [], harness := (true, "bfcf5a73292f4b18789a66c1678b24aaa0c1b5fc5c6b53ac8110b34f08088051"), looks := true }, kinds := [], alts := [], laidByText := true, laidKinds := [.data, .data, .data, .data, .sentinel, .sentinel, .pinned], laidTests := true, laidLooks := .later }
def WitnessFoundCardSaid : Prop := Claim7.holds Tryd.pinned (.plain (OpenSpec.ofChange witnessFoundSpec)) witnessFoundCard

/-- THE SECOND FORM's CARD OF 'astragallaw11.WitnessHashes'. -/
def witnessHashesUptoCard : Claim7 := { stood := { row := witnessHashesUptoRow, standIns := [], harness := (true, "bfcf5a73292f4b18789a66c1678b24aaa0c1b5fc5c6b53ac8110b34f08088051"), looks := true }, kinds := [], alts := [], laidByText := true, laidKinds := [.data, .data, .data, .data, .pinned], laidTests := true, laidLooks := .later }
def WitnessHashesUptoCardSaid : Prop := Claim7.holds Tryd.pinned (.plain (OpenSpec.upto witnessHashesSpec)) witnessHashesUptoCard

/-- THE SECOND FORM's CARD OF 'astragallaw11.WitnessShares'. -/
def witnessSharesUptoCard : Claim7 := { stood := { row := witnessSharesUptoRow, standIns := [], harness := (true, "bfcf5a73292f4b18789a66c1678b24aaa0c1b5fc5c6b53ac8110b34f08088051"), looks := true }, kinds := [], alts := [], laidByText := true, laidKinds := [.data, .data, .data, .data, .pinned], laidTests := true, laidLooks := .later }
def WitnessSharesUptoCardSaid : Prop := Claim7.holds Tryd.pinned (.plain (OpenSpec.upto witnessSharesSpec)) witnessSharesUptoCard

/-- THE SECOND FORM's CARD OF 'astragallaw11.WitnessMissing'. -/
def witnessMissingUptoCard : Claim7 := { stood := { row := witnessMissingUptoRow, standIns := [], harness := (true, "bfcf5a73292f4b18789a66c1678b24aaa0c1b5fc5c6b53ac8110b34f08088051"), looks := true }, kinds := [], alts := [], laidByText := true, laidKinds := [.data, .data, .data, .data, .pinned], laidTests := true, laidLooks := .later }
def WitnessMissingUptoCardSaid : Prop := Claim7.holds Tryd.pinned (.plain (OpenSpec.upto witnessMissingSpec)) witnessMissingUptoCard

/-- THE SECOND FORM's CARD OF 'astragallaw11.WitnessOne'. -/
def witnessOneUptoCard : Claim7 := { stood := { row := witnessOneUptoRow, standIns := [], harness := (true, "bfcf5a73292f4b18789a66c1678b24aaa0c1b5fc5c6b53ac8110b34f08088051"), looks := true }, kinds := [], alts := [], laidByText := true, laidKinds := [.data, .data, .data, .data, .pinned], laidTests := true, laidLooks := .later }
def WitnessOneUptoCardSaid : Prop := Claim7.holds Tryd.pinned (.plain (OpenSpec.upto witnessOneSpec)) witnessOneUptoCard

/-- THE SECOND FORM's CARD OF 'astragallaw11.WitnessProved'. -/
def witnessProvedUptoCard : Claim7 := { stood := { row := witnessProvedUptoRow, standIns := [], harness := (true, "bfcf5a73292f4b18789a66c1678b24aaa0c1b5fc5c6b53ac8110b34f08088051"), looks := true }, kinds := [], alts := [], laidByText := true, laidKinds := [.data, .data, .data, .data, .pinned], laidTests := true, laidLooks := .later }
def WitnessProvedUptoCardSaid : Prop := Claim7.holds Tryd.pinned (.plain (OpenSpec.upto witnessProvedSpec)) witnessProvedUptoCard

/-- THE SECOND FORM's CARD OF 'astragallaw11.WitnessFound'. -/
def witnessFoundUptoCard : Claim7 := { stood := { row := witnessFoundUptoRow, standIns := [], harness := (true, "bfcf5a73292f4b18789a66c1678b24aaa0c1b5fc5c6b53ac8110b34f08088051"), looks := true }, kinds := [], alts := [], laidByText := true, laidKinds := [.data, .data, .data, .data, .sentinel, .sentinel, .pinned], laidTests := true, laidLooks := .later }
def WitnessFoundUptoCardSaid : Prop := Claim7.holds Tryd.pinned (.plain (OpenSpec.upto witnessFoundSpec)) witnessFoundUptoCard
end Rows
end Go.Proofs.YtcmpindjgfojaaaDoor
