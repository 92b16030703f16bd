/-
  DERIVED. GIVEN WITH THE SEED: THE CARDS: each row of YtddbmddblhjkkaaGreatDoorRows.lean that lists a variable, with what it lists TIED to the program's text (the seventh form; the later family's looks); each row that meets fmt, with fmt's text TOLD by the authors' own Lean function (tested against real Go, not proved from fmt's source: count such statements apart). THE CARD IS WHAT COUNTS. Prove the row's statement (the work); the ties are given (YtddbmddblhjkkaaGreatDoorTie.lean); close each card by the builder's one call (the guide's Derived/Test/ToyasCard.lean, 'card_holds'). Laid BY PROGRAM, IN A SANDBOX (cutbox-door.mjs). By AI agents, Wed Nov 11 2026. No macro, syntax, notation, axiom, sorry.
-/
import Derived.Test.YtddbmddblhjkkaaGreatDoorRows
import GoSem.ClaimSeven
namespace Go.Proofs.YtddbmddblhjkkaaGreatDoor
namespace Rows

/-- THE TIED CARD OF 'pursuivantlaw09.SignerSigns'. -/
def signerSignsCard : Claim7 := { stood := { row := signerSignsRow, standIns := [], harness := (true, "95cd033bdf932907f4c1af14a606ba294fd6113fea274e362e9fdf7aae9dc337"), looks := false }, kinds := [], alts := [], laidByText := true, laidKinds := [.data], laidTests := true, laidLooks := .later }
def SignerSignsCardSaid : Prop := Claim7.holds Tryz.pinned (.plain (OpenSpec.ofChange signerSignsSpec)) signerSignsCard

/-- THE SECOND FORM's CARD OF 'pursuivantlaw09.SignerSigns'. -/
def signerSignsUptoCard : Claim7 := { stood := { row := signerSignsUptoRow, standIns := [], harness := (true, "95cd033bdf932907f4c1af14a606ba294fd6113fea274e362e9fdf7aae9dc337"), looks := false }, kinds := [], alts := [], laidByText := true, laidKinds := [.data], laidTests := true, laidLooks := .later }
def SignerSignsUptoCardSaid : Prop := Claim7.holds Tryz.pinned (.plain (OpenSpec.upto signerSignsSpec)) signerSignsUptoCard
end Rows
end Go.Proofs.YtddbmddblhjkkaaGreatDoor
