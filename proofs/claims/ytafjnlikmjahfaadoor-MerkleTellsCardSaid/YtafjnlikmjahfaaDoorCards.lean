/-
  DERIVED. GIVEN WITH THE SEED: THE CARDS: each row of YtafjnlikmjahfaaDoorRows.lean that lists a variable, with what it lists TIED to the program's text (the seventh form; the later family's looks); each row that meets fmt, with fmt's text TOLD by the authors' own Lean function (tested against real Go, not proved from fmt's source: count such statements apart). THE CARD IS WHAT COUNTS. Prove the row's statement (the work); the ties are given (YtafjnlikmjahfaaDoorTie.lean); close each card by the builder's one call (the guide's Derived/Test/ToyasCard.lean, 'card_holds'). Laid BY PROGRAM, IN A SANDBOX (cutbox-door.mjs). By AI agents, Wed Nov 11 2026. No macro, syntax, notation, axiom, sorry.
-/
import Derived.Test.YtafjnlikmjahfaaDoorRows
import GoSem.ClaimSeven
namespace Go.Proofs.YtafjnlikmjahfaaDoor
namespace Rows

/-- THE TIED CARD OF 'pursuivantlaw08.MerkleLevels'. -/
def merkleLevelsCard : Claim7 := { stood := { row := merkleLevelsRow, standIns := [], harness := (true, "7f973dd4c5c01bede1e4cc2af834566677b46ef9fe242844057be7d66a5a2ba3"), looks := false }, kinds := [], alts := [], laidByText := true, laidKinds := [.data], laidTests := true, laidLooks := .later }
def MerkleLevelsCardSaid : Prop := Claim7.holds Tryd.pinned (.plain (OpenSpec.ofChange merkleLevelsSpec)) merkleLevelsCard

/-- THE TIED CARD OF 'pursuivantlaw08.MerkleWays'. -/
def merkleWaysCard : Claim7 := { stood := { row := merkleWaysRow, standIns := [], harness := (true, "7f973dd4c5c01bede1e4cc2af834566677b46ef9fe242844057be7d66a5a2ba3"), looks := false }, kinds := [], alts := [], laidByText := true, laidKinds := [.data], laidTests := true, laidLooks := .later }
def MerkleWaysCardSaid : Prop := Claim7.holds Tryd.pinned (.plain (OpenSpec.ofChange merkleWaysSpec)) merkleWaysCard

/-- THE TIED CARD OF 'pursuivantlaw08.MerkleClimbs'. -/
def merkleClimbsCard : Claim7 := { stood := { row := merkleClimbsRow, standIns := [], harness := (true, "7f973dd4c5c01bede1e4cc2af834566677b46ef9fe242844057be7d66a5a2ba3"), looks := false }, kinds := [], alts := [], laidByText := true, laidKinds := [.data], laidTests := true, laidLooks := .later }
def MerkleClimbsCardSaid : Prop := Claim7.holds Tryd.pinned (.plain (OpenSpec.ofChange merkleClimbsSpec)) merkleClimbsCard

/-- THE TIED CARD OF 'pursuivantlaw08.MerkleTells'. -/
def merkleTellsCard : Claim7 := { stood := { row := merkleTellsRow, standIns := [], harness := (true, "7f973dd4c5c01bede1e4cc2af834566677b46ef9fe242844057be7d66a5a2ba3"), looks := false }, kinds := [], alts := [], laidByText := true, laidKinds := [.data], laidTests := true, laidLooks := .later }
def MerkleTellsCardSaid : Prop := Claim7.holds Tryd.pinned (.plain (OpenSpec.ofChange merkleTellsSpec)) merkleTellsCard

/-- THE SECOND FORM's CARD OF 'pursuivantlaw08.MerkleLevels'. -/
def merkleLevelsUptoCard : Claim7 := { stood := { row := merkleLevelsUptoRow, standIns := [], harness := (true, "7f973dd4c5c01bede1e4cc2af834566677b46ef9fe242844057be7d66a5a2ba3"), looks := false }, kinds := [], alts := [], laidByText := true, laidKinds := [.data], laidTests := true, laidLooks := .later }
def MerkleLevelsUptoCardSaid : Prop := Claim7.holds Tryd.pinned (.plain (OpenSpec.upto merkleLevelsSpec)) merkleLevelsUptoCard

/-- THE SECOND FORM's CARD OF 'pursuivantlaw08.MerkleWays'. -/
def merkleWaysUptoCard : Claim7 := { stood := { row := merkleWaysUptoRow, standIns := [], harness := (true, "7f973dd4c5c01bede1e4cc2af834566677b46ef9fe242844057be7d66a5a2ba3"), looks := false }, kinds := [], alts := [], laidByText := true, laidKinds := [.data], laidTests := true, laidLooks := .later }
def MerkleWaysUptoCardSaid : Prop := Claim7.holds Tryd.pinned (.plain (OpenSpec.upto merkleWaysSpec)) merkleWaysUptoCard

/-- THE SECOND FORM's CARD OF 'pursuivantlaw08.MerkleClimbs'. -/
def merkleClimbsUptoCard : Claim7 := { stood := { row := merkleClimbsUptoRow, standIns := [], harness := (true, "7f973dd4c5c01bede1e4cc2af834566677b46ef9fe242844057be7d66a5a2ba3"), looks := false }, kinds := [], alts := [], laidByText := true, laidKinds := [.data], laidTests := true, laidLooks := .later }
def MerkleClimbsUptoCardSaid : Prop := Claim7.holds Tryd.pinned (.plain (OpenSpec.upto merkleClimbsSpec)) merkleClimbsUptoCard

/-- THE SECOND FORM's CARD OF 'pursuivantlaw08.MerkleTells'. -/
def merkleTellsUptoCard : Claim7 := { stood := { row := merkleTellsUptoRow, standIns := [], harness := (true, "7f973dd4c5c01bede1e4cc2af834566677b46ef9fe242844057be7d66a5a2ba3"), looks := false }, kinds := [], alts := [], laidByText := true, laidKinds := [.data], laidTests := true, laidLooks := .later }
def MerkleTellsUptoCardSaid : Prop := Claim7.holds Tryd.pinned (.plain (OpenSpec.upto merkleTellsSpec)) merkleTellsUptoCard
end Rows
end Go.Proofs.YtafjnlikmjahfaaDoor
