/-
  DERIVED. GIVEN WITH THE SEED: THE CARDS: each row of YtddbmddblhjkkaaDoorRows.lean that lists a variable, with what it lists TIED to the program's text (the seventh form; the later family's looks); each row that meets fmt, with fmt's text TOLD by the authors' own Lean function (tested against real Go, not proved from fmt's source: count such statements apart). THE CARD IS WHAT COUNTS. Prove the row's statement (the work); the ties are given (YtddbmddblhjkkaaDoorTie.lean); close each card by the builder's one call (the guide's Derived/Test/ToyasCard.lean, 'card_holds'). Laid BY PROGRAM, IN A SANDBOX (cutbox-door.mjs). By AI agents, Wed Nov 11 2026. No macro, syntax, notation, axiom, sorry.
-/
import Derived.Test.YtddbmddblhjkkaaDoorRows
import GoSem.ClaimSeven
namespace Go.Proofs.YtddbmddblhjkkaaDoor
namespace Rows

/-- THE TIED CARD OF 'pursuivantlaw09.SignerOnce'. -/
def signerOnceCard : Claim7 := { stood := { row := signerOnceRow, standIns := [], harness := (true, "6aa04131c8f8502c5e4a78c2b536cf0c2622568a79cd792385509a6620a30e12"), looks := false }, kinds := [], alts := [], laidByText := true, laidKinds := [.data], laidTests := true, laidLooks := .later }
def SignerOnceCardSaid : Prop := Claim7.holds Tryd.pinned (.plain (OpenSpec.ofChange signerOnceSpec)) signerOnceCard

/-- THE TIED CARD OF 'pursuivantlaw09.SignerNobody'. -/
def signerNobodyCard : Claim7 := { stood := { row := signerNobodyRow, standIns := [], harness := (true, "6aa04131c8f8502c5e4a78c2b536cf0c2622568a79cd792385509a6620a30e12"), looks := false }, kinds := [], alts := [], laidByText := true, laidKinds := [.data], laidTests := true, laidLooks := .later }
def SignerNobodyCardSaid : Prop := Claim7.holds Tryd.pinned (.plain (OpenSpec.ofChange signerNobodySpec)) signerNobodyCard

/-- THE TIED CARD OF 'pursuivantlaw09.SignerPublics'. -/
def signerPublicsCard : Claim7 := { stood := { row := signerPublicsRow, standIns := [], harness := (true, "6aa04131c8f8502c5e4a78c2b536cf0c2622568a79cd792385509a6620a30e12"), looks := false }, kinds := [], alts := [], laidByText := true, laidKinds := [.data], laidTests := true, laidLooks := .later }
def SignerPublicsCardSaid : Prop := Claim7.holds Tryd.pinned (.plain (OpenSpec.ofChange signerPublicsSpec)) signerPublicsCard

/-- THE TIED CARD OF 'pursuivantlaw09.SignerVerifies'. -/
def signerVerifiesCard : Claim7 := { stood := { row := signerVerifiesRow, standIns := [], harness := (true, "6aa04131c8f8502c5e4a78c2b536cf0c2622568a79cd792385509a6620a30e12"), looks := false }, kinds := [], alts := [], laidByText := true, laidKinds := [.data], laidTests := true, laidLooks := .later }
def SignerVerifiesCardSaid : Prop := Claim7.holds Tryd.pinned (.plain (OpenSpec.ofChange signerVerifiesSpec)) signerVerifiesCard

/-- THE TIED CARD OF 'pursuivantlaw09.SignerCodes'. -/
def signerCodesCard : Claim7 := { stood := { row := signerCodesRow, standIns := [], harness := (true, "6aa04131c8f8502c5e4a78c2b536cf0c2622568a79cd792385509a6620a30e12"), looks := false }, kinds := [], alts := [], laidByText := true, laidKinds := [.data], laidTests := true, laidLooks := .later }
def SignerCodesCardSaid : Prop := Claim7.holds Tryd.pinned (.plain (OpenSpec.ofChange signerCodesSpec)) signerCodesCard

/-- THE SECOND FORM's CARD OF 'pursuivantlaw09.SignerOnce'. -/
def signerOnceUptoCard : Claim7 := { stood := { row := signerOnceUptoRow, standIns := [], harness := (true, "6aa04131c8f8502c5e4a78c2b536cf0c2622568a79cd792385509a6620a30e12"), looks := false }, kinds := [], alts := [], laidByText := true, laidKinds := [.data], laidTests := true, laidLooks := .later }
def SignerOnceUptoCardSaid : Prop := Claim7.holds Tryd.pinned (.plain (OpenSpec.upto signerOnceSpec)) signerOnceUptoCard

/-- THE SECOND FORM's CARD OF 'pursuivantlaw09.SignerNobody'. -/
def signerNobodyUptoCard : Claim7 := { stood := { row := signerNobodyUptoRow, standIns := [], harness := (true, "6aa04131c8f8502c5e4a78c2b536cf0c2622568a79cd792385509a6620a30e12"), looks := false }, kinds := [], alts := [], laidByText := true, laidKinds := [.data], laidTests := true, laidLooks := .later }
def SignerNobodyUptoCardSaid : Prop := Claim7.holds Tryd.pinned (.plain (OpenSpec.upto signerNobodySpec)) signerNobodyUptoCard

/-- THE SECOND FORM's CARD OF 'pursuivantlaw09.SignerPublics'. -/
def signerPublicsUptoCard : Claim7 := { stood := { row := signerPublicsUptoRow, standIns := [], harness := (true, "6aa04131c8f8502c5e4a78c2b536cf0c2622568a79cd792385509a6620a30e12"), looks := false }, kinds := [], alts := [], laidByText := true, laidKinds := [.data], laidTests := true, laidLooks := .later }
def SignerPublicsUptoCardSaid : Prop := Claim7.holds Tryd.pinned (.plain (OpenSpec.upto signerPublicsSpec)) signerPublicsUptoCard

/-- THE SECOND FORM's CARD OF 'pursuivantlaw09.SignerVerifies'. -/
def signerVerifiesUptoCard : Claim7 := { stood := { row := signerVerifiesUptoRow, standIns := [], harness := (true, "6aa04131c8f8502c5e4a78c2b536cf0c2622568a79cd792385509a6620a30e12"), looks := false }, kinds := [], alts := [], laidByText := true, laidKinds := [.data], laidTests := true, laidLooks := .later }
def SignerVerifiesUptoCardSaid : Prop := Claim7.holds Tryd.pinned (.plain (OpenSpec.upto signerVerifiesSpec)) signerVerifiesUptoCard

/-- THE SECOND FORM's CARD OF 'pursuivantlaw09.SignerCodes'. -/
def signerCodesUptoCard : Claim7 := { stood := { row := signerCodesUptoRow, standIns := [], harness := (true, "6aa04131c8f8502c5e4a78c2b536cf0c2622568a79cd792385509a6620a30e12"), looks := false }, kinds := [], alts := [], laidByText := true, laidKinds := [.data], laidTests := true, laidLooks := .later }
def SignerCodesUptoCardSaid : Prop := Claim7.holds Tryd.pinned (.plain (OpenSpec.upto signerCodesSpec)) signerCodesUptoCard
end Rows
end Go.Proofs.YtddbmddblhjkkaaDoor
