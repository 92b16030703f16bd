/-
  DERIVED. GIVEN WITH THE SEED: THE CARDS: each row of YtgbdmelnmmopaaaDoorRows.lean that lists a variable, with what it lists TIED to the program's text (the seventh form; the later family's looks); each row that meets fmt, with fmt's text TOLD by the authors' own Lean function (tested against real Go, not proved from fmt's source: count such statements apart). THE CARD IS WHAT COUNTS. Prove the row's statement (the work); the ties are given (YtgbdmelnmmopaaaDoorTie.lean); close each card by the builder's one call (the guide's Derived/Test/ToyasCard.lean, 'card_holds'). Laid BY PROGRAM, IN A SANDBOX (cutbox-door.mjs). By AI agents, Wed Nov 11 2026. No macro, syntax, notation, axiom, sorry.
-/
import Derived.Test.YtgbdmelnmmopaaaDoorRows
import GoSem.ClaimSeven
namespace Go.Proofs.YtgbdmelnmmopaaaDoor
namespace Rows

/-- THE TIED CARD OF 'pursuivantlaw07.LamportSigns'. -/
def lamportSignsCard : Claim7 := { stood := { row := lamportSignsRow, standIns := [], harness := (true, "190853c4537f61f265aae98905502ee90421d1e05e16abf57ac59c0cb5eadacf"), looks := false }, kinds := [], alts := [], laidByText := true, laidKinds := [.data], laidTests := true, laidLooks := .later }
def LamportSignsCardSaid : Prop := Claim7.holds Tryd.pinned (.plain (OpenSpec.ofChange lamportSignsSpec)) lamportSignsCard

/-- THE TIED CARD OF 'pursuivantlaw07.LamportImplies'. -/
def lamportImpliesCard : Claim7 := { stood := { row := lamportImpliesRow, standIns := [], harness := (true, "190853c4537f61f265aae98905502ee90421d1e05e16abf57ac59c0cb5eadacf"), looks := false }, kinds := [], alts := [], laidByText := true, laidKinds := [.data], laidTests := true, laidLooks := .later }
def LamportImpliesCardSaid : Prop := Claim7.holds Tryd.pinned (.plain (OpenSpec.ofChange lamportImpliesSpec)) lamportImpliesCard

/-- THE TIED CARD OF 'pursuivantlaw07.LamportCodes'. -/
def lamportCodesCard : Claim7 := { stood := { row := lamportCodesRow, standIns := [], harness := (true, "190853c4537f61f265aae98905502ee90421d1e05e16abf57ac59c0cb5eadacf"), looks := false }, kinds := [], alts := [], laidByText := true, laidKinds := [.data], laidTests := true, laidLooks := .later }
def LamportCodesCardSaid : Prop := Claim7.holds Tryd.pinned (.plain (OpenSpec.ofChange lamportCodesSpec)) lamportCodesCard

/-- THE TIED CARD OF 'pursuivantlaw07.LamportSecrets'. -/
def lamportSecretsCard : Claim7 := { stood := { row := lamportSecretsRow, standIns := [], harness := (true, "190853c4537f61f265aae98905502ee90421d1e05e16abf57ac59c0cb5eadacf"), looks := false }, kinds := [], alts := [], laidByText := true, laidKinds := [.data], laidTests := true, laidLooks := .later }
def LamportSecretsCardSaid : Prop := Claim7.holds Tryd.pinned (.plain (OpenSpec.ofChange lamportSecretsSpec)) lamportSecretsCard

/-- THE SECOND FORM's CARD OF 'pursuivantlaw07.LamportSigns'. -/
def lamportSignsUptoCard : Claim7 := { stood := { row := lamportSignsUptoRow, standIns := [], harness := (true, "190853c4537f61f265aae98905502ee90421d1e05e16abf57ac59c0cb5eadacf"), looks := false }, kinds := [], alts := [], laidByText := true, laidKinds := [.data], laidTests := true, laidLooks := .later }
def LamportSignsUptoCardSaid : Prop := Claim7.holds Tryd.pinned (.plain (OpenSpec.upto lamportSignsSpec)) lamportSignsUptoCard

/-- THE SECOND FORM's CARD OF 'pursuivantlaw07.LamportImplies'. -/
def lamportImpliesUptoCard : Claim7 := { stood := { row := lamportImpliesUptoRow, standIns := [], harness := (true, "190853c4537f61f265aae98905502ee90421d1e05e16abf57ac59c0cb5eadacf"), looks := false }, kinds := [], alts := [], laidByText := true, laidKinds := [.data], laidTests := true, laidLooks := .later }
def LamportImpliesUptoCardSaid : Prop := Claim7.holds Tryd.pinned (.plain (OpenSpec.upto lamportImpliesSpec)) lamportImpliesUptoCard

/-- THE SECOND FORM's CARD OF 'pursuivantlaw07.LamportCodes'. -/
def lamportCodesUptoCard : Claim7 := { stood := { row := lamportCodesUptoRow, standIns := [], harness := (true, "190853c4537f61f265aae98905502ee90421d1e05e16abf57ac59c0cb5eadacf"), looks := false }, kinds := [], alts := [], laidByText := true, laidKinds := [.data], laidTests := true, laidLooks := .later }
def LamportCodesUptoCardSaid : Prop := Claim7.holds Tryd.pinned (.plain (OpenSpec.upto lamportCodesSpec)) lamportCodesUptoCard

/-- THE SECOND FORM's CARD OF 'pursuivantlaw07.LamportSecrets'. -/
def lamportSecretsUptoCard : Claim7 := { stood := { row := lamportSecretsUptoRow, standIns := [], harness := (true, "190853c4537f61f265aae98905502ee90421d1e05e16abf57ac59c0cb5eadacf"), looks := false }, kinds := [], alts := [], laidByText := true, laidKinds := [.data], laidTests := true, laidLooks := .later }
def LamportSecretsUptoCardSaid : Prop := Claim7.holds Tryd.pinned (.plain (OpenSpec.upto lamportSecretsSpec)) lamportSecretsUptoCard
end Rows
end Go.Proofs.YtgbdmelnmmopaaaDoor
