/-
  DERIVED. GIVEN WITH THE SEED: THE CARDS: each row of YtbjfkliijhnloaaDoorRows.lean that lists a variable, with what it lists TIED to the program's text (the seventh form; the later family's looks); each row that meets fmt, with fmt's text TOLD by the authors' own Lean function (tested against real Go, not proved from fmt's source: count such statements apart). THE CARD IS WHAT COUNTS. Prove the row's statement (the work); the ties are given (YtbjfkliijhnloaaDoorTie.lean); close each card by the builder's one call (the guide's Derived/Test/ToyasCard.lean, 'card_holds'). Laid BY PROGRAM, IN A SANDBOX (cutbox-door.mjs). By AI agents, Wed Nov 11 2026. No macro, syntax, notation, axiom, sorry.
-/
import Derived.Test.YtbjfkliijhnloaaDoorRows
import GoSem.ClaimSeven
namespace Go.Proofs.YtbjfkliijhnloaaDoor
namespace Rows

/-- THE TIED CARD OF 'bootchainlaw03.MerkleRoot'. -/
def merkleRootCard : Claim7 := { stood := { row := merkleRootRow, standIns := [], harness := (true, "6fdc6ed79be099b9156f1f4cce93baaf907d702459fee70ce7e1a98ce432a385"), looks := false }, kinds := [], alts := [], laidByText := true, laidKinds := [.data, .data], laidTests := true, laidLooks := .later }
def MerkleRootCardSaid : Prop := Claim7.holds Tryd.pinned (.plain (OpenSpec.ofChange merkleRootSpec)) merkleRootCard

/-- THE TIED CARD OF 'bootchainlaw03.MerkleVerify'. -/
def merkleVerifyCard : Claim7 := { stood := { row := merkleVerifyRow, standIns := [], harness := (true, "6fdc6ed79be099b9156f1f4cce93baaf907d702459fee70ce7e1a98ce432a385"), looks := false }, kinds := [], alts := [], laidByText := true, laidKinds := [.data, .data], laidTests := true, laidLooks := .later }
def MerkleVerifyCardSaid : Prop := Claim7.holds Tryd.pinned (.plain (OpenSpec.ofChange merkleVerifySpec)) merkleVerifyCard

/-- THE TIED CARD OF 'bootchainlaw03.MerkleComplete'. -/
def merkleCompleteCard : Claim7 := { stood := { row := merkleCompleteRow, standIns := [], harness := (true, "6fdc6ed79be099b9156f1f4cce93baaf907d702459fee70ce7e1a98ce432a385"), looks := false }, kinds := [], alts := [], laidByText := true, laidKinds := [.data, .data], laidTests := true, laidLooks := .later }
def MerkleCompleteCardSaid : Prop := Claim7.holds Tryd.pinned (.plain (OpenSpec.ofChange merkleCompleteSpec)) merkleCompleteCard

/-- THE TIED CARD OF 'bootchainlaw03.MerkleSound'. -/
def merkleSoundCard : Claim7 := { stood := { row := merkleSoundRow, standIns := [], harness := (true, "6fdc6ed79be099b9156f1f4cce93baaf907d702459fee70ce7e1a98ce432a385"), looks := false }, kinds := [], alts := [], laidByText := true, laidKinds := [.data, .data], laidTests := true, laidLooks := .later }
def MerkleSoundCardSaid : Prop := Claim7.holds Tryd.pinned (.plain (OpenSpec.ofChange merkleSoundSpec)) merkleSoundCard

/-- THE TIED CARD OF 'bootchainlaw03.MerkleBinding'. -/
def merkleBindingCard : Claim7 := { stood := { row := merkleBindingRow, standIns := [], harness := (true, "6fdc6ed79be099b9156f1f4cce93baaf907d702459fee70ce7e1a98ce432a385"), looks := false }, kinds := [], alts := [], laidByText := true, laidKinds := [.data, .data], laidTests := true, laidLooks := .later }
def MerkleBindingCardSaid : Prop := Claim7.holds Tryd.pinned (.plain (OpenSpec.ofChange merkleBindingSpec)) merkleBindingCard

/-- THE TIED CARD OF 'bootchainlaw03.MerkleTampered'. -/
def merkleTamperedCard : Claim7 := { stood := { row := merkleTamperedRow, standIns := [], harness := (true, "6fdc6ed79be099b9156f1f4cce93baaf907d702459fee70ce7e1a98ce432a385"), looks := false }, kinds := [], alts := [], laidByText := true, laidKinds := [.data, .data], laidTests := true, laidLooks := .later }
def MerkleTamperedCardSaid : Prop := Claim7.holds Tryd.pinned (.plain (OpenSpec.ofChange merkleTamperedSpec)) merkleTamperedCard

/-- THE TIED CARD OF 'bootchainlaw20.RegisterMatchesSpec'. -/
def registerMatchesSpecCard : Claim7 := { stood := { row := registerMatchesSpecRow, standIns := [], harness := (true, "6fdc6ed79be099b9156f1f4cce93baaf907d702459fee70ce7e1a98ce432a385"), looks := false }, kinds := [], alts := [], laidByText := true, laidKinds := [.data, .data], laidTests := true, laidLooks := .later }
def RegisterMatchesSpecCardSaid : Prop := Claim7.holds Tryd.pinned (.plain (OpenSpec.ofChange registerMatchesSpecSpec)) registerMatchesSpecCard

/-- THE TIED CARD OF 'bootchainlaw20.RegisterFoldMatchesSpec'. -/
def registerFoldMatchesSpecCard : Claim7 := { stood := { row := registerFoldMatchesSpecRow, standIns := [], harness := (true, "6fdc6ed79be099b9156f1f4cce93baaf907d702459fee70ce7e1a98ce432a385"), looks := false }, kinds := [], alts := [], laidByText := true, laidKinds := [.data, .data], laidTests := true, laidLooks := .later }
def RegisterFoldMatchesSpecCardSaid : Prop := Claim7.holds Tryd.pinned (.plain (OpenSpec.ofChange registerFoldMatchesSpecSpec)) registerFoldMatchesSpecCard

/-- THE TIED CARD OF 'bootchainlaw20.RegisterCodeIgnoresInputs'. -/
def registerCodeIgnoresInputsCard : Claim7 := { stood := { row := registerCodeIgnoresInputsRow, standIns := [], harness := (true, "6fdc6ed79be099b9156f1f4cce93baaf907d702459fee70ce7e1a98ce432a385"), looks := false }, kinds := [], alts := [], laidByText := true, laidKinds := [.data, .data], laidTests := true, laidLooks := .later }
def RegisterCodeIgnoresInputsCardSaid : Prop := Claim7.holds Tryd.pinned (.plain (OpenSpec.ofChange registerCodeIgnoresInputsSpec)) registerCodeIgnoresInputsCard

/-- THE TIED CARD OF 'bootchainlaw20.RegisterChainsBack'. -/
def registerChainsBackCard : Claim7 := { stood := { row := registerChainsBackRow, standIns := [], harness := (true, "6fdc6ed79be099b9156f1f4cce93baaf907d702459fee70ce7e1a98ce432a385"), looks := false }, kinds := [], alts := [], laidByText := true, laidKinds := [.data, .data], laidTests := true, laidLooks := .later }
def RegisterChainsBackCardSaid : Prop := Claim7.holds Tryd.pinned (.plain (OpenSpec.ofChange registerChainsBackSpec)) registerChainsBackCard

/-- THE TIED CARD OF 'bootchainlaw20.RegisterSeparatesFields'. -/
def registerSeparatesFieldsCard : Claim7 := { stood := { row := registerSeparatesFieldsRow, standIns := [], harness := (true, "6fdc6ed79be099b9156f1f4cce93baaf907d702459fee70ce7e1a98ce432a385"), looks := false }, kinds := [], alts := [], laidByText := true, laidKinds := [.data, .data], laidTests := true, laidLooks := .later }
def RegisterSeparatesFieldsCardSaid : Prop := Claim7.holds Tryd.pinned (.plain (OpenSpec.ofChange registerSeparatesFieldsSpec)) registerSeparatesFieldsCard

/-- THE TIED CARD OF 'bootchainlaw20.RegisterPointsProvable'. -/
def registerPointsProvableCard : Claim7 := { stood := { row := registerPointsProvableRow, standIns := [], harness := (true, "6fdc6ed79be099b9156f1f4cce93baaf907d702459fee70ce7e1a98ce432a385"), looks := false }, kinds := [], alts := [], laidByText := true, laidKinds := [.data, .data], laidTests := true, laidLooks := .later }
def RegisterPointsProvableCardSaid : Prop := Claim7.holds Tryd.pinned (.plain (OpenSpec.ofChange registerPointsProvableSpec)) registerPointsProvableCard

/-- THE SECOND FORM's CARD OF 'bootchainlaw03.MerkleRoot'. -/
def merkleRootUptoCard : Claim7 := { stood := { row := merkleRootUptoRow, standIns := [], harness := (true, "6fdc6ed79be099b9156f1f4cce93baaf907d702459fee70ce7e1a98ce432a385"), looks := false }, kinds := [], alts := [], laidByText := true, laidKinds := [.data, .data], laidTests := true, laidLooks := .later }
def MerkleRootUptoCardSaid : Prop := Claim7.holds Tryd.pinned (.plain (OpenSpec.upto merkleRootSpec)) merkleRootUptoCard

/-- THE SECOND FORM's CARD OF 'bootchainlaw03.MerkleVerify'. -/
def merkleVerifyUptoCard : Claim7 := { stood := { row := merkleVerifyUptoRow, standIns := [], harness := (true, "6fdc6ed79be099b9156f1f4cce93baaf907d702459fee70ce7e1a98ce432a385"), looks := false }, kinds := [], alts := [], laidByText := true, laidKinds := [.data, .data], laidTests := true, laidLooks := .later }
def MerkleVerifyUptoCardSaid : Prop := Claim7.holds Tryd.pinned (.plain (OpenSpec.upto merkleVerifySpec)) merkleVerifyUptoCard

/-- THE SECOND FORM's CARD OF 'bootchainlaw03.MerkleComplete'. -/
def merkleCompleteUptoCard : Claim7 := { stood := { row := merkleCompleteUptoRow, standIns := [], harness := (true, "6fdc6ed79be099b9156f1f4cce93baaf907d702459fee70ce7e1a98ce432a385"), looks := false }, kinds := [], alts := [], laidByText := true, laidKinds := [.data, .data], laidTests := true, laidLooks := .later }
def MerkleCompleteUptoCardSaid : Prop := Claim7.holds Tryd.pinned (.plain (OpenSpec.upto merkleCompleteSpec)) merkleCompleteUptoCard

/-- THE SECOND FORM's CARD OF 'bootchainlaw03.MerkleSound'. -/
def merkleSoundUptoCard : Claim7 := { stood := { row := merkleSoundUptoRow, standIns := [], harness := (true, "6fdc6ed79be099b9156f1f4cce93baaf907d702459fee70ce7e1a98ce432a385"), looks := false }, kinds := [], alts := [], laidByText := true, laidKinds := [.data, .data], laidTests := true, laidLooks := .later }
def MerkleSoundUptoCardSaid : Prop := Claim7.holds Tryd.pinned (.plain (OpenSpec.upto merkleSoundSpec)) merkleSoundUptoCard

/-- THE SECOND FORM's CARD OF 'bootchainlaw03.MerkleBinding'. -/
def merkleBindingUptoCard : Claim7 := { stood := { row := merkleBindingUptoRow, standIns := [], harness := (true, "6fdc6ed79be099b9156f1f4cce93baaf907d702459fee70ce7e1a98ce432a385"), looks := false }, kinds := [], alts := [], laidByText := true, laidKinds := [.data, .data], laidTests := true, laidLooks := .later }
def MerkleBindingUptoCardSaid : Prop := Claim7.holds Tryd.pinned (.plain (OpenSpec.upto merkleBindingSpec)) merkleBindingUptoCard

/-- THE SECOND FORM's CARD OF 'bootchainlaw03.MerkleTampered'. -/
def merkleTamperedUptoCard : Claim7 := { stood := { row := merkleTamperedUptoRow, standIns := [], harness := (true, "6fdc6ed79be099b9156f1f4cce93baaf907d702459fee70ce7e1a98ce432a385"), looks := false }, kinds := [], alts := [], laidByText := true, laidKinds := [.data, .data], laidTests := true, laidLooks := .later }
def MerkleTamperedUptoCardSaid : Prop := Claim7.holds Tryd.pinned (.plain (OpenSpec.upto merkleTamperedSpec)) merkleTamperedUptoCard

/-- THE SECOND FORM's CARD OF 'bootchainlaw20.RegisterMatchesSpec'. -/
def registerMatchesSpecUptoCard : Claim7 := { stood := { row := registerMatchesSpecUptoRow, standIns := [], harness := (true, "6fdc6ed79be099b9156f1f4cce93baaf907d702459fee70ce7e1a98ce432a385"), looks := false }, kinds := [], alts := [], laidByText := true, laidKinds := [.data, .data], laidTests := true, laidLooks := .later }
def RegisterMatchesSpecUptoCardSaid : Prop := Claim7.holds Tryd.pinned (.plain (OpenSpec.upto registerMatchesSpecSpec)) registerMatchesSpecUptoCard

/-- THE SECOND FORM's CARD OF 'bootchainlaw20.RegisterFoldMatchesSpec'. -/
def registerFoldMatchesSpecUptoCard : Claim7 := { stood := { row := registerFoldMatchesSpecUptoRow, standIns := [], harness := (true, "6fdc6ed79be099b9156f1f4cce93baaf907d702459fee70ce7e1a98ce432a385"), looks := false }, kinds := [], alts := [], laidByText := true, laidKinds := [.data, .data], laidTests := true, laidLooks := .later }
def RegisterFoldMatchesSpecUptoCardSaid : Prop := Claim7.holds Tryd.pinned (.plain (OpenSpec.upto registerFoldMatchesSpecSpec)) registerFoldMatchesSpecUptoCard

/-- THE SECOND FORM's CARD OF 'bootchainlaw20.RegisterCodeIgnoresInputs'. -/
def registerCodeIgnoresInputsUptoCard : Claim7 := { stood := { row := registerCodeIgnoresInputsUptoRow, standIns := [], harness := (true, "6fdc6ed79be099b9156f1f4cce93baaf907d702459fee70ce7e1a98ce432a385"), looks := false }, kinds := [], alts := [], laidByText := true, laidKinds := [.data, .data], laidTests := true, laidLooks := .later }
def RegisterCodeIgnoresInputsUptoCardSaid : Prop := Claim7.holds Tryd.pinned (.plain (OpenSpec.upto registerCodeIgnoresInputsSpec)) registerCodeIgnoresInputsUptoCard

/-- THE SECOND FORM's CARD OF 'bootchainlaw20.RegisterChainsBack'. -/
def registerChainsBackUptoCard : Claim7 := { stood := { row := registerChainsBackUptoRow, standIns := [], harness := (true, "6fdc6ed79be099b9156f1f4cce93baaf907d702459fee70ce7e1a98ce432a385"), looks := false }, kinds := [], alts := [], laidByText := true, laidKinds := [.data, .data], laidTests := true, laidLooks := .later }
def RegisterChainsBackUptoCardSaid : Prop := Claim7.holds Tryd.pinned (.plain (OpenSpec.upto registerChainsBackSpec)) registerChainsBackUptoCard

/-- THE SECOND FORM's CARD OF 'bootchainlaw20.RegisterSeparatesFields'. -/
def registerSeparatesFieldsUptoCard : Claim7 := { stood := { row := registerSeparatesFieldsUptoRow, standIns := [], harness := (true, "6fdc6ed79be099b9156f1f4cce93baaf907d702459fee70ce7e1a98ce432a385"), looks := false }, kinds := [], alts := [], laidByText := true, laidKinds := [.data, .data], laidTests := true, laidLooks := .later }
def RegisterSeparatesFieldsUptoCardSaid : Prop := Claim7.holds Tryd.pinned (.plain (OpenSpec.upto registerSeparatesFieldsSpec)) registerSeparatesFieldsUptoCard

/-- THE SECOND FORM's CARD OF 'bootchainlaw20.RegisterPointsProvable'. -/
def registerPointsProvableUptoCard : Claim7 := { stood := { row := registerPointsProvableUptoRow, standIns := [], harness := (true, "6fdc6ed79be099b9156f1f4cce93baaf907d702459fee70ce7e1a98ce432a385"), looks := false }, kinds := [], alts := [], laidByText := true, laidKinds := [.data, .data], laidTests := true, laidLooks := .later }
def RegisterPointsProvableUptoCardSaid : Prop := Claim7.holds Tryd.pinned (.plain (OpenSpec.upto registerPointsProvableSpec)) registerPointsProvableUptoCard
end Rows
end Go.Proofs.YtbjfkliijhnloaaDoor
