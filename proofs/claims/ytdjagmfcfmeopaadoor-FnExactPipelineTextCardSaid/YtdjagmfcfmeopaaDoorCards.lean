/-
  DERIVED. GIVEN WITH THE SEED: THE CARDS: each row of YtdjagmfcfmeopaaDoorRows.lean that lists a variable, with what it lists TIED to the program's text (the seventh form; the later family's looks); each row that meets fmt, with fmt's text TOLD by the authors' own Lean function (tested against real Go, not proved from fmt's source: count such statements apart). THE CARD IS WHAT COUNTS. Prove the row's statement (the work); the ties are given (YtdjagmfcfmeopaaDoorTie.lean); close each card by the builder's one call (the guide's Derived/Test/ToyasCard.lean, 'card_holds'). Laid BY PROGRAM, IN A SANDBOX (cutbox-door.mjs). By AI agents, Wed Nov 11 2026. No macro, syntax, notation, axiom, sorry.
-/
import Derived.Test.YtdjagmfcfmeopaaDoorRows
import GoSem.ClaimSeven
namespace Go.Proofs.YtdjagmfcfmeopaaDoor
namespace Rows

/-- THE TIED CARD OF 'laws.FnExactPipelineText'. -/
def fnExactPipelineTextCard : Claim7 := { stood := { row := fnExactPipelineTextRow, standIns := [], harness := (true, "d7b750c1edf94ae7c21fd90e42705eae3fb5eb645c95d9a4aa4ebd3402fbdd4b"), looks := false }, kinds := [], alts := [], laidByText := true, laidKinds := [.data, .data, .data, .widerDeep, .widerDeep], laidTests := true, laidLooks := .later }
def FnExactPipelineTextCardSaid : Prop := Claim7.holds Tryd.pinned (.plain (OpenSpec.ofChange fnExactPipelineTextSpec)) fnExactPipelineTextCard

/-- THE TIED CARD OF 'laws.FnExactInGeoref'. -/
def fnExactInGeorefCard : Claim7 := { stood := { row := fnExactInGeorefRow, standIns := [], harness := (true, "d7b750c1edf94ae7c21fd90e42705eae3fb5eb645c95d9a4aa4ebd3402fbdd4b"), looks := false }, kinds := [], alts := [], laidByText := true, laidKinds := [.data, .data, .data, .data, .pinned], laidTests := true, laidLooks := .later }
def FnExactInGeorefCardSaid : Prop := Claim7.holds Tryd.pinned (.plain (OpenSpec.ofChange fnExactInGeorefSpec)) fnExactInGeorefCard

/-- THE TIED CARD OF 'laws.FnExactGeorefBox'. -/
def fnExactGeorefBoxCard : Claim7 := { stood := { row := fnExactGeorefBoxRow, standIns := [], harness := (true, "d7b750c1edf94ae7c21fd90e42705eae3fb5eb645c95d9a4aa4ebd3402fbdd4b"), looks := false }, kinds := [], alts := [], laidByText := true, laidKinds := [.data, .data, .data, .data, .pinned], laidTests := true, laidLooks := .later }
def FnExactGeorefBoxCardSaid : Prop := Claim7.holds Tryd.pinned (.plain (OpenSpec.ofChange fnExactGeorefBoxSpec)) fnExactGeorefBoxCard

/-- THE TIED CARD OF 'laws.FnReferences'. -/
def fnReferencesCard : Claim7 := { stood := { row := fnReferencesRow, standIns := [], harness := (true, "d7b750c1edf94ae7c21fd90e42705eae3fb5eb645c95d9a4aa4ebd3402fbdd4b"), looks := false }, kinds := [], alts := [], laidByText := true, laidKinds := [.data, .data, .data, .data, .pinned], laidTests := true, laidLooks := .later }
def FnReferencesCardSaid : Prop := Claim7.holds Tryd.pinned (.plain (OpenSpec.ofChange fnReferencesSpec)) fnReferencesCard

/-- THE TIED CARD OF 'laws.FnExactReadRing'. -/
def fnExactReadRingCard : Claim7 := { stood := { row := fnExactReadRingRow, standIns := [], harness := (true, "d7b750c1edf94ae7c21fd90e42705eae3fb5eb645c95d9a4aa4ebd3402fbdd4b"), looks := false }, kinds := [], alts := [], laidByText := true, laidKinds := [.data, .data, .data, .data, .pinned], laidTests := true, laidLooks := .later }
def FnExactReadRingCardSaid : Prop := Claim7.holds Tryd.pinned (.plain (OpenSpec.ofChange fnExactReadRingSpec)) fnExactReadRingCard

/-- THE SECOND FORM's CARD OF 'laws.FnExactPipelineText'. -/
def fnExactPipelineTextUptoCard : Claim7 := { stood := { row := fnExactPipelineTextUptoRow, standIns := [], harness := (true, "d7b750c1edf94ae7c21fd90e42705eae3fb5eb645c95d9a4aa4ebd3402fbdd4b"), looks := false }, kinds := [], alts := [], laidByText := true, laidKinds := [.data, .data, .data, .widerDeep, .widerDeep], laidTests := true, laidLooks := .later }
def FnExactPipelineTextUptoCardSaid : Prop := Claim7.holds Tryd.pinned (.plain (OpenSpec.upto fnExactPipelineTextSpec)) fnExactPipelineTextUptoCard

/-- THE SECOND FORM's CARD OF 'laws.FnExactInGeoref'. -/
def fnExactInGeorefUptoCard : Claim7 := { stood := { row := fnExactInGeorefUptoRow, standIns := [], harness := (true, "d7b750c1edf94ae7c21fd90e42705eae3fb5eb645c95d9a4aa4ebd3402fbdd4b"), looks := false }, kinds := [], alts := [], laidByText := true, laidKinds := [.data, .data, .data, .data, .pinned], laidTests := true, laidLooks := .later }
def FnExactInGeorefUptoCardSaid : Prop := Claim7.holds Tryd.pinned (.plain (OpenSpec.upto fnExactInGeorefSpec)) fnExactInGeorefUptoCard

/-- THE SECOND FORM's CARD OF 'laws.FnExactGeorefBox'. -/
def fnExactGeorefBoxUptoCard : Claim7 := { stood := { row := fnExactGeorefBoxUptoRow, standIns := [], harness := (true, "d7b750c1edf94ae7c21fd90e42705eae3fb5eb645c95d9a4aa4ebd3402fbdd4b"), looks := false }, kinds := [], alts := [], laidByText := true, laidKinds := [.data, .data, .data, .data, .pinned], laidTests := true, laidLooks := .later }
def FnExactGeorefBoxUptoCardSaid : Prop := Claim7.holds Tryd.pinned (.plain (OpenSpec.upto fnExactGeorefBoxSpec)) fnExactGeorefBoxUptoCard

/-- THE SECOND FORM's CARD OF 'laws.FnReferences'. -/
def fnReferencesUptoCard : Claim7 := { stood := { row := fnReferencesUptoRow, standIns := [], harness := (true, "d7b750c1edf94ae7c21fd90e42705eae3fb5eb645c95d9a4aa4ebd3402fbdd4b"), looks := false }, kinds := [], alts := [], laidByText := true, laidKinds := [.data, .data, .data, .data, .pinned], laidTests := true, laidLooks := .later }
def FnReferencesUptoCardSaid : Prop := Claim7.holds Tryd.pinned (.plain (OpenSpec.upto fnReferencesSpec)) fnReferencesUptoCard

/-- THE SECOND FORM's CARD OF 'laws.FnExactReadRing'. -/
def fnExactReadRingUptoCard : Claim7 := { stood := { row := fnExactReadRingUptoRow, standIns := [], harness := (true, "d7b750c1edf94ae7c21fd90e42705eae3fb5eb645c95d9a4aa4ebd3402fbdd4b"), looks := false }, kinds := [], alts := [], laidByText := true, laidKinds := [.data, .data, .data, .data, .pinned], laidTests := true, laidLooks := .later }
def FnExactReadRingUptoCardSaid : Prop := Claim7.holds Tryd.pinned (.plain (OpenSpec.upto fnExactReadRingSpec)) fnExactReadRingUptoCard
end Rows
end Go.Proofs.YtdjagmfcfmeopaaDoor
