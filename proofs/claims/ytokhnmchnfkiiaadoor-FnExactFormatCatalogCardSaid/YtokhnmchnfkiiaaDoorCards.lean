/-
  DERIVED. GIVEN WITH THE SEED: THE CARDS: each row of YtokhnmchnfkiiaaDoorRows.lean that lists a variable, with what it lists TIED to the program's text (the seventh form; the later family's looks); each row that meets fmt, with fmt's text TOLD by the authors' own Lean function (tested against real Go, not proved from fmt's source: count such statements apart). THE CARD IS WHAT COUNTS. Prove the row's statement (the work); the ties are given (YtokhnmchnfkiiaaDoorTie.lean); close each card by the builder's one call (the guide's Derived/Test/ToyasCard.lean, 'card_holds'). Laid BY PROGRAM, IN A SANDBOX (cutbox-door.mjs). By AI agents, Wed Nov 11 2026. No macro, syntax, notation, axiom, sorry.
-/
import Derived.Test.YtokhnmchnfkiiaaDoorRows
import GoSem.ClaimSeven
namespace Go.Proofs.YtokhnmchnfkiiaaDoor
namespace Rows

/-- THE TIED CARD OF 'laws.FnExactFormatVersion'. -/
def fnExactFormatVersionCard : Claim7 := { stood := { row := fnExactFormatVersionRow, standIns := [], harness := (true, "244ebad62b68422602c76a682faba520e6e758710c3f37cc04d1b5b7cfb6baa0"), looks := false }, kinds := [], alts := [], laidByText := true, laidKinds := [.data, .data, .data], laidTests := true, laidLooks := .later }
def FnExactFormatVersionCardSaid : Prop := Claim7.holds Tryd.pinned (.plain (OpenSpec.ofChange fnExactFormatVersionSpec)) fnExactFormatVersionCard

/-- THE TIED CARD OF 'laws.FnExactParseVersion'. -/
def fnExactParseVersionCard : Claim7 := { stood := { row := fnExactParseVersionRow, standIns := [], harness := (true, "244ebad62b68422602c76a682faba520e6e758710c3f37cc04d1b5b7cfb6baa0"), looks := false }, kinds := [], alts := [], laidByText := true, laidKinds := [.data, .pinned], laidTests := true, laidLooks := .later }
def FnExactParseVersionCardSaid : Prop := Claim7.holds Tryd.pinned (.plain (OpenSpec.ofChange fnExactParseVersionSpec)) fnExactParseVersionCard

/-- THE TIED CARD OF 'laws.FnExactFormatTerm'. -/
def fnExactFormatTermCard : Claim7 := { stood := { row := fnExactFormatTermRow, standIns := [], harness := (true, "244ebad62b68422602c76a682faba520e6e758710c3f37cc04d1b5b7cfb6baa0"), looks := false }, kinds := [], alts := [], laidByText := true, laidKinds := [.data, .data, .data], laidTests := true, laidLooks := .later }
def FnExactFormatTermCardSaid : Prop := Claim7.holds Tryd.pinned (.plain (OpenSpec.ofChange fnExactFormatTermSpec)) fnExactFormatTermCard

/-- THE TIED CARD OF 'laws.FnVersions'. -/
def fnVersionsCard : Claim7 := { stood := { row := fnVersionsRow, standIns := [], harness := (true, "244ebad62b68422602c76a682faba520e6e758710c3f37cc04d1b5b7cfb6baa0"), looks := false }, kinds := [], alts := [], laidByText := true, laidKinds := [.data, .data, .data, .data, .pinned], laidTests := true, laidLooks := .later }
def FnVersionsCardSaid : Prop := Claim7.holds Tryd.pinned (.plain (OpenSpec.ofChange fnVersionsSpec)) fnVersionsCard

/-- THE TIED CARD OF 'laws.FnExactParseTerm'. -/
def fnExactParseTermCard : Claim7 := { stood := { row := fnExactParseTermRow, standIns := [], harness := (true, "244ebad62b68422602c76a682faba520e6e758710c3f37cc04d1b5b7cfb6baa0"), looks := false }, kinds := [], alts := [], laidByText := true, laidKinds := [.data, .pinned], laidTests := true, laidLooks := .later }
def FnExactParseTermCardSaid : Prop := Claim7.holds Tryd.pinned (.plain (OpenSpec.ofChange fnExactParseTermSpec)) fnExactParseTermCard

/-- THE TIED CARD OF 'laws.FnTerms'. -/
def fnTermsCard : Claim7 := { stood := { row := fnTermsRow, standIns := [], harness := (true, "244ebad62b68422602c76a682faba520e6e758710c3f37cc04d1b5b7cfb6baa0"), looks := false }, kinds := [], alts := [], laidByText := true, laidKinds := [.data, .data, .data, .data, .pinned], laidTests := true, laidLooks := .later }
def FnTermsCardSaid : Prop := Claim7.holds Tryd.pinned (.plain (OpenSpec.ofChange fnTermsSpec)) fnTermsCard

/-- THE TIED CARD OF 'laws.FnExactFormatSet'. -/
def fnExactFormatSetCard : Claim7 := { stood := { row := fnExactFormatSetRow, standIns := [], harness := (true, "244ebad62b68422602c76a682faba520e6e758710c3f37cc04d1b5b7cfb6baa0"), looks := false }, kinds := [], alts := [], laidByText := true, laidKinds := [.data, .data, .data], laidTests := true, laidLooks := .later }
def FnExactFormatSetCardSaid : Prop := Claim7.holds Tryd.pinned (.plain (OpenSpec.ofChange fnExactFormatSetSpec)) fnExactFormatSetCard

/-- THE TIED CARD OF 'laws.FnExactFormatCatalog'. -/
def fnExactFormatCatalogCard : Claim7 := { stood := { row := fnExactFormatCatalogRow, standIns := [], harness := (true, "244ebad62b68422602c76a682faba520e6e758710c3f37cc04d1b5b7cfb6baa0"), looks := false }, kinds := [], alts := [], laidByText := true, laidKinds := [.data, .data, .data], laidTests := true, laidLooks := .later }
def FnExactFormatCatalogCardSaid : Prop := Claim7.holds Tryd.pinned (.plain (OpenSpec.ofChange fnExactFormatCatalogSpec)) fnExactFormatCatalogCard

/-- THE SECOND FORM's CARD OF 'laws.FnExactFormatVersion'. -/
def fnExactFormatVersionUptoCard : Claim7 := { stood := { row := fnExactFormatVersionUptoRow, standIns := [], harness := (true, "244ebad62b68422602c76a682faba520e6e758710c3f37cc04d1b5b7cfb6baa0"), looks := false }, kinds := [], alts := [], laidByText := true, laidKinds := [.data, .data, .data], laidTests := true, laidLooks := .later }
def FnExactFormatVersionUptoCardSaid : Prop := Claim7.holds Tryd.pinned (.plain (OpenSpec.upto fnExactFormatVersionSpec)) fnExactFormatVersionUptoCard

/-- THE SECOND FORM's CARD OF 'laws.FnExactParseVersion'. -/
def fnExactParseVersionUptoCard : Claim7 := { stood := { row := fnExactParseVersionUptoRow, standIns := [], harness := (true, "244ebad62b68422602c76a682faba520e6e758710c3f37cc04d1b5b7cfb6baa0"), looks := false }, kinds := [], alts := [], laidByText := true, laidKinds := [.data, .pinned], laidTests := true, laidLooks := .later }
def FnExactParseVersionUptoCardSaid : Prop := Claim7.holds Tryd.pinned (.plain (OpenSpec.upto fnExactParseVersionSpec)) fnExactParseVersionUptoCard

/-- THE SECOND FORM's CARD OF 'laws.FnExactFormatTerm'. -/
def fnExactFormatTermUptoCard : Claim7 := { stood := { row := fnExactFormatTermUptoRow, standIns := [], harness := (true, "244ebad62b68422602c76a682faba520e6e758710c3f37cc04d1b5b7cfb6baa0"), looks := false }, kinds := [], alts := [], laidByText := true, laidKinds := [.data, .data, .data], laidTests := true, laidLooks := .later }
def FnExactFormatTermUptoCardSaid : Prop := Claim7.holds Tryd.pinned (.plain (OpenSpec.upto fnExactFormatTermSpec)) fnExactFormatTermUptoCard

/-- THE SECOND FORM's CARD OF 'laws.FnVersions'. -/
def fnVersionsUptoCard : Claim7 := { stood := { row := fnVersionsUptoRow, standIns := [], harness := (true, "244ebad62b68422602c76a682faba520e6e758710c3f37cc04d1b5b7cfb6baa0"), looks := false }, kinds := [], alts := [], laidByText := true, laidKinds := [.data, .data, .data, .data, .pinned], laidTests := true, laidLooks := .later }
def FnVersionsUptoCardSaid : Prop := Claim7.holds Tryd.pinned (.plain (OpenSpec.upto fnVersionsSpec)) fnVersionsUptoCard

/-- THE SECOND FORM's CARD OF 'laws.FnExactParseTerm'. -/
def fnExactParseTermUptoCard : Claim7 := { stood := { row := fnExactParseTermUptoRow, standIns := [], harness := (true, "244ebad62b68422602c76a682faba520e6e758710c3f37cc04d1b5b7cfb6baa0"), looks := false }, kinds := [], alts := [], laidByText := true, laidKinds := [.data, .pinned], laidTests := true, laidLooks := .later }
def FnExactParseTermUptoCardSaid : Prop := Claim7.holds Tryd.pinned (.plain (OpenSpec.upto fnExactParseTermSpec)) fnExactParseTermUptoCard

/-- THE SECOND FORM's CARD OF 'laws.FnTerms'. -/
def fnTermsUptoCard : Claim7 := { stood := { row := fnTermsUptoRow, standIns := [], harness := (true, "244ebad62b68422602c76a682faba520e6e758710c3f37cc04d1b5b7cfb6baa0"), looks := false }, kinds := [], alts := [], laidByText := true, laidKinds := [.data, .data, .data, .data, .pinned], laidTests := true, laidLooks := .later }
def FnTermsUptoCardSaid : Prop := Claim7.holds Tryd.pinned (.plain (OpenSpec.upto fnTermsSpec)) fnTermsUptoCard

/-- THE SECOND FORM's CARD OF 'laws.FnExactFormatSet'. -/
def fnExactFormatSetUptoCard : Claim7 := { stood := { row := fnExactFormatSetUptoRow, standIns := [], harness := (true, "244ebad62b68422602c76a682faba520e6e758710c3f37cc04d1b5b7cfb6baa0"), looks := false }, kinds := [], alts := [], laidByText := true, laidKinds := [.data, .data, .data], laidTests := true, laidLooks := .later }
def FnExactFormatSetUptoCardSaid : Prop := Claim7.holds Tryd.pinned (.plain (OpenSpec.upto fnExactFormatSetSpec)) fnExactFormatSetUptoCard

/-- THE SECOND FORM's CARD OF 'laws.FnExactFormatCatalog'. -/
def fnExactFormatCatalogUptoCard : Claim7 := { stood := { row := fnExactFormatCatalogUptoRow, standIns := [], harness := (true, "244ebad62b68422602c76a682faba520e6e758710c3f37cc04d1b5b7cfb6baa0"), looks := false }, kinds := [], alts := [], laidByText := true, laidKinds := [.data, .data, .data], laidTests := true, laidLooks := .later }
def FnExactFormatCatalogUptoCardSaid : Prop := Claim7.holds Tryd.pinned (.plain (OpenSpec.upto fnExactFormatCatalogSpec)) fnExactFormatCatalogUptoCard
end Rows
end Go.Proofs.YtokhnmchnfkiiaaDoor
