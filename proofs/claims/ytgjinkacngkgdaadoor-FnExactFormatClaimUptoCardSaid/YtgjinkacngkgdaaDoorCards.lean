/-
  DERIVED. GIVEN WITH THE SEED: THE CARDS: each row of YtgjinkacngkgdaaDoorRows.lean that lists a variable, with what it lists TIED to the program's text (the seventh form; the later family's looks); each row that meets fmt, with fmt's text TOLD by the authors' own Lean function (tested against real Go, not proved from fmt's source: count such statements apart). THE CARD IS WHAT COUNTS. Prove the row's statement (the work); the ties are given (YtgjinkacngkgdaaDoorTie.lean); close each card by the builder's one call (the guide's Derived/Test/ToyasCard.lean, 'card_holds'). Laid BY PROGRAM, IN A SANDBOX (cutbox-door.mjs). By AI agents, Wed Nov 11 2026. No macro, syntax, notation, axiom, sorry.
-/
import Derived.Test.YtgjinkacngkgdaaDoorRows
import GoSem.ClaimSeven
namespace Go.Proofs.YtgjinkacngkgdaaDoor
namespace Rows

/-- THE TIED CARD OF 'laws.FnExactFormatClaim'. -/
def fnExactFormatClaimCard : Claim7 := { stood := { row := fnExactFormatClaimRow, standIns := [], harness := (true, "f50fa3ccfed409c60109f7af91107e23bf9f9eb44751bf4aec68e4eb1e38edee"), looks := false }, kinds := [], alts := [], laidByText := true, laidKinds := [.data, .data, .data], laidTests := true, laidLooks := .later }
def FnExactFormatClaimCardSaid : Prop := Claim7.holds Tryd.pinned (.plain (OpenSpec.ofChange fnExactFormatClaimSpec)) fnExactFormatClaimCard

/-- THE TIED CARD OF 'laws.FnExactParseEdits'. -/
def fnExactParseEditsCard : Claim7 := { stood := { row := fnExactParseEditsRow, standIns := [], harness := (true, "f50fa3ccfed409c60109f7af91107e23bf9f9eb44751bf4aec68e4eb1e38edee"), looks := false }, kinds := [], alts := [], laidByText := true, laidKinds := [.data, .data, .data, .data, .pinned], laidTests := true, laidLooks := .later }
def FnExactParseEditsCardSaid : Prop := Claim7.holds Tryd.pinned (.plain (OpenSpec.ofChange fnExactParseEditsSpec)) fnExactParseEditsCard

/-- THE SECOND FORM's CARD OF 'laws.FnExactFormatClaim'. -/
def fnExactFormatClaimUptoCard : Claim7 := { stood := { row := fnExactFormatClaimUptoRow, standIns := [], harness := (true, "f50fa3ccfed409c60109f7af91107e23bf9f9eb44751bf4aec68e4eb1e38edee"), looks := false }, kinds := [], alts := [], laidByText := true, laidKinds := [.data, .data, .data], laidTests := true, laidLooks := .later }
def FnExactFormatClaimUptoCardSaid : Prop := Claim7.holds Tryd.pinned (.plain (OpenSpec.upto fnExactFormatClaimSpec)) fnExactFormatClaimUptoCard

/-- THE SECOND FORM's CARD OF 'laws.FnExactParseEdits'. -/
def fnExactParseEditsUptoCard : Claim7 := { stood := { row := fnExactParseEditsUptoRow, standIns := [], harness := (true, "f50fa3ccfed409c60109f7af91107e23bf9f9eb44751bf4aec68e4eb1e38edee"), looks := false }, kinds := [], alts := [], laidByText := true, laidKinds := [.data, .data, .data, .data, .pinned], laidTests := true, laidLooks := .later }
def FnExactParseEditsUptoCardSaid : Prop := Claim7.holds Tryd.pinned (.plain (OpenSpec.upto fnExactParseEditsSpec)) fnExactParseEditsUptoCard
end Rows
end Go.Proofs.YtgjinkacngkgdaaDoor
