/-
  DERIVED. GIVEN WITH THE SEED: THE CARDS: each row of YtfpojoabfdiadaaDoorRows.lean that lists a variable, with what it lists TIED to the program's text (the seventh form; the later family's looks); each row that meets fmt, with fmt's text TOLD by the authors' own Lean function (tested against real Go, not proved from fmt's source: count such statements apart). THE CARD IS WHAT COUNTS. Prove the row's statement (the work); the ties are given (YtfpojoabfdiadaaDoorTie.lean); close each card by the builder's one call (the guide's Derived/Test/ToyasCard.lean, 'card_holds'). Laid BY PROGRAM, IN A SANDBOX (cutbox-door.mjs). By AI agents, Wed Nov 11 2026. No macro, syntax, notation, axiom, sorry.
-/
import Derived.Test.YtfpojoabfdiadaaDoorRows
import GoSem.ClaimSeven
namespace Go.Proofs.YtfpojoabfdiadaaDoor
namespace Rows

/-- THE TIED CARD OF 'laws.FnExactFormatNetwork'. -/
def fnExactFormatNetworkCard : Claim7 := { stood := { row := fnExactFormatNetworkRow, standIns := [], harness := (true, "c706ebc5deb4d0ce0ef118e259525ca38f1a654a644f2f08385a7ddc78b144fb"), looks := true }, kinds := [], alts := [], laidByText := true, laidKinds := [.data, .data, .data], laidTests := true, laidLooks := .later }
def FnExactFormatNetworkCardSaid : Prop := Claim7.holds Tryd.pinned (.plain (OpenSpec.ofChange fnExactFormatNetworkSpec)) fnExactFormatNetworkCard

/-- THE TIED CARD OF 'laws.FnExactParseNetwork'. -/
def fnExactParseNetworkCard : Claim7 := { stood := { row := fnExactParseNetworkRow, standIns := [], harness := (true, "c706ebc5deb4d0ce0ef118e259525ca38f1a654a644f2f08385a7ddc78b144fb"), looks := true }, kinds := [], alts := [], laidByText := true, laidKinds := [.data, .data, .data, .data, .sentinel, .sentinel, .pinned], laidTests := true, laidLooks := .later }
def FnExactParseNetworkCardSaid : Prop := Claim7.holds Tryd.pinned (.plain (OpenSpec.ofChange fnExactParseNetworkSpec)) fnExactParseNetworkCard

/-- THE TIED CARD OF 'laws.FnNetworkText'. -/
def fnNetworkTextCard : Claim7 := { stood := { row := fnNetworkTextRow, standIns := [], harness := (true, "c706ebc5deb4d0ce0ef118e259525ca38f1a654a644f2f08385a7ddc78b144fb"), looks := true }, kinds := [], alts := [], laidByText := true, laidKinds := [.data, .data, .data, .data, .sentinel, .sentinel, .pinned], laidTests := true, laidLooks := .later }
def FnNetworkTextCardSaid : Prop := Claim7.holds Tryd.pinned (.plain (OpenSpec.ofChange fnNetworkTextSpec)) fnNetworkTextCard

/-- THE SECOND FORM's CARD OF 'laws.FnExactFormatNetwork'. -/
def fnExactFormatNetworkUptoCard : Claim7 := { stood := { row := fnExactFormatNetworkUptoRow, standIns := [], harness := (true, "c706ebc5deb4d0ce0ef118e259525ca38f1a654a644f2f08385a7ddc78b144fb"), looks := true }, kinds := [], alts := [], laidByText := true, laidKinds := [.data, .data, .data], laidTests := true, laidLooks := .later }
def FnExactFormatNetworkUptoCardSaid : Prop := Claim7.holds Tryd.pinned (.plain (OpenSpec.upto fnExactFormatNetworkSpec)) fnExactFormatNetworkUptoCard

/-- THE SECOND FORM's CARD OF 'laws.FnExactParseNetwork'. -/
def fnExactParseNetworkUptoCard : Claim7 := { stood := { row := fnExactParseNetworkUptoRow, standIns := [], harness := (true, "c706ebc5deb4d0ce0ef118e259525ca38f1a654a644f2f08385a7ddc78b144fb"), looks := true }, kinds := [], alts := [], laidByText := true, laidKinds := [.data, .data, .data, .data, .sentinel, .sentinel, .pinned], laidTests := true, laidLooks := .later }
def FnExactParseNetworkUptoCardSaid : Prop := Claim7.holds Tryd.pinned (.plain (OpenSpec.upto fnExactParseNetworkSpec)) fnExactParseNetworkUptoCard

/-- THE SECOND FORM's CARD OF 'laws.FnNetworkText'. -/
def fnNetworkTextUptoCard : Claim7 := { stood := { row := fnNetworkTextUptoRow, standIns := [], harness := (true, "c706ebc5deb4d0ce0ef118e259525ca38f1a654a644f2f08385a7ddc78b144fb"), looks := true }, kinds := [], alts := [], laidByText := true, laidKinds := [.data, .data, .data, .data, .sentinel, .sentinel, .pinned], laidTests := true, laidLooks := .later }
def FnNetworkTextUptoCardSaid : Prop := Claim7.holds Tryd.pinned (.plain (OpenSpec.upto fnNetworkTextSpec)) fnNetworkTextUptoCard
end Rows
end Go.Proofs.YtfpojoabfdiadaaDoor
