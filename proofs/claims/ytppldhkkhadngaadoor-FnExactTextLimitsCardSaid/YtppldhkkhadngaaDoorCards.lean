/-
  DERIVED. GIVEN WITH THE SEED: THE CARDS: each row of YtppldhkkhadngaaDoorRows.lean that lists a variable, with what it lists TIED to the program's text (the seventh form; the later family's looks); each row that meets fmt, with fmt's text TOLD by the authors' own Lean function (tested against real Go, not proved from fmt's source: count such statements apart). THE CARD IS WHAT COUNTS. Prove the row's statement (the work); the ties are given (YtppldhkkhadngaaDoorTie.lean); close each card by the builder's one call (the guide's Derived/Test/ToyasCard.lean, 'card_holds'). Laid BY PROGRAM, IN A SANDBOX (cutbox-door.mjs). By AI agents, Wed Nov 11 2026. No macro, syntax, notation, axiom, sorry.
-/
import Derived.Test.YtppldhkkhadngaaDoorRows
import GoSem.ClaimSeven
namespace Go.Proofs.YtppldhkkhadngaaDoor
namespace Rows

/-- THE TIED CARD OF 'laws.FnExactLimitsText'. -/
def fnExactLimitsTextCard : Claim7 := { stood := { row := fnExactLimitsTextRow, standIns := [], harness := (true, "7ef32c873614b6a5dd27c572baf9875d2dfdfb4a8b71a29815c86d1040135908"), looks := true }, kinds := [], alts := [], laidByText := true, laidKinds := [.data, .data, .data], laidTests := true, laidLooks := .later }
def FnExactLimitsTextCardSaid : Prop := Claim7.holds Tryd.pinned (.plain (OpenSpec.ofChange fnExactLimitsTextSpec)) fnExactLimitsTextCard

/-- THE TIED CARD OF 'laws.FnExactCut'. -/
def fnExactCutCard : Claim7 := { stood := { row := fnExactCutRow, standIns := [], harness := (true, "7ef32c873614b6a5dd27c572baf9875d2dfdfb4a8b71a29815c86d1040135908"), looks := true }, kinds := [], alts := [], laidByText := true, laidKinds := [.data, .pinned], laidTests := true, laidLooks := .later }
def FnExactCutCardSaid : Prop := Claim7.holds Tryd.pinned (.plain (OpenSpec.ofChange fnExactCutSpec)) fnExactCutCard

/-- THE TIED CARD OF 'laws.FnExactLines'. -/
def fnExactLinesCard : Claim7 := { stood := { row := fnExactLinesRow, standIns := [], harness := (true, "7ef32c873614b6a5dd27c572baf9875d2dfdfb4a8b71a29815c86d1040135908"), looks := true }, kinds := [], alts := [], laidByText := true, laidKinds := [.data, .pinned], laidTests := true, laidLooks := .later }
def FnExactLinesCardSaid : Prop := Claim7.holds Tryd.pinned (.plain (OpenSpec.ofChange fnExactLinesSpec)) fnExactLinesCard

/-- THE TIED CARD OF 'laws.FnExactTextLimits'. -/
def fnExactTextLimitsCard : Claim7 := { stood := { row := fnExactTextLimitsRow, standIns := [], harness := (true, "7ef32c873614b6a5dd27c572baf9875d2dfdfb4a8b71a29815c86d1040135908"), looks := true }, kinds := [], alts := [], laidByText := true, laidKinds := [.data, .data, .data, .data, .sentinel, .sentinel, .pinned], laidTests := true, laidLooks := .later }
def FnExactTextLimitsCardSaid : Prop := Claim7.holds Tryd.pinned (.plain (OpenSpec.ofChange fnExactTextLimitsSpec)) fnExactTextLimitsCard

/-- THE SECOND FORM's CARD OF 'laws.FnExactLimitsText'. -/
def fnExactLimitsTextUptoCard : Claim7 := { stood := { row := fnExactLimitsTextUptoRow, standIns := [], harness := (true, "7ef32c873614b6a5dd27c572baf9875d2dfdfb4a8b71a29815c86d1040135908"), looks := true }, kinds := [], alts := [], laidByText := true, laidKinds := [.data, .data, .data], laidTests := true, laidLooks := .later }
def FnExactLimitsTextUptoCardSaid : Prop := Claim7.holds Tryd.pinned (.plain (OpenSpec.upto fnExactLimitsTextSpec)) fnExactLimitsTextUptoCard

/-- THE SECOND FORM's CARD OF 'laws.FnExactCut'. -/
def fnExactCutUptoCard : Claim7 := { stood := { row := fnExactCutUptoRow, standIns := [], harness := (true, "7ef32c873614b6a5dd27c572baf9875d2dfdfb4a8b71a29815c86d1040135908"), looks := true }, kinds := [], alts := [], laidByText := true, laidKinds := [.data, .pinned], laidTests := true, laidLooks := .later }
def FnExactCutUptoCardSaid : Prop := Claim7.holds Tryd.pinned (.plain (OpenSpec.upto fnExactCutSpec)) fnExactCutUptoCard

/-- THE SECOND FORM's CARD OF 'laws.FnExactLines'. -/
def fnExactLinesUptoCard : Claim7 := { stood := { row := fnExactLinesUptoRow, standIns := [], harness := (true, "7ef32c873614b6a5dd27c572baf9875d2dfdfb4a8b71a29815c86d1040135908"), looks := true }, kinds := [], alts := [], laidByText := true, laidKinds := [.data, .pinned], laidTests := true, laidLooks := .later }
def FnExactLinesUptoCardSaid : Prop := Claim7.holds Tryd.pinned (.plain (OpenSpec.upto fnExactLinesSpec)) fnExactLinesUptoCard

/-- THE SECOND FORM's CARD OF 'laws.FnExactTextLimits'. -/
def fnExactTextLimitsUptoCard : Claim7 := { stood := { row := fnExactTextLimitsUptoRow, standIns := [], harness := (true, "7ef32c873614b6a5dd27c572baf9875d2dfdfb4a8b71a29815c86d1040135908"), looks := true }, kinds := [], alts := [], laidByText := true, laidKinds := [.data, .data, .data, .data, .sentinel, .sentinel, .pinned], laidTests := true, laidLooks := .later }
def FnExactTextLimitsUptoCardSaid : Prop := Claim7.holds Tryd.pinned (.plain (OpenSpec.upto fnExactTextLimitsSpec)) fnExactTextLimitsUptoCard
end Rows
end Go.Proofs.YtppldhkkhadngaaDoor
