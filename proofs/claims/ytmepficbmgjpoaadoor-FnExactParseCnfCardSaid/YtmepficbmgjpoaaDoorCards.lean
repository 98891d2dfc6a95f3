/-
  DERIVED. GIVEN WITH THE SEED: THE CARDS: each row of YtmepficbmgjpoaaDoorRows.lean that lists a variable, with what it lists TIED to the program's text (the seventh form; the later family's looks); each row that meets fmt, with fmt's text TOLD by the authors' own Lean function (tested against real Go, not proved from fmt's source: count such statements apart). THE CARD IS WHAT COUNTS. Prove the row's statement (the work); the ties are given (YtmepficbmgjpoaaDoorTie.lean); close each card by the builder's one call (the guide's Derived/Test/ToyasCard.lean, 'card_holds'). Laid BY PROGRAM, IN A SANDBOX (cutbox-door.mjs). By AI agents, Wed Nov 11 2026. No macro, syntax, notation, axiom, sorry.
-/
import Derived.Test.YtmepficbmgjpoaaDoorRows
import GoSem.ClaimSeven
namespace Go.Proofs.YtmepficbmgjpoaaDoor
namespace Rows

/-- THE TIED CARD OF 'laws.FnExactFormatInt'. -/
def fnExactFormatIntCard : Claim7 := { stood := { row := fnExactFormatIntRow, standIns := [], harness := (true, "166c570570996fc05e909bfbe51560be40e6d7cbf32a89fd7a755bb92784b3ed"), looks := true }, kinds := [], alts := [], laidByText := true, laidKinds := [.data, .data, .data], laidTests := true, laidLooks := .later }
def FnExactFormatIntCardSaid : Prop := Claim7.holds Tryd.pinned (.plain (OpenSpec.ofChange fnExactFormatIntSpec)) fnExactFormatIntCard

/-- THE TIED CARD OF 'laws.FnExactParseInt'. -/
def fnExactParseIntCard : Claim7 := { stood := { row := fnExactParseIntRow, standIns := [], harness := (true, "166c570570996fc05e909bfbe51560be40e6d7cbf32a89fd7a755bb92784b3ed"), looks := true }, kinds := [], alts := [], laidByText := true, laidKinds := [.data, .data, .data, .sentinel, .sentinel], laidTests := true, laidLooks := .later }
def FnExactParseIntCardSaid : Prop := Claim7.holds Tryd.pinned (.plain (OpenSpec.ofChange fnExactParseIntSpec)) fnExactParseIntCard

/-- THE TIED CARD OF 'laws.FnExactSplitString'. -/
def fnExactSplitStringCard : Claim7 := { stood := { row := fnExactSplitStringRow, standIns := [], harness := (true, "166c570570996fc05e909bfbe51560be40e6d7cbf32a89fd7a755bb92784b3ed"), looks := true }, kinds := [], alts := [], laidByText := true, laidKinds := [.data, .pinned], laidTests := true, laidLooks := .later }
def FnExactSplitStringCardSaid : Prop := Claim7.holds Tryd.pinned (.plain (OpenSpec.ofChange fnExactSplitStringSpec)) fnExactSplitStringCard

/-- THE TIED CARD OF 'laws.FnExactAppendChecksum'. -/
def fnExactAppendChecksumCard : Claim7 := { stood := { row := fnExactAppendChecksumRow, standIns := [], harness := (true, "166c570570996fc05e909bfbe51560be40e6d7cbf32a89fd7a755bb92784b3ed"), looks := true }, kinds := [], alts := [], laidByText := true, laidKinds := [.data, .data, .data], laidTests := true, laidLooks := .later }
def FnExactAppendChecksumCardSaid : Prop := Claim7.holds Tryd.pinned (.plain (OpenSpec.ofChange fnExactAppendChecksumSpec)) fnExactAppendChecksumCard

/-- THE TIED CARD OF 'laws.FnExactVerifyChecksum'. -/
def fnExactVerifyChecksumCard : Claim7 := { stood := { row := fnExactVerifyChecksumRow, standIns := [], harness := (true, "166c570570996fc05e909bfbe51560be40e6d7cbf32a89fd7a755bb92784b3ed"), looks := true }, kinds := [], alts := [], laidByText := true, laidKinds := [.data, .data, .data], laidTests := true, laidLooks := .later }
def FnExactVerifyChecksumCardSaid : Prop := Claim7.holds Tryd.pinned (.plain (OpenSpec.ofChange fnExactVerifyChecksumSpec)) fnExactVerifyChecksumCard

/-- THE TIED CARD OF 'laws.FnExactClauseText'. -/
def fnExactClauseTextCard : Claim7 := { stood := { row := fnExactClauseTextRow, standIns := [], harness := (true, "166c570570996fc05e909bfbe51560be40e6d7cbf32a89fd7a755bb92784b3ed"), looks := true }, kinds := [], alts := [], laidByText := true, laidKinds := [.data, .data, .data], laidTests := true, laidLooks := .later }
def FnExactClauseTextCardSaid : Prop := Claim7.holds Tryd.pinned (.plain (OpenSpec.ofChange fnExactClauseTextSpec)) fnExactClauseTextCard

/-- THE TIED CARD OF 'laws.FnExactParseClause'. -/
def fnExactParseClauseCard : Claim7 := { stood := { row := fnExactParseClauseRow, standIns := [], harness := (true, "166c570570996fc05e909bfbe51560be40e6d7cbf32a89fd7a755bb92784b3ed"), looks := true }, kinds := [], alts := [], laidByText := true, laidKinds := [.data, .data, .data, .data, .sentinel, .sentinel, .pinned], laidTests := true, laidLooks := .later }
def FnExactParseClauseCardSaid : Prop := Claim7.holds Tryd.pinned (.plain (OpenSpec.ofChange fnExactParseClauseSpec)) fnExactParseClauseCard

/-- THE TIED CARD OF 'laws.FnExactCnfText'. -/
def fnExactCnfTextCard : Claim7 := { stood := { row := fnExactCnfTextRow, standIns := [], harness := (true, "166c570570996fc05e909bfbe51560be40e6d7cbf32a89fd7a755bb92784b3ed"), looks := true }, kinds := [], alts := [], laidByText := true, laidKinds := [.data, .data, .data], laidTests := true, laidLooks := .later }
def FnExactCnfTextCardSaid : Prop := Claim7.holds Tryd.pinned (.plain (OpenSpec.ofChange fnExactCnfTextSpec)) fnExactCnfTextCard

/-- THE TIED CARD OF 'laws.FnExactParseCnf'. -/
def fnExactParseCnfCard : Claim7 := { stood := { row := fnExactParseCnfRow, standIns := [], harness := (true, "166c570570996fc05e909bfbe51560be40e6d7cbf32a89fd7a755bb92784b3ed"), looks := true }, kinds := [], alts := [], laidByText := true, laidKinds := [.data, .data, .data, .data, .sentinel, .sentinel, .pinned], laidTests := true, laidLooks := .later }
def FnExactParseCnfCardSaid : Prop := Claim7.holds Tryd.pinned (.plain (OpenSpec.ofChange fnExactParseCnfSpec)) fnExactParseCnfCard

/-- THE SECOND FORM's CARD OF 'laws.FnExactFormatInt'. -/
def fnExactFormatIntUptoCard : Claim7 := { stood := { row := fnExactFormatIntUptoRow, standIns := [], harness := (true, "166c570570996fc05e909bfbe51560be40e6d7cbf32a89fd7a755bb92784b3ed"), looks := true }, kinds := [], alts := [], laidByText := true, laidKinds := [.data, .data, .data], laidTests := true, laidLooks := .later }
def FnExactFormatIntUptoCardSaid : Prop := Claim7.holds Tryd.pinned (.plain (OpenSpec.upto fnExactFormatIntSpec)) fnExactFormatIntUptoCard

/-- THE SECOND FORM's CARD OF 'laws.FnExactParseInt'. -/
def fnExactParseIntUptoCard : Claim7 := { stood := { row := fnExactParseIntUptoRow, standIns := [], harness := (true, "166c570570996fc05e909bfbe51560be40e6d7cbf32a89fd7a755bb92784b3ed"), looks := true }, kinds := [], alts := [], laidByText := true, laidKinds := [.data, .data, .data, .sentinel, .sentinel], laidTests := true, laidLooks := .later }
def FnExactParseIntUptoCardSaid : Prop := Claim7.holds Tryd.pinned (.plain (OpenSpec.upto fnExactParseIntSpec)) fnExactParseIntUptoCard

/-- THE SECOND FORM's CARD OF 'laws.FnExactSplitString'. -/
def fnExactSplitStringUptoCard : Claim7 := { stood := { row := fnExactSplitStringUptoRow, standIns := [], harness := (true, "166c570570996fc05e909bfbe51560be40e6d7cbf32a89fd7a755bb92784b3ed"), looks := true }, kinds := [], alts := [], laidByText := true, laidKinds := [.data, .pinned], laidTests := true, laidLooks := .later }
def FnExactSplitStringUptoCardSaid : Prop := Claim7.holds Tryd.pinned (.plain (OpenSpec.upto fnExactSplitStringSpec)) fnExactSplitStringUptoCard

/-- THE SECOND FORM's CARD OF 'laws.FnExactAppendChecksum'. -/
def fnExactAppendChecksumUptoCard : Claim7 := { stood := { row := fnExactAppendChecksumUptoRow, standIns := [], harness := (true, "166c570570996fc05e909bfbe51560be40e6d7cbf32a89fd7a755bb92784b3ed"), looks := true }, kinds := [], alts := [], laidByText := true, laidKinds := [.data, .data, .data], laidTests := true, laidLooks := .later }
def FnExactAppendChecksumUptoCardSaid : Prop := Claim7.holds Tryd.pinned (.plain (OpenSpec.upto fnExactAppendChecksumSpec)) fnExactAppendChecksumUptoCard

/-- THE SECOND FORM's CARD OF 'laws.FnExactVerifyChecksum'. -/
def fnExactVerifyChecksumUptoCard : Claim7 := { stood := { row := fnExactVerifyChecksumUptoRow, standIns := [], harness := (true, "166c570570996fc05e909bfbe51560be40e6d7cbf32a89fd7a755bb92784b3ed"), looks := true }, kinds := [], alts := [], laidByText := true, laidKinds := [.data, .data, .data], laidTests := true, laidLooks := .later }
def FnExactVerifyChecksumUptoCardSaid : Prop := Claim7.holds Tryd.pinned (.plain (OpenSpec.upto fnExactVerifyChecksumSpec)) fnExactVerifyChecksumUptoCard

/-- THE SECOND FORM's CARD OF 'laws.FnExactClauseText'. -/
def fnExactClauseTextUptoCard : Claim7 := { stood := { row := fnExactClauseTextUptoRow, standIns := [], harness := (true, "166c570570996fc05e909bfbe51560be40e6d7cbf32a89fd7a755bb92784b3ed"), looks := true }, kinds := [], alts := [], laidByText := true, laidKinds := [.data, .data, .data], laidTests := true, laidLooks := .later }
def FnExactClauseTextUptoCardSaid : Prop := Claim7.holds Tryd.pinned (.plain (OpenSpec.upto fnExactClauseTextSpec)) fnExactClauseTextUptoCard

/-- THE SECOND FORM's CARD OF 'laws.FnExactParseClause'. -/
def fnExactParseClauseUptoCard : Claim7 := { stood := { row := fnExactParseClauseUptoRow, standIns := [], harness := (true, "166c570570996fc05e909bfbe51560be40e6d7cbf32a89fd7a755bb92784b3ed"), looks := true }, kinds := [], alts := [], laidByText := true, laidKinds := [.data, .data, .data, .data, .sentinel, .sentinel, .pinned], laidTests := true, laidLooks := .later }
def FnExactParseClauseUptoCardSaid : Prop := Claim7.holds Tryd.pinned (.plain (OpenSpec.upto fnExactParseClauseSpec)) fnExactParseClauseUptoCard

/-- THE SECOND FORM's CARD OF 'laws.FnExactCnfText'. -/
def fnExactCnfTextUptoCard : Claim7 := { stood := { row := fnExactCnfTextUptoRow, standIns := [], harness := (true, "166c570570996fc05e909bfbe51560be40e6d7cbf32a89fd7a755bb92784b3ed"), looks := true }, kinds := [], alts := [], laidByText := true, laidKinds := [.data, .data, .data], laidTests := true, laidLooks := .later }
def FnExactCnfTextUptoCardSaid : Prop := Claim7.holds Tryd.pinned (.plain (OpenSpec.upto fnExactCnfTextSpec)) fnExactCnfTextUptoCard

/-- THE SECOND FORM's CARD OF 'laws.FnExactParseCnf'. -/
def fnExactParseCnfUptoCard : Claim7 := { stood := { row := fnExactParseCnfUptoRow, standIns := [], harness := (true, "166c570570996fc05e909bfbe51560be40e6d7cbf32a89fd7a755bb92784b3ed"), looks := true }, kinds := [], alts := [], laidByText := true, laidKinds := [.data, .data, .data, .data, .sentinel, .sentinel, .pinned], laidTests := true, laidLooks := .later }
def FnExactParseCnfUptoCardSaid : Prop := Claim7.holds Tryd.pinned (.plain (OpenSpec.upto fnExactParseCnfSpec)) fnExactParseCnfUptoCard
end Rows
end Go.Proofs.YtmepficbmgjpoaaDoor
