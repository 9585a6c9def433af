/-
  DERIVED. GIVEN WITH THE SEED: THE CARDS: each row of YtelmilgdoefmdaaDoorRows.lean that lists a variable, with what it lists TIED to the program's text (the seventh form; the later family's looks); each row that meets fmt, with fmt's text TOLD by the authors' own Lean function (tested against real Go, not proved from fmt's source: count such statements apart). THE CARD IS WHAT COUNTS. Prove the row's statement (the work); the ties are given (YtelmilgdoefmdaaDoorTie.lean); close each card by the builder's one call (the guide's Derived/Test/ToyasCard.lean, 'card_holds'). Laid BY PROGRAM, IN A SANDBOX (cutbox-door.mjs). By AI agents, Wed Nov 11 2026. No macro, syntax, notation, axiom, sorry.
-/
import Derived.Test.YtelmilgdoefmdaaDoorRows
import GoSem.ClaimSeven
namespace Go.Proofs.YtelmilgdoefmdaaDoor
namespace Rows

/-- THE TIED CARD OF 'laws.FnExactFormatInt'. -/
def fnExactFormatIntCard : Claim7 := { stood := { row := fnExactFormatIntRow, standIns := [], harness := (true, "bd04e64c8a52c7c3dc1873e6824175a1873fe03d99e56845607a7ef0a31bcf1e"), looks := true }, kinds := [], alts := [], laidByText := true, laidKinds := [.data, .data, .data], laidTests := true, laidLooks := .later }
def FnExactFormatIntCardSaid : Prop := Claim7.holds Tryd.pinned (.plain (OpenSpec.ofChange fnExactFormatIntSpec)) fnExactFormatIntCard

/-- THE TIED CARD OF 'laws.FnHexText'. -/
def fnHexTextCard : Claim7 := { stood := { row := fnHexTextRow, standIns := [], harness := (true, "bd04e64c8a52c7c3dc1873e6824175a1873fe03d99e56845607a7ef0a31bcf1e"), looks := true }, kinds := [], alts := [], laidByText := true, laidKinds := [.data, .data, .data], laidTests := true, laidLooks := .later }
def FnHexTextCardSaid : Prop := Claim7.holds Tryd.pinned (.plain (OpenSpec.ofChange fnHexTextSpec)) fnHexTextCard

/-- THE TIED CARD OF 'laws.FnFieldsAgain'. -/
def fnFieldsAgainCard : Claim7 := { stood := { row := fnFieldsAgainRow, standIns := [], harness := (true, "bd04e64c8a52c7c3dc1873e6824175a1873fe03d99e56845607a7ef0a31bcf1e"), looks := true }, kinds := [], alts := [], laidByText := true, laidKinds := [.data, .data, .data], laidTests := true, laidLooks := .later }
def FnFieldsAgainCardSaid : Prop := Claim7.holds Tryd.pinned (.plain (OpenSpec.ofChange fnFieldsAgainSpec)) fnFieldsAgainCard

/-- THE TIED CARD OF 'laws.FnExactParseUint'. -/
def fnExactParseUintCard : Claim7 := { stood := { row := fnExactParseUintRow, standIns := [], harness := (true, "bd04e64c8a52c7c3dc1873e6824175a1873fe03d99e56845607a7ef0a31bcf1e"), looks := true }, kinds := [], alts := [], laidByText := true, laidKinds := [.data, .data, .data, .sentinel, .sentinel], laidTests := true, laidLooks := .later }
def FnExactParseUintCardSaid : Prop := Claim7.holds Tryd.pinned (.plain (OpenSpec.ofChange fnExactParseUintSpec)) fnExactParseUintCard

/-- THE TIED CARD OF 'laws.FnNumbers'. -/
def fnNumbersCard : Claim7 := { stood := { row := fnNumbersRow, standIns := [], harness := (true, "bd04e64c8a52c7c3dc1873e6824175a1873fe03d99e56845607a7ef0a31bcf1e"), looks := true }, kinds := [], alts := [], laidByText := true, laidKinds := [.data, .data, .data, .sentinel, .sentinel], laidTests := true, laidLooks := .later }
def FnNumbersCardSaid : Prop := Claim7.holds Tryd.pinned (.plain (OpenSpec.ofChange fnNumbersSpec)) fnNumbersCard

/-- THE SECOND FORM's CARD OF 'laws.FnExactFormatInt'. -/
def fnExactFormatIntUptoCard : Claim7 := { stood := { row := fnExactFormatIntUptoRow, standIns := [], harness := (true, "bd04e64c8a52c7c3dc1873e6824175a1873fe03d99e56845607a7ef0a31bcf1e"), looks := true }, kinds := [], alts := [], laidByText := true, laidKinds := [.data, .data, .data], laidTests := true, laidLooks := .later }
def FnExactFormatIntUptoCardSaid : Prop := Claim7.holds Tryd.pinned (.plain (OpenSpec.upto fnExactFormatIntSpec)) fnExactFormatIntUptoCard

/-- THE SECOND FORM's CARD OF 'laws.FnHexText'. -/
def fnHexTextUptoCard : Claim7 := { stood := { row := fnHexTextUptoRow, standIns := [], harness := (true, "bd04e64c8a52c7c3dc1873e6824175a1873fe03d99e56845607a7ef0a31bcf1e"), looks := true }, kinds := [], alts := [], laidByText := true, laidKinds := [.data, .data, .data], laidTests := true, laidLooks := .later }
def FnHexTextUptoCardSaid : Prop := Claim7.holds Tryd.pinned (.plain (OpenSpec.upto fnHexTextSpec)) fnHexTextUptoCard

/-- THE SECOND FORM's CARD OF 'laws.FnFieldsAgain'. -/
def fnFieldsAgainUptoCard : Claim7 := { stood := { row := fnFieldsAgainUptoRow, standIns := [], harness := (true, "bd04e64c8a52c7c3dc1873e6824175a1873fe03d99e56845607a7ef0a31bcf1e"), looks := true }, kinds := [], alts := [], laidByText := true, laidKinds := [.data, .data, .data], laidTests := true, laidLooks := .later }
def FnFieldsAgainUptoCardSaid : Prop := Claim7.holds Tryd.pinned (.plain (OpenSpec.upto fnFieldsAgainSpec)) fnFieldsAgainUptoCard

/-- THE SECOND FORM's CARD OF 'laws.FnExactParseUint'. -/
def fnExactParseUintUptoCard : Claim7 := { stood := { row := fnExactParseUintUptoRow, standIns := [], harness := (true, "bd04e64c8a52c7c3dc1873e6824175a1873fe03d99e56845607a7ef0a31bcf1e"), looks := true }, kinds := [], alts := [], laidByText := true, laidKinds := [.data, .data, .data, .sentinel, .sentinel], laidTests := true, laidLooks := .later }
def FnExactParseUintUptoCardSaid : Prop := Claim7.holds Tryd.pinned (.plain (OpenSpec.upto fnExactParseUintSpec)) fnExactParseUintUptoCard

/-- THE SECOND FORM's CARD OF 'laws.FnNumbers'. -/
def fnNumbersUptoCard : Claim7 := { stood := { row := fnNumbersUptoRow, standIns := [], harness := (true, "bd04e64c8a52c7c3dc1873e6824175a1873fe03d99e56845607a7ef0a31bcf1e"), looks := true }, kinds := [], alts := [], laidByText := true, laidKinds := [.data, .data, .data, .sentinel, .sentinel], laidTests := true, laidLooks := .later }
def FnNumbersUptoCardSaid : Prop := Claim7.holds Tryd.pinned (.plain (OpenSpec.upto fnNumbersSpec)) fnNumbersUptoCard
end Rows
end Go.Proofs.YtelmilgdoefmdaaDoor
