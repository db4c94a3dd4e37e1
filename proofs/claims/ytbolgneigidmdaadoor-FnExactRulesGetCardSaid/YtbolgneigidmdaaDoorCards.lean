/-
  DERIVED. GIVEN WITH THE SEED: THE CARDS: each row of YtbolgneigidmdaaDoorRows.lean that lists a variable, with what it lists TIED to the program's text (the seventh form; the later family's looks); each row that meets fmt, with fmt's text TOLD by the authors' own Lean function (tested against real Go, not proved from fmt's source: count such statements apart). THE CARD IS WHAT COUNTS. Prove the row's statement (the work); the ties are given (YtbolgneigidmdaaDoorTie.lean); close each card by the builder's one call (the guide's Derived/Test/ToyasCard.lean, 'card_holds'). Laid BY PROGRAM, IN A SANDBOX (cutbox-door.mjs). By AI agents, Wed Nov 11 2026. No macro, syntax, notation, axiom, sorry.
-/
import Derived.Test.YtbolgneigidmdaaDoorRows
import GoSem.ClaimSeven
namespace Go.Proofs.YtbolgneigidmdaaDoor
namespace Rows

/-- THE TIED CARD OF 'laws.FnRulesPut'. -/
def fnRulesPutCard : Claim7 := { stood := { row := fnRulesPutRow, standIns := [], harness := (true, "c59a63e93f3b855ac1cfbe140407fc023f31fd7516974d44bb04ed5e8fad7d53"), looks := false }, kinds := [], alts := [], laidByText := true, laidKinds := [.data, .pinned], laidTests := true, laidLooks := .later }
def FnRulesPutCardSaid : Prop := Claim7.holds Tryd.pinned (.plain (OpenSpec.ofChange fnRulesPutSpec)) fnRulesPutCard

/-- THE TIED CARD OF 'laws.FnExactRulesGet'. -/
def fnExactRulesGetCard : Claim7 := { stood := { row := fnExactRulesGetRow, standIns := [], harness := (true, "c59a63e93f3b855ac1cfbe140407fc023f31fd7516974d44bb04ed5e8fad7d53"), looks := false }, kinds := [], alts := [], laidByText := true, laidKinds := [.data, .pinned], laidTests := true, laidLooks := .later }
def FnExactRulesGetCardSaid : Prop := Claim7.holds Tryd.pinned (.plain (OpenSpec.ofChange fnExactRulesGetSpec)) fnExactRulesGetCard

/-- THE TIED CARD OF 'laws.FnRulesGet'. -/
def fnRulesGetCard : Claim7 := { stood := { row := fnRulesGetRow, standIns := [], harness := (true, "c59a63e93f3b855ac1cfbe140407fc023f31fd7516974d44bb04ed5e8fad7d53"), looks := false }, kinds := [], alts := [], laidByText := true, laidKinds := [.data, .pinned], laidTests := true, laidLooks := .later }
def FnRulesGetCardSaid : Prop := Claim7.holds Tryd.pinned (.plain (OpenSpec.ofChange fnRulesGetSpec)) fnRulesGetCard

/-- THE SECOND FORM's CARD OF 'laws.FnRulesPut'. -/
def fnRulesPutUptoCard : Claim7 := { stood := { row := fnRulesPutUptoRow, standIns := [], harness := (true, "c59a63e93f3b855ac1cfbe140407fc023f31fd7516974d44bb04ed5e8fad7d53"), looks := false }, kinds := [], alts := [], laidByText := true, laidKinds := [.data, .pinned], laidTests := true, laidLooks := .later }
def FnRulesPutUptoCardSaid : Prop := Claim7.holds Tryd.pinned (.plain (OpenSpec.upto fnRulesPutSpec)) fnRulesPutUptoCard

/-- THE SECOND FORM's CARD OF 'laws.FnExactRulesGet'. -/
def fnExactRulesGetUptoCard : Claim7 := { stood := { row := fnExactRulesGetUptoRow, standIns := [], harness := (true, "c59a63e93f3b855ac1cfbe140407fc023f31fd7516974d44bb04ed5e8fad7d53"), looks := false }, kinds := [], alts := [], laidByText := true, laidKinds := [.data, .pinned], laidTests := true, laidLooks := .later }
def FnExactRulesGetUptoCardSaid : Prop := Claim7.holds Tryd.pinned (.plain (OpenSpec.upto fnExactRulesGetSpec)) fnExactRulesGetUptoCard

/-- THE SECOND FORM's CARD OF 'laws.FnRulesGet'. -/
def fnRulesGetUptoCard : Claim7 := { stood := { row := fnRulesGetUptoRow, standIns := [], harness := (true, "c59a63e93f3b855ac1cfbe140407fc023f31fd7516974d44bb04ed5e8fad7d53"), looks := false }, kinds := [], alts := [], laidByText := true, laidKinds := [.data, .pinned], laidTests := true, laidLooks := .later }
def FnRulesGetUptoCardSaid : Prop := Claim7.holds Tryd.pinned (.plain (OpenSpec.upto fnRulesGetSpec)) fnRulesGetUptoCard
end Rows
end Go.Proofs.YtbolgneigidmdaaDoor
