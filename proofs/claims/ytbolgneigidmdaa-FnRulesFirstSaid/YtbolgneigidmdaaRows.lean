/-
  No cell of these rows narrows 'for every input' (looked for: loops, veiled, ifaces, maps, wideKeys, modest, calm, conditions, laid).
  DERIVED. THE GIVEN ROWS OF THIS SEAT. 8 by the template 'for every input the law returns true; each argument reads behind the call as it read before'; 0 by the template 'total and deterministic' (their statements: YtbolgneigidmdaaTotals.lean).
  GIVEN WITH THE SEED: the statements are not yours to turn. If you find one false, say at which input.
  Laid BY PROGRAM, IN A SANDBOX (cutbox-rows.mjs): the forced cells as the released guide's own fill.sh prints them over the translation 903b062e026a712e… (all of the seat's roots in one cut). By AI agents, Wed Nov 11 2026. No macro, syntax, notation, axiom, sorry.
-/
import Derived.Test.YtbolgneigidmdaaChecked
import GoSem.Claim
import GoSem.ClaimJoined
import GoSem.ClaimMapViews
import Derived.JoinedTies
import Derived.KernelRfl
namespace Go.Proofs.Ytbolgneigidmdaa
/- THE CELL 'sum', in the pinned program and in every row, IS THE sha256 OF THE DUMP (.gsa) THAT YtbolgneigidmdaaProg.lean LOADS. Nothing in Lean hashes anything: it is a label: what it is worth is what the hold of that sum in a sandbox is worth. -/
noncomputable def Try.pinned : Pinned := { name := "ytbolgneigidmdaa", sum := "903b062e026a712e13e5d67ac3e44ba4ebde156ffe5fd900aeb516559664dc1b", checked := Try.checked }
namespace Rows
def none {H : Type} : Left H := { results := [], args := [] }

/-- 'laws.FnExactRulesShow': WHATEVER THE INPUT: true; the input reads as it did. -/
def fnExactRulesShowSpec : ChangeSpec := { name := "fnExactRulesShow", fn := fun _ => fun
  | [d1, d2] => { results := [.lit (.bool true)], args := [d1, d2] }
  | _ => none }
def fnExactRulesShowRow : OpenClaim := { program := "ytbolgneigidmdaa", sum := "903b062e026a712e13e5d67ac3e44ba4ebde156ffe5fd900aeb516559664dc1b", func := "loop.example/hubbub/laws.FnExactRulesShow", spec := "fnExactRulesShow", unfollowed := true, recurses := true, apart := false }
def FnExactRulesShowSaid : Prop := fnExactRulesShowRow.holds Try.pinned (OpenSpec.ofChange fnExactRulesShowSpec)

/-- ITS FALSE NEIGHBOUR: 'it returns false'. Refute it at one input. -/
def fnExactRulesShowWrong : ChangeSpec := { name := "fnExactRulesShow", fn := fun _ => fun
  | [d1, d2] => { results := [.lit (.bool false)], args := [d1, d2] }
  | _ => none }
def FnExactRulesShowWrongFalsely : Prop := fnExactRulesShowRow.holds Try.pinned (OpenSpec.ofChange fnExactRulesShowWrong)

/-- 'laws.FnExactRulesTidy': WHATEVER THE INPUT: true; the input reads as it did. -/
def fnExactRulesTidySpec : ChangeSpec := { name := "fnExactRulesTidy", fn := fun _ => fun
  | [d] => { results := [.lit (.bool true)], args := [d] }
  | _ => none }
def fnExactRulesTidyRow : OpenClaim := { program := "ytbolgneigidmdaa", sum := "903b062e026a712e13e5d67ac3e44ba4ebde156ffe5fd900aeb516559664dc1b", func := "loop.example/hubbub/laws.FnExactRulesTidy", spec := "fnExactRulesTidy", unfollowed := true, recurses := true, apart := false }
def FnExactRulesTidySaid : Prop := fnExactRulesTidyRow.holds Try.pinned (OpenSpec.ofChange fnExactRulesTidySpec)

/-- ITS FALSE NEIGHBOUR: 'it returns false'. Refute it at one input. -/
def fnExactRulesTidyWrong : ChangeSpec := { name := "fnExactRulesTidy", fn := fun _ => fun
  | [d] => { results := [.lit (.bool false)], args := [d] }
  | _ => none }
def FnExactRulesTidyWrongFalsely : Prop := fnExactRulesTidyRow.holds Try.pinned (OpenSpec.ofChange fnExactRulesTidyWrong)

/-- 'laws.FnExactRulesPut': WHATEVER THE INPUT: true; the input reads as it did. -/
def fnExactRulesPutSpec : ChangeSpec := { name := "fnExactRulesPut", fn := fun _ => fun
  | [d] => { results := [.lit (.bool true)], args := [d] }
  | _ => none }
def fnExactRulesPutRow : OpenClaim := { program := "ytbolgneigidmdaa", sum := "903b062e026a712e13e5d67ac3e44ba4ebde156ffe5fd900aeb516559664dc1b", func := "loop.example/hubbub/laws.FnExactRulesPut", spec := "fnExactRulesPut", inPlace := ["internal/abi.NoEscape", "internal/bytealg.MakeNoZero"], unfollowed := true, recurses := true, apart := false }
def FnExactRulesPutSaid : Prop := fnExactRulesPutRow.holds Try.pinned (OpenSpec.ofChange fnExactRulesPutSpec)

/-- ITS FALSE NEIGHBOUR: 'it returns false'. Refute it at one input. -/
def fnExactRulesPutWrong : ChangeSpec := { name := "fnExactRulesPut", fn := fun _ => fun
  | [d] => { results := [.lit (.bool false)], args := [d] }
  | _ => none }
def FnExactRulesPutWrongFalsely : Prop := fnExactRulesPutRow.holds Try.pinned (OpenSpec.ofChange fnExactRulesPutWrong)

/-- 'laws.FnExactRulesFilter': WHATEVER THE INPUT: true; the input reads as it did. -/
def fnExactRulesFilterSpec : ChangeSpec := { name := "fnExactRulesFilter", fn := fun _ => fun
  | [d1, d2] => { results := [.lit (.bool true)], args := [d1, d2] }
  | _ => none }
def fnExactRulesFilterRow : OpenClaim := { program := "ytbolgneigidmdaa", sum := "903b062e026a712e13e5d67ac3e44ba4ebde156ffe5fd900aeb516559664dc1b", func := "loop.example/hubbub/laws.FnExactRulesFilter", spec := "fnExactRulesFilter", unfollowed := true, recurses := true, apart := false }
def FnExactRulesFilterSaid : Prop := fnExactRulesFilterRow.holds Try.pinned (OpenSpec.ofChange fnExactRulesFilterSpec)

/-- ITS FALSE NEIGHBOUR: 'it returns false'. Refute it at one input. -/
def fnExactRulesFilterWrong : ChangeSpec := { name := "fnExactRulesFilter", fn := fun _ => fun
  | [d1, d2] => { results := [.lit (.bool false)], args := [d1, d2] }
  | _ => none }
def FnExactRulesFilterWrongFalsely : Prop := fnExactRulesFilterRow.holds Try.pinned (OpenSpec.ofChange fnExactRulesFilterWrong)

/-- 'laws.FnRulesFilter': WHATEVER THE INPUT: true; the input reads as it did. -/
def fnRulesFilterSpec : ChangeSpec := { name := "fnRulesFilter", fn := fun _ => fun
  | [d] => { results := [.lit (.bool true)], args := [d] }
  | _ => none }
def fnRulesFilterRow : OpenClaim := { program := "ytbolgneigidmdaa", sum := "903b062e026a712e13e5d67ac3e44ba4ebde156ffe5fd900aeb516559664dc1b", func := "loop.example/hubbub/laws.FnRulesFilter", spec := "fnRulesFilter", unfollowed := true, recurses := true, apart := false }
def FnRulesFilterSaid : Prop := fnRulesFilterRow.holds Try.pinned (OpenSpec.ofChange fnRulesFilterSpec)

/-- ITS FALSE NEIGHBOUR: 'it returns false'. Refute it at one input. -/
def fnRulesFilterWrong : ChangeSpec := { name := "fnRulesFilter", fn := fun _ => fun
  | [d] => { results := [.lit (.bool false)], args := [d] }
  | _ => none }
def FnRulesFilterWrongFalsely : Prop := fnRulesFilterRow.holds Try.pinned (OpenSpec.ofChange fnRulesFilterWrong)

/-- 'laws.FnRulesFirst': WHATEVER THE INPUT: true; the input reads as it did. -/
def fnRulesFirstSpec : ChangeSpec := { name := "fnRulesFirst", fn := fun _ => fun
  | [d] => { results := [.lit (.bool true)], args := [d] }
  | _ => none }
def fnRulesFirstRow : OpenClaim := { program := "ytbolgneigidmdaa", sum := "903b062e026a712e13e5d67ac3e44ba4ebde156ffe5fd900aeb516559664dc1b", func := "loop.example/hubbub/laws.FnRulesFirst", spec := "fnRulesFirst", inPlace := ["internal/abi.NoEscape", "internal/bytealg.MakeNoZero"], unfollowed := true, recurses := true, apart := false }
def FnRulesFirstSaid : Prop := fnRulesFirstRow.holds Try.pinned (OpenSpec.ofChange fnRulesFirstSpec)

/-- ITS FALSE NEIGHBOUR: 'it returns false'. Refute it at one input. -/
def fnRulesFirstWrong : ChangeSpec := { name := "fnRulesFirst", fn := fun _ => fun
  | [d] => { results := [.lit (.bool false)], args := [d] }
  | _ => none }
def FnRulesFirstWrongFalsely : Prop := fnRulesFirstRow.holds Try.pinned (OpenSpec.ofChange fnRulesFirstWrong)

/-- 'laws.FnRulesTwo': WHATEVER THE INPUT: true; the input reads as it did. -/
def fnRulesTwoSpec : ChangeSpec := { name := "fnRulesTwo", fn := fun _ => fun
  | [d1, d2] => { results := [.lit (.bool true)], args := [d1, d2] }
  | _ => none }
def fnRulesTwoRow : OpenClaim := { program := "ytbolgneigidmdaa", sum := "903b062e026a712e13e5d67ac3e44ba4ebde156ffe5fd900aeb516559664dc1b", func := "loop.example/hubbub/laws.FnRulesTwo", spec := "fnRulesTwo", inPlace := ["internal/abi.NoEscape", "internal/bytealg.MakeNoZero"], unfollowed := true, recurses := true, apart := false }
def FnRulesTwoSaid : Prop := fnRulesTwoRow.holds Try.pinned (OpenSpec.ofChange fnRulesTwoSpec)

/-- ITS FALSE NEIGHBOUR: 'it returns false'. Refute it at one input. -/
def fnRulesTwoWrong : ChangeSpec := { name := "fnRulesTwo", fn := fun _ => fun
  | [d1, d2] => { results := [.lit (.bool false)], args := [d1, d2] }
  | _ => none }
def FnRulesTwoWrongFalsely : Prop := fnRulesTwoRow.holds Try.pinned (OpenSpec.ofChange fnRulesTwoWrong)

/-- 'laws.FnRulesTidy': WHATEVER THE INPUT: true; the input reads as it did. -/
def fnRulesTidySpec : ChangeSpec := { name := "fnRulesTidy", fn := fun _ => fun
  | [d1, d2] => { results := [.lit (.bool true)], args := [d1, d2] }
  | _ => none }
def fnRulesTidyRow : OpenClaim := { program := "ytbolgneigidmdaa", sum := "903b062e026a712e13e5d67ac3e44ba4ebde156ffe5fd900aeb516559664dc1b", func := "loop.example/hubbub/laws.FnRulesTidy", spec := "fnRulesTidy", inPlace := ["internal/abi.NoEscape", "internal/bytealg.MakeNoZero"], unfollowed := true, recurses := true, apart := false }
def FnRulesTidySaid : Prop := fnRulesTidyRow.holds Try.pinned (OpenSpec.ofChange fnRulesTidySpec)

/-- ITS FALSE NEIGHBOUR: 'it returns false'. Refute it at one input. -/
def fnRulesTidyWrong : ChangeSpec := { name := "fnRulesTidy", fn := fun _ => fun
  | [d1, d2] => { results := [.lit (.bool false)], args := [d1, d2] }
  | _ => none }
def FnRulesTidyWrongFalsely : Prop := fnRulesTidyRow.holds Try.pinned (OpenSpec.ofChange fnRulesTidyWrong)

/- THE SECOND FORM. 'bulk': how many values and letters a reading holds, each counted each time it is reached (what is shared counts as often as it is met; a slice's spare places count too). A statement '..UptoSaid' is the law's where the arguments, and the package variables that the reading takes, are together of bulk at most 1048576: NARROWER than '..Said'. Prove '..Said' where nothing that the law and all that it calls make is longer than what came in: it says more and counts as full. Else prove '..UptoSaid'. A law counts once. -/
mutual
def uptoBulk {H : Type} : DataW H → Nat
  | .lit (.string bytes) => bytes.length + 1
  | .lit _ => 1
  | .nil => 1
  | .ptr d => uptoBulk d + 1
  | .slice elems spare => uptoBulkAll elems + uptoBulkAll spare + 1
  | .agg parts => uptoBulkAll parts + 1
  | .iface _ d => uptoBulk d + 1
  | .map entries => uptoBulkEntries entries + 1
  | .held _ => 1
def uptoBulkAll {H : Type} : List (DataW H) → Nat
  | [] => 0
  | d :: r => uptoBulk d + uptoBulkAll r
def uptoBulkEntries {H : Type} : List (Lit × DataW H) → Nat
  | [] => 0
  | x :: r => uptoBulkEntry x + uptoBulkEntries r
def uptoBulkEntry {H : Type} : Lit × DataW H → Nat
  | (.string bytes, d) => bytes.length + uptoBulk d + 1
  | (_, d) => uptoBulk d + 1
 end
def uptoSmall : (H : Type) → List (DataW H) → Bool := fun _ ds => decide (uptoBulkAll ds ≤ 1048576)
def OpenSpec.upto (s : _root_.Go.ChangeSpec) : _root_.Go.OpenSpec := { _root_.Go.OpenSpec.ofChange s with cond := some uptoSmall }

/-- 'laws.FnExactRulesShow', WHERE WHAT IT READS IS OF BULK AT MOST 1048576: true; the input reads as it did. -/
def fnExactRulesShowUptoRow : OpenClaim := { program := "ytbolgneigidmdaa", sum := "903b062e026a712e13e5d67ac3e44ba4ebde156ffe5fd900aeb516559664dc1b", func := "loop.example/hubbub/laws.FnExactRulesShow", spec := "fnExactRulesShow", unfollowed := true, recurses := true, apart := false, narrowed := true }
def FnExactRulesShowUptoSaid : Prop := fnExactRulesShowUptoRow.holds Try.pinned (OpenSpec.upto fnExactRulesShowSpec)

/-- 'laws.FnExactRulesTidy', WHERE WHAT IT READS IS OF BULK AT MOST 1048576: true; the input reads as it did. -/
def fnExactRulesTidyUptoRow : OpenClaim := { program := "ytbolgneigidmdaa", sum := "903b062e026a712e13e5d67ac3e44ba4ebde156ffe5fd900aeb516559664dc1b", func := "loop.example/hubbub/laws.FnExactRulesTidy", spec := "fnExactRulesTidy", unfollowed := true, recurses := true, apart := false, narrowed := true }
def FnExactRulesTidyUptoSaid : Prop := fnExactRulesTidyUptoRow.holds Try.pinned (OpenSpec.upto fnExactRulesTidySpec)

/-- 'laws.FnExactRulesPut', WHERE WHAT IT READS IS OF BULK AT MOST 1048576: true; the input reads as it did. -/
def fnExactRulesPutUptoRow : OpenClaim := { program := "ytbolgneigidmdaa", sum := "903b062e026a712e13e5d67ac3e44ba4ebde156ffe5fd900aeb516559664dc1b", func := "loop.example/hubbub/laws.FnExactRulesPut", spec := "fnExactRulesPut", inPlace := ["internal/abi.NoEscape", "internal/bytealg.MakeNoZero"], unfollowed := true, recurses := true, apart := false, narrowed := true }
def FnExactRulesPutUptoSaid : Prop := fnExactRulesPutUptoRow.holds Try.pinned (OpenSpec.upto fnExactRulesPutSpec)

/-- 'laws.FnExactRulesFilter', WHERE WHAT IT READS IS OF BULK AT MOST 1048576: true; the input reads as it did. -/
def fnExactRulesFilterUptoRow : OpenClaim := { program := "ytbolgneigidmdaa", sum := "903b062e026a712e13e5d67ac3e44ba4ebde156ffe5fd900aeb516559664dc1b", func := "loop.example/hubbub/laws.FnExactRulesFilter", spec := "fnExactRulesFilter", unfollowed := true, recurses := true, apart := false, narrowed := true }
def FnExactRulesFilterUptoSaid : Prop := fnExactRulesFilterUptoRow.holds Try.pinned (OpenSpec.upto fnExactRulesFilterSpec)

/-- 'laws.FnRulesFilter', WHERE WHAT IT READS IS OF BULK AT MOST 1048576: true; the input reads as it did. -/
def fnRulesFilterUptoRow : OpenClaim := { program := "ytbolgneigidmdaa", sum := "903b062e026a712e13e5d67ac3e44ba4ebde156ffe5fd900aeb516559664dc1b", func := "loop.example/hubbub/laws.FnRulesFilter", spec := "fnRulesFilter", unfollowed := true, recurses := true, apart := false, narrowed := true }
def FnRulesFilterUptoSaid : Prop := fnRulesFilterUptoRow.holds Try.pinned (OpenSpec.upto fnRulesFilterSpec)

/-- 'laws.FnRulesFirst', WHERE WHAT IT READS IS OF BULK AT MOST 1048576: true; the input reads as it did. -/
def fnRulesFirstUptoRow : OpenClaim := { program := "ytbolgneigidmdaa", sum := "903b062e026a712e13e5d67ac3e44ba4ebde156ffe5fd900aeb516559664dc1b", func := "loop.example/hubbub/laws.FnRulesFirst", spec := "fnRulesFirst", inPlace := ["internal/abi.NoEscape", "internal/bytealg.MakeNoZero"], unfollowed := true, recurses := true, apart := false, narrowed := true }
def FnRulesFirstUptoSaid : Prop := fnRulesFirstUptoRow.holds Try.pinned (OpenSpec.upto fnRulesFirstSpec)

/-- 'laws.FnRulesTwo', WHERE WHAT IT READS IS OF BULK AT MOST 1048576: true; the input reads as it did. -/
def fnRulesTwoUptoRow : OpenClaim := { program := "ytbolgneigidmdaa", sum := "903b062e026a712e13e5d67ac3e44ba4ebde156ffe5fd900aeb516559664dc1b", func := "loop.example/hubbub/laws.FnRulesTwo", spec := "fnRulesTwo", inPlace := ["internal/abi.NoEscape", "internal/bytealg.MakeNoZero"], unfollowed := true, recurses := true, apart := false, narrowed := true }
def FnRulesTwoUptoSaid : Prop := fnRulesTwoUptoRow.holds Try.pinned (OpenSpec.upto fnRulesTwoSpec)

/-- 'laws.FnRulesTidy', WHERE WHAT IT READS IS OF BULK AT MOST 1048576: true; the input reads as it did. -/
def fnRulesTidyUptoRow : OpenClaim := { program := "ytbolgneigidmdaa", sum := "903b062e026a712e13e5d67ac3e44ba4ebde156ffe5fd900aeb516559664dc1b", func := "loop.example/hubbub/laws.FnRulesTidy", spec := "fnRulesTidy", inPlace := ["internal/abi.NoEscape", "internal/bytealg.MakeNoZero"], unfollowed := true, recurses := true, apart := false, narrowed := true }
def FnRulesTidyUptoSaid : Prop := fnRulesTidyUptoRow.holds Try.pinned (OpenSpec.upto fnRulesTidySpec)

end Rows
end Go.Proofs.Ytbolgneigidmdaa
