/-
  No cell of these rows narrows 'for every input' (looked for: loops, veiled, ifaces, maps, wideKeys, modest, calm, conditions, laid).
  DERIVED. THE GIVEN ROWS OF THIS SEAT. 10 by the template 'for every input the law returns true; each argument reads behind the call as it read before'; 0 by the template 'total and deterministic' (their statements: YtdhogmkdmbfijaaTotals.lean).
  GIVEN WITH THE SEED: the statements are not yours to turn. If you find one false, say at which input.
  Laid BY PROGRAM, IN A SANDBOX (cutbox-rows.mjs): the forced cells as the released guide's own fill.sh prints them over the translation 4f0e0c36935261c7… (all of the seat's roots in one cut). By AI agents, Wed Nov 11 2026. No macro, syntax, notation, axiom, sorry.
-/
import Derived.Test.YtdhogmkdmbfijaaChecked
import GoSem.Claim
import GoSem.ClaimJoined
import GoSem.ClaimMapViews
import Derived.JoinedTies
import Derived.KernelRfl
namespace Go.Proofs.Ytdhogmkdmbfijaa
/- THE CELL 'sum', in the pinned program and in every row, IS THE sha256 OF THE DUMP (.gsa) THAT YtdhogmkdmbfijaaProg.lean LOADS. Nothing in Lean hashes anything: it is a label: what it is worth is what the hold of that sum in a sandbox is worth. -/
noncomputable def Try.pinned : Pinned := { name := "ytdhogmkdmbfijaa", sum := "4f0e0c36935261c75ccf49c761ff2460bde11e6d29c4fcc154de12b18e87e4d8", checked := Try.checked }
namespace Rows
def none {H : Type} : Left H := { results := [], args := [] }

/-- 'laws.FnExactWordsOf': WHATEVER THE INPUT: true; the input reads as it did. -/
def fnExactWordsOfSpec : ChangeSpec := { name := "fnExactWordsOf", fn := fun _ => fun
  | [d] => { results := [.lit (.bool true)], args := [d] }
  | _ => none }
def fnExactWordsOfRow : OpenClaim := { program := "ytdhogmkdmbfijaa", sum := "4f0e0c36935261c75ccf49c761ff2460bde11e6d29c4fcc154de12b18e87e4d8", func := "loop.example/hubbub/laws.FnExactWordsOf", spec := "fnExactWordsOf", apart := false }
def FnExactWordsOfSaid : Prop := fnExactWordsOfRow.holds Try.pinned (OpenSpec.ofChange fnExactWordsOfSpec)

/-- ITS FALSE NEIGHBOUR: 'it returns false'. Refute it at one input. -/
def fnExactWordsOfWrong : ChangeSpec := { name := "fnExactWordsOf", fn := fun _ => fun
  | [d] => { results := [.lit (.bool false)], args := [d] }
  | _ => none }
def FnExactWordsOfWrongFalsely : Prop := fnExactWordsOfRow.holds Try.pinned (OpenSpec.ofChange fnExactWordsOfWrong)

/-- 'laws.FnWords': WHATEVER THE INPUT: true; the input reads as it did. -/
def fnWordsSpec : ChangeSpec := { name := "fnWords", fn := fun _ => fun
  | [d1, d2] => { results := [.lit (.bool true)], args := [d1, d2] }
  | _ => none }
def fnWordsRow : OpenClaim := { program := "ytdhogmkdmbfijaa", sum := "4f0e0c36935261c75ccf49c761ff2460bde11e6d29c4fcc154de12b18e87e4d8", func := "loop.example/hubbub/laws.FnWords", spec := "fnWords", apart := false }
def FnWordsSaid : Prop := fnWordsRow.holds Try.pinned (OpenSpec.ofChange fnWordsSpec)

/-- ITS FALSE NEIGHBOUR: 'it returns false'. Refute it at one input. -/
def fnWordsWrong : ChangeSpec := { name := "fnWords", fn := fun _ => fun
  | [d1, d2] => { results := [.lit (.bool false)], args := [d1, d2] }
  | _ => none }
def FnWordsWrongFalsely : Prop := fnWordsRow.holds Try.pinned (OpenSpec.ofChange fnWordsWrong)

/-- 'laws.FnExactPathOk': WHATEVER THE INPUT: true; the input reads as it did. -/
def fnExactPathOkSpec : ChangeSpec := { name := "fnExactPathOk", fn := fun _ => fun
  | [d] => { results := [.lit (.bool true)], args := [d] }
  | _ => none }
def fnExactPathOkRow : OpenClaim := { program := "ytdhogmkdmbfijaa", sum := "4f0e0c36935261c75ccf49c761ff2460bde11e6d29c4fcc154de12b18e87e4d8", func := "loop.example/hubbub/laws.FnExactPathOk", spec := "fnExactPathOk", unfollowed := true, recurses := true, apart := false }
def FnExactPathOkSaid : Prop := fnExactPathOkRow.holds Try.pinned (OpenSpec.ofChange fnExactPathOkSpec)

/-- ITS FALSE NEIGHBOUR: 'it returns false'. Refute it at one input. -/
def fnExactPathOkWrong : ChangeSpec := { name := "fnExactPathOk", fn := fun _ => fun
  | [d] => { results := [.lit (.bool false)], args := [d] }
  | _ => none }
def FnExactPathOkWrongFalsely : Prop := fnExactPathOkRow.holds Try.pinned (OpenSpec.ofChange fnExactPathOkWrong)

/-- 'laws.FnExactPathPut': WHATEVER THE INPUT: true; the input reads as it did. -/
def fnExactPathPutSpec : ChangeSpec := { name := "fnExactPathPut", fn := fun _ => fun
  | [d] => { results := [.lit (.bool true)], args := [d] }
  | _ => none }
def fnExactPathPutRow : OpenClaim := { program := "ytdhogmkdmbfijaa", sum := "4f0e0c36935261c75ccf49c761ff2460bde11e6d29c4fcc154de12b18e87e4d8", func := "loop.example/hubbub/laws.FnExactPathPut", spec := "fnExactPathPut", inPlace := ["internal/abi.NoEscape"], unfollowed := true, recurses := true, apart := false }
def FnExactPathPutSaid : Prop := fnExactPathPutRow.holds Try.pinned (OpenSpec.ofChange fnExactPathPutSpec)

/-- ITS FALSE NEIGHBOUR: 'it returns false'. Refute it at one input. -/
def fnExactPathPutWrong : ChangeSpec := { name := "fnExactPathPut", fn := fun _ => fun
  | [d] => { results := [.lit (.bool false)], args := [d] }
  | _ => none }
def FnExactPathPutWrongFalsely : Prop := fnExactPathPutRow.holds Try.pinned (OpenSpec.ofChange fnExactPathPutWrong)

/-- 'laws.FnSeekNow': WHATEVER THE INPUT: true; the input reads as it did. -/
def fnSeekNowSpec : ChangeSpec := { name := "fnSeekNow", fn := fun _ => fun
  | [d] => { results := [.lit (.bool true)], args := [d] }
  | _ => none }
def fnSeekNowRow : OpenClaim := { program := "ytdhogmkdmbfijaa", sum := "4f0e0c36935261c75ccf49c761ff2460bde11e6d29c4fcc154de12b18e87e4d8", func := "loop.example/hubbub/laws.FnSeekNow", spec := "fnSeekNow", apart := false }
def FnSeekNowSaid : Prop := fnSeekNowRow.holds Try.pinned (OpenSpec.ofChange fnSeekNowSpec)

/-- ITS FALSE NEIGHBOUR: 'it returns false'. Refute it at one input. -/
def fnSeekNowWrong : ChangeSpec := { name := "fnSeekNow", fn := fun _ => fun
  | [d] => { results := [.lit (.bool false)], args := [d] }
  | _ => none }
def FnSeekNowWrongFalsely : Prop := fnSeekNowRow.holds Try.pinned (OpenSpec.ofChange fnSeekNowWrong)

/-- 'laws.FnPathPut': WHATEVER THE INPUT: true; the input reads as it did. -/
def fnPathPutSpec : ChangeSpec := { name := "fnPathPut", fn := fun _ => fun
  | [d] => { results := [.lit (.bool true)], args := [d] }
  | _ => none }
def fnPathPutRow : OpenClaim := { program := "ytdhogmkdmbfijaa", sum := "4f0e0c36935261c75ccf49c761ff2460bde11e6d29c4fcc154de12b18e87e4d8", func := "loop.example/hubbub/laws.FnPathPut", spec := "fnPathPut", inPlace := ["internal/abi.NoEscape", "internal/bytealg.IndexByteString", "internal/bytealg.IndexString"], unfollowed := true, recurses := true, named := ["internal/bytealg.MaxLen"], apart := false }
def FnPathPutSaid : Prop := fnPathPutRow.holds Try.pinned (OpenSpec.ofChange fnPathPutSpec)

/-- ITS FALSE NEIGHBOUR: 'it returns false'. Refute it at one input. -/
def fnPathPutWrong : ChangeSpec := { name := "fnPathPut", fn := fun _ => fun
  | [d] => { results := [.lit (.bool false)], args := [d] }
  | _ => none }
def FnPathPutWrongFalsely : Prop := fnPathPutRow.holds Try.pinned (OpenSpec.ofChange fnPathPutWrong)

/-- 'laws.FnSeek': WHATEVER THE INPUT: true; the input reads as it did. -/
def fnSeekSpec : ChangeSpec := { name := "fnSeek", fn := fun _ => fun
  | [d] => { results := [.lit (.bool true)], args := [d] }
  | _ => none }
def fnSeekRow : OpenClaim := { program := "ytdhogmkdmbfijaa", sum := "4f0e0c36935261c75ccf49c761ff2460bde11e6d29c4fcc154de12b18e87e4d8", func := "loop.example/hubbub/laws.FnSeek", spec := "fnSeek", unfollowed := true, recurses := true, apart := false }
def FnSeekSaid : Prop := fnSeekRow.holds Try.pinned (OpenSpec.ofChange fnSeekSpec)

/-- ITS FALSE NEIGHBOUR: 'it returns false'. Refute it at one input. -/
def fnSeekWrong : ChangeSpec := { name := "fnSeek", fn := fun _ => fun
  | [d] => { results := [.lit (.bool false)], args := [d] }
  | _ => none }
def FnSeekWrongFalsely : Prop := fnSeekRow.holds Try.pinned (OpenSpec.ofChange fnSeekWrong)

/-- 'laws.FnPathGet': WHATEVER THE INPUT: true; the input reads as it did. -/
def fnPathGetSpec : ChangeSpec := { name := "fnPathGet", fn := fun _ => fun
  | [d] => { results := [.lit (.bool true)], args := [d] }
  | _ => none }
def fnPathGetRow : OpenClaim := { program := "ytdhogmkdmbfijaa", sum := "4f0e0c36935261c75ccf49c761ff2460bde11e6d29c4fcc154de12b18e87e4d8", func := "loop.example/hubbub/laws.FnPathGet", spec := "fnPathGet", inPlace := ["internal/bytealg.IndexByteString", "internal/bytealg.IndexString", "internal/abi.NoEscape"], unfollowed := true, recurses := true, named := ["internal/bytealg.MaxLen"], apart := false }
def FnPathGetSaid : Prop := fnPathGetRow.holds Try.pinned (OpenSpec.ofChange fnPathGetSpec)

/-- ITS FALSE NEIGHBOUR: 'it returns false'. Refute it at one input. -/
def fnPathGetWrong : ChangeSpec := { name := "fnPathGet", fn := fun _ => fun
  | [d] => { results := [.lit (.bool false)], args := [d] }
  | _ => none }
def FnPathGetWrongFalsely : Prop := fnPathGetRow.holds Try.pinned (OpenSpec.ofChange fnPathGetWrong)

/-- 'laws.FnExactPathGet': WHATEVER THE INPUT: true; the input reads as it did. -/
def fnExactPathGetSpec : ChangeSpec := { name := "fnExactPathGet", fn := fun _ => fun
  | [d] => { results := [.lit (.bool true)], args := [d] }
  | _ => none }
def fnExactPathGetRow : OpenClaim := { program := "ytdhogmkdmbfijaa", sum := "4f0e0c36935261c75ccf49c761ff2460bde11e6d29c4fcc154de12b18e87e4d8", func := "loop.example/hubbub/laws.FnExactPathGet", spec := "fnExactPathGet", inPlace := ["internal/bytealg.IndexByteString", "internal/bytealg.IndexString", "internal/abi.NoEscape"], unfollowed := true, recurses := true, named := ["internal/bytealg.MaxLen"], apart := false }
def FnExactPathGetSaid : Prop := fnExactPathGetRow.holds Try.pinned (OpenSpec.ofChange fnExactPathGetSpec)

/-- ITS FALSE NEIGHBOUR: 'it returns false'. Refute it at one input. -/
def fnExactPathGetWrong : ChangeSpec := { name := "fnExactPathGet", fn := fun _ => fun
  | [d] => { results := [.lit (.bool false)], args := [d] }
  | _ => none }
def FnExactPathGetWrongFalsely : Prop := fnExactPathGetRow.holds Try.pinned (OpenSpec.ofChange fnExactPathGetWrong)

/-- 'laws.FnSeekIndex': WHATEVER THE INPUT: true; the input reads as it did. -/
def fnSeekIndexSpec : ChangeSpec := { name := "fnSeekIndex", fn := fun _ => fun
  | [d] => { results := [.lit (.bool true)], args := [d] }
  | _ => none }
def fnSeekIndexRow : OpenClaim := { program := "ytdhogmkdmbfijaa", sum := "4f0e0c36935261c75ccf49c761ff2460bde11e6d29c4fcc154de12b18e87e4d8", func := "loop.example/hubbub/laws.FnSeekIndex", spec := "fnSeekIndex", unfollowed := true, recurses := true, apart := false }
def FnSeekIndexSaid : Prop := fnSeekIndexRow.holds Try.pinned (OpenSpec.ofChange fnSeekIndexSpec)

/-- ITS FALSE NEIGHBOUR: 'it returns false'. Refute it at one input. -/
def fnSeekIndexWrong : ChangeSpec := { name := "fnSeekIndex", fn := fun _ => fun
  | [d] => { results := [.lit (.bool false)], args := [d] }
  | _ => none }
def FnSeekIndexWrongFalsely : Prop := fnSeekIndexRow.holds Try.pinned (OpenSpec.ofChange fnSeekIndexWrong)

/- THE SECOND FORM. 'bulk': how many values and letters a reading holds, each counted each time it is reached (what is shared counts as often as it is met; a slice's spare places count too). A statement '..UptoSaid' is the law's where the arguments, and the package variables that the reading takes, are together of bulk at most 1048576: NARROWER than '..Said'. Prove '..Said' where nothing that the law and all that it calls make is longer than what came in: it says more and counts as full. Else prove '..UptoSaid'. A law counts once. -/
mutual
def uptoBulk {H : Type} : DataW H → Nat
  | .lit (.string bytes) => bytes.length + 1
  | .lit _ => 1
  | .nil => 1
  | .ptr d => uptoBulk d + 1
  | .slice elems spare => uptoBulkAll elems + uptoBulkAll spare + 1
  | .agg parts => uptoBulkAll parts + 1
  | .iface _ d => uptoBulk d + 1
  | .map entries => uptoBulkEntries entries + 1
  | .held _ => 1
def uptoBulkAll {H : Type} : List (DataW H) → Nat
  | [] => 0
  | d :: r => uptoBulk d + uptoBulkAll r
def uptoBulkEntries {H : Type} : List (Lit × DataW H) → Nat
  | [] => 0
  | x :: r => uptoBulkEntry x + uptoBulkEntries r
def uptoBulkEntry {H : Type} : Lit × DataW H → Nat
  | (.string bytes, d) => bytes.length + uptoBulk d + 1
  | (_, d) => uptoBulk d + 1
 end
def uptoSmall : (H : Type) → List (DataW H) → Bool := fun _ ds => decide (uptoBulkAll ds ≤ 1048576)
def OpenSpec.upto (s : _root_.Go.ChangeSpec) : _root_.Go.OpenSpec := { _root_.Go.OpenSpec.ofChange s with cond := some uptoSmall }

/-- 'laws.FnExactWordsOf', WHERE WHAT IT READS IS OF BULK AT MOST 1048576: true; the input reads as it did. -/
def fnExactWordsOfUptoRow : OpenClaim := { program := "ytdhogmkdmbfijaa", sum := "4f0e0c36935261c75ccf49c761ff2460bde11e6d29c4fcc154de12b18e87e4d8", func := "loop.example/hubbub/laws.FnExactWordsOf", spec := "fnExactWordsOf", apart := false, narrowed := true }
def FnExactWordsOfUptoSaid : Prop := fnExactWordsOfUptoRow.holds Try.pinned (OpenSpec.upto fnExactWordsOfSpec)

/-- 'laws.FnWords', WHERE WHAT IT READS IS OF BULK AT MOST 1048576: true; the input reads as it did. -/
def fnWordsUptoRow : OpenClaim := { program := "ytdhogmkdmbfijaa", sum := "4f0e0c36935261c75ccf49c761ff2460bde11e6d29c4fcc154de12b18e87e4d8", func := "loop.example/hubbub/laws.FnWords", spec := "fnWords", apart := false, narrowed := true }
def FnWordsUptoSaid : Prop := fnWordsUptoRow.holds Try.pinned (OpenSpec.upto fnWordsSpec)

/-- 'laws.FnExactPathOk', WHERE WHAT IT READS IS OF BULK AT MOST 1048576: true; the input reads as it did. -/
def fnExactPathOkUptoRow : OpenClaim := { program := "ytdhogmkdmbfijaa", sum := "4f0e0c36935261c75ccf49c761ff2460bde11e6d29c4fcc154de12b18e87e4d8", func := "loop.example/hubbub/laws.FnExactPathOk", spec := "fnExactPathOk", unfollowed := true, recurses := true, apart := false, narrowed := true }
def FnExactPathOkUptoSaid : Prop := fnExactPathOkUptoRow.holds Try.pinned (OpenSpec.upto fnExactPathOkSpec)

/-- 'laws.FnExactPathPut', WHERE WHAT IT READS IS OF BULK AT MOST 1048576: true; the input reads as it did. -/
def fnExactPathPutUptoRow : OpenClaim := { program := "ytdhogmkdmbfijaa", sum := "4f0e0c36935261c75ccf49c761ff2460bde11e6d29c4fcc154de12b18e87e4d8", func := "loop.example/hubbub/laws.FnExactPathPut", spec := "fnExactPathPut", inPlace := ["internal/abi.NoEscape"], unfollowed := true, recurses := true, apart := false, narrowed := true }
def FnExactPathPutUptoSaid : Prop := fnExactPathPutUptoRow.holds Try.pinned (OpenSpec.upto fnExactPathPutSpec)

/-- 'laws.FnSeekNow', WHERE WHAT IT READS IS OF BULK AT MOST 1048576: true; the input reads as it did. -/
def fnSeekNowUptoRow : OpenClaim := { program := "ytdhogmkdmbfijaa", sum := "4f0e0c36935261c75ccf49c761ff2460bde11e6d29c4fcc154de12b18e87e4d8", func := "loop.example/hubbub/laws.FnSeekNow", spec := "fnSeekNow", apart := false, narrowed := true }
def FnSeekNowUptoSaid : Prop := fnSeekNowUptoRow.holds Try.pinned (OpenSpec.upto fnSeekNowSpec)

/-- 'laws.FnPathPut', WHERE WHAT IT READS IS OF BULK AT MOST 1048576: true; the input reads as it did. -/
def fnPathPutUptoRow : OpenClaim := { program := "ytdhogmkdmbfijaa", sum := "4f0e0c36935261c75ccf49c761ff2460bde11e6d29c4fcc154de12b18e87e4d8", func := "loop.example/hubbub/laws.FnPathPut", spec := "fnPathPut", inPlace := ["internal/abi.NoEscape", "internal/bytealg.IndexByteString", "internal/bytealg.IndexString"], unfollowed := true, recurses := true, named := ["internal/bytealg.MaxLen"], apart := false, narrowed := true }
def FnPathPutUptoSaid : Prop := fnPathPutUptoRow.holds Try.pinned (OpenSpec.upto fnPathPutSpec)

/-- 'laws.FnSeek', WHERE WHAT IT READS IS OF BULK AT MOST 1048576: true; the input reads as it did. -/
def fnSeekUptoRow : OpenClaim := { program := "ytdhogmkdmbfijaa", sum := "4f0e0c36935261c75ccf49c761ff2460bde11e6d29c4fcc154de12b18e87e4d8", func := "loop.example/hubbub/laws.FnSeek", spec := "fnSeek", unfollowed := true, recurses := true, apart := false, narrowed := true }
def FnSeekUptoSaid : Prop := fnSeekUptoRow.holds Try.pinned (OpenSpec.upto fnSeekSpec)

/-- 'laws.FnPathGet', WHERE WHAT IT READS IS OF BULK AT MOST 1048576: true; the input reads as it did. -/
def fnPathGetUptoRow : OpenClaim := { program := "ytdhogmkdmbfijaa", sum := "4f0e0c36935261c75ccf49c761ff2460bde11e6d29c4fcc154de12b18e87e4d8", func := "loop.example/hubbub/laws.FnPathGet", spec := "fnPathGet", inPlace := ["internal/bytealg.IndexByteString", "internal/bytealg.IndexString", "internal/abi.NoEscape"], unfollowed := true, recurses := true, named := ["internal/bytealg.MaxLen"], apart := false, narrowed := true }
def FnPathGetUptoSaid : Prop := fnPathGetUptoRow.holds Try.pinned (OpenSpec.upto fnPathGetSpec)

/-- 'laws.FnExactPathGet', WHERE WHAT IT READS IS OF BULK AT MOST 1048576: true; the input reads as it did. -/
def fnExactPathGetUptoRow : OpenClaim := { program := "ytdhogmkdmbfijaa", sum := "4f0e0c36935261c75ccf49c761ff2460bde11e6d29c4fcc154de12b18e87e4d8", func := "loop.example/hubbub/laws.FnExactPathGet", spec := "fnExactPathGet", inPlace := ["internal/bytealg.IndexByteString", "internal/bytealg.IndexString", "internal/abi.NoEscape"], unfollowed := true, recurses := true, named := ["internal/bytealg.MaxLen"], apart := false, narrowed := true }
def FnExactPathGetUptoSaid : Prop := fnExactPathGetUptoRow.holds Try.pinned (OpenSpec.upto fnExactPathGetSpec)

/-- 'laws.FnSeekIndex', WHERE WHAT IT READS IS OF BULK AT MOST 1048576: true; the input reads as it did. -/
def fnSeekIndexUptoRow : OpenClaim := { program := "ytdhogmkdmbfijaa", sum := "4f0e0c36935261c75ccf49c761ff2460bde11e6d29c4fcc154de12b18e87e4d8", func := "loop.example/hubbub/laws.FnSeekIndex", spec := "fnSeekIndex", unfollowed := true, recurses := true, apart := false, narrowed := true }
def FnSeekIndexUptoSaid : Prop := fnSeekIndexUptoRow.holds Try.pinned (OpenSpec.upto fnSeekIndexSpec)

end Rows
end Go.Proofs.Ytdhogmkdmbfijaa
