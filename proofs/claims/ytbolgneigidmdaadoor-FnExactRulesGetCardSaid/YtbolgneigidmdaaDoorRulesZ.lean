/- FnExactRulesGet returns true, for every text, and leaves its argument as it was: the row and its tied card. No condition. -/
import Derived.Test.YtbolgneigidmdaaDoorProg
import Derived.Test.YtbolgneigidmdaaDoorRows
import Derived.Lib.Walk
import Derived.Lib.Builder
import Derived.Lib.UnsafeStr
import Derived.WalkKit
import Derived.Laws.Externs
import Derived.Laws.IdiomCopy
import Derived.Shelf.Strings.BuilderX
import Derived.Test.YtbolgneigidmdaaDoorAbsB
import Derived.Shelf.Strings.Builder1
import Derived.Shelf.Strings.Builder2
import Derived.Shelf.Strings.OnBuilder
import Derived.Shelf.Strings.BuilderF
import Derived.Shelf.Strings.BuilderK
import Derived.Shelf.Utf8.RuneCount
import Derived.Shelf.LaysM
import Derived.Shelf.Strconv.Clone
import Derived.Shelf.Strings.Search1
import Derived.Shelf.Strings.Search2
import Derived.Shelf.Strings.Search3
import Derived.Shelf.Strings.Cut
import Derived.Shelf.Strings.Count
import Derived.Shelf.Strings.Shaped
import Derived.Shelf.Strings.Split
import Derived.Shelf.Strings.SplitShaped
import Derived.Shelf.Unicode.Decode
import Derived.Shelf.Strings.RuneCount
import Derived.Shelf.Strings.Explode
import Derived.Shelf.Unicode.DecodeSlow
import Derived.Shelf.Unicode.DecodeAny
import Derived.Test.YtbolgneigidmdaaDoorFactsA
import Derived.Test.YtbolgneigidmdaaDoorAbsA
import Derived.Shelf.Vars
import Derived.Test.YtbolgneigidmdaaDoorDrawA
import Derived.HandedShaped
import Derived.ProofKit
import Derived.Deep.Slices
import Derived.Test.YtbolgneigidmdaaDoorCards
import Derived.Test.YtbolgneigidmdaaDoorTie
import Derived.SevenTiedAt
import Derived.Lay
import Derived.Handed
import Derived.LaidMore
import Derived.Test.YtbolgneigidmdaaDoorRulesB
set_option linter.unusedVariables false
namespace Go.Proofs
open Go.Shelf Go.RowKit
set_option maxHeartbeats 1000000 in
set_option maxRecDepth 100000 in
theorem Tryd.cc_used (b : Nat) (w : World) (h0 : w.cell? ⟨b, 0, none⟩ = some (.pointer (some ⟨b, 0, none⟩))) :
    Calls Tryd.prog 43 #[.pointer (some ⟨b, 0, none⟩)] w fun e w' => e = .returned (.tuple #[]) ∧ w' = w := by
  obtain ⟨j, hj, _⟩ := Option.map_eq_some_iff.1 (show (Tryd.prog.info? 39).map (·.size) = some 2 by kernel_rfl)
  have mixed : Tryd.prog.follows .mixedOrders = true := by kernel_rfl
  go_enter Tryd.func43, Tryd.ntmps43
  go_wp2
  rw [Lib.run_neq_ptr_same w _ Tryd.underlying37 hj]
  go_wp2
  go_end0
  exact ⟨rfl, rfl⟩
set_option maxHeartbeats 1000000 in
set_option maxRecDepth 100000 in
theorem Tryd.cc_fresh (b : Nat) (w : World) (h0 : w.cell? ⟨b, 0, none⟩ = some (.pointer none)) (hsh : w.shape? b = some (39, 2)) (hfz : w.frozen? ⟨b, 0, none⟩ = false) :
    Calls Tryd.prog 43 #[.pointer (some ⟨b, 0, none⟩)] w fun e w' => e = .returned (.tuple #[]) ∧ w' = w.setCell ⟨b, 0, none⟩ (.pointer (some ⟨b, 0, none⟩)) := by
  obtain ⟨j, hj, hjs⟩ := Option.map_eq_some_iff.1 (show (Tryd.prog.info? 39).map (·.size) = some 2 by kernel_rfl)
  have mixed : Tryd.prog.follows .mixedOrders = true := by kernel_rfl
  go_enter Tryd.func43, Tryd.ntmps43
  go_wp2
  rw [Lib.run_to_unsafe w ⟨b, 0, none⟩ Tryd.underlying37 Tryd.underlying77 hj (by rw [hjs]; decide) hsh (Nat.zero_lt_succ 1)]
  simp only [Result.andThen]
  rw [Oper.upon_value]
  go_wp2
  rw [run_callFunc_extern Tryd.func56 (by kernel_rfl) (by kernel_rfl) (by kernel_rfl) (e := Extern.AbiNoEscape.same) (by kernel_rfl)]
  rw [Lib.run_noEscape]
  simp only [Result.andThen]
  rw [Oper.upon_value]
  go_wp2
  rw [Lib.run_from_unsafe w ⟨b, 0, none⟩ Tryd.underlying77 Tryd.underlying37 hj hsh (by kernel_rfl)]
  simp only [Result.andThen]
  rw [Oper.upon_value]
  go_wp2
  go_end0
  exact ⟨rfl, rfl⟩
end Go.Proofs
namespace Go.Proofs
open Go.Shelf
def Tryd.lays156_ren : Go.Shelf.Ren := ⟨fun | 156 => 44 | 165 => 57 | 166 => 19 | 169 => 21 | 240 => 43 | 241 => 65 | 276 => 56 | 277 => 74 | n => n, fun | 31 => 50 | 9 => 9 | 3 => 3 | 4 => 4 | 0 => 0 | 20 => 20 | 72 => 39 | 76 => 44 | 70 => 37 | 37 => 22 | 75 => 43 | 127 => 73 | 164 => 77 | 5 => 5 | 80 => 46 | n => n, fun | n => n⟩
theorem Tryd.lays156 : Go.Proofs.Lays.n156 Tryd.prog Tryd.lays156_ren := {
  mixed := by kernel_rfl
  f156 := Tryd.func44.trans (congrArg some (by kernel_rfl))
  f165 := Tryd.func57.trans (congrArg some (by kernel_rfl))
  f166 := Tryd.func19.trans (congrArg some (by kernel_rfl))
  f169 := Tryd.func21.trans (congrArg some (by kernel_rfl))
  f240 := Tryd.func43.trans (congrArg some (by kernel_rfl))
  f241 := Tryd.func65.trans (congrArg some (by kernel_rfl))
  f276 := Tryd.func56.trans (congrArg some (by kernel_rfl))
  f277 := Tryd.func74.trans (congrArg some (by kernel_rfl))
  t0 := Tryd.underlying0
  a0 := Tryd.isAgg0
  z0 := Tryd.sizeOf0
  v0 := Tryd.zeroValue0
  t3 := Tryd.underlying3
  a3 := Tryd.isAgg3
  z3 := Tryd.sizeOf3
  v3 := Tryd.zeroValue3
  t4 := Tryd.underlying4
  a4 := Tryd.isAgg4
  z4 := Tryd.sizeOf4
  v4 := Tryd.zeroValue4
  t9 := Tryd.underlying9
  a9 := Tryd.isAgg9
  z9 := Tryd.sizeOf9
  v9 := Tryd.zeroValue9
  t20 := Tryd.underlying20
  a20 := Tryd.isAgg20
  z20 := Tryd.sizeOf20
  v20 := Tryd.zeroValue20
  t31 := Tryd.underlying50
  a31 := Tryd.isAgg50
  z31 := Tryd.sizeOf50
  v31 := Tryd.zeroValue50
  t37 := Tryd.underlying22
  a37 := Tryd.isAgg22
  z37 := Tryd.sizeOf22
  v37 := Tryd.zeroValue22
  t70 := Tryd.underlying37
  a70 := Tryd.isAgg37
  z70 := Tryd.sizeOf37
  v70 := Tryd.zeroValue37
  t72 := Tryd.underlying39
  a72 := Tryd.isAgg39
  z72 := Tryd.sizeOf39
  v72 := Tryd.zeroValue39
  t75 := Tryd.underlying43
  a75 := Tryd.isAgg43
  z75 := Tryd.sizeOf43
  v75 := Tryd.zeroValue43
  t76 := Tryd.underlying44
  a76 := Tryd.isAgg44
  z76 := Tryd.sizeOf44
  v76 := Tryd.zeroValue44
  t127 := Tryd.underlying73
  a127 := Tryd.isAgg73
  z127 := Tryd.sizeOf73
  v127 := Tryd.zeroValue73
  t164 := Tryd.underlying77
  a164 := Tryd.isAgg77
  z164 := Tryd.sizeOf77
  v164 := Tryd.zeroValue77 }
theorem Tryd.Builder_Extra_156 : Builder.Extra Tryd.prog Tryd.lays156_ren := {
  sizeBuilder := by kernel_rfl
  liesBuilder := by kernel_rfl
  t5 := Tryd.underlying5
  a5 := Tryd.isAgg5
  z5 := Tryd.sizeOf5
  v5 := Tryd.zeroValue5
  infoByte := by kernel_rfl
  cellsByte := by kernel_rfl
  sizeByte := by kernel_rfl
  neB5 := by decide }
open Go.RowKit in
/-- No element: the empty string; the world is as it was. (Whatever the slice's address and capacity: a nil slice too.) (LAID: no walk: one application.) -/
theorem Tryd.strings_Join_none (a : Option Addr) (c : Nat) (sep : ByteArray) (w : World) :
    Calls Tryd.prog 44 #[.slice a 0 c, .string sep] w fun e w' => e = .returned (.string ⟨#[]⟩) ∧ w' = w := Any.strings_Join_none Tryd.lays156 Tryd.Builder_Extra_156 a c sep w
open Go.RowKit in
/-- strings.Join: "Join concatenates the elements of its first argument to create a single string. The separator string sep is placed between elements in the resulting string.": HOWEVER MANY ELEMENTS. Below the heap's end the world is as it was. (LAID: no walk: one application.) -/
theorem Tryd.strings_Join (bk o c : Nat) (xs : List ByteArray) (sep : ByteArray) (w : World) (hcells : ∀ (j : Nat) x, xs[j]? = some x → w.cell? ⟨bk, o + j, none⟩ = some (.string x)) (hbk : bk < w.heap.size) (hN : xs.length ≤ 140737488355328) (hcap : xs.length ≤ c) (hlen : (Lib.join (xs.map (·.data.toList)) sep.data.toList).length ≤ 140737488355328) :
    Calls Tryd.prog 44 #[.slice (some ⟨bk, o, none⟩) xs.length c, .string sep] w fun e w' => e = .returned (.string ⟨(Lib.join (xs.map (·.data.toList)) sep.data.toList).toArray⟩) ∧ Below w.heap.size w w' := Any.strings_Join Tryd.lays156 Tryd.Builder_Extra_156 bk o c xs sep w hcells hbk hN hcap hlen
def Tryd.laysM316_ren : Go.Shelf.Ren := ⟨fun | 316 => 64 | n => n, fun | 9 => 9 | 3 => 3 | 4 => 4 | 37 => 22 | 0 => 0 | 127 => 73 | 5 => 5 | n => n, fun | n => n⟩
theorem Tryd.laysM316 : Go.Proofs.LaysM.n316 Tryd.prog Tryd.laysM316_ren := {
  mixed := by kernel_rfl
  f316 := Tryd.func64.trans (congrArg some (by kernel_rfl))
  t0 := Tryd.underlying0
  a0 := Tryd.isAgg0
  z0 := Tryd.sizeOf0
  v0 := Tryd.zeroValue0
  t3 := Tryd.underlying3
  a3 := Tryd.isAgg3
  z3 := Tryd.sizeOf3
  v3 := Tryd.zeroValue3
  t4 := Tryd.underlying4
  a4 := Tryd.isAgg4
  z4 := Tryd.sizeOf4
  v4 := Tryd.zeroValue4
  t9 := Tryd.underlying9
  a9 := Tryd.isAgg9
  z9 := Tryd.sizeOf9
  v9 := Tryd.zeroValue9
  t37 := Tryd.underlying22
  a37 := Tryd.isAgg22
  z37 := Tryd.sizeOf22
  v37 := Tryd.zeroValue22
  t127 := Tryd.underlying73
  a127 := Tryd.isAgg73
  z127 := Tryd.sizeOf73
  v127 := Tryd.zeroValue73
  t5 := Tryd.underlying5
  a5 := Tryd.isAgg5
  z5 := Tryd.sizeOf5
  v5 := Tryd.zeroValue5
  i0 := by kernel_rfl
  i3 := by kernel_rfl
  i4 := by kernel_rfl
  i5 := by kernel_rfl
  i9 := by kernel_rfl
  i37 := by kernel_rfl
  i127 := by kernel_rfl }
open Go.RowKit in
/-- internal/stringslite.Clone (what strings.Clone calls): "Clone returns a fresh copy of s.": THE SAME BYTES. Of what was there nothing has turned (a new row is laid, and frozen, where s is not empty). (LAID: no walk: one application.) -/
theorem Tryd.stringslite_Clone (s : ByteArray) (w : World) (hlim : s.size ≤ 281474976710656) :
    Calls Tryd.prog 64 #[.string s] w fun e w' => e = .returned (.string s) ∧ Below w.heap.size w w' := Any.stringslite_Clone Tryd.laysM316 s w hlim
def Tryd.lays145_ren : Go.Shelf.Ren := ⟨fun | 145 => 24 | 220 => 49 | 219 => 60 | 217 => 67 | 225 => 68 | 224 => 69 | 267 => 70 | 266 => 76 | 314 => 77 | n => n, fun | 9 => 9 | 4 => 4 | 59 => 48 | 3 => 3 | 5 => 5 | 46 => 83 | 146 => 89 | 51 => 88 | n => n, fun | 1 => 0 | n => n⟩
theorem Tryd.lays145 : Go.Proofs.Lays.n145 Tryd.prog Tryd.lays145_ren := {
  mixed := by kernel_rfl
  f145 := Tryd.func24.trans (congrArg some (by kernel_rfl))
  f217 := Tryd.func67.trans (congrArg some (by kernel_rfl))
  f219 := Tryd.func60.trans (congrArg some (by kernel_rfl))
  f220 := Tryd.func49.trans (congrArg some (by kernel_rfl))
  f224 := Tryd.func69.trans (congrArg some (by kernel_rfl))
  f225 := Tryd.func68.trans (congrArg some (by kernel_rfl))
  f266 := Tryd.func76.trans (congrArg some (by kernel_rfl))
  f267 := Tryd.func70.trans (congrArg some (by kernel_rfl))
  f314 := Tryd.func77.trans (congrArg some (by kernel_rfl))
  t3 := Tryd.underlying3
  a3 := Tryd.isAgg3
  z3 := Tryd.sizeOf3
  v3 := Tryd.zeroValue3
  t4 := Tryd.underlying4
  a4 := Tryd.isAgg4
  z4 := Tryd.sizeOf4
  v4 := Tryd.zeroValue4
  t5 := Tryd.underlying5
  a5 := Tryd.isAgg5
  z5 := Tryd.sizeOf5
  v5 := Tryd.zeroValue5
  t9 := Tryd.underlying9
  a9 := Tryd.isAgg9
  z9 := Tryd.sizeOf9
  v9 := Tryd.zeroValue9
  t46 := Tryd.underlying83
  a46 := Tryd.isAgg83
  z46 := Tryd.sizeOf83
  v46 := Tryd.zeroValue83
  t51 := Tryd.underlying88
  a51 := Tryd.isAgg88
  z51 := Tryd.sizeOf88
  v51 := Tryd.zeroValue88
  t59 := Tryd.underlying48
  a59 := Tryd.isAgg48
  z59 := Tryd.sizeOf48
  v59 := Tryd.zeroValue48
  t146 := Tryd.underlying89
  a146 := Tryd.isAgg89
  z146 := Tryd.sizeOf89
  v146 := Tryd.zeroValue89
  g1 := by kernel_rfl }
open Go.RowKit Go.Lib in
/-- strings.Cut: "Cut slices s around the first instance of sep, returning the text before and after sep. The found result reports whether sep appears in s. If sep does not appear in s, cut returns s, "", false.": IT RETURNS 'Lib.cut s sep'; the world is as it was but for the count of draws. (LAID: no walk: one application.) -/
theorem Tryd.strings_Cut (s sep : ByteArray) (m : Int) (w : World) (hs : s.size < 4294967281) (hm : w.cell? ⟨0, 0, none⟩ = some (.int .i64 m)) :
    Calls Tryd.prog 24 #[.string s, .string sep] w fun e w' => e = .returned (.tuple #[.string ⟨(Lib.cut s.data.toList sep.data.toList).1.toArray⟩, .string ⟨(Lib.cut s.data.toList sep.data.toList).2.1.toArray⟩, .bool (Lib.cut s.data.toList sep.data.toList).2.2]) ∧ ∃ n, w' = w.drewN n := Any.strings_Cut Tryd.lays145 s sep m w hs hm
def Tryd.lays146_ren : Go.Shelf.Ren := ⟨fun | 146 => 25 | 221 => 50 | 268 => 61 | 138 => 62 | 143 => 63 | 195 => 71 | 197 => 72 | 218 => 73 | 219 => 60 | 260 => 78 | 217 => 67 | 225 => 68 | 224 => 69 | 267 => 70 | 266 => 76 | 314 => 77 | n => n, fun | 9 => 9 | 31 => 50 | 3 => 3 | 4 => 4 | 0 => 0 | 105 => 85 | 21 => 21 | 5 => 5 | 46 => 83 | 119 => 91 | 139 => 94 | 138 => 93 | 146 => 89 | 51 => 88 | n => n, fun | 1 => 0 | 3 => 1 | 4 => 2 | n => n⟩
theorem Tryd.lays146 : Go.Proofs.Lays.n146 Tryd.prog Tryd.lays146_ren := {
  mixed := by kernel_rfl
  f138 := Tryd.func62.trans (congrArg some (by kernel_rfl))
  f143 := Tryd.func63.trans (congrArg some (by kernel_rfl))
  f146 := Tryd.func25.trans (congrArg some (by kernel_rfl))
  f195 := Tryd.func71.trans (congrArg some (by kernel_rfl))
  f197 := Tryd.func72.trans (congrArg some (by kernel_rfl))
  f217 := Tryd.func67.trans (congrArg some (by kernel_rfl))
  f218 := Tryd.func73.trans (congrArg some (by kernel_rfl))
  f219 := Tryd.func60.trans (congrArg some (by kernel_rfl))
  f221 := Tryd.func50.trans (congrArg some (by kernel_rfl))
  f224 := Tryd.func69.trans (congrArg some (by kernel_rfl))
  f225 := Tryd.func68.trans (congrArg some (by kernel_rfl))
  f260 := Tryd.func78.trans (congrArg some (by kernel_rfl))
  f266 := Tryd.func76.trans (congrArg some (by kernel_rfl))
  f267 := Tryd.func70.trans (congrArg some (by kernel_rfl))
  f268 := Tryd.func61.trans (congrArg some (by kernel_rfl))
  f314 := Tryd.func77.trans (congrArg some (by kernel_rfl))
  t0 := Tryd.underlying0
  a0 := Tryd.isAgg0
  z0 := Tryd.sizeOf0
  v0 := Tryd.zeroValue0
  t3 := Tryd.underlying3
  a3 := Tryd.isAgg3
  z3 := Tryd.sizeOf3
  v3 := Tryd.zeroValue3
  t4 := Tryd.underlying4
  a4 := Tryd.isAgg4
  z4 := Tryd.sizeOf4
  v4 := Tryd.zeroValue4
  t5 := Tryd.underlying5
  a5 := Tryd.isAgg5
  z5 := Tryd.sizeOf5
  v5 := Tryd.zeroValue5
  t9 := Tryd.underlying9
  a9 := Tryd.isAgg9
  z9 := Tryd.sizeOf9
  v9 := Tryd.zeroValue9
  t21 := Tryd.underlying21
  a21 := Tryd.isAgg21
  z21 := Tryd.sizeOf21
  v21 := Tryd.zeroValue21
  t31 := Tryd.underlying50
  a31 := Tryd.isAgg50
  z31 := Tryd.sizeOf50
  v31 := Tryd.zeroValue50
  t46 := Tryd.underlying83
  a46 := Tryd.isAgg83
  z46 := Tryd.sizeOf83
  v46 := Tryd.zeroValue83
  t51 := Tryd.underlying88
  a51 := Tryd.isAgg88
  z51 := Tryd.sizeOf88
  v51 := Tryd.zeroValue88
  t105 := Tryd.underlying85
  a105 := Tryd.isAgg85
  z105 := Tryd.sizeOf85
  v105 := Tryd.zeroValue85
  t119 := Tryd.underlying91
  a119 := Tryd.isAgg91
  z119 := Tryd.sizeOf91
  t138 := Tryd.underlying93
  a138 := Tryd.isAgg93
  z138 := Tryd.sizeOf93
  v138 := Tryd.zeroValue93
  t139 := Tryd.underlying94
  a139 := Tryd.isAgg94
  z139 := Tryd.sizeOf94
  v139 := Tryd.zeroValue94
  t146 := Tryd.underlying89
  a146 := Tryd.isAgg89
  z146 := Tryd.sizeOf89
  v146 := Tryd.zeroValue89
  g1 := by kernel_rfl
  g3 := by kernel_rfl
  g4 := by kernel_rfl }
open Go.RowKit Go.Lib in
/-- strings.Split. (LAID: no walk: one application.) -/
theorem Tryd.strings_Split (s sep : ByteArray) (m : Int) (w : World) (hs : s.size < 4294967281) (hm : w.cell? ⟨0, 0, none⟩ = some (.int .i64 m)) (h1 : 1 ≤ sep.size) :
    Calls Tryd.prog 25 #[.string s, .string sep] w fun e w' =>
      e = .returned (.slice (some ⟨w.heap.size, 0, none⟩) (Lib.countB s sep + 1) (Lib.countB s sep + 1)) ∧ w' = w.alloc (.cells ((Lib.splitB sep 0 (Lib.countB s sep) s).map Value.string).toArray 9) := Any.strings_Split Tryd.lays146 (by kernel_rfl) s sep m w hs hm h1
end Go.Proofs
namespace Go.Abs
open Go.Proofs Go.RowKit
set_option maxRecDepth 100000
theorem enters_of (g : Nat) (F : Func) (h : Tryd.prog.funcs[g]? = some F) (hb : F.body.isSome = true) (hn : (F.name == "runtime.NumGoroutine") = false) : Enters V0.P g := ⟨F, h, hb, hn⟩
theorem prims0 : ∀ g p, V0.prim g = some p → PrimSnd V0.P g p := by
  intro g p h
  obtain ⟨e, he, rfl⟩ := Option.map_eq_some_iff.1 (show (primTab.find? fun e => e.1 == g).map (·.2) = some p from h)
  have hm := List.mem_of_find?_eq_some he
  have hg : e.1 = g := by simpa using List.find?_some he
  subst hg
  simp only [primTab, List.mem_cons, List.not_mem_nil, or_false] at hm
  rcases hm with rfl | rfl | rfl | rfl | rfl
  · exact fCut_snd (enters_of 24 _ Tryd.func24 (by kernel_rfl) (by kernel_rfl)) fun s t w hw hs => let ⟨m, hm⟩ := hw 0 (by simp); Tryd.strings_Cut s t m w hs hm
  · exact pSplit_snd (t := 9) (enters_of 25 _ Tryd.func25 (by kernel_rfl) (by kernel_rfl)) Tryd.strings_Split
  · exact pCopyCheck_snd (enters_of 43 _ Tryd.func43 (by kernel_rfl) (by kernel_rfl)) Tryd.cc_fresh Tryd.cc_used
  · exact pJoin_snd (enters_of 44 _ Tryd.func44 (by kernel_rfl) (by kernel_rfl)) Tryd.strings_Join_none Tryd.strings_Join
  · exact fClone_snd (enters_of 64 _ Tryd.func64 (by kernel_rfl) (by kernel_rfl)) Tryd.stringslite_Clone
end Go.Abs
namespace Go.Abs
open Go.Proofs Go.RowKit
/-- what is known of the library's own variables, of any world of this program's shape -/
theorem glob_of {W : World} (hsh : W.ShapedOpen Tryd.prog) : Glob W := by
  intro b hb
  have hb0 : b = 0 := by simpa using hb
  subst hb0
  exact Go.Proofs.cell_of_shapedOpen_int (zero := #[.int .i64 0]) (t := 3) hsh (of_decide_eq_true (by kernel_rfl)) (by kernel_rfl) rfl (by kernel_rfl) (by kernel_rfl) Tryd.underlying3
end Go.Abs
namespace Go.Abs
set_option linter.unusedVariables false
open Go.RowKit Go.Proofs Go.Deep

theorem good0 : Go.Abs.Good V0 where
  draw := draw_sound (by kernel_rfl)
  prim := prims0
  name := by
    intro f F hF hb
    have all : (Tryd.prog.funcs.all fun F => !F.body.isSome || !(F.name == "runtime.NumGoroutine")) = true := by kernel_rfl
    have := Array.all_eq_true.1 all
    obtain ⟨hi, rfl⟩ := Array.getElem?_eq_some_iff.1 hF
    have h1 : (!V0.P.funcs[f].body.isSome || !(V0.P.funcs[f].name == "runtime.NumGoroutine")) = true := this f hi
    rw [hb, Bool.not_true, Bool.false_or] at h1
    cases hq : (V0.P.funcs[f].name == "runtime.NumGoroutine") with
    | false => rfl
    | true => rw [hq] at h1; cases h1

theorem rel_start (W : World) (hg : Glob W) : Rel W 0 (fun _ => ⟨0, 0, 0⟩) [] W :=
  ⟨Below.refl _ _, fun id g sz cs e => by simp at e, fun id es e => by simp at e, fun i j _ hi _ _ => by rcases hi with ⟨_, _, _, e⟩ | ⟨_, e⟩ <;> simp at e, hg⟩

/-- a cell that stands for itself -/
def plainC : Value → Bool
  | .bool _ | .int .. | .string _ => true
  | _ => false
theorem plainC_vr {ι : Iota} {h : AH} {v : Value} (p : plainC v = true) : VR ι h v v ∧ oneCell v = true := by
  cases v <;> first | (cases p; done) | skip
  · exact ⟨VR.bool _, rfl⟩
  · exact ⟨VR.int _ _, rfl⟩
  · exact ⟨VR.str _, rfl⟩

theorem okWide_has {P : Program} {W : World} {r : Reach} {base t e : Nat} {a : Addr} {len cap : Nat} (ht : P.underlying t = some (.slice e)) (h : Value.okWide P W r base t (.slice (some a) len cap)) :
    a.spot = none ∧ ∃ arr el fr, W.heap[a.block]? = some (.cells arr el fr) := by
  simp only [Value.okWide, ht, Cell.okWide, Cell.ok, World.has] at h
  obtain ⟨-, -, -, hs, row, n, hsh, -⟩ := h
  refine ⟨hs, ?_⟩
  unfold World.shape? at hsh
  split at hsh
  · rename_i c el fr e; exact ⟨_, _, _, e⟩
  · cases hsh
theorem compat_app {ι ι' : Iota} {h : AH} (o : AObj) (hι : ∀ j, j < h.length → ι' j = ι j) : Compat ι h ι' (h ++ [o]) := by
  have key : ∀ id, live h id → (h ++ [o])[id]? = h[id]? := fun id l => List.getElem?_append_left (live_lt l)
  refine ⟨by simp, fun id l => ?_, fun id l g' sz' cs' e => ?_, fun id l es' e => ?_⟩
  · rcases l with ⟨g, sz, cs, e⟩ | ⟨es, e⟩
    · exact .inl ⟨g, sz, cs, by rw [key id (.inl ⟨g, sz, cs, e⟩), e]⟩
    · exact .inr ⟨es, by rw [key id (.inr ⟨es, e⟩), e]⟩
  · rw [key id l] at e
    exact ⟨g', _, cs', e, Nat.le_refl _, fun _ => ⟨rfl, hι id (live_lt l)⟩⟩
  · rw [key id l] at e
    exact ⟨es', e, hι id (live_lt l)⟩
/-- an argument that is a slice of plain cells: an object that is read, behind those of the arguments ahead of it -/
theorem rel_arg {W : World} {n0 : Nat} {ι : Iota} {h : AH} (R : Rel W n0 ι h W) {a : Addr} {len cap k : Nat} {cs : List Value} {arr : Array Value} {el : TypeId} {fr : Nat × Nat} (hk : 0 < k ∧ k < 4294967296) (hsp : a.spot = none) (harr : W.heap[a.block]? = some (.cells arr el fr))
    (hm : ∀ (id : Nat) es, h[id]? ≠ some (AObj.map es)) (hlc : len ≤ cap) (hcs : cs.length = len * k) (hp : cs.all plainC = true)
    (hget : ∀ (i : Nat) v, cs[i]? = some v → arr[a.off + i]? = some v) (hcap : 0 < cap → a.off + cap * k ≤ arr.size) :
    ∃ ι', Rel W (h.length + 1) ι' (h ++ [AObj.row 0 k cs]) W ∧ (∀ j, j < h.length → ι' j = ι j) ∧ VR ι' (h ++ [AObj.row 0 k cs]) (slV h.length 0 len len) (.slice (some a) len cap) := by
  refine ⟨fun j => if j < h.length then ι j else ⟨a.block, if cap = 0 then 0 else a.off, arr.size⟩, ?_, fun j hj => if_pos hj, ?_⟩
  · have C : Compat ι h (fun j => if j < h.length then ι j else ⟨a.block, if cap = 0 then 0 else a.off, arr.size⟩) (h ++ [AObj.row 0 k cs]) := compat_app _ fun j hj => if_pos hj
    refine ⟨R.below, fun id g sz cs' e => ?_, fun id es e => ?_, fun i j hij hi hj hl => ?_, R.glob⟩
    · by_cases hid : id < h.length
      · rw [List.getElem?_append_left hid] at e
        obtain ⟨arr', t', fr', e1, e2, e3, e4⟩ := R.row id g sz cs' e
        simp only [if_pos hid]
        exact ⟨arr', t', fr', e1, e2, fun i v hv => let ⟨v', a1, a2, a3⟩ := e3 i v hv; ⟨v', a1, a2.mono C, a3⟩, fun hq => absurd hq (by omega)⟩
      · have hid2 : id = h.length := by
          have := lt_of_get e
          simp at this; omega
        subst hid2
        simp at e
        obtain ⟨rfl, rfl, rfl⟩ := e
        simp only [if_neg hid]
        refine ⟨arr, el, fr, harr, rfl, fun i v hv => ?_, fun hq => absurd hq (by omega)⟩
        have hc0 : cap ≠ 0 := by
          intro q
          have : i < cs.length := by
            rcases Nat.lt_or_ge i cs.length with q | q
            · exact q
            · rw [List.getElem?_eq_none q] at hv; cases hv
          have h0 : len = 0 := by omega
          have : cs.length = 0 := by rw [hcs, h0, Nat.zero_mul]
          omega
        have ho : (if cap = 0 then 0 else a.off) = a.off := if_neg hc0
        have hpv := List.all_eq_true.1 hp v (List.mem_of_getElem? hv)
        obtain ⟨p1, p2⟩ := plainC_vr (ι := fun j => if j < h.length then ι j else ⟨a.block, if cap = 0 then 0 else a.off, arr.size⟩) (h := h ++ [AObj.row 0 k cs]) hpv
        exact ⟨v, by rw [ho]; exact hget i v hv, p1, p2⟩
    · by_cases hid : id < h.length
      · rw [List.getElem?_append_left hid] at e
        exact absurd e (hm id es)
      · have hid2 : id = h.length := by
          have := lt_of_get e
          simp at this; omega
        subst hid2
        simp at e
    · have := live_lt hi
      simp at this; omega
  · refine VR.slice (.inl ⟨0, k, cs, by simp⟩) hlc hlc fun g' sz cs' e => ?_
    simp at e
    obtain ⟨rfl, rfl, rfl⟩ := e
    refine ⟨Nat.le_refl _, fun _ => ⟨?_, ?_⟩⟩
    · by_cases hc0 : cap = 0
      · exact .inl hc0
      · refine .inr ?_
        simp only [if_neg (Nat.lt_irrefl _), if_neg hc0, Nat.add_zero]
        cases a; simp only at hsp; subst hsp; rfl
    · simp only [if_neg (Nat.lt_irrefl _)]
      by_cases hc0 : cap = 0
      · simp [hc0]
      · have hwk : wd k = k := Nat.mod_eq_of_lt hk.2
        rw [if_neg hc0, hwk]; have := hcap (by omega); omega
theorem add_block (a : Addr) (n : Nat) : (a.add n).block = a.block := by unfold Addr.add; split <;> rfl
theorem add_off (a : Addr) (n : Nat) : (a.add n).off = a.off + n := by unfold Addr.add; split <;> simp_all
theorem cell_arr {W : World} {p : Addr} {v : Value} {b : Nat} {arr : Array Value} {el : TypeId} {fr : Nat × Nat} (hb : W.heap[b]? = some (.cells arr el fr)) (hp : p.block = b) (h : W.cell? p = some v) : arr[p.off]? = some v := by
  unfold World.cell? at h
  rw [hp, hb] at h
  simp only at h
  split at h
  · cases h
  · exact h
theorem flat_get {α : Type} {f : α → List Value} {k : Nat} (hk : 0 < k) (hf : ∀ x, (f x).length = k) : ∀ (xs : List α) (i : Nat), (xs.flatMap f)[i]? = (xs[i / k]?).bind fun x => (f x)[i % k]?
  | [], i => by simp
  | x :: xs, i => by
    rw [List.flatMap_cons]
    by_cases hi : i < k
    · rw [List.getElem?_append_left (by rw [hf]; exact hi), Nat.div_eq_of_lt hi, Nat.mod_eq_of_lt hi]; rfl
    · rw [List.getElem?_append_right (by rw [hf]; omega), hf, flat_get hk hf xs (i - k)]
      have h1 : i / k = (i - k) / k + 1 := by rw [Nat.div_eq_sub_div hk (by omega)]
      have h2 : i % k = (i - k) % k := Nat.mod_eq_sub_mod (by omega)
      rw [h1, h2, List.getElem?_cons_succ]
/-- the elements of a slice that is an argument, each of k cells -/
theorem open_els {α : Type} [Inhabited α] {f : α → List Value} {k : Nat} (hk : 0 < k) (hf : ∀ x, (f x).length = k) {good : α → Prop} {H : Type} {enc : TypeId × Value → H} {P : Program} {W : World} {t e base : Nat} {v : Value} {d : DataW H} {ps : List MemPlace}
    (ht : P.underlying t = some (.slice e)) (hc : P.cellsOf e = k) (hval : Value.okWide P W .any base t v) (hd : DataW.Trod enc P W 0 (fun _ => true) true t v d ps)
    (hel : ∀ fuel cs x, DataW.trod enc P W 0 (fun _ => true) true fuel e cs = some x → ∃ y, cs = f y ∧ good y) (hplain : ∀ y, (f y).all plainC = true) :
    v = .slice none 0 0 ∨ ∃ (a : Addr) (len cap : Nat) (xs : List α) (arr : Array Value) (el : TypeId) (fr : Nat × Nat), v = .slice (some a) len cap ∧ a.spot = none ∧ W.heap[a.block]? = some (.cells arr el fr) ∧ xs.length = len ∧ len ≤ cap ∧ len ≤ maxLen ∧
      (∀ x ∈ xs, good x) ∧ (xs.flatMap f).length = len * k ∧ (xs.flatMap f).all plainC = true ∧ (∀ (i : Nat) v, (xs.flatMap f)[i]? = some v → arr[a.off + i]? = some v) ∧ (0 < cap → a.off + cap * k ≤ arr.size) := by
  obtain ⟨fuel, hfu⟩ := hd
  obtain ⟨va, len, cap, rfl⟩ := Go.WideShapes.okWide_slice ht hval
  rcases open_slice ht hfu with ⟨h0, -⟩ | ⟨a, len', cap', m, n, D, Pl, hcs, hb, hl, hm, hmm, -, hx⟩
  · left; simpa [Value.cells] using h0
  · right
    simp only [Value.cells, List.cons.injEq, and_true] at hcs
    cases hcs
    simp only [if_true] at hmm
    subst hmm
    obtain ⟨hsp, arr, el, fr, harr⟩ := okWide_has ht hval
    rw [hc] at hx
    have hx' : ∀ i, i < m → ∃ y, W.cells? 0 (a.add (i * k)) k = some (f y) ∧ good y := fun i hi => by
      obtain ⟨cs', h1, h2⟩ := hx i hi
      obtain ⟨y, rfl, hg⟩ := hel _ _ _ h2
      exact ⟨y, h1, hg⟩
    obtain ⟨X, hX⟩ := choose_lt hx'
    have hcell : ∀ i, i < m → ∀ j v, (f (X i))[j]? = some v → arr[a.off + (i * k + j)]? = some v := fun i hi j v hv => by
      obtain ⟨-, hlen, hg⟩ := World.cells?_some (hX i hi).1
      have hj : j < k := by
        rcases Nat.lt_or_ge j (f (X i)).length with q | q
        · rw [hf] at q; exact q
        · rw [List.getElem?_eq_none q] at hv; cases hv
      have := cell_arr harr (by rw [add_block, add_block]) ((hg j hj).trans hv)
      rw [add_off, add_off] at this
      rw [← Nat.add_assoc]; exact this
    have hxs : ∀ i, i < len → ((List.range len).map X)[i]? = some (X i) := fun i hi => by simp [hi]
    refine ⟨a, len, m, (List.range len).map X, arr, el, fr, rfl, hsp, harr, by simp, hl, by omega, ?_, ?_, ?_, ?_, ?_⟩
    · intro x hx
      obtain ⟨i, hi, rfl⟩ := List.mem_map.1 hx
      exact (hX i (by have := List.mem_range.1 hi; omega)).2
    · have : ∀ (l : List α), (l.flatMap f).length = l.length * k := by
        intro l
        induction l with
        | nil => simp
        | cons x l ih => rw [List.flatMap_cons, List.length_append, ih, hf, List.length_cons, Nat.succ_mul]; omega
      rw [this]; simp
    · rw [List.all_eq_true]
      intro v hv
      obtain ⟨x, -, hx⟩ := List.mem_flatMap.1 hv
      exact List.all_eq_true.1 (hplain x) v hx
    · intro i v hv
      rw [flat_get hk hf] at hv
      obtain ⟨x, h1, h2⟩ := Option.bind_eq_some_iff.1 hv
      have hi : i / k < len := by
        rcases Nat.lt_or_ge (i / k) len with q | q
        · exact q
        · rw [List.getElem?_eq_none (by simpa using q)] at h1; cases h1
      rw [hxs _ hi] at h1
      cases h1
      have := hcell (i / k) (by omega) (i % k) v h2
      rw [Nat.div_add_mod' i k] at this
      exact this
    · intro h0
      have hlast : (f (X (m - 1)))[k - 1]? = some ((f (X (m - 1)))[k - 1]'(by rw [hf]; omega)) := List.getElem?_eq_getElem _
      have := hcell (m - 1) (by omega) (k - 1) _ hlast
      have hs : a.off + ((m - 1) * k + (k - 1)) < arr.size := by
        rcases Nat.lt_or_ge (a.off + ((m - 1) * k + (k - 1))) arr.size with q | q
        · exact q
        · rw [Array.getElem?_eq_none q] at this; cases this
      have : m * k = (m - 1) * k + k := by rw [← Nat.succ_mul]; congr 1; omega
      omega
end Go.Abs
namespace Go.Abs
open Go.RowKit Go.Proofs Go.Deep
theorem maxLen_is : maxLen = 9223372036854775807 := by kernel_rfl
theorem sV_data (s : ByteArray) : sV s.data.toList = .string s := by cases s; rfl
theorem Tryd.own : ownKnob Tryd.prog.godebug = none := by kernel_rfl
theorem Tryd.laidOut : laidOutB Tryd.prog = true := by kernel_rfl
theorem und3 : Tryd.prog.underlying 3 = some (.int .i64) := by kernel_rfl
theorem und4 : Tryd.prog.underlying 4 = some .bool := by kernel_rfl
theorem und5 : Tryd.prog.underlying 5 = some (.int .u8) := by kernel_rfl
theorem und9 : Tryd.prog.underlying 9 = some .string := by kernel_rfl
theorem cells3 : Tryd.prog.cellsOf 3 = 1 := by kernel_rfl
theorem cells4 : Tryd.prog.cellsOf 4 = 1 := by kernel_rfl
theorem cells5 : Tryd.prog.cellsOf 5 = 1 := by kernel_rfl
theorem cells9 : Tryd.prog.cellsOf 9 = 1 := by kernel_rfl
def NoMaps (h : AH) : Prop := ∀ (id : Nat) es, h[id]? ≠ some (AObj.map es)
end Go.Abs
namespace Go.Abs
open Go.Proofs Go.ChangeShapes Go.WideShapes Go.ChangeAt
/-- an argument that is a text -/
theorem string_arg {H : Type} {enc : TypeId × Value → H} {W : World} {base : Nat} {v : Value} {d : DataW H} {ps : List MemPlace} {n0 : Nat} {ι : Iota} {h : AH} (R : Rel W n0 ι h W) (hn0 : n0 ≤ h.length) (hm : NoMaps h)
    (hval : Value.okWide Tryd.prog W .any base 9 v) (hd : DataW.Trod enc Tryd.prog W 0 (fun _ => true) true 9 v d ps) :
    ∃ (n1 : Nat) (ι' : Iota) (h' : AH) (va : Value) (s : Bs), n1 ≤ h'.length ∧ Rel W n1 ι' h' W ∧ NoMaps h' ∧ Keep h.length h h' ∧ Compat ι h ι' h' ∧ VR ι' h' va v ∧ va = sV s := by
  obtain ⟨s, rfl, rfl, rfl, ws⟩ := Go.ChangeMaps.open_string Tryd.underlying9 hval hd
  exact ⟨n0, ι, h, .string s, s.data.toList, hn0, R, hm, Keep.refl _ _, Compat.refl _ _, VR.str s, by cases s; rfl⟩
end Go.Abs
namespace Go.Proofs.YtbolgneigidmdaaDoor
open Go.ChangeShapes Go.WideShapes Go.ChangeAt Go.RowKit Go.Abs

/-- the wrap for a row with what is laid, the world's shape kept -/
theorem handed_shaped_and {H : Type} {enc : TypeId × Value → H} {a : Assume} {C : Checked} {os : Os} {f : FuncId} {fn : Func} {s : ChangeSpec} {conds : List PathCond} {apart fresh handsOn again : Bool} {X : World → Array Value → Prop}
    (own : ownKnob C.prog.godebug = none) (started : os.Started) (noInit : C.prog.inits.idxOf? f = none) (hfn : C.prog.funcs[f]? = some fn)
    (witness : ∃ (w : World) (tape : Tape) (i : Input), w.os = os ∧ (w.forCall tape i).Shaped C.prog ∧ i.vars = [] ∧ Input.okWide C.prog (w.forCall tape i) .any w.heap.size f i ∧
      ((s.pre enc C.prog fn conds apart (w.forCall tape i).memory i.args ∧ X (w.forCall tape i).memory i.args) ∧ sizedMet enc C.prog fn (OpenSpec.ofChange s) apart (w.forCall tape i).memory i.args) ∧ a.holds C.prog (lone (Frame.enter C.prog f i.args .normal) [] (w.forCall tape i)))
    (contract : ∀ (W : World) (base : Nat) (args : Array Value) (ds gs : List (DataW H)) (before : List MemPlace),
      (∀ (j : Nat) t v, fn.params[j]? = some t → args[j]? = some v → Value.okWide C.prog W .any base t v) →
      DataW.Whole enc C.prog fn.params.toList s.vars apart W args.toList ds gs before → W.ShapedOpen C.prog →
      Calls C.prog f args W fun e W' => ∃ v, e = .returned v ∧ s.post enc C.prog fn apart fresh handsOn again W args v W') :
    ReturnsInHanded a C os f .any (fun w args => (s.pre enc C.prog fn conds apart w args ∧ X w args) ∧ sizedMet enc C.prog fn (OpenSpec.ofChange s) apart w args) (s.post enc C.prog fn apart fresh handsOn again) := by
  refine returnsInHanded_of_calls own started noInit witness ?_
  intro w tape i _ hsh _ hok hpre _
  obtain ⟨_, _, _, fn', hfn', _, _, _, _, hval⟩ := hok
  have e : fn' = fn := Option.some.inj (hfn'.symm.trans hfn)
  subst e
  obtain ⟨⟨⟨ds, gs, before, hw, _⟩, _⟩, _⟩ := hpre
  have hw' := DataW.Whole.of_heap (w' := w.forCall tape i) (by rfl) hw
  refine (contract (w.forCall tape i) w.heap.size i.args ds gs before hval hw' hsh).mono fun e W' ⟨v, he, hp⟩ => ?_
  subst he
  exact ChangeSpec.post_blind hp

set_option maxRecDepth 100000 in
theorem fnExactRulesGet_lifted (os : Os) (started : os.Started) (H : Type) (enc : TypeId × Value → H) :
    ReturnsInHanded {} Tryd.checked os 4 .any (fun w args => (Rows.fnExactRulesGetSpec.pre enc Tryd.prog Tryd.f4 Rows.fnExactRulesGetRow.domain false w args ∧ laidMetH Tryd.prog Rows.fnExactRulesGetRow.laid w) ∧ sizedMet enc Tryd.prog Tryd.f4 (OpenSpec.ofChange Rows.fnExactRulesGetSpec) false w args) (Rows.fnExactRulesGetSpec.post enc Tryd.prog Tryd.f4 false true false false) := by
  refine handed_shaped_and (C := Tryd.checked) (X := fun w _ => laidMetH Tryd.prog Rows.fnExactRulesGetRow.laid w) Tryd.own started (by kernel_rfl) Tryd.func4
    (ChangeSpec.witness_shaped (enc := enc) (C := Tryd.checked) (os := os) (X := fun w _ => laidMetH Tryd.prog Rows.fnExactRulesGetRow.laid w) false (World.laidAll Tryd.prog os Rows.fnExactRulesGetRow.laid) #[.string ⟨#[]⟩] 8 (World.laidAll_os _ _ _)
      (World.shaped_of_ZipB (by kernel_rfl) (by kernel_rfl)) (by kernel_rfl) (by kernel_rfl) (by kernel_rfl)
      (by rw [MakeChecks.laidMetH_plain _ _ _ (by kernel_rfl)]; exact laidMet_laidAll _ (by kernel_rfl) (by kernel_rfl))) ?_
  intro W base args ds gs before hval0 hW hsh
  have hval : ∀ (j : Nat) t v, Tryd.f4.params[j]? = some t → args[j]? = some v → Value.okWide Tryd.prog W .any base t v := hval0
  have hW' := hW
  obtain ⟨p, q, hA0, hV, rfl, hfz, hnd⟩ := hW
  have hA : DataW.TrodAll enc Tryd.prog W 0 (fun _ => true) true Tryd.f4.params.toList args.toList ds p := hA0
  rw [Tryd.params4] at hA hval
  obtain ⟨v0, d0, rfl, rfl, h0⟩ := trodAll_one hA
  obtain ⟨rfl, rfl⟩ := trodVars_none hV
  have hlt : ∀ x ∈ p, x.block < W.heap.size := fun x hx => by simpa using hW'.lt x (by simpa using hx)
  obtain ⟨n0, ι0, g0, va0, na0, hn0, R0, m0, k0, c0, hv0, hq0⟩ := string_arg (rel_start W (glob_of hsh)) (Nat.le_refl _) (fun id es e => by simp at e) (hval 0 9 v0 rfl rfl) h0
  clear hA0 hval0
  simp only [List.append_nil] at hW'
  obtain ⟨h', e⟩ := rz4 va0 na0 n0 g0 hq0 hn0
  obtain ⟨-, hc⟩ := run_sound good0 4 n0 [va0] g0 _ e
  refine (hc W n0 ι0 W [v0] (Nat.le_refl _) R0 ⟨rfl, fun i v hv' => ?_⟩).mono fun en W' hr => ?_
  · match i, hv' with
    | 0, hv' => cases hv'; exact ⟨v0, rfl, hv0⟩
    | i + 1, hv' => simp at hv'
  · cases en with
    | returned v' =>
      obtain ⟨v, h2, ι', ho, hrel, hstep, hvr⟩ := hr
      cases ho
      cases hvr
      have bel := hrel.below
      exact ⟨_, rfl, _, _, _, [], p, [], hW', trodAll_mk1 (shut_bool und4 true), trodAll_mk1 (Below.trod Tryd.laidOut (by kernel_rfl) (of_decide_eq_true (by kernel_rfl)) h0 bel hlt), rfl, bel.frame _, fun h => by cases h⟩
    | panicked ch => obtain ⟨v, v', h2, ι', ho, _⟩ := hr; cases ho
    | outgrown => exact hr.elim

theorem fnExactRulesGet_holds : Rows.FnExactRulesGetSaid :=
  OpenClaim.holds_of_wide 4 Tryd.f4 rfl rfl rfl rfl rfl rfl rfl ⟨rfl, rfl, rfl, rfl, rfl⟩ rfl rfl rfl rfl rfl (by kernel_rfl) Tryd.func4 (by kernel_rfl)
    (of_decide_eq_true (by kernel_rfl)) (by unfold Func.isWrapper; first | (rw [if_pos (by decide +kernel)]; kernel_rfl) | (rw [if_neg (by decide +kernel)]; exact ⟨rfl, rfl⟩))
    (fun os started H enc _ => fnExactRulesGet_lifted os started H enc)

/-- the card -/
theorem fnExactRulesGet_card : Rows.FnExactRulesGetCardSaid :=
  Claim7.holds_tied_plain_at .later [] [.data, .pinned] true (true, "c59a63e93f3b855ac1cfbe140407fc023f31fd7516974d44bb04ed5e8fad7d53") false
    fnExactRulesGet_holds (fun _ h => by cases h) (by kernel_rfl) (fun _ h => by cases h) fnExactRulesGet_row_tie rfl ⟨rfl, rfl⟩ (by kernel_rfl) rfl
    (fun f fn hf hfn => by
      obtain rfl : f = 4 := Option.some.inj ((show Tryd.prog.funcNamed Rows.fnExactRulesGetRow.func = some 4 by kernel_rfl).symm.trans hf) |>.symm
      obtain rfl : fn = Tryd.f4 := (Option.some.inj (Tryd.func4.symm.trans hfn)).symm
      exact ⟨by kernel_rfl, fun j t ht => by
        rw [Tryd.params4] at ht
        have hall : (Tryd.f4.params.toList.all fun u => !Tryd.prog.wantsStandIn u) = true := by kernel_rfl
        have hm : t ∈ Tryd.f4.params.toList := by
          rw [Tryd.params4]
          exact Array.mem_toList_iff.2 (Array.mem_of_getElem? ht)
        exact (show Tryd.prog.wantsStandIn t = false by simpa using List.all_eq_true.1 hall t hm)⟩)
    (by kernel_rfl)
end Go.Proofs.YtbolgneigidmdaaDoor
