/- FnPathGet returns true, for every code, and leaves its argument as it was. No condition. -/
import Derived.Test.YtdhogmkdmbfijaaProg
import Derived.Test.YtdhogmkdmbfijaaRows
import Derived.Lib.Walk
import Derived.Lib.Builder
import Derived.Lib.UnsafeStr
import Derived.WalkKit
import Derived.Laws.Externs
import Derived.Laws.IdiomCopy
import Derived.Shelf.Strings.BuilderX
import Derived.Test.YtdhogmkdmbfijaaAbsB
import Derived.Shelf.Strings.Builder1
import Derived.Shelf.Small.Utf8
import Derived.Shelf.Small.Bits
import Derived.Shelf.Small.Strs
import Derived.Shelf.Strings.BuilderF
import Derived.Shelf.Strings.BuilderK
import Derived.Shelf.Strconv.Itoa0
import Derived.Shelf.LaysM
import Derived.Shelf.Strconv.Clone
import Derived.Shelf.Strings.Search1
import Derived.Shelf.Strings.Search2
import Derived.Shelf.Strings.Cut
import Derived.Shelf.Strings.Shaped
import Derived.Shelf.Strings.Prefix
import Derived.Shelf.Strings.Runes
import Derived.Shelf.Strings.IndexAny
import Derived.Shelf.Strings.AsciiSet
import Derived.Shelf.Strings.IndexAnyAll
import Derived.Test.YtdhogmkdmbfijaaFactsA
import Derived.Test.YtdhogmkdmbfijaaAbsA
import Derived.Shelf.Vars
import Derived.Test.YtdhogmkdmbfijaaPathA
import Derived.HandedShaped
import Derived.ProofKit
import Derived.Deep.Slices
import Derived.Test.YtdhogmkdmbfijaaDrawA
import Derived.Test.YtdhogmkdmbfijaaPathC
set_option linter.unusedVariables false
namespace Go.Proofs
open Go.Shelf Go.RowKit
set_option maxHeartbeats 1000000 in
set_option maxRecDepth 100000 in
theorem Try.cc_used (b : Nat) (w : World) (h0 : w.cell? ⟨b, 0, none⟩ = some (.pointer (some ⟨b, 0, none⟩))) :
    Calls Try.prog 92 #[.pointer (some ⟨b, 0, none⟩)] w fun e w' => e = .returned (.tuple #[]) ∧ w' = w := by
  obtain ⟨j, hj, _⟩ := Option.map_eq_some_iff.1 (show (Try.prog.info? 81).map (·.size) = some 2 by kernel_rfl)
  have mixed : Try.prog.follows .mixedOrders = true := by kernel_rfl
  go_enter Try.func92, Try.ntmps92
  go_wp2
  rw [Lib.run_neq_ptr_same w _ Try.underlying79 hj]
  go_wp2
  go_end0
  exact ⟨rfl, rfl⟩
set_option maxHeartbeats 1000000 in
set_option maxRecDepth 100000 in
theorem Try.cc_fresh (b : Nat) (w : World) (h0 : w.cell? ⟨b, 0, none⟩ = some (.pointer none)) (hsh : w.shape? b = some (81, 2)) (hfz : w.frozen? ⟨b, 0, none⟩ = false) :
    Calls Try.prog 92 #[.pointer (some ⟨b, 0, none⟩)] w fun e w' => e = .returned (.tuple #[]) ∧ w' = w.setCell ⟨b, 0, none⟩ (.pointer (some ⟨b, 0, none⟩)) := by
  obtain ⟨j, hj, hjs⟩ := Option.map_eq_some_iff.1 (show (Try.prog.info? 81).map (·.size) = some 2 by kernel_rfl)
  have mixed : Try.prog.follows .mixedOrders = true := by kernel_rfl
  go_enter Try.func92, Try.ntmps92
  go_wp2
  rw [Lib.run_to_unsafe w ⟨b, 0, none⟩ Try.underlying79 Try.underlying128 hj (by rw [hjs]; decide) hsh (Nat.zero_lt_succ 1)]
  simp only [Result.andThen]
  rw [Oper.upon_value]
  go_wp2
  rw [run_callFunc_extern Try.func118 (by kernel_rfl) (by kernel_rfl) (by kernel_rfl) (e := Extern.AbiNoEscape.same) (by kernel_rfl)]
  rw [Lib.run_noEscape]
  simp only [Result.andThen]
  rw [Oper.upon_value]
  go_wp2
  rw [Lib.run_from_unsafe w ⟨b, 0, none⟩ Try.underlying128 Try.underlying79 hj hsh (by kernel_rfl)]
  simp only [Result.andThen]
  rw [Oper.upon_value]
  go_wp2
  go_end0
  exact ⟨rfl, rfl⟩
end Go.Proofs
namespace Go.Proofs
open Go.Shelf
def Try.laysM316_ren : Go.Shelf.Ren := ⟨fun | 316 => 112 | n => n, fun | 9 => 9 | 3 => 3 | 4 => 4 | 37 => 27 | 0 => 0 | 127 => 105 | 5 => 5 | n => n, fun | n => n⟩
theorem Try.laysM316 : Go.Proofs.LaysM.n316 Try.prog Try.laysM316_ren := {
  mixed := by kernel_rfl
  f316 := Try.func112.trans (congrArg some (by kernel_rfl))
  t0 := Try.underlying0
  a0 := Try.isAgg0
  z0 := Try.sizeOf0
  v0 := Try.zeroValue0
  t3 := Try.underlying3
  a3 := Try.isAgg3
  z3 := Try.sizeOf3
  v3 := Try.zeroValue3
  t4 := Try.underlying4
  a4 := Try.isAgg4
  z4 := Try.sizeOf4
  v4 := Try.zeroValue4
  t9 := Try.underlying9
  a9 := Try.isAgg9
  z9 := Try.sizeOf9
  v9 := Try.zeroValue9
  t37 := Try.underlying27
  a37 := Try.isAgg27
  z37 := Try.sizeOf27
  v37 := Try.zeroValue27
  t127 := Try.underlying105
  a127 := Try.isAgg105
  z127 := Try.sizeOf105
  v127 := Try.zeroValue105
  t5 := Try.underlying5
  a5 := Try.isAgg5
  z5 := Try.sizeOf5
  v5 := Try.zeroValue5
  i0 := by kernel_rfl
  i3 := by kernel_rfl
  i4 := by kernel_rfl
  i5 := by kernel_rfl
  i9 := by kernel_rfl
  i37 := by kernel_rfl
  i127 := by kernel_rfl }
open Go.RowKit in
/-- internal/stringslite.Clone (what strings.Clone calls): "Clone returns a fresh copy of s.": THE SAME BYTES. Of what was there nothing has turned (a new row is laid, and frozen, where s is not empty). (LAID: no walk: one application.) -/
theorem Try.stringslite_Clone (s : ByteArray) (w : World) (hlim : s.size ≤ 281474976710656) :
    Calls Try.prog 112 #[.string s] w fun e w' => e = .returned (.string s) ∧ Below w.heap.size w w' := Any.stringslite_Clone Try.laysM316 s w hlim
def Try.lays145_ren : Go.Shelf.Ren := ⟨fun | 145 => 106 | 220 => 128 | 219 => 157 | 217 => 165 | 225 => 156 | 224 => 155 | 267 => 166 | 266 => 168 | 314 => 169 | n => n, fun | 9 => 9 | 4 => 4 | 59 => 120 | 3 => 3 | 5 => 5 | 46 => 127 | 146 => 175 | 51 => 150 | n => n, fun | 1 => 0 | n => n⟩
theorem Try.lays145 : Go.Proofs.Lays.n145 Try.prog Try.lays145_ren := {
  mixed := by kernel_rfl
  f145 := Try.func106.trans (congrArg some (by kernel_rfl))
  f217 := Try.func165.trans (congrArg some (by kernel_rfl))
  f219 := Try.func157.trans (congrArg some (by kernel_rfl))
  f220 := Try.func128.trans (congrArg some (by kernel_rfl))
  f224 := Try.func155.trans (congrArg some (by kernel_rfl))
  f225 := Try.func156.trans (congrArg some (by kernel_rfl))
  f266 := Try.func168.trans (congrArg some (by kernel_rfl))
  f267 := Try.func166.trans (congrArg some (by kernel_rfl))
  f314 := Try.func169.trans (congrArg some (by kernel_rfl))
  t3 := Try.underlying3
  a3 := Try.isAgg3
  z3 := Try.sizeOf3
  v3 := Try.zeroValue3
  t4 := Try.underlying4
  a4 := Try.isAgg4
  z4 := Try.sizeOf4
  v4 := Try.zeroValue4
  t5 := Try.underlying5
  a5 := Try.isAgg5
  z5 := Try.sizeOf5
  v5 := Try.zeroValue5
  t9 := Try.underlying9
  a9 := Try.isAgg9
  z9 := Try.sizeOf9
  v9 := Try.zeroValue9
  t46 := Try.underlying127
  a46 := Try.isAgg127
  z46 := Try.sizeOf127
  v46 := Try.zeroValue127
  t51 := Try.underlying150
  a51 := Try.isAgg150
  z51 := Try.sizeOf150
  v51 := Try.zeroValue150
  t59 := Try.underlying120
  a59 := Try.isAgg120
  z59 := Try.sizeOf120
  v59 := Try.zeroValue120
  t146 := Try.underlying175
  a146 := Try.isAgg175
  z146 := Try.sizeOf175
  v146 := Try.zeroValue175
  g1 := by kernel_rfl }
open Go.RowKit Go.Lib in
/-- strings.Cut: "Cut slices s around the first instance of sep, returning the text before and after sep. The found result reports whether sep appears in s. If sep does not appear in s, cut returns s, "", false.": IT RETURNS 'Lib.cut s sep'; the world is as it was but for the count of draws. (LAID: no walk: one application.) -/
theorem Try.strings_Cut (s sep : ByteArray) (m : Int) (w : World) (hs : s.size < 4294967281) (hm : w.cell? ⟨0, 0, none⟩ = some (.int .i64 m)) :
    Calls Try.prog 106 #[.string s, .string sep] w fun e w' => e = .returned (.tuple #[.string ⟨(Lib.cut s.data.toList sep.data.toList).1.toArray⟩, .string ⟨(Lib.cut s.data.toList sep.data.toList).2.1.toArray⟩, .bool (Lib.cut s.data.toList sep.data.toList).2.2]) ∧ ∃ n, w' = w.drewN n := Any.strings_Cut Try.lays145 s sep m w hs hm
def Try.lays99_ren : Go.Shelf.Ren := ⟨fun | 99 => 70 | 206 => 103 | n => n, fun | 9 => 9 | 4 => 4 | 3 => 3 | n => n, fun | n => n⟩
theorem Try.lays99 : Go.Proofs.Lays.n99 Try.prog Try.lays99_ren := {
  mixed := by kernel_rfl
  f99 := Try.func70.trans (congrArg some (by kernel_rfl))
  f206 := Try.func103.trans (congrArg some (by kernel_rfl))
  t3 := Try.underlying3
  a3 := Try.isAgg3
  z3 := Try.sizeOf3
  v3 := Try.zeroValue3
  t4 := Try.underlying4
  a4 := Try.isAgg4
  z4 := Try.sizeOf4
  v4 := Try.zeroValue4
  t9 := Try.underlying9
  a9 := Try.isAgg9
  z9 := Try.sizeOf9
  v9 := Try.zeroValue9 }
open Go.RowKit Go.Lib in
/-- strings.HasPrefix: "HasPrefix reports whether the string s begins with prefix.": IT RETURNS 'Lib.hasPrefix s prefix'; the world is as it was. (LAID: no walk: one application.) -/
theorem Try.strings_HasPrefix (s p : ByteArray) (w : World) :
    Calls Try.prog 70 #[.string s, .string p] w fun e w' => e = .returned (.bool (Lib.hasPrefix s.data.toList p.data.toList)) ∧ w' = w := Any.strings_HasPrefix Try.lays99 s p w
def Try.lays101_ren : Go.Shelf.Ren := ⟨fun | 101 => 71 | 208 => 104 | 206 => 103 | n => n, fun | 9 => 9 | 4 => 4 | 3 => 3 | n => n, fun | n => n⟩
theorem Try.lays101 : Go.Proofs.Lays.n101 Try.prog Try.lays101_ren := {
  mixed := by kernel_rfl
  f101 := Try.func71.trans (congrArg some (by kernel_rfl))
  f206 := Try.func103.trans (congrArg some (by kernel_rfl))
  f208 := Try.func104.trans (congrArg some (by kernel_rfl))
  t3 := Try.underlying3
  a3 := Try.isAgg3
  z3 := Try.sizeOf3
  v3 := Try.zeroValue3
  t4 := Try.underlying4
  a4 := Try.isAgg4
  z4 := Try.sizeOf4
  v4 := Try.zeroValue4
  t9 := Try.underlying9
  a9 := Try.isAgg9
  z9 := Try.sizeOf9
  v9 := Try.zeroValue9 }
open Go.RowKit Go.Lib in
/-- strings.TrimPrefix: "TrimPrefix returns s without the provided leading prefix string. If s doesn't start with prefix, s is returned unchanged.": IT RETURNS 'Lib.trimPrefix s prefix'; the world is as it was. (LAID: no walk: one application.) -/
theorem Try.strings_TrimPrefix (s p : ByteArray) (w : World) :
    Calls Try.prog 71 #[.string s, .string p] w fun e w' => e = .returned (.string ⟨(Lib.trimPrefix s.data.toList p.data.toList).toArray⟩) ∧ w' = w := Any.strings_TrimPrefix Try.lays101 s p w
def Try.lays153_ren : Go.Shelf.Ren := ⟨fun | 153 => 105 | 152 => 124 | 226 => 125 | 227 => 126 | 228 => 127 | 137 => 153 | 119 => 154 | 224 => 155 | 225 => 156 | 217 => 165 | 266 => 168 | n => n, fun | 9 => 9 | 3 => 3 | 4 => 4 | 5 => 5 | 21 => 21 | 117 => 138 | 116 => 137 | 0 => 0 | 46 => 127 | 124 => 162 | n => n, fun | n => n⟩
theorem Try.lays153 : Go.Proofs.Lays.n153 Try.prog Try.lays153_ren := {
  mixed := by kernel_rfl
  f119 := Try.func154.trans (congrArg some (by kernel_rfl))
  f137 := Try.func153.trans (congrArg some (by kernel_rfl))
  f152 := Try.func124.trans (congrArg some (by kernel_rfl))
  f153 := Try.func105.trans (congrArg some (by kernel_rfl))
  f217 := Try.func165.trans (congrArg some (by kernel_rfl))
  f224 := Try.func155.trans (congrArg some (by kernel_rfl))
  f225 := Try.func156.trans (congrArg some (by kernel_rfl))
  f226 := Try.func125.trans (congrArg some (by kernel_rfl))
  f227 := Try.func126.trans (congrArg some (by kernel_rfl))
  f228 := Try.func127.trans (congrArg some (by kernel_rfl))
  f266 := Try.func168.trans (congrArg some (by kernel_rfl))
  t0 := Try.underlying0
  a0 := Try.isAgg0
  z0 := Try.sizeOf0
  v0 := Try.zeroValue0
  t3 := Try.underlying3
  a3 := Try.isAgg3
  z3 := Try.sizeOf3
  v3 := Try.zeroValue3
  t4 := Try.underlying4
  a4 := Try.isAgg4
  z4 := Try.sizeOf4
  v4 := Try.zeroValue4
  t5 := Try.underlying5
  a5 := Try.isAgg5
  z5 := Try.sizeOf5
  v5 := Try.zeroValue5
  t9 := Try.underlying9
  a9 := Try.isAgg9
  z9 := Try.sizeOf9
  v9 := Try.zeroValue9
  t21 := Try.underlying21
  a21 := Try.isAgg21
  z21 := Try.sizeOf21
  v21 := Try.zeroValue21
  t46 := Try.underlying127
  a46 := Try.isAgg127
  z46 := Try.sizeOf127
  v46 := Try.zeroValue127
  t116 := Try.underlying137
  a116 := Try.isAgg137
  z116 := Try.sizeOf137
  t117 := Try.underlying138
  a117 := Try.isAgg138
  z117 := Try.sizeOf138
  v117 := Try.zeroValue138
  t124 := Try.underlying162
  a124 := Try.isAgg162
  z124 := Try.sizeOf162
  v124 := Try.zeroValue162 }
open Go.RowKit Go.Lib in
theorem Try.strings_IndexAny_laid (s chars : ByteArray) (w : World) (hs : s.size < 4294967281) (hcs : chars.size < 4294967281) (has : ∀ (j : Nat) b, s.data.toList[j]? = some b → b.toNat < 128) (hac : ∀ (j : Nat) b, chars.data.toList[j]? = some b → b.toNat < 128) :
    Calls Try.prog 105 #[.string s, .string chars] w fun e w' => e = .returned (.int .i64 (Lib.indexAny s.data.toList chars.data.toList)) ∧ Below w.heap.size w w' := Any.strings_IndexAny_laid Try.lays153 (by kernel_rfl) s chars w hs hcs has hac
end Go.Proofs
namespace Go.Abs
open Go.Proofs Go.RowKit
set_option maxRecDepth 100000
theorem enters_of (g : Nat) (F : Func) (h : Try.prog.funcs[g]? = some F) (hb : F.body.isSome = true) (hn : (F.name == "runtime.NumGoroutine") = false) : Enters V0.P g := ⟨F, h, hb, hn⟩
theorem prims0 : ∀ g p, V0.prim g = some p → PrimSnd V0.P g p := by
  intro g p h
  obtain ⟨e, he, rfl⟩ := Option.map_eq_some_iff.1 (show (primTab.find? fun e => e.1 == g).map (·.2) = some p from h)
  have hm := List.mem_of_find?_eq_some he
  have hg : e.1 = g := by simpa using List.find?_some he
  subst hg
  simp only [primTab, List.mem_cons, List.not_mem_nil, or_false] at hm
  rcases hm with rfl | rfl | rfl | rfl | rfl | rfl
  · exact fHasPrefix_snd (enters_of 70 _ Try.func70 (by kernel_rfl) (by kernel_rfl)) Try.strings_HasPrefix
  · exact fTrimPrefix_snd (enters_of 71 _ Try.func71 (by kernel_rfl) (by kernel_rfl)) Try.strings_TrimPrefix
  · exact pCopyCheck_snd (enters_of 92 _ Try.func92 (by kernel_rfl) (by kernel_rfl)) Try.cc_fresh Try.cc_used
  · exact fIndexAny_snd (enters_of 105 _ Try.func105 (by kernel_rfl) (by kernel_rfl)) Try.strings_IndexAny_laid
  · exact fCut_snd (enters_of 106 _ Try.func106 (by kernel_rfl) (by kernel_rfl)) fun s t w hw hs => let ⟨m, hm⟩ := hw 0 (by simp); Try.strings_Cut s t m w hs hm
  · exact fClone_snd (enters_of 112 _ Try.func112 (by kernel_rfl) (by kernel_rfl)) Try.stringslite_Clone
end Go.Abs
namespace Go.Abs
open Go.Proofs Go.RowKit
/-- what is known of the library's own variables, of any world of this program's shape -/
theorem glob_of {W : World} (hsh : W.ShapedOpen Try.prog) : Glob W := by
  intro b hb
  have hb0 : b = 0 := by simpa using hb
  subst hb0
  exact Go.Proofs.cell_of_shapedOpen_int (zero := #[.int .i64 0]) (t := 3) hsh (of_decide_eq_true (by kernel_rfl)) (by kernel_rfl) rfl (by kernel_rfl) (by kernel_rfl) Try.underlying3
end Go.Abs
namespace Go.Abs
set_option linter.unusedVariables false
open Go.RowKit Go.Proofs Go.Deep

theorem good0 : Go.Abs.Good V0 where
  draw := draw_sound (by kernel_rfl)
  prim := prims0
  name := by
    intro f F hF hb
    have all : (Try.prog.funcs.all fun F => !F.body.isSome || !(F.name == "runtime.NumGoroutine")) = true := by kernel_rfl
    have := Array.all_eq_true.1 all
    obtain ⟨hi, rfl⟩ := Array.getElem?_eq_some_iff.1 hF
    have h1 : (!V0.P.funcs[f].body.isSome || !(V0.P.funcs[f].name == "runtime.NumGoroutine")) = true := this f hi
    rw [hb, Bool.not_true, Bool.false_or] at h1
    cases hq : (V0.P.funcs[f].name == "runtime.NumGoroutine") with
    | false => rfl
    | true => rw [hq] at h1; cases h1

theorem rel_start (W : World) (hg : Glob W) : Rel W 0 (fun _ => ⟨0, 0, 0⟩) [] W :=
  ⟨Below.refl _ _, fun id g sz cs e => by simp at e, fun id es e => by simp at e, fun i j _ hi _ _ => by rcases hi with ⟨_, _, _, e⟩ | ⟨_, e⟩ <;> simp at e, hg⟩

/-- a cell that stands for itself -/
def plainC : Value → Bool
  | .bool _ | .int .. | .string _ => true
  | _ => false
theorem plainC_vr {ι : Iota} {h : AH} {v : Value} (p : plainC v = true) : VR ι h v v ∧ oneCell v = true := by
  cases v <;> first | (cases p; done) | skip
  · exact ⟨VR.bool _, rfl⟩
  · exact ⟨VR.int _ _, rfl⟩
  · exact ⟨VR.str _, rfl⟩

theorem okWide_has {P : Program} {W : World} {r : Reach} {base t e : Nat} {a : Addr} {len cap : Nat} (ht : P.underlying t = some (.slice e)) (h : Value.okWide P W r base t (.slice (some a) len cap)) :
    a.spot = none ∧ ∃ arr el fr, W.heap[a.block]? = some (.cells arr el fr) := by
  simp only [Value.okWide, ht, Cell.okWide, Cell.ok, World.has] at h
  obtain ⟨-, -, -, hs, row, n, hsh, -⟩ := h
  refine ⟨hs, ?_⟩
  unfold World.shape? at hsh
  split at hsh
  · rename_i c el fr e; exact ⟨_, _, _, e⟩
  · cases hsh
theorem compat_app {ι ι' : Iota} {h : AH} (o : AObj) (hι : ∀ j, j < h.length → ι' j = ι j) : Compat ι h ι' (h ++ [o]) := by
  have key : ∀ id, live h id → (h ++ [o])[id]? = h[id]? := fun id l => List.getElem?_append_left (live_lt l)
  refine ⟨by simp, fun id l => ?_, fun id l g' sz' cs' e => ?_, fun id l es' e => ?_⟩
  · rcases l with ⟨g, sz, cs, e⟩ | ⟨es, e⟩
    · exact .inl ⟨g, sz, cs, by rw [key id (.inl ⟨g, sz, cs, e⟩), e]⟩
    · exact .inr ⟨es, by rw [key id (.inr ⟨es, e⟩), e]⟩
  · rw [key id l] at e
    exact ⟨g', _, cs', e, Nat.le_refl _, fun _ => ⟨rfl, hι id (live_lt l)⟩⟩
  · rw [key id l] at e
    exact ⟨es', e, hι id (live_lt l)⟩
/-- an argument that is a slice of plain cells: an object that is read, behind those of the arguments ahead of it -/
theorem rel_arg {W : World} {n0 : Nat} {ι : Iota} {h : AH} (R : Rel W n0 ι h W) {a : Addr} {len cap k : Nat} {cs : List Value} {arr : Array Value} {el : TypeId} {fr : Nat × Nat} (hk : 0 < k ∧ k < 4294967296) (hsp : a.spot = none) (harr : W.heap[a.block]? = some (.cells arr el fr))
    (hm : ∀ (id : Nat) es, h[id]? ≠ some (AObj.map es)) (hlc : len ≤ cap) (hcs : cs.length = len * k) (hp : cs.all plainC = true)
    (hget : ∀ (i : Nat) v, cs[i]? = some v → arr[a.off + i]? = some v) (hcap : 0 < cap → a.off + cap * k ≤ arr.size) :
    ∃ ι', Rel W (h.length + 1) ι' (h ++ [AObj.row 0 k cs]) W ∧ (∀ j, j < h.length → ι' j = ι j) ∧ VR ι' (h ++ [AObj.row 0 k cs]) (slV h.length 0 len len) (.slice (some a) len cap) := by
  refine ⟨fun j => if j < h.length then ι j else ⟨a.block, if cap = 0 then 0 else a.off, arr.size⟩, ?_, fun j hj => if_pos hj, ?_⟩
  · have C : Compat ι h (fun j => if j < h.length then ι j else ⟨a.block, if cap = 0 then 0 else a.off, arr.size⟩) (h ++ [AObj.row 0 k cs]) := compat_app _ fun j hj => if_pos hj
    refine ⟨R.below, fun id g sz cs' e => ?_, fun id es e => ?_, fun i j hij hi hj hl => ?_, R.glob⟩
    · by_cases hid : id < h.length
      · rw [List.getElem?_append_left hid] at e
        obtain ⟨arr', t', fr', e1, e2, e3, e4⟩ := R.row id g sz cs' e
        simp only [if_pos hid]
        exact ⟨arr', t', fr', e1, e2, fun i v hv => let ⟨v', a1, a2, a3⟩ := e3 i v hv; ⟨v', a1, a2.mono C, a3⟩, fun hq => absurd hq (by omega)⟩
      · have hid2 : id = h.length := by
          have := lt_of_get e
          simp at this; omega
        subst hid2
        simp at e
        obtain ⟨rfl, rfl, rfl⟩ := e
        simp only [if_neg hid]
        refine ⟨arr, el, fr, harr, rfl, fun i v hv => ?_, fun hq => absurd hq (by omega)⟩
        have hc0 : cap ≠ 0 := by
          intro q
          have : i < cs.length := by
            rcases Nat.lt_or_ge i cs.length with q | q
            · exact q
            · rw [List.getElem?_eq_none q] at hv; cases hv
          have h0 : len = 0 := by omega
          have : cs.length = 0 := by rw [hcs, h0, Nat.zero_mul]
          omega
        have ho : (if cap = 0 then 0 else a.off) = a.off := if_neg hc0
        have hpv := List.all_eq_true.1 hp v (List.mem_of_getElem? hv)
        obtain ⟨p1, p2⟩ := plainC_vr (ι := fun j => if j < h.length then ι j else ⟨a.block, if cap = 0 then 0 else a.off, arr.size⟩) (h := h ++ [AObj.row 0 k cs]) hpv
        exact ⟨v, by rw [ho]; exact hget i v hv, p1, p2⟩
    · by_cases hid : id < h.length
      · rw [List.getElem?_append_left hid] at e
        exact absurd e (hm id es)
      · have hid2 : id = h.length := by
          have := lt_of_get e
          simp at this; omega
        subst hid2
        simp at e
    · have := live_lt hi
      simp at this; omega
  · refine VR.slice (.inl ⟨0, k, cs, by simp⟩) hlc hlc fun g' sz cs' e => ?_
    simp at e
    obtain ⟨rfl, rfl, rfl⟩ := e
    refine ⟨Nat.le_refl _, fun _ => ⟨?_, ?_⟩⟩
    · by_cases hc0 : cap = 0
      · exact .inl hc0
      · refine .inr ?_
        simp only [if_neg (Nat.lt_irrefl _), if_neg hc0, Nat.add_zero]
        cases a; simp only at hsp; subst hsp; rfl
    · simp only [if_neg (Nat.lt_irrefl _)]
      by_cases hc0 : cap = 0
      · simp [hc0]
      · have hwk : wd k = k := Nat.mod_eq_of_lt hk.2
        rw [if_neg hc0, hwk]; have := hcap (by omega); omega
theorem add_block (a : Addr) (n : Nat) : (a.add n).block = a.block := by unfold Addr.add; split <;> rfl
theorem add_off (a : Addr) (n : Nat) : (a.add n).off = a.off + n := by unfold Addr.add; split <;> simp_all
theorem cell_arr {W : World} {p : Addr} {v : Value} {b : Nat} {arr : Array Value} {el : TypeId} {fr : Nat × Nat} (hb : W.heap[b]? = some (.cells arr el fr)) (hp : p.block = b) (h : W.cell? p = some v) : arr[p.off]? = some v := by
  unfold World.cell? at h
  rw [hp, hb] at h
  simp only at h
  split at h
  · cases h
  · exact h
theorem flat_get {α : Type} {f : α → List Value} {k : Nat} (hk : 0 < k) (hf : ∀ x, (f x).length = k) : ∀ (xs : List α) (i : Nat), (xs.flatMap f)[i]? = (xs[i / k]?).bind fun x => (f x)[i % k]?
  | [], i => by simp
  | x :: xs, i => by
    rw [List.flatMap_cons]
    by_cases hi : i < k
    · rw [List.getElem?_append_left (by rw [hf]; exact hi), Nat.div_eq_of_lt hi, Nat.mod_eq_of_lt hi]; rfl
    · rw [List.getElem?_append_right (by rw [hf]; omega), hf, flat_get hk hf xs (i - k)]
      have h1 : i / k = (i - k) / k + 1 := by rw [Nat.div_eq_sub_div hk (by omega)]
      have h2 : i % k = (i - k) % k := Nat.mod_eq_sub_mod (by omega)
      rw [h1, h2, List.getElem?_cons_succ]
/-- the elements of a slice that is an argument, each of k cells -/
theorem open_els {α : Type} [Inhabited α] {f : α → List Value} {k : Nat} (hk : 0 < k) (hf : ∀ x, (f x).length = k) {good : α → Prop} {H : Type} {enc : TypeId × Value → H} {P : Program} {W : World} {t e base : Nat} {v : Value} {d : DataW H} {ps : List MemPlace}
    (ht : P.underlying t = some (.slice e)) (hc : P.cellsOf e = k) (hval : Value.okWide P W .any base t v) (hd : DataW.Trod enc P W 0 (fun _ => true) true t v d ps)
    (hel : ∀ fuel cs x, DataW.trod enc P W 0 (fun _ => true) true fuel e cs = some x → ∃ y, cs = f y ∧ good y) (hplain : ∀ y, (f y).all plainC = true) :
    v = .slice none 0 0 ∨ ∃ (a : Addr) (len cap : Nat) (xs : List α) (arr : Array Value) (el : TypeId) (fr : Nat × Nat), v = .slice (some a) len cap ∧ a.spot = none ∧ W.heap[a.block]? = some (.cells arr el fr) ∧ xs.length = len ∧ len ≤ cap ∧ len ≤ maxLen ∧
      (∀ x ∈ xs, good x) ∧ (xs.flatMap f).length = len * k ∧ (xs.flatMap f).all plainC = true ∧ (∀ (i : Nat) v, (xs.flatMap f)[i]? = some v → arr[a.off + i]? = some v) ∧ (0 < cap → a.off + cap * k ≤ arr.size) := by
  obtain ⟨fuel, hfu⟩ := hd
  obtain ⟨va, len, cap, rfl⟩ := Go.WideShapes.okWide_slice ht hval
  rcases open_slice ht hfu with ⟨h0, -⟩ | ⟨a, len', cap', m, n, D, Pl, hcs, hb, hl, hm, hmm, -, hx⟩
  · left; simpa [Value.cells] using h0
  · right
    simp only [Value.cells, List.cons.injEq, and_true] at hcs
    cases hcs
    simp only [if_true] at hmm
    subst hmm
    obtain ⟨hsp, arr, el, fr, harr⟩ := okWide_has ht hval
    rw [hc] at hx
    have hx' : ∀ i, i < m → ∃ y, W.cells? 0 (a.add (i * k)) k = some (f y) ∧ good y := fun i hi => by
      obtain ⟨cs', h1, h2⟩ := hx i hi
      obtain ⟨y, rfl, hg⟩ := hel _ _ _ h2
      exact ⟨y, h1, hg⟩
    obtain ⟨X, hX⟩ := choose_lt hx'
    have hcell : ∀ i, i < m → ∀ j v, (f (X i))[j]? = some v → arr[a.off + (i * k + j)]? = some v := fun i hi j v hv => by
      obtain ⟨-, hlen, hg⟩ := World.cells?_some (hX i hi).1
      have hj : j < k := by
        rcases Nat.lt_or_ge j (f (X i)).length with q | q
        · rw [hf] at q; exact q
        · rw [List.getElem?_eq_none q] at hv; cases hv
      have := cell_arr harr (by rw [add_block, add_block]) ((hg j hj).trans hv)
      rw [add_off, add_off] at this
      rw [← Nat.add_assoc]; exact this
    have hxs : ∀ i, i < len → ((List.range len).map X)[i]? = some (X i) := fun i hi => by simp [hi]
    refine ⟨a, len, m, (List.range len).map X, arr, el, fr, rfl, hsp, harr, by simp, hl, by omega, ?_, ?_, ?_, ?_, ?_⟩
    · intro x hx
      obtain ⟨i, hi, rfl⟩ := List.mem_map.1 hx
      exact (hX i (by have := List.mem_range.1 hi; omega)).2
    · have : ∀ (l : List α), (l.flatMap f).length = l.length * k := by
        intro l
        induction l with
        | nil => simp
        | cons x l ih => rw [List.flatMap_cons, List.length_append, ih, hf, List.length_cons, Nat.succ_mul]; omega
      rw [this]; simp
    · rw [List.all_eq_true]
      intro v hv
      obtain ⟨x, -, hx⟩ := List.mem_flatMap.1 hv
      exact List.all_eq_true.1 (hplain x) v hx
    · intro i v hv
      rw [flat_get hk hf] at hv
      obtain ⟨x, h1, h2⟩ := Option.bind_eq_some_iff.1 hv
      have hi : i / k < len := by
        rcases Nat.lt_or_ge (i / k) len with q | q
        · exact q
        · rw [List.getElem?_eq_none (by simpa using q)] at h1; cases h1
      rw [hxs _ hi] at h1
      cases h1
      have := hcell (i / k) (by omega) (i % k) v h2
      rw [Nat.div_add_mod' i k] at this
      exact this
    · intro h0
      have hlast : (f (X (m - 1)))[k - 1]? = some ((f (X (m - 1)))[k - 1]'(by rw [hf]; omega)) := List.getElem?_eq_getElem _
      have := hcell (m - 1) (by omega) (k - 1) _ hlast
      have hs : a.off + ((m - 1) * k + (k - 1)) < arr.size := by
        rcases Nat.lt_or_ge (a.off + ((m - 1) * k + (k - 1))) arr.size with q | q
        · exact q
        · rw [Array.getElem?_eq_none q] at this; cases this
      have : m * k = (m - 1) * k + k := by rw [← Nat.succ_mul]; congr 1; omega
      omega
end Go.Abs
namespace Go.Abs
open Go.RowKit Go.Proofs Go.Deep
theorem maxLen_is : maxLen = 9223372036854775807 := by kernel_rfl
theorem sV_data (s : ByteArray) : sV s.data.toList = .string s := by cases s; rfl
theorem Try.own : ownKnob Try.prog.godebug = none := by kernel_rfl
theorem Try.laidOut : laidOutB Try.prog = true := by kernel_rfl
theorem und3 : Try.prog.underlying 3 = some (.int .i64) := by kernel_rfl
theorem und4 : Try.prog.underlying 4 = some .bool := by kernel_rfl
theorem und5 : Try.prog.underlying 5 = some (.int .u8) := by kernel_rfl
theorem und9 : Try.prog.underlying 9 = some .string := by kernel_rfl
theorem cells3 : Try.prog.cellsOf 3 = 1 := by kernel_rfl
theorem cells4 : Try.prog.cellsOf 4 = 1 := by kernel_rfl
theorem cells5 : Try.prog.cellsOf 5 = 1 := by kernel_rfl
theorem cells9 : Try.prog.cellsOf 9 = 1 := by kernel_rfl
def NoMaps (h : AH) : Prop := ∀ (id : Nat) es, h[id]? ≠ some (AObj.map es)
end Go.Abs
namespace Go.Abs
open Go.RowKit Go.Proofs Go.Deep
set_option linter.unusedVariables false

theorem u8_flat (s : Bs) : s.flatMap (fun b => [Value.int .u8 b.toNat]) = u8c s := by
  induction s with
  | nil => rfl
  | cons b s ih => rw [List.flatMap_cons, ih]; rfl
theorem und27 : Try.prog.underlying 27 = some (.slice 5) := by kernel_rfl
theorem u8_el {H : Type} {enc : TypeId × Value → H} {W : World} (fuel : Nat) (cs : List Value) (x : DataW H × List MemPlace) (h : DataW.trod enc Try.prog W 0 (fun _ => true) true fuel 5 cs = some x) : ∃ y : UInt8, cs = [Value.int .u8 y.toNat] ∧ True := by
  obtain ⟨n, rfl, -, hw⟩ := DataW.trod_int und5 h
  have hb : 0 ≤ n ∧ n ≤ 255 := by
    simp only [Lit.wf, Bool.and_eq_true, decide_eq_true_eq] at hw
    exact hw
  refine ⟨UInt8.ofNat n.toNat, ?_, trivial⟩
  have : ((UInt8.ofNat n.toNat).toNat : Int) = n := by
    rw [UInt8.toNat_ofNat']
    have : n.toNat % 2 ^ 8 = n.toNat := Nat.mod_eq_of_lt (by omega)
    rw [this]; omega
  rw [this]
set_option maxRecDepth 100000 in
/-- an argument of bytes, behind those ahead of it -/
theorem bytes_arg {H : Type} {enc : TypeId × Value → H} {W : World} {base : Nat} {v : Value} {d : DataW H} {ps : List MemPlace} {n0 : Nat} {ι : Iota} {h : AH} (R : Rel W n0 ι h W) (hn0 : n0 ≤ h.length) (hm : NoMaps h)
    (hval : Value.okWide Try.prog W .any base 27 v) (hd : DataW.Trod enc Try.prog W 0 (fun _ => true) true 27 v d ps) :
    ∃ (n1 : Nat) (ι' : Iota) (h' : AH) (va : Value) (n : Nat), n1 ≤ h'.length ∧ Rel W n1 ι' h' W ∧ NoMaps h' ∧ Keep h.length h h' ∧ Compat ι h ι' h' ∧ VR ι' h' va v ∧ Cd h' va n ∧ n ≤ 9223372036854775807 := by
  rcases open_els (f := fun b : UInt8 => [Value.int .u8 b.toNat]) (k := 1) (good := fun _ => True) (by omega) (fun _ => rfl) und27 cells5 hval hd (fun fuel cs x h => u8_el fuel cs x h) (fun _ => rfl) with rfl | ⟨a, len, cap, xs, arr, el, fr, rfl, hsp, harr, hl, hlc, hml, hg, hcs, hp, hget, hcap⟩
  · exact ⟨n0, ι, h, .slice none 0 0, 0, hn0, R, hm, Keep.refl _ _, Compat.refl _ _, VR.snil, .inl ⟨rfl, rfl⟩, Nat.zero_le _⟩
  · rw [u8_flat] at hcs hp hget
    obtain ⟨ι', R', hι, hv⟩ := rel_arg R (k := 1) (by omega) hsp harr hm hlc hcs hp hget hcap
    subst hl
    refine ⟨h.length + 1, ι', _, _, xs.length, by simp, R', ?_, Keep.app _ _ (Nat.le_refl _), compat_app _ hι, hv, .inr ⟨h.length, xs, rfl, by simp, rfl⟩, by rw [maxLen_is] at hml; exact hml⟩
    intro id es e
    by_cases hid : id < h.length
    · rw [List.getElem?_append_left hid] at e; exact hm id es e
    · have : id = h.length := by have := lt_of_get e; simp at this; omega
      subst this
      simp at e
end Go.Abs
namespace Go.Proofs.Ytdhogmkdmbfijaa
open Go.ChangeShapes Go.WideShapes Go.ChangeAt Go.RowKit Go.Abs

set_option maxRecDepth 100000 in
theorem fnPathGet_lifted (os : Os) (started : os.Started) (H : Type) (enc : TypeId × Value → H) :
    ReturnsInHanded {} Try.checked os 10 .any (Rows.fnPathGetSpec.pre6 enc Try.prog Try.f10 Rows.fnPathGetRow.domain false) (Rows.fnPathGetSpec.post enc Try.prog Try.f10 false true false false) := by
  refine returnsInHanded_of_change_shaped (C := Try.checked) Try.own started (by kernel_rfl) Try.func10
    (ChangeSpec.witness6 (enc := enc) (C := Try.checked) false ⟨#[], #[.slice none 0 0], []⟩ 8 (by kernel_rfl) (by kernel_rfl) (by kernel_rfl) (by kernel_rfl)) ?_
  intro W base args ds gs before hval0 hW hcnd _ hsh _
  have hval : ∀ (j : Nat) t v, Try.f10.params[j]? = some t → args[j]? = some v → Value.okWide Try.prog W .any base t v := hval0
  have hW' := hW
  obtain ⟨p, q, hA0, hV, rfl, hfz, hnd⟩ := hW
  have hA : DataW.TrodAll enc Try.prog W 0 (fun _ => true) true Try.f10.params.toList args.toList ds p := hA0
  rw [Try.params10] at hA hval
  obtain ⟨v0, d0, rfl, rfl, h0⟩ := trodAll_one hA
  obtain ⟨rfl, rfl⟩ := trodVars_none hV
  have hlt : ∀ x ∈ p, x.block < W.heap.size := fun x hx => by simpa using hW'.lt x (by simpa using hx)
  obtain ⟨n0, ι0, g0, va0, na0, hn0, R0, m0, k0, c0, hv0, hq0, hl0⟩ := bytes_arg (rel_start W (glob_of hsh)) (Nat.le_refl _) (fun id es e => by simp at e) (hval 0 27 v0 rfl rfl) h0
  clear hA0 hval0
  simp only [List.append_nil] at hW'
  obtain ⟨h', e⟩ := rz10 va0 na0 n0 g0 hq0 hn0
  obtain ⟨-, hc⟩ := run_sound good0 10 n0 [va0] g0 _ e
  refine (hc W n0 ι0 W [v0] (Nat.le_refl _) R0 ⟨rfl, fun i v hv' => ?_⟩).mono fun en W' hr => ?_
  · match i, hv' with
    | 0, hv' => cases hv'; exact ⟨v0, rfl, hv0⟩
    | i + 1, hv' => simp at hv'
  · cases en with
    | returned v' =>
      obtain ⟨v, h2, ι', ho, hrel, hstep, hvr⟩ := hr
      cases ho
      cases hvr
      have bel := hrel.below
      exact ⟨_, rfl, _, _, _, [], p, [], hW', trodAll_mk1 (shut_bool und4 true), trodAll_mk1 (Below.trod Try.laidOut (by kernel_rfl) (of_decide_eq_true (by kernel_rfl)) h0 bel hlt), rfl, bel.frame _, fun h => by cases h⟩
    | panicked ch => obtain ⟨v, v', h2, ι', ho, _⟩ := hr; cases ho
    | outgrown => exact hr.elim

theorem fnPathGet_holds : Rows.FnPathGetSaid :=
  OpenClaim.holds_of_wide 10 Try.f10 rfl rfl rfl rfl rfl rfl rfl ⟨rfl, rfl, rfl, rfl, rfl⟩ rfl rfl rfl rfl rfl (by kernel_rfl) Try.func10 (by kernel_rfl)
    (of_decide_eq_true (by kernel_rfl)) (by unfold Func.isWrapper; first | (rw [if_pos (by decide +kernel)]; kernel_rfl) | (rw [if_neg (by decide +kernel)]; exact ⟨rfl, rfl⟩))
    (fun os started H enc _ => fnPathGet_lifted os started H enc)
end Go.Proofs.Ytdhogmkdmbfijaa
