/- Facts of the program's types, loops and regions, and the rules by which a function is run. No statement of the program is proved here; no condition. -/
import Derived.Test.YtdhogmkdmbfijaaAbsC
import Derived.Test.YtdhogmkdmbfijaaAbsB
import Derived.Test.YtdhogmkdmbfijaaRows
namespace Go.Abs
open Go.Proofs
set_option maxRecDepth 100000
noncomputable def cutTab : List (Nat × List Nat × Nat) := [(20, [1, 1, 1, 0, 1, 0], 35), (22, [1, 1, 0, 1, 0], 25), (24, [1, 1, 0, 1, 0], 35), (26, [1, 1, 1, 0, 1, 0], 3592), (33, [1, 1, 1, 0, 1, 0], 49), (34, [1, 1, 0, 1, 0], 35), (41, [1, 0, 1, 0], 35), (42, [1, 0, 1, 0], 35), (51, [1, 1, 1, 0, 0], 9), (56, [1, 0, 1, 0], 9), (61, [1, 0, 1, 0], 898), (63, [1, 1, 0, 1, 0], 25), (69, [1, 1, 0, 1, 0], 25), (78, [1, 1, 0, 0], 17), (90, [1, 0, 1, 0], 387), (91, [1, 0, 1, 0], 449), (109, [1, 1, 1, 1, 1, 0, 0], 117), (114, [1, 0, 1, 0], 9), (115, [1, 0, 1, 0], 9), (131, [1, 1, 1, 0, 1, 0], 903)]
noncomputable def cutT (f : Nat) (p : List Nat) : Option Nat := if p.getLast? = some 1 then none else (cutTab.find? fun e => e.1 == f && e.2.1 == p).map (·.2.2)
noncomputable def primTab : List (Nat × (Hnd → Nat → List Value → AH → R)) := [(70, pPure fHasPrefix), (71, pPure fTrimPrefix), (92, pCopyCheck 81), (105, pPure fIndexAny), (106, pPure fCut), (112, pPure fClone)]
noncomputable def primT (g : Nat) : Option (Hnd → Nat → List Value → AH → R) := (primTab.find? fun e => e.1 == g).map (·.2)
noncomputable def V0 : Env := { P := Try.prog, prim := primT, cut := cutT, hide := fun f r => (f == 109 && (r == 20)) || (f == 122 && (r == 9)) }
theorem lim0 : ∀ g p, V0.prim g = some p → PrimLim V0 p := by
  intro g p h
  obtain ⟨e, he, rfl⟩ := Option.map_eq_some_iff.1 (show (primTab.find? fun e => e.1 == g).map (·.2) = some p from h)
  have hm := List.mem_of_find?_eq_some he
  simp only [primTab, List.mem_cons, List.not_mem_nil, or_false] at hm
  rcases hm with rfl | rfl | rfl | rfl | rfl | rfl
  all_goals first | exact pCopyCheck_lim | exact pPure_lim | exact pJoin_lim
theorem YU : V0.P.underlying 0 = some (.tuple #[]) ∧
  V0.P.underlying 3 = some (.int .i64) ∧
  V0.P.underlying 4 = some .bool ∧
  V0.P.underlying 5 = some (.int .u8) ∧
  V0.P.underlying 9 = some .string ∧
  V0.P.underlying 22 = some (.slice 9) ∧
  V0.P.underlying 27 = some (.slice 5) ∧
  V0.P.underlying 30 = some (.slice 71) ∧
  V0.P.underlying 33 = some (.slice 72) ∧
  V0.P.underlying 48 = some (.tuple #[33, 4]) ∧
  V0.P.underlying 52 = some (.slice 3) ∧
  V0.P.underlying 65 = some (.pointer 103) ∧
  V0.P.underlying 79 = some (.pointer 81) ∧
  V0.P.underlying 84 = some (.tuple #[3, 83]) ∧
  V0.P.underlying 91 = some (.tuple #[72, 9]) ∧
  V0.P.underlying 105 = some (.pointer 5) ∧
  V0.P.underlying 120 = some (.tuple #[9, 9, 4]) ∧
  V0.P.underlying 123 = some (.tuple #[72, 3]) :=
  ⟨by kernel_rfl, by kernel_rfl, by kernel_rfl, by kernel_rfl, by kernel_rfl, by kernel_rfl, by kernel_rfl, by kernel_rfl, by kernel_rfl, by kernel_rfl, by kernel_rfl, by kernel_rfl, by kernel_rfl, by kernel_rfl, by kernel_rfl, by kernel_rfl, by kernel_rfl, by kernel_rfl⟩
theorem YA : aggK V0.P 3 = some none ∧
  sizeT V0.P 3 = 1 ∧
  sizeO V0.P 3 = some 1 ∧
  szC V0.P 3 = 1 ∧
  isIface V0.P 3 = false ∧
  aggK V0.P 4 = some none ∧
  sizeT V0.P 4 = 1 ∧
  sizeO V0.P 4 = some 1 ∧
  szC V0.P 4 = 1 ∧
  isIface V0.P 4 = false ∧
  aggK V0.P 5 = some none ∧
  sizeT V0.P 5 = 1 ∧
  sizeO V0.P 5 = some 1 ∧
  szC V0.P 5 = 1 ∧
  tgE V0.P 5 1 = 25769803777 ∧
  isIface V0.P 5 = false ∧
  aggK V0.P 9 = some none ∧
  sizeT V0.P 9 = 1 ∧
  sizeO V0.P 9 = some 1 ∧
  szC V0.P 9 = 1 ∧
  isIface V0.P 9 = false ∧
  aggK V0.P 22 = some none ∧
  sizeT V0.P 22 = 1 ∧
  sizeO V0.P 22 = some 1 ∧
  szC V0.P 22 = 1 ∧
  isIface V0.P 22 = false ∧
  elemT V0.P 22 = some 9 ∧
  aggK V0.P 27 = some none ∧
  sizeT V0.P 27 = 1 ∧
  sizeO V0.P 27 = some 1 ∧
  szC V0.P 27 = 1 ∧
  isIface V0.P 27 = false ∧
  elemT V0.P 27 = some 5 ∧
  aggK V0.P 30 = some none ∧
  sizeT V0.P 30 = 1 ∧
  sizeO V0.P 30 = some 1 ∧
  szC V0.P 30 = 1 ∧
  isIface V0.P 30 = false ∧
  elemT V0.P 30 = some 71 ∧
  aggK V0.P 33 = some none ∧
  sizeT V0.P 33 = 1 ∧
  sizeO V0.P 33 = some 1 ∧
  szC V0.P 33 = 1 ∧
  isIface V0.P 33 = false ∧
  elemT V0.P 33 = some 72 ∧
  aggK V0.P 52 = some none ∧
  sizeT V0.P 52 = 1 ∧
  sizeO V0.P 52 = some 1 ∧
  szC V0.P 52 = 1 ∧
  isIface V0.P 52 = false ∧
  elemT V0.P 52 = some 3 ∧
  aggK V0.P 65 = some none ∧
  sizeT V0.P 65 = 1 ∧
  sizeO V0.P 65 = some 1 ∧
  szC V0.P 65 = 1 ∧
  isIface V0.P 65 = false ∧
  aggK V0.P 71 = some (some 4) ∧
  sizeT V0.P 71 = 4 ∧
  sizeO V0.P 71 = some 4 ∧
  szC V0.P 71 = 4 ∧
  isIface V0.P 71 = false ∧
  aggK V0.P 72 = some (some 4) ∧
  sizeT V0.P 72 = 4 ∧
  sizeO V0.P 72 = some 4 ∧
  szC V0.P 72 = 4 ∧
  isIface V0.P 72 = false ∧
  aggK V0.P 77 = some none ∧
  sizeT V0.P 77 = 1 ∧
  sizeO V0.P 77 = some 1 ∧
  szC V0.P 77 = 1 ∧
  isIface V0.P 77 = false ∧
  aggK V0.P 79 = some none ∧
  sizeT V0.P 79 = 1 ∧
  sizeO V0.P 79 = some 1 ∧
  szC V0.P 79 = 1 ∧
  isIface V0.P 79 = false ∧
  aggK V0.P 81 = some (some 2) ∧
  sizeT V0.P 81 = 2 ∧
  sizeO V0.P 81 = some 2 ∧
  szC V0.P 81 = 2 ∧
  isIface V0.P 81 = false ∧
  aggK V0.P 83 = some none ∧
  sizeT V0.P 83 = 1 ∧
  sizeO V0.P 83 = some 1 ∧
  szC V0.P 83 = 1 ∧
  isIface V0.P 83 = true ∧
  aggK V0.P 103 = some (some 2) ∧
  sizeT V0.P 103 = 2 ∧
  sizeO V0.P 103 = some 2 ∧
  szC V0.P 103 = 2 ∧
  isIface V0.P 103 = false ∧
  aggK V0.P 105 = some none ∧
  sizeT V0.P 105 = 1 ∧
  sizeO V0.P 105 = some 1 ∧
  szC V0.P 105 = 1 ∧
  ptT V0.P 105 = some 5 ∧
  isIface V0.P 105 = false :=
  ⟨by kernel_rfl, by kernel_rfl, by kernel_rfl, by kernel_rfl, by kernel_rfl, by kernel_rfl, by kernel_rfl, by kernel_rfl, by kernel_rfl, by kernel_rfl, by kernel_rfl, by kernel_rfl, by kernel_rfl, by kernel_rfl, by kernel_rfl, by kernel_rfl, by kernel_rfl, by kernel_rfl, by kernel_rfl, by kernel_rfl, by kernel_rfl, by kernel_rfl, by kernel_rfl, by kernel_rfl, by kernel_rfl, by kernel_rfl, by kernel_rfl, by kernel_rfl, by kernel_rfl, by kernel_rfl, by kernel_rfl, by kernel_rfl, by kernel_rfl, by kernel_rfl, by kernel_rfl, by kernel_rfl, by kernel_rfl, by kernel_rfl, by kernel_rfl, by kernel_rfl, by kernel_rfl, by kernel_rfl, by kernel_rfl, by kernel_rfl, by kernel_rfl, by kernel_rfl, by kernel_rfl, by kernel_rfl, by kernel_rfl, by kernel_rfl, by kernel_rfl, by kernel_rfl, by kernel_rfl, by kernel_rfl, by kernel_rfl, by kernel_rfl, by kernel_rfl, by kernel_rfl, by kernel_rfl, by kernel_rfl, by kernel_rfl, by kernel_rfl, by kernel_rfl, by kernel_rfl, by kernel_rfl, by kernel_rfl, by kernel_rfl, by kernel_rfl, by kernel_rfl, by kernel_rfl, by kernel_rfl, by kernel_rfl, by kernel_rfl, by kernel_rfl, by kernel_rfl, by kernel_rfl, by kernel_rfl, by kernel_rfl, by kernel_rfl, by kernel_rfl, by kernel_rfl, by kernel_rfl, by kernel_rfl, by kernel_rfl, by kernel_rfl, by kernel_rfl, by kernel_rfl, by kernel_rfl, by kernel_rfl, by kernel_rfl, by kernel_rfl, by kernel_rfl, by kernel_rfl, by kernel_rfl, by kernel_rfl, by kernel_rfl, by kernel_rfl⟩
theorem YF : fieldOf V0.P 71 0 = some (0, 4) ∧
  fieldOf V0.P 71 1 = some (1, 9) ∧
  fieldOf V0.P 71 2 = some (2, 9) ∧
  fieldOf V0.P 71 3 = some (3, 9) ∧
  fieldOf V0.P 72 0 = some (0, 4) ∧
  fieldOf V0.P 72 1 = some (1, 9) ∧
  fieldOf V0.P 72 2 = some (2, 9) ∧
  fieldOf V0.P 72 3 = some (3, 9) ∧
  fieldOf V0.P 81 0 = some (0, 79) ∧
  fieldOf V0.P 81 1 = some (1, 27) ∧
  fieldOf V0.P 103 0 = some (0, 27) ∧
  fieldOf V0.P 103 1 = some (1, 3) :=
  ⟨by kernel_rfl, by kernel_rfl, by kernel_rfl, by kernel_rfl, by kernel_rfl, by kernel_rfl, by kernel_rfl, by kernel_rfl, by kernel_rfl, by kernel_rfl, by kernel_rfl, by kernel_rfl⟩
theorem YD : dflt V0.P 0 = .tuple #[] ∧
  dflt1 V0.P 3 = .int .i64 0 ∧
  dflt V0.P 3 = .int .i64 0 ∧
  dflt1 V0.P 4 = .bool false ∧
  dflt V0.P 4 = .bool false ∧
  dflt1 V0.P 5 = .int .u8 0 ∧
  dflt V0.P 5 = .int .u8 0 ∧
  dflt1 V0.P 9 = .string ⟨#[]⟩ ∧
  dflt V0.P 9 = .string ⟨#[]⟩ ∧
  dflt1 V0.P 22 = undef ∧
  dflt V0.P 22 = undef ∧
  dflt1 V0.P 27 = undef ∧
  dflt V0.P 27 = undef ∧
  dflt1 V0.P 30 = undef ∧
  dflt V0.P 30 = undef ∧
  dflt1 V0.P 33 = undef ∧
  dflt V0.P 33 = undef ∧
  dflt V0.P 48 = .tuple #[undef, .bool false] ∧
  dflt1 V0.P 52 = undef ∧
  dflt V0.P 52 = undef ∧
  dflt1 V0.P 65 = undef ∧
  dflt V0.P 65 = undef ∧
  dflt1 V0.P 71 = undef ∧
  dflt V0.P 71 = undef ∧
  dflt1 V0.P 72 = undef ∧
  dflt V0.P 72 = undef ∧
  dflt1 V0.P 77 = undef ∧
  dflt V0.P 77 = undef ∧
  dflt1 V0.P 79 = undef ∧
  dflt V0.P 79 = undef ∧
  dflt1 V0.P 81 = undef ∧
  dflt V0.P 81 = undef ∧
  dflt1 V0.P 83 = undef ∧
  dflt V0.P 83 = undef ∧
  dflt V0.P 84 = .tuple #[.int .i64 0, undef] ∧
  dflt V0.P 91 = .tuple #[undef, .string ⟨#[]⟩] ∧
  dflt1 V0.P 103 = undef ∧
  dflt V0.P 103 = undef ∧
  dflt1 V0.P 105 = undef ∧
  dflt V0.P 105 = undef ∧
  dflt V0.P 120 = .tuple #[.string ⟨#[]⟩, .string ⟨#[]⟩, .bool false] ∧
  dflt V0.P 123 = .tuple #[undef, .int .i64 0] :=
  ⟨by kernel_rfl, by kernel_rfl, by kernel_rfl, by kernel_rfl, by kernel_rfl, by kernel_rfl, by kernel_rfl, by kernel_rfl, by kernel_rfl, by kernel_rfl, by kernel_rfl, by kernel_rfl, by kernel_rfl, by kernel_rfl, by kernel_rfl, by kernel_rfl, by kernel_rfl, by kernel_rfl, by kernel_rfl, by kernel_rfl, by kernel_rfl, by kernel_rfl, by kernel_rfl, by kernel_rfl, by kernel_rfl, by kernel_rfl, by kernel_rfl, by kernel_rfl, by kernel_rfl, by kernel_rfl, by kernel_rfl, by kernel_rfl, by kernel_rfl, by kernel_rfl, by kernel_rfl, by kernel_rfl, by kernel_rfl, by kernel_rfl, by kernel_rfl, by kernel_rfl, by kernel_rfl, by kernel_rfl⟩
theorem YW : alT V0.P 3 = some (1, [.int .i64 0]) ∧
  zeroOf V0.P 3 = some (.int .i64 0) ∧
  alT V0.P 4 = some (1, [.bool false]) ∧
  zeroOf V0.P 4 = some (.bool false) ∧
  alT V0.P 5 = some (1, [.int .u8 0]) ∧
  zeroOf V0.P 5 = some (.int .u8 0) ∧
  alT V0.P 9 = some (1, [.string ⟨#[]⟩]) ∧
  zeroOf V0.P 9 = some (.string ⟨#[]⟩) ∧
  alT V0.P 22 = some (1, [.slice none 0 0]) ∧
  zeroOf V0.P 22 = some (.slice none 0 0) ∧
  bsT V0.P 22 = some (1, 1, [.string ⟨#[]⟩]) ∧
  msT V0.P 22 = some (16, 1, [.string ⟨#[]⟩]) ∧
  alT V0.P 27 = some (1, [.slice none 0 0]) ∧
  zeroOf V0.P 27 = some (.slice none 0 0) ∧
  bsT V0.P 27 = some (1, 25769803777, [.int .u8 0]) ∧
  msT V0.P 27 = some (1, 25769803777, [.int .u8 0]) ∧
  alT V0.P 30 = some (1, [.slice none 0 0]) ∧
  zeroOf V0.P 30 = some (.slice none 0 0) ∧
  bsT V0.P 30 = some (4, 4, [.bool false, .string ⟨#[]⟩, .string ⟨#[]⟩, .string ⟨#[]⟩]) ∧
  msT V0.P 30 = some (56, 4, [.bool false, .string ⟨#[]⟩, .string ⟨#[]⟩, .string ⟨#[]⟩]) ∧
  alT V0.P 33 = some (1, [.slice none 0 0]) ∧
  zeroOf V0.P 33 = some (.slice none 0 0) ∧
  bsT V0.P 33 = some (4, 4, [.bool false, .string ⟨#[]⟩, .string ⟨#[]⟩, .string ⟨#[]⟩]) ∧
  msT V0.P 33 = some (56, 4, [.bool false, .string ⟨#[]⟩, .string ⟨#[]⟩, .string ⟨#[]⟩]) ∧
  alT V0.P 52 = some (1, [.slice none 0 0]) ∧
  zeroOf V0.P 52 = some (.slice none 0 0) ∧
  bsT V0.P 52 = some (1, 1, [.int .i64 0]) ∧
  msT V0.P 52 = some (8, 1, [.int .i64 0]) ∧
  alT V0.P 65 = some (1, [.pointer none]) ∧
  zeroOf V0.P 65 = some (.pointer none) ∧
  alT V0.P 71 = some (4, [.bool false, .string ⟨#[]⟩, .string ⟨#[]⟩, .string ⟨#[]⟩]) ∧
  buT V0.P 71 = some ([.bool false, .string ⟨#[]⟩, .string ⟨#[]⟩, .string ⟨#[]⟩], [(0, 1), (1, 1), (2, 1), (3, 1)]) ∧
  zeroOf V0.P 71 = some (.agg #[.bool false, .string ⟨#[]⟩, .string ⟨#[]⟩, .string ⟨#[]⟩]) ∧
  alT V0.P 72 = some (4, [.bool false, .string ⟨#[]⟩, .string ⟨#[]⟩, .string ⟨#[]⟩]) ∧
  buT V0.P 72 = some ([.bool false, .string ⟨#[]⟩, .string ⟨#[]⟩, .string ⟨#[]⟩], [(0, 1), (1, 1), (2, 1), (3, 1)]) ∧
  zeroOf V0.P 72 = some (.agg #[.bool false, .string ⟨#[]⟩, .string ⟨#[]⟩, .string ⟨#[]⟩]) ∧
  alT V0.P 77 = some (1, [.nilFunc]) ∧
  zeroOf V0.P 77 = some (.nilFunc) ∧
  alT V0.P 79 = some (1, [.pointer none]) ∧
  zeroOf V0.P 79 = some (.pointer none) ∧
  alT V0.P 81 = some (352187318272, [.pointer none, .slice none 0 0]) ∧
  buT V0.P 81 = some ([.pointer none, .slice none 0 0], [(0, 1), (1, 1)]) ∧
  zeroOf V0.P 81 = some (.agg #[.pointer none, .slice none 0 0]) ∧
  alT V0.P 83 = some (1, [.nilIface]) ∧
  zeroOf V0.P 83 = some (.nilIface) ∧
  alT V0.P 103 = some (2, [.slice none 0 0, .int .i64 0]) ∧
  buT V0.P 103 = some ([.slice none 0 0, .int .i64 0], [(0, 1), (1, 1)]) ∧
  zeroOf V0.P 103 = some (.agg #[.slice none 0 0, .int .i64 0]) ∧
  alT V0.P 105 = some (1, [.pointer none]) ∧
  zeroOf V0.P 105 = some (.pointer none) ∧
  apT V0.P 22 22 = some (1, 1, 16) ∧
  apT V0.P 27 9 = some (1, 25769803777, 1) ∧
  apT V0.P 33 33 = some (4, 4, 56) :=
  ⟨by kernel_rfl, by kernel_rfl, by kernel_rfl, by kernel_rfl, by kernel_rfl, by kernel_rfl, by kernel_rfl, by kernel_rfl, by kernel_rfl, by kernel_rfl, by kernel_rfl, by kernel_rfl, by kernel_rfl, by kernel_rfl, by kernel_rfl, by kernel_rfl, by kernel_rfl, by kernel_rfl, by kernel_rfl, by kernel_rfl, by kernel_rfl, by kernel_rfl, by kernel_rfl, by kernel_rfl, by kernel_rfl, by kernel_rfl, by kernel_rfl, by kernel_rfl, by kernel_rfl, by kernel_rfl, by kernel_rfl, by kernel_rfl, by kernel_rfl, by kernel_rfl, by kernel_rfl, by kernel_rfl, by kernel_rfl, by kernel_rfl, by kernel_rfl, by kernel_rfl, by kernel_rfl, by kernel_rfl, by kernel_rfl, by kernel_rfl, by kernel_rfl, by kernel_rfl, by kernel_rfl, by kernel_rfl, by kernel_rfl, by kernel_rfl, by kernel_rfl, by kernel_rfl, by kernel_rfl⟩
noncomputable def yk (k : TK) (v : Value) (K : Value → R) : R := match k with | .int k => asInt k v fun n => K (.int k n) | .bool => asBool v fun b => K (.bool b) | .str => asStr v fun s => K (.string s) | .other => K v
theorem y1 {t : TypeId} {k : TK} {v K} (h : tk V0.P t = k) : ty1 V0.P t v K = yk k v K := by unfold ty1; rw [h]; rfl
noncomputable def noTupD (t : TypeId) : Bool := match V0.P.underlying t with | some (.tuple _) => false | _ => true
theorem y2 {t : TypeId} {k : TK} {v K} (h : tk V0.P t = k) (hn : noTupD t = true) : ty V0.P t v K = yk k v K := by
  unfold ty
  unfold noTupD at hn
  split
  · rename_i e; rw [e] at hn; cases hn
  · exact y1 h
theorem bool_eq {t : TypeId} (ht : V0.P.underlying t = some .bool) (a b : Bool) (act : Option Bool) (K : Value → R) : binK V0.P .eql t (.bool a) (.bool b) act K = K (.bool (a == b)) := by
  have e : eqA V0.P 50 t (.bool a) (.bool b) = some (a == b) := by simp only [eqA, ht]
  simp only [binK, e]; rfl
theorem bool_ne {t : TypeId} (ht : V0.P.underlying t = some .bool) (a b : Bool) (act : Option Bool) (K : Value → R) : binK V0.P .neq t (.bool a) (.bool b) act K = K (.bool (!(a == b))) := by
  have e : eqA V0.P 50 t (.bool a) (.bool b) = some (a == b) := by simp only [eqA, ht]
  simp only [binK, e]; rfl
theorem slc_eq {t e : TypeId} (ht : V0.P.underlying t = some (.slice e)) (a : Addr) (n c m k : Nat) (act : Option Bool) (K : Value → R) : binK V0.P .eql t (.slice (some a) n c) (.slice none m k) act K = K (.bool false) := by
  have e : eqA V0.P 50 t (.slice (some a) n c) (.slice none m k) = some false := by simp only [eqA, ht]
  simp only [binK, e]; rfl
theorem slc_eq0 {t e : TypeId} (ht : V0.P.underlying t = some (.slice e)) (b : Option Addr) (n c m k : Nat) (act : Option Bool) (K : Value → R) : binK V0.P .eql t (.slice none n c) (.slice b m k) act K = K (.bool b.isNone) := by
  have e : eqA V0.P 50 t (.slice none n c) (.slice b m k) = some b.isNone := by simp only [eqA, ht]
  simp only [binK, e]; rfl
theorem slc_ne {t e : TypeId} (ht : V0.P.underlying t = some (.slice e)) (a : Addr) (n c m k : Nat) (act : Option Bool) (K : Value → R) : binK V0.P .neq t (.slice (some a) n c) (.slice none m k) act K = K (.bool true) := by
  have e : eqA V0.P 50 t (.slice (some a) n c) (.slice none m k) = some false := by simp only [eqA, ht]
  simp only [binK, e]; rfl
theorem slc_ne0 {t e : TypeId} (ht : V0.P.underlying t = some (.slice e)) (b : Option Addr) (n c m k : Nat) (act : Option Bool) (K : Value → R) : binK V0.P .neq t (.slice none n c) (.slice b m k) act K = K (.bool !b.isNone) := by
  have e : eqA V0.P 50 t (.slice none n c) (.slice b m k) = some b.isNone := by simp only [eqA, ht]
  simp only [binK, e]; rfl
theorem ptr_eq {t e : TypeId} (ht : V0.P.underlying t = some (.pointer e)) (a : Addr) (act : Option Bool) (K : Value → R) : binK V0.P .eql t (.pointer (some a)) (.pointer none) act K = K (.bool false) := by
  have e : eqA V0.P 50 t (.pointer (some a)) (.pointer none) = some false := by simp only [eqA, ht]
  simp only [binK, e]; rfl
theorem ptr_eq0 {t e : TypeId} (ht : V0.P.underlying t = some (.pointer e)) (b : Option Addr) (act : Option Bool) (K : Value → R) : binK V0.P .eql t (.pointer none) (.pointer b) act K = K (.bool b.isNone) := by
  have e : eqA V0.P 50 t (.pointer none) (.pointer b) = some b.isNone := by simp only [eqA, ht]
  simp only [binK, e]; rfl
theorem ptr_ne {t e : TypeId} (ht : V0.P.underlying t = some (.pointer e)) (a : Addr) (act : Option Bool) (K : Value → R) : binK V0.P .neq t (.pointer (some a)) (.pointer none) act K = K (.bool true) := by
  have e : eqA V0.P 50 t (.pointer (some a)) (.pointer none) = some false := by simp only [eqA, ht]
  simp only [binK, e]; rfl
theorem ptr_ne0 {t e : TypeId} (ht : V0.P.underlying t = some (.pointer e)) (b : Option Addr) (act : Option Bool) (K : Value → R) : binK V0.P .neq t (.pointer none) (.pointer b) act K = K (.bool !b.isNone) := by
  have e : eqA V0.P 50 t (.pointer none) (.pointer b) = some b.isNone := by simp only [eqA, ht]
  simp only [binK, e]; rfl
theorem YY : (∀ v K, ty V0.P 0 v K = asTup v fun l => tyL V0.P [] l fun r => K (.tuple r.toArray)) ∧
  (∀ v K, ty1 V0.P 3 v K = asInt .i64 v fun n => K (.int .i64 n)) ∧
  (∀ v K, ty V0.P 3 v K = asInt .i64 v fun n => K (.int .i64 n)) ∧
  (∀ v K, ty1 V0.P 4 v K = asBool v fun b => K (.bool b)) ∧
  (∀ v K, ty V0.P 4 v K = asBool v fun b => K (.bool b)) ∧
  (∀ v K, ty1 V0.P 5 v K = asInt .u8 v fun n => K (.int .u8 n)) ∧
  (∀ v K, ty V0.P 5 v K = asInt .u8 v fun n => K (.int .u8 n)) ∧
  (∀ v K, ty1 V0.P 9 v K = asStr v fun s => K (.string s)) ∧
  (∀ v K, ty V0.P 9 v K = asStr v fun s => K (.string s)) ∧
  (∀ v K, ty1 V0.P 22 v K = K v) ∧
  (∀ v K, ty V0.P 22 v K = K v) ∧
  (∀ v K, ty1 V0.P 27 v K = K v) ∧
  (∀ v K, ty V0.P 27 v K = K v) ∧
  (∀ v K, ty1 V0.P 30 v K = K v) ∧
  (∀ v K, ty V0.P 30 v K = K v) ∧
  (∀ v K, ty1 V0.P 33 v K = K v) ∧
  (∀ v K, ty V0.P 33 v K = K v) ∧
  (∀ v K, ty V0.P 48 v K = asTup v fun l => tyL V0.P [33, 4] l fun r => K (.tuple r.toArray)) ∧
  (∀ v K, ty1 V0.P 52 v K = K v) ∧
  (∀ v K, ty V0.P 52 v K = K v) ∧
  (∀ v K, ty1 V0.P 65 v K = K v) ∧
  (∀ v K, ty V0.P 65 v K = K v) ∧
  (∀ v K, ty1 V0.P 71 v K = K v) ∧
  (∀ v K, ty V0.P 71 v K = K v) ∧
  (∀ v K, ty1 V0.P 72 v K = K v) ∧
  (∀ v K, ty V0.P 72 v K = K v) ∧
  (∀ v K, ty1 V0.P 77 v K = K v) ∧
  (∀ v K, ty V0.P 77 v K = K v) ∧
  (∀ v K, ty1 V0.P 79 v K = K v) ∧
  (∀ v K, ty V0.P 79 v K = K v) ∧
  (∀ v K, ty1 V0.P 81 v K = K v) ∧
  (∀ v K, ty V0.P 81 v K = K v) ∧
  (∀ v K, ty1 V0.P 83 v K = K v) ∧
  (∀ v K, ty V0.P 83 v K = K v) ∧
  (∀ v K, ty V0.P 84 v K = asTup v fun l => tyL V0.P [3, 83] l fun r => K (.tuple r.toArray)) ∧
  (∀ v K, ty V0.P 91 v K = asTup v fun l => tyL V0.P [72, 9] l fun r => K (.tuple r.toArray)) ∧
  (∀ v K, ty1 V0.P 103 v K = K v) ∧
  (∀ v K, ty V0.P 103 v K = K v) ∧
  (∀ v K, ty1 V0.P 105 v K = K v) ∧
  (∀ v K, ty V0.P 105 v K = K v) ∧
  (∀ v K, ty V0.P 120 v K = asTup v fun l => tyL V0.P [9, 9, 4] l fun r => K (.tuple r.toArray)) ∧
  (∀ v K, ty V0.P 123 v K = asTup v fun l => tyL V0.P [72, 3] l fun r => K (.tuple r.toArray)) ∧
  (∀ a b act K, binK V0.P .eql 4 (.bool a) (.bool b) act K = K (.bool (a == b))) ∧
  (∀ a b act K, binK V0.P .neq 4 (.bool a) (.bool b) act K = K (.bool (!(a == b)))) :=
  ⟨fun v K => by unfold ty; rw [show V0.P.underlying 0 = some (.tuple #[]) by kernel_rfl], fun _ _ => y1 (k := .int .i64) (by kernel_rfl), fun _ _ => y2 (k := .int .i64) (by kernel_rfl) (by kernel_rfl), fun _ _ => y1 (k := .bool) (by kernel_rfl), fun _ _ => y2 (k := .bool) (by kernel_rfl) (by kernel_rfl), fun _ _ => y1 (k := .int .u8) (by kernel_rfl), fun _ _ => y2 (k := .int .u8) (by kernel_rfl) (by kernel_rfl), fun _ _ => y1 (k := .str) (by kernel_rfl), fun _ _ => y2 (k := .str) (by kernel_rfl) (by kernel_rfl), fun _ _ => y1 (k := .other) (by kernel_rfl), fun _ _ => y2 (k := .other) (by kernel_rfl) (by kernel_rfl), fun _ _ => y1 (k := .other) (by kernel_rfl), fun _ _ => y2 (k := .other) (by kernel_rfl) (by kernel_rfl), fun _ _ => y1 (k := .other) (by kernel_rfl), fun _ _ => y2 (k := .other) (by kernel_rfl) (by kernel_rfl), fun _ _ => y1 (k := .other) (by kernel_rfl), fun _ _ => y2 (k := .other) (by kernel_rfl) (by kernel_rfl), fun v K => by unfold ty; rw [show V0.P.underlying 48 = some (.tuple #[33, 4]) by kernel_rfl], fun _ _ => y1 (k := .other) (by kernel_rfl), fun _ _ => y2 (k := .other) (by kernel_rfl) (by kernel_rfl), fun _ _ => y1 (k := .other) (by kernel_rfl), fun _ _ => y2 (k := .other) (by kernel_rfl) (by kernel_rfl), fun _ _ => y1 (k := .other) (by kernel_rfl), fun _ _ => y2 (k := .other) (by kernel_rfl) (by kernel_rfl), fun _ _ => y1 (k := .other) (by kernel_rfl), fun _ _ => y2 (k := .other) (by kernel_rfl) (by kernel_rfl), fun _ _ => y1 (k := .other) (by kernel_rfl), fun _ _ => y2 (k := .other) (by kernel_rfl) (by kernel_rfl), fun _ _ => y1 (k := .other) (by kernel_rfl), fun _ _ => y2 (k := .other) (by kernel_rfl) (by kernel_rfl), fun _ _ => y1 (k := .other) (by kernel_rfl), fun _ _ => y2 (k := .other) (by kernel_rfl) (by kernel_rfl), fun _ _ => y1 (k := .other) (by kernel_rfl), fun _ _ => y2 (k := .other) (by kernel_rfl) (by kernel_rfl), fun v K => by unfold ty; rw [show V0.P.underlying 84 = some (.tuple #[3, 83]) by kernel_rfl], fun v K => by unfold ty; rw [show V0.P.underlying 91 = some (.tuple #[72, 9]) by kernel_rfl], fun _ _ => y1 (k := .other) (by kernel_rfl), fun _ _ => y2 (k := .other) (by kernel_rfl) (by kernel_rfl), fun _ _ => y1 (k := .other) (by kernel_rfl), fun _ _ => y2 (k := .other) (by kernel_rfl) (by kernel_rfl), fun v K => by unfold ty; rw [show V0.P.underlying 120 = some (.tuple #[9, 9, 4]) by kernel_rfl], fun v K => by unfold ty; rw [show V0.P.underlying 123 = some (.tuple #[72, 3]) by kernel_rfl], bool_eq (by kernel_rfl), bool_ne (by kernel_rfl)⟩
theorem V0_P : V0.P = Try.prog := rfl
def eraseB : List Bool → Frm → Frm
  | _, [] => []
  | [], _ :: fr => E :: eraseB [] fr
  | true :: m, s :: fr => s :: eraseB m fr
  | false :: m, _ :: fr => E :: eraseB m fr
def bitsL : Nat → Nat → List Bool
  | 0, _ => []
  | k + 1, m => (m % 2 == 1) :: bitsL k (m / 2)
theorem eraseFrom_bits : ∀ (fr : Frm) (k m n i : Nat), n / 2 ^ i = m → m < 2 ^ k → eraseFrom n i fr = eraseB (bitsL k m) fr
  | [], k, m, n, i, _, _ => by cases hb : bitsL k m <;> simp [eraseFrom, eraseB]
  | s :: fr, k, m, n, i, hm, hk => by
    have hs : n / 2 ^ (i + 1) = m / 2 := by rw [← hm, Nat.pow_succ, Nat.div_div_eq_div_mul]
    cases k with
    | zero =>
      have h0 : m = 0 := by simpa using hk
      have := eraseFrom_bits fr 0 (m / 2) n (i + 1) hs (by rw [h0]; decide)
      simp only [bitsL, eraseFrom, eraseB, Nat.testBit_eq_decide_div_mod_eq, hm, h0] at this ⊢
      rw [this]; rfl
    | succ k =>
      have := eraseFrom_bits fr k (m / 2) n (i + 1) hs (by rw [Nat.pow_succ] at hk; omega)
      simp only [bitsL, eraseFrom, Nat.testBit_eq_decide_div_mod_eq, hm]
      rw [this]
      by_cases hq : m % 2 = 1
      · simp [hq, eraseB]
      · have : m % 2 = 0 := by omega
        simp [this, eraseB]
theorem erase_of {n k : Nat} {fr : Frm} {o : Option Nat} {b : List Bool} (ho : o = some n) (hb : bitsL k n = b) (hk : n < 2 ^ k) : erase o fr = eraseB b fr := by
  subst ho; subst hb
  exact eraseFrom_bits fr k n n 0 (by simp) hk
theorem XCut : (∀ fr, erase (V0.cut 20 [1, 1, 1, 0, 1, 0]) fr = eraseB [true, true, false, false, false, true] fr) ∧
  (∀ fr, erase (V0.cut 22 [1, 1, 0, 1, 0]) fr = eraseB [true, false, false, true, true] fr) ∧
  (∀ fr, erase (V0.cut 24 [1, 1, 0, 1, 0]) fr = eraseB [true, true, false, false, false, true] fr) ∧
  (∀ fr, erase (V0.cut 26 [1, 1, 1, 0, 1, 0]) fr = eraseB [false, false, false, true, false, false, false, false, false, true, true, true] fr) ∧
  (∀ fr, erase (V0.cut 33 [1, 1, 1, 0, 1, 0]) fr = eraseB [true, false, false, false, true, true] fr) ∧
  (∀ fr, erase (V0.cut 34 [1, 1, 0, 1, 0]) fr = eraseB [true, true, false, false, false, true] fr) ∧
  (∀ fr, erase (V0.cut 41 [1, 0, 1, 0]) fr = eraseB [true, true, false, false, false, true] fr) ∧
  (∀ fr, erase (V0.cut 42 [1, 0, 1, 0]) fr = eraseB [true, true, false, false, false, true] fr) ∧
  (∀ fr, erase (V0.cut 51 [1, 1, 1, 0, 0]) fr = eraseB [true, false, false, true] fr) ∧
  (∀ fr, erase (V0.cut 56 [1, 0, 1, 0]) fr = eraseB [true, false, false, true] fr) ∧
  (∀ fr, erase (V0.cut 61 [1, 0, 1, 0]) fr = eraseB [false, true, false, false, false, false, false, true, true, true] fr) ∧
  (∀ fr, erase (V0.cut 63 [1, 1, 0, 1, 0]) fr = eraseB [true, false, false, true, true] fr) ∧
  (∀ fr, erase (V0.cut 69 [1, 1, 0, 1, 0]) fr = eraseB [true, false, false, true, true] fr) ∧
  (∀ fr, erase (V0.cut 78 [1, 1, 0, 0]) fr = eraseB [true, false, false, false, true] fr) ∧
  (∀ fr, erase (V0.cut 90 [1, 0, 1, 0]) fr = eraseB [true, true, false, false, false, false, false, true, true] fr) ∧
  (∀ fr, erase (V0.cut 91 [1, 0, 1, 0]) fr = eraseB [true, false, false, false, false, false, true, true, true] fr) ∧
  (∀ fr, erase (V0.cut 109 [1, 1, 1, 1, 1, 0, 0]) fr = eraseB [true, false, true, false, true, true, true] fr) ∧
  (∀ fr, erase (V0.cut 114 [1, 0, 1, 0]) fr = eraseB [true, false, false, true] fr) ∧
  (∀ fr, erase (V0.cut 115 [1, 0, 1, 0]) fr = eraseB [true, false, false, true] fr) ∧
  (∀ fr, erase (V0.cut 131 [1, 1, 1, 0, 1, 0]) fr = eraseB [true, true, true, false, false, false, false, true, true, true] fr) :=
  ⟨fun _ => erase_of (n := 35) (k := 6) (by kernel_rfl) (by kernel_rfl) (by decide), fun _ => erase_of (n := 25) (k := 5) (by kernel_rfl) (by kernel_rfl) (by decide), fun _ => erase_of (n := 35) (k := 6) (by kernel_rfl) (by kernel_rfl) (by decide), fun _ => erase_of (n := 3592) (k := 12) (by kernel_rfl) (by kernel_rfl) (by decide), fun _ => erase_of (n := 49) (k := 6) (by kernel_rfl) (by kernel_rfl) (by decide), fun _ => erase_of (n := 35) (k := 6) (by kernel_rfl) (by kernel_rfl) (by decide), fun _ => erase_of (n := 35) (k := 6) (by kernel_rfl) (by kernel_rfl) (by decide), fun _ => erase_of (n := 35) (k := 6) (by kernel_rfl) (by kernel_rfl) (by decide), fun _ => erase_of (n := 9) (k := 4) (by kernel_rfl) (by kernel_rfl) (by decide), fun _ => erase_of (n := 9) (k := 4) (by kernel_rfl) (by kernel_rfl) (by decide), fun _ => erase_of (n := 898) (k := 10) (by kernel_rfl) (by kernel_rfl) (by decide), fun _ => erase_of (n := 25) (k := 5) (by kernel_rfl) (by kernel_rfl) (by decide), fun _ => erase_of (n := 25) (k := 5) (by kernel_rfl) (by kernel_rfl) (by decide), fun _ => erase_of (n := 17) (k := 5) (by kernel_rfl) (by kernel_rfl) (by decide), fun _ => erase_of (n := 387) (k := 9) (by kernel_rfl) (by kernel_rfl) (by decide), fun _ => erase_of (n := 449) (k := 9) (by kernel_rfl) (by kernel_rfl) (by decide), fun _ => erase_of (n := 117) (k := 7) (by kernel_rfl) (by kernel_rfl) (by decide), fun _ => erase_of (n := 9) (k := 4) (by kernel_rfl) (by kernel_rfl) (by decide), fun _ => erase_of (n := 9) (k := 4) (by kernel_rfl) (by kernel_rfl) (by decide), fun _ => erase_of (n := 903) (k := 10) (by kernel_rfl) (by kernel_rfl) (by decide)⟩
/-- loop.example/hubbub/laws.szStepS, loop 0 -/
noncomputable def L20_0 (l : Nat) (v0 v1 v5 : Value) (h : AH) : R := run V0 (.code 20 [1, 1, 1, 0, 1, 0]) l [S v0, S v1, E, E, E, S v5, E, E, E, E, E, E, E, E, E, E, E, E, E, E, E, E, E, E, E, E, E] h
/-- loop.example/hubbub/laws.toStepS, loop 0 -/
noncomputable def L22_0 (l : Nat) (v0 v3 v4 : Value) (h : AH) : R := run V0 (.code 22 [1, 1, 0, 1, 0]) l [S v0, E, E, S v3, S v4, E, E, E, E, E, E, E, E, E, E, E, E, E, E, E, E, E, E] h
/-- loop.example/hubbub/laws.eqStepS, loop 0 -/
noncomputable def L24_0 (l : Nat) (v0 v1 v5 : Value) (h : AH) : R := run V0 (.code 24 [1, 1, 0, 1, 0]) l [S v0, S v1, E, E, E, S v5, E, E, E, E, E, E, E, E, E, E, E, E, E, E, E, E, E, E, E, E, E] h
/-- loop.example/hubbub/impl.PathPut, loop 0 -/
noncomputable def L26_0 (l : Nat) (v3 v9 v10 v11 : Value) (h : AH) : R := run V0 (.code 26 [1, 1, 1, 0, 1, 0]) l [E, E, E, S v3, E, E, E, E, E, S v9, S v10, S v11, E, E, E, E, E, E, E, E, E, E, E, E, E, E, E, E, E, E, E, E, E, E, E, E, E, E, E, E, E] h
/-- loop.example/hubbub/impl.PathGet, loop 0 -/
noncomputable def L33_0 (l : Nat) (v0 v4 v5 : Value) (h : AH) : R := run V0 (.code 33 [1, 1, 1, 0, 1, 0]) l [S v0, E, E, E, S v4, S v5, E, E, E, E, E, E, E, E, E, E, E, E, E, E, E, E, E, E, E, E, E, E, E, E, E, E, E, E, E, E, E, E, E, E, E, E, E, E] h
/-- loop.example/hubbub/laws.hbSteps, loop 0 -/
noncomputable def L34_0 (l : Nat) (v0 v1 v5 : Value) (h : AH) : R := run V0 (.code 34 [1, 1, 0, 1, 0]) l [S v0, S v1, E, E, E, S v5, E, E, E, E, E, E, E, E, E, E, E, E, E, E, E, E, E, E, E, E] h
/-- loop.example/hubbub/laws.markStepS, loop 0 -/
noncomputable def L41_0 (l : Nat) (v0 v1 v5 : Value) (h : AH) : R := run V0 (.code 41 [1, 0, 1, 0]) l [S v0, S v1, E, E, E, S v5, E, E, E, E, E, E, E, E, E, E, E, E, E, E, E, E, E, E, E, E, E, E, E, E, E, E, E, E, E, E, E, E, E, E, E, E, E, E, E, E] h
/-- loop.example/hubbub/laws.heldStepS, loop 0 -/
noncomputable def L42_0 (l : Nat) (v0 v1 v5 : Value) (h : AH) : R := run V0 (.code 42 [1, 0, 1, 0]) l [S v0, S v1, E, E, E, S v5, E, E, E, E, E, E, E, E, E, E, E, E, E, E, E, E, E, E, E, E, E, E, E, E, E, E, E, E, E, E, E, E, E, E, E, E, E, E, E, E, E, E, E, E, E, E, E, E] h
/-- loop.example/hubbub/laws.markText, loop 0 -/
noncomputable def L51_0 (l : Nat) (v0 v3 : Value) (h : AH) : R := run V0 (.code 51 [1, 1, 1, 0, 0]) l [S v0, E, E, S v3, E, E, E, E, E, E, E, E, E, E, E, E, E, E, E, E] h
/-- loop.example/hubbub/spec.l12Ok, loop 0 -/
noncomputable def L56_0 (l : Nat) (v0 v3 : Value) (h : AH) : R := run V0 (.code 56 [1, 0, 1, 0]) l [S v0, E, E, S v3, E, E, E, E, E, E, E, E, E, E, E, E, E, E, E] h
/-- (loop.example/hubbub/impl.Step).valid, loop 0 -/
noncomputable def L61_0 (l : Nat) (v1 v7 v8 v9 : Value) (h : AH) : R := run V0 (.code 61 [1, 0, 1, 0]) l [E, S v1, E, E, E, E, E, S v7, S v8, S v9, E, E, E, E, E, E, E, E, E, E, E, E, E, E, E, E, E, E, E, E, E, E, E, E, E, E, E, E, E, E, E, E, E, E, E, E, E, E, E, E, E] h
/-- loop.example/hubbub/spec.l12Put, loop 0 -/
noncomputable def L63_0 (l : Nat) (v0 v3 v4 : Value) (h : AH) : R := run V0 (.code 63 [1, 1, 0, 1, 0]) l [S v0, E, E, S v3, S v4, E, E, E, E, E, E, E, E, E, E, E, E, E, E, E, E, E, E, E, E, E, E, E, E, E, E, E, E, E, E, E, E, E, E, E, E, E] h
/-- loop.example/hubbub/spec.l16Path, loop 0 -/
noncomputable def L69_0 (l : Nat) (v0 v3 v4 : Value) (h : AH) : R := run V0 (.code 69 [1, 1, 0, 1, 0]) l [S v0, E, E, S v3, S v4, E, E, E, E, E, E, E, E, E, E, E, E, E, E, E, E, E, E, E, E, E, E, E, E, E, E, E, E, E, E, E, E] h
/-- loop.example/hubbub/spec.l12Get, loop 0 -/
noncomputable def L78_0 (l : Nat) (v0 v4 : Value) (h : AH) : R := run V0 (.code 78 [1, 1, 0, 0]) l [S v0, E, E, E, S v4, E, E, E, E, E, E, E, E, E, E, E, E, E, E, E, E, E, E, E, E, E, E, E, E, E, E, E, E, E, E, E, E, E, E, E, E] h
/-- slices.IndexFunc[[]loop.example/hubbub/impl.Step,loop.example/hubbub/impl.Step], loop 0 -/
noncomputable def L90_0 (l : Nat) (v0 v1 v7 v8 : Value) (h : AH) : R := run V0 (.code 90 [1, 0, 1, 0]) l [S v0, S v1, E, E, E, E, E, S v7, S v8, E, E, E, E, E, E, E, E, E, E] h
/-- loop.example/hubbub/impl.NameOk, loop 0 -/
noncomputable def L91_0 (l : Nat) (v0 v6 v7 v8 : Value) (h : AH) : R := run V0 (.code 91 [1, 0, 1, 0]) l [S v0, E, E, E, E, E, S v6, S v7, S v8, E, E, E, E, E, E, E, E, E, E, E, E, E, E, E] h
/-- loop.example/hubbub/spec.l12Step, loop 0 -/
noncomputable def L109_0 (l : Nat) (v0 v2 v4 v5 v6 : Value) (h : AH) : R := run V0 (.code 109 [1, 1, 1, 1, 1, 0, 0]) l [S v0, E, S v2, E, S v4, S v5, S v6, E, E, E, E, E, E, E, E, E, E, E, E, E, E, E, E, E, E, E, E, E, E, E, E, E, E, E, E, E, E, E, E, E, E, E, E, E, E, E, E, E, E, E, E, E, E, E, E, E, E, E, E, E, E, E, E, E, E, E, E, E, E, E, E, E, E, E, E, E, E, E, E, E, E, E, E, E, E, E, E, E, E, E, E, E, E, E, E, E, E, E, E, E, E, E] h
/-- loop.example/hubbub/spec.l2Name, loop 0 -/
noncomputable def L114_0 (l : Nat) (v0 v3 : Value) (h : AH) : R := run V0 (.code 114 [1, 0, 1, 0]) l [S v0, E, E, S v3, E, E, E, E, E, E, E, E, E, E, E, E, E, E, E, E, E, E, E] h
/-- loop.example/hubbub/spec.l12Value, loop 0 -/
noncomputable def L115_0 (l : Nat) (v0 v3 : Value) (h : AH) : R := run V0 (.code 115 [1, 0, 1, 0]) l [S v0, E, E, S v3, E, E, E, E, E, E, E, E, E, E, E, E, E, E, E, E, E, E, E, E, E, E, E, E, E] h
/-- loop.example/hubbub/spec.l1Cut, loop 0 -/
noncomputable def L131_0 (l : Nat) (v0 v1 v2 v7 v8 v9 : Value) (h : AH) : R := run V0 (.code 131 [1, 1, 1, 0, 1, 0]) l [S v0, S v1, S v2, E, E, E, E, S v7, S v8, S v9, E, E, E, E, E, E, E, E, E, E, E, E, E, E, E, E, E, E, E, E, E, E, E, E, E, E, E, E, E, E, E, E, E] h
theorem XL : (∀ l v0 v1 v5 h, run V0 (.code 20 [1, 1, 1, 0, 1, 0]) l [S v0, S v1, E, E, E, S v5, E, E, E, E, E, E, E, E, E, E, E, E, E, E, E, E, E, E, E, E, E] h = L20_0 l v0 v1 v5 h) ∧
  (∀ l v0 v3 v4 h, run V0 (.code 22 [1, 1, 0, 1, 0]) l [S v0, E, E, S v3, S v4, E, E, E, E, E, E, E, E, E, E, E, E, E, E, E, E, E, E] h = L22_0 l v0 v3 v4 h) ∧
  (∀ l v0 v1 v5 h, run V0 (.code 24 [1, 1, 0, 1, 0]) l [S v0, S v1, E, E, E, S v5, E, E, E, E, E, E, E, E, E, E, E, E, E, E, E, E, E, E, E, E, E] h = L24_0 l v0 v1 v5 h) ∧
  (∀ l v3 v9 v10 v11 h, run V0 (.code 26 [1, 1, 1, 0, 1, 0]) l [E, E, E, S v3, E, E, E, E, E, S v9, S v10, S v11, E, E, E, E, E, E, E, E, E, E, E, E, E, E, E, E, E, E, E, E, E, E, E, E, E, E, E, E, E] h = L26_0 l v3 v9 v10 v11 h) ∧
  (∀ l v0 v4 v5 h, run V0 (.code 33 [1, 1, 1, 0, 1, 0]) l [S v0, E, E, E, S v4, S v5, E, E, E, E, E, E, E, E, E, E, E, E, E, E, E, E, E, E, E, E, E, E, E, E, E, E, E, E, E, E, E, E, E, E, E, E, E, E] h = L33_0 l v0 v4 v5 h) ∧
  (∀ l v0 v1 v5 h, run V0 (.code 34 [1, 1, 0, 1, 0]) l [S v0, S v1, E, E, E, S v5, E, E, E, E, E, E, E, E, E, E, E, E, E, E, E, E, E, E, E, E] h = L34_0 l v0 v1 v5 h) ∧
  (∀ l v0 v1 v5 h, run V0 (.code 41 [1, 0, 1, 0]) l [S v0, S v1, E, E, E, S v5, E, E, E, E, E, E, E, E, E, E, E, E, E, E, E, E, E, E, E, E, E, E, E, E, E, E, E, E, E, E, E, E, E, E, E, E, E, E, E, E] h = L41_0 l v0 v1 v5 h) ∧
  (∀ l v0 v1 v5 h, run V0 (.code 42 [1, 0, 1, 0]) l [S v0, S v1, E, E, E, S v5, E, E, E, E, E, E, E, E, E, E, E, E, E, E, E, E, E, E, E, E, E, E, E, E, E, E, E, E, E, E, E, E, E, E, E, E, E, E, E, E, E, E, E, E, E, E, E, E] h = L42_0 l v0 v1 v5 h) ∧
  (∀ l v0 v3 h, run V0 (.code 51 [1, 1, 1, 0, 0]) l [S v0, E, E, S v3, E, E, E, E, E, E, E, E, E, E, E, E, E, E, E, E] h = L51_0 l v0 v3 h) ∧
  (∀ l v0 v3 h, run V0 (.code 56 [1, 0, 1, 0]) l [S v0, E, E, S v3, E, E, E, E, E, E, E, E, E, E, E, E, E, E, E] h = L56_0 l v0 v3 h) ∧
  (∀ l v1 v7 v8 v9 h, run V0 (.code 61 [1, 0, 1, 0]) l [E, S v1, E, E, E, E, E, S v7, S v8, S v9, E, E, E, E, E, E, E, E, E, E, E, E, E, E, E, E, E, E, E, E, E, E, E, E, E, E, E, E, E, E, E, E, E, E, E, E, E, E, E, E, E] h = L61_0 l v1 v7 v8 v9 h) ∧
  (∀ l v0 v3 v4 h, run V0 (.code 63 [1, 1, 0, 1, 0]) l [S v0, E, E, S v3, S v4, E, E, E, E, E, E, E, E, E, E, E, E, E, E, E, E, E, E, E, E, E, E, E, E, E, E, E, E, E, E, E, E, E, E, E, E, E] h = L63_0 l v0 v3 v4 h) ∧
  (∀ l v0 v3 v4 h, run V0 (.code 69 [1, 1, 0, 1, 0]) l [S v0, E, E, S v3, S v4, E, E, E, E, E, E, E, E, E, E, E, E, E, E, E, E, E, E, E, E, E, E, E, E, E, E, E, E, E, E, E, E] h = L69_0 l v0 v3 v4 h) ∧
  (∀ l v0 v4 h, run V0 (.code 78 [1, 1, 0, 0]) l [S v0, E, E, E, S v4, E, E, E, E, E, E, E, E, E, E, E, E, E, E, E, E, E, E, E, E, E, E, E, E, E, E, E, E, E, E, E, E, E, E, E, E] h = L78_0 l v0 v4 h) ∧
  (∀ l v0 v1 v7 v8 h, run V0 (.code 90 [1, 0, 1, 0]) l [S v0, S v1, E, E, E, E, E, S v7, S v8, E, E, E, E, E, E, E, E, E, E] h = L90_0 l v0 v1 v7 v8 h) ∧
  (∀ l v0 v6 v7 v8 h, run V0 (.code 91 [1, 0, 1, 0]) l [S v0, E, E, E, E, E, S v6, S v7, S v8, E, E, E, E, E, E, E, E, E, E, E, E, E, E, E] h = L91_0 l v0 v6 v7 v8 h) ∧
  (∀ l v0 v2 v4 v5 v6 h, run V0 (.code 109 [1, 1, 1, 1, 1, 0, 0]) l [S v0, E, S v2, E, S v4, S v5, S v6, E, E, E, E, E, E, E, E, E, E, E, E, E, E, E, E, E, E, E, E, E, E, E, E, E, E, E, E, E, E, E, E, E, E, E, E, E, E, E, E, E, E, E, E, E, E, E, E, E, E, E, E, E, E, E, E, E, E, E, E, E, E, E, E, E, E, E, E, E, E, E, E, E, E, E, E, E, E, E, E, E, E, E, E, E, E, E, E, E, E, E, E, E, E, E] h = L109_0 l v0 v2 v4 v5 v6 h) ∧
  (∀ l v0 v3 h, run V0 (.code 114 [1, 0, 1, 0]) l [S v0, E, E, S v3, E, E, E, E, E, E, E, E, E, E, E, E, E, E, E, E, E, E, E] h = L114_0 l v0 v3 h) ∧
  (∀ l v0 v3 h, run V0 (.code 115 [1, 0, 1, 0]) l [S v0, E, E, S v3, E, E, E, E, E, E, E, E, E, E, E, E, E, E, E, E, E, E, E, E, E, E, E, E, E] h = L115_0 l v0 v3 h) ∧
  (∀ l v0 v1 v2 v7 v8 v9 h, run V0 (.code 131 [1, 1, 1, 0, 1, 0]) l [S v0, S v1, S v2, E, E, E, E, S v7, S v8, S v9, E, E, E, E, E, E, E, E, E, E, E, E, E, E, E, E, E, E, E, E, E, E, E, E, E, E, E, E, E, E, E, E, E] h = L131_0 l v0 v1 v2 v7 v8 v9 h) :=
  ⟨fun _ _ _ _ _ => rfl, fun _ _ _ _ _ => rfl, fun _ _ _ _ _ => rfl, fun _ _ _ _ _ _ => rfl, fun _ _ _ _ _ => rfl, fun _ _ _ _ _ => rfl, fun _ _ _ _ _ => rfl, fun _ _ _ _ _ => rfl, fun _ _ _ _ => rfl, fun _ _ _ _ => rfl, fun _ _ _ _ _ _ => rfl, fun _ _ _ _ _ => rfl, fun _ _ _ _ _ => rfl, fun _ _ _ _ => rfl, fun _ _ _ _ _ _ => rfl, fun _ _ _ _ _ _ => rfl, fun _ _ _ _ _ _ _ => rfl, fun _ _ _ _ => rfl, fun _ _ _ _ => rfl, fun _ _ _ _ _ _ _ _ => rfl⟩
end Go.Abs
namespace Go.Abs
open Go.Proofs
set_option maxRecDepth 100000

/-- a text of bytes, by its list -/
def B (l : List UInt8) : ByteArray := ⟨⟨l⟩⟩
theorem B_mk (l : List UInt8) : (⟨⟨l⟩⟩ : ByteArray) = B l := rfl

theorem step0_fn {C f l fr h F c} (hF : Try.prog.funcs[f]? = some F) (hb : F.body = some c) (hp : V0.prim f = none) :
    step V0 C (.fn f) l fr h = exec V0 C f l (retK V0.P F) panK c [] ⟨retK V0.P F, fun _ _ _ => none⟩ (fr ++ List.replicate (F.ntmps - fr.length) E) h := by
  have hF' : V0.P.funcs[f]? = some F := hF
  simp only [step, hp, hF', hb]
/-- what a function of the library's does that is taken as one step -/
theorem run_prim {f : Nat} {p : Hnd → Nat → List Value → AH → R} {l : Nat} {vs : List Value} {h : AH} {o : Out} (hp : V0.prim f = some p) (e : p (run V0) l vs h = some o) : run V0 (.fn f) l (vs.map S) h = some o := by
  refine run_step lim0 ?_
  simp only [step, hp]
  rw [← e]
  congr 1
  simp [Function.comp_def]
/-- what is run of a function -/
theorem run_fn {f : Nat} {F : Func} {c : Code} {rs : List ResultVar} {n : Nat} {l : Nat} {fr fr' : Frm} {h : AH} {o : Out} (hF : Try.prog.funcs[f]? = some F) (hb : F.body = some c) (hr : F.results.toList = rs) (hn : F.ntmps = n) (hf : padF n fr = fr')
    (e : exec V0 (run V0) f l (retQ V0.P rs) panK c [] ⟨retQ V0.P rs, fun _ _ _ => none⟩ fr' h = some o) (hp : V0.prim f = none := by rfl) : run V0 (.fn f) l fr h = some o := by
  refine run_step lim0 ?_
  rw [step0_fn hF hb hp, padF_eq, hn, hf]
  subst hr
  exact e

theorem V0_cut (f : Nat) (p : List Nat) : V0.cut f (p ++ [1]) = none := by
  show cutT f (p ++ [1]) = none
  simp only [cutT, List.getLast?_append, List.getLast?_singleton, Option.some_or, if_true]
theorem seqK0 (C : Hnd) (f : Nat) (lim : Nat) (X : Frm → AH → R) (p : List Nat) : seqK V0 C f lim (p ++ [1]) X = X := by
  funext fr h; simp only [seqK, V0_cut]
noncomputable def goAt (C : Hnd) (f lim : Nat) (ret : Frm → AH → R) (pan : Value → AH → R) : List Nat → Code → List Nat → (Frm → AH → R) → (Nat → Frm → AH → R) → Frm → AH → R
  | 0 :: is, .seq a b, p, n, x => goAt C f lim ret pan is a (p ++ [0]) (exec V0 C f lim ret pan b (p ++ [1]) ⟨n, x⟩) x
  | 1 :: is, .seq _ b, p, n, x => goAt C f lim ret pan is b (p ++ [1]) n x
  | 0 :: is, .cond _ a _, p, n, x => goAt C f lim ret pan is a (p ++ [0]) n x
  | 1 :: is, .cond _ _ b, p, n, x => goAt C f lim ret pan is b (p ++ [1]) n x
  | 0 :: is, .block id b, p, n, x => goAt C f lim ret pan is b (p ++ [0]) n (fun i => if i = id then n else x i)
  | 0 :: is, .loop b, p, _, x => goAt C f lim ret pan is b (p ++ [0]) (fun fr h => C (.code f p) lim (erase (V0.cut f p) fr) h) x
  | [], .loop b, p, _, x => exec V0 C f lim ret pan b (p ++ [0]) ⟨fun fr h => C (.code f p) lim (erase (V0.cut f p) fr) h, x⟩
  | [], c, p, n, x => exec V0 C f lim ret pan c p ⟨n, x⟩
  | _ :: _, _, _, _, _ => fun _ _ => none
theorem goAt_eq (C : Hnd) (f lim : Nat) (ret : Frm → AH → R) (pan : Value → AH → R) (fr : Frm) (h : AH) (o : Out) : ∀ (is : List Nat) (c : Code) (p : List Nat) (n : Frm → AH → R) (x : Nat → Frm → AH → R),
    goAt C f lim ret pan is c p n x fr h = some o → (match At.go V0 C f lim ret pan is ⟨c, p, ⟨n, x⟩⟩ with
        | some a =>
          match a.c with
          | .loop b => exec V0 C f lim ret pan b (a.p ++ [0]) { a.K with n := fun fr h => C (.code f a.p) lim (erase (V0.cut f a.p) fr) h } fr h
          | c => exec V0 C f lim ret pan c a.p a.K fr h
        | none => none) = some o := by
  intro is
  induction is with
  | nil => intro c p n x e; cases c <;> exact e
  | cons i is ih =>
    intro c p n x e
    cases c <;> rcases i with _ | _ | i <;> first | (simp [goAt] at e; done) | skip
    · have := ih _ _ _ _ e; simp only [At.go, At.sub, seqK0]; exact this
    · exact ih _ _ _ _ e
    · exact ih _ _ _ _ e
    · exact ih _ _ _ _ e
    · exact ih _ _ _ _ e
    · exact ih _ _ _ _ e
/-- what is run from the head of a loop -/
theorem run_code {f : Nat} {F : Func} {c : Code} {rs : List ResultVar} {l : Nat} {p : List Nat} {fr : Frm} {h : AH} {o : Out} (hF : Try.prog.funcs[f]? = some F) (hb : F.body = some c) (hr : F.results.toList = rs)
    (e : goAt (run V0) f l (retQ V0.P rs) panK p c [] (retQ V0.P rs) (fun _ _ _ => none) fr h = some o) : run V0 (.code f p) l fr h = some o := by
  refine run_step lim0 ?_
  subst hr
  have := goAt_eq _ _ _ _ _ _ _ _ _ _ _ _ _ e
  have hF' : V0.P.funcs[f]? = some F := hF
  simp only [step, hF', hb]
  exact this
theorem XG {C f lim ret pan} : (∀ is a b p n x, goAt C f lim ret pan (0 :: is) (.seq a b) p n x = goAt C f lim ret pan is a (p ++ [0]) (exec V0 C f lim ret pan b (p ++ [1]) ⟨n, x⟩) x) ∧
  (∀ is a b p n x, goAt C f lim ret pan (1 :: is) (.seq a b) p n x = goAt C f lim ret pan is b (p ++ [1]) n x) ∧
  (∀ is c a b p n x, goAt C f lim ret pan (0 :: is) (.cond c a b) p n x = goAt C f lim ret pan is a (p ++ [0]) n x) ∧
  (∀ is c a b p n x, goAt C f lim ret pan (1 :: is) (.cond c a b) p n x = goAt C f lim ret pan is b (p ++ [1]) n x) ∧
  (∀ is id b p n x, goAt C f lim ret pan (0 :: is) (.block id b) p n x = goAt C f lim ret pan is b (p ++ [0]) n (fun i => if i = id then n else x i)) ∧
  (∀ is b p n x, goAt C f lim ret pan (0 :: is) (.loop b) p n x = goAt C f lim ret pan is b (p ++ [0]) (fun fr h => C (.code f p) lim (erase (V0.cut f p) fr) h) x) ∧
  (∀ b p n x, goAt C f lim ret pan [] (.loop b) p n x = exec V0 C f lim ret pan b (p ++ [0]) ⟨fun fr h => C (.code f p) lim (erase (V0.cut f p) fr) h, x⟩) :=
  ⟨fun _ _ _ _ _ _ => rfl, fun _ _ _ _ _ _ => rfl, fun _ _ _ _ _ _ _ => rfl, fun _ _ _ _ _ _ _ => rfl, fun _ _ _ _ _ _ => rfl, fun _ _ _ _ _ => rfl, fun _ _ _ _ => rfl⟩
theorem X0 {C : Hnd} {f lim : Nat} {ret : Frm → AH → R} {pan : Value → AH → R} : (∀ a b p n x fr h, exec V0 C f lim ret pan (.seq a b) p ⟨n, x⟩ fr h = exec V0 C f lim ret pan a (p ++ [0]) ⟨exec V0 C f lim ret pan b (p ++ [1]) ⟨n, x⟩, x⟩ fr h) ∧
  (∀ id l p n x fr h, exec V0 C f lim ret pan (.region id ⟨l⟩ false) p ⟨n, x⟩ fr h = regN V0 C lim pan ⟨l⟩ l fr h n) ∧
  (∀ p n x fr h, exec V0 C f lim ret pan .skip p ⟨n, x⟩ fr h = n fr h) ∧
  (∀ p K fr h, exec V0 C f lim ret pan .ret p K fr h = ret fr h) ∧
  (∀ i p n x fr h, exec V0 C f lim ret pan (.exit i) p ⟨n, x⟩ fr h = x i fr h) ∧
  (∀ b p K fr h, exec V0 C f lim ret pan (.loop b) p K fr h = C (.code f p) lim (erase (V0.cut f p) fr) h) ∧
  (∀ i b p n x fr h, exec V0 C f lim ret pan (.block i b) p ⟨n, x⟩ fr h = exec V0 C f lim ret pan b (p ++ [0]) ⟨n, fun j => if j = i then n else x j⟩ fr h) ∧
  (∀ c a b p K fr h, exec V0 C f lim ret pan (.cond c a b) p K fr h = onCond (slot fr c) (exec V0 C f lim ret pan a (p ++ [0]) K fr h) (exec V0 C f lim ret pan b (p ++ [1]) K fr h)) := by
  refine ⟨fun a b p n x fr h => ?_, fun _ _ _ _ _ _ _ => rfl, fun _ _ _ _ _ => rfl, fun _ _ _ _ => rfl, fun _ _ _ _ _ _ => rfl, fun _ _ _ _ _ => rfl, fun _ _ _ _ _ _ _ => rfl, fun _ _ _ _ _ _ _ => rfl⟩
  show exec V0 C f lim ret pan a (p ++ [0]) ⟨seqK V0 C f lim (p ++ [1]) (exec V0 C f lim ret pan b (p ++ [1]) ⟨n, x⟩), x⟩ fr h = _
  rw [seqK0]

/-- a slot as an option: so that it is looked at before it is used -/
def slotO (fr : Frm) (x : Operand) : Option Slot := some (slot fr x)
theorem XO : (∀ fr t, slotO fr (.tmp t) = getO fr t) ∧ (∀ fr f, slotO fr (.func f) = some (S (.func (.func f) #[] #[]))) ∧
  (∀ fr k n, slotO fr (.const (.int k n)) = some (S (.int k n))) ∧ (∀ fr b, slotO fr (.const (.bool b)) = some (S (.bool b))) ∧ (∀ fr s, slotO fr (.const (.string s)) = some (S (.string s))) ∧
  (∀ fr, slotO fr (.const (.slice none 0 0)) = some (S (.slice none 0 0))) ∧ (∀ fr, slotO fr (.const (.pointer none)) = some (S (.pointer none))) ∧ (∀ fr, slotO fr (.const .nilIface) = some (S .nilIface)) ∧ (∀ fr, slotO fr (.const .nilFunc) = some (S .nilFunc)) ∧
  (∀ act fr x X, use act (slot fr x) X = match slotO fr x with | some ⟨g, _, v⟩ => useG act g (X v) | none => none) ∧
  (∀ act g u v X, use act ⟨g, u, v⟩ X = useG act g (X v)) ∧
  (∀ fr x A C, onCond (slot fr x) A C = match slotO fr x with | some ⟨g, _, v⟩ => (match v with | .bool b => chk g (match b with | true => A | false => C) | _ => none) | none => none) ∧
  (∀ fr e X, gSp (fr.getD e E) true X = match getO fr e with
    | some ⟨g, u, v⟩ => (match v with
      | .bool b => match u with
        | true => match g with
          | true => match b with | true => X ⟨true, true, .bool true⟩ true | false => X ⟨true, true, .bool false⟩ false
          | false => X ⟨false, true, .bool b⟩ false
        | false => chk g (X ⟨g, false, .bool b⟩ (eqW b true))
      | _ => none)
    | none => none) ∧
  (∀ fr e X, gSp (fr.getD e E) false X = match getO fr e with
    | some ⟨g, u, v⟩ => (match v with
      | .bool b => match u with
        | true => match g with
          | true => match b with | true => X ⟨true, true, .bool true⟩ false | false => X ⟨true, true, .bool false⟩ true
          | false => X ⟨false, true, .bool b⟩ false
        | false => chk g (X ⟨g, false, .bool b⟩ (eqW b false))
      | _ => none)
    | none => none) ∧
  (∀ act fr c a b X, pk act (slot fr c) (slot fr a) (slot fr b) X = match slotO fr c with
    | some ⟨gc, _, vc⟩ => useG act gc (asBool vc fun q => match slotO fr a with
      | some ⟨ga, _, va⟩ => (match slotO fr b with | some ⟨gb, _, vb⟩ => useG act (pickG q ga gb) (X (pickV q va vb)) | none => none)
      | none => none)
    | none => none) := by
  refine ⟨fun _ _ => rfl, fun _ _ => rfl, fun _ _ _ => rfl, fun _ _ => rfl, fun _ _ => rfl, fun _ => rfl, fun _ => rfl, fun _ => rfl, fun _ => rfl, fun _ _ _ _ => rfl, fun _ _ _ _ _ => rfl, fun _ _ _ _ => rfl, fun _ _ _ => rfl, fun _ _ _ => rfl, fun _ _ _ _ _ _ => rfl⟩
/-- where a run is looked at before it goes on: what stands in it is not rewritten -/
inductive Fx (x : R) : Type where
  | mk : Fx x
def Stop (x : R) (_ : Fx x) : R := x
def onB (b : Bool) (x y : R) : R := match b with | true => x | false => y
theorem XOB : (∀ A C (w : Fx A) (u : Fx C), onB true (Stop A w) (Stop C u) = A) ∧ (∀ A C (w : Fx A) (u : Fx C), onB false (Stop A w) (Stop C u) = C) := ⟨fun _ _ _ _ => rfl, fun _ _ _ _ => rfl⟩
theorem XOs : (∀ fr t, slotO fr (.tmp t) = getO fr t) ∧ (∀ fr f, slotO fr (.func f) = some (S (.func (.func f) #[] #[]))) ∧
  (∀ fr k n, slotO fr (.const (.int k n)) = some (S (.int k n))) ∧ (∀ fr b, slotO fr (.const (.bool b)) = some (S (.bool b))) ∧ (∀ fr s, slotO fr (.const (.string s)) = some (S (.string s))) ∧
  (∀ fr, slotO fr (.const (.slice none 0 0)) = some (S (.slice none 0 0))) ∧ (∀ fr, slotO fr (.const (.pointer none)) = some (S (.pointer none))) ∧ (∀ fr, slotO fr (.const .nilIface) = some (S .nilIface)) ∧ (∀ fr, slotO fr (.const .nilFunc) = some (S .nilFunc)) ∧
  (∀ act fr x X, use act (slot fr x) X = match slotO fr x with | some ⟨g, _, v⟩ => useG act g (X v) | none => none) ∧
  (∀ act g u v X, use act ⟨g, u, v⟩ X = useG act g (X v)) ∧
  (∀ fr x A C, onCond (slot fr x) A C = match slotO fr x with | some ⟨g, _, v⟩ => (match v with | .bool b => chk g (onB b (Stop A .mk) (Stop C .mk)) | _ => none) | none => none) ∧
  (∀ fr e X, gSp (fr.getD e E) true X = match getO fr e with
    | some ⟨g, u, v⟩ => (match v with
      | .bool b => match u with
        | true => match g with
          | true => onB b (Stop (X ⟨true, true, .bool true⟩ true) .mk) (Stop (X ⟨true, true, .bool false⟩ false) .mk)
          | false => X ⟨false, true, .bool b⟩ false
        | false => chk g (X ⟨g, false, .bool b⟩ (eqW b true))
      | _ => none)
    | none => none) ∧
  (∀ fr e X, gSp (fr.getD e E) false X = match getO fr e with
    | some ⟨g, u, v⟩ => (match v with
      | .bool b => match u with
        | true => match g with
          | true => onB b (Stop (X ⟨true, true, .bool true⟩ false) .mk) (Stop (X ⟨true, true, .bool false⟩ true) .mk)
          | false => X ⟨false, true, .bool b⟩ false
        | false => chk g (X ⟨g, false, .bool b⟩ (eqW b false))
      | _ => none)
    | none => none) ∧
  (∀ act fr c a b X, pk act (slot fr c) (slot fr a) (slot fr b) X = match slotO fr c with
    | some ⟨gc, _, vc⟩ => useG act gc (asBool vc fun q => match slotO fr a with
      | some ⟨ga, _, va⟩ => (match slotO fr b with | some ⟨gb, _, vb⟩ => useG act (pickG q ga gb) (X (pickV q va vb)) | none => none)
      | none => none)
    | none => none) := by
  refine ⟨fun _ _ => rfl, fun _ _ => rfl, fun _ _ _ => rfl, fun _ _ => rfl, fun _ _ => rfl, fun _ => rfl, fun _ => rfl, fun _ => rfl, fun _ => rfl, fun _ _ _ _ => rfl, fun _ _ _ _ _ => rfl, fun _ _ _ _ => rfl, fun _ _ _ => rfl, fun _ _ _ => rfl, fun _ _ _ _ _ _ => rfl⟩

theorem XS1 : (∀ g X, useG none g X = match g with | true => X | false => none) ∧ (∀ g X, useG (some true) g X = match g with | true => X | false => none) ∧ (∀ g X, useG (some false) g X = X) ∧
  (∀ v, mkS none v = S v) ∧ (∀ a v, mkS (some a) v = ⟨a, true, v⟩) ∧
  (∀ act l X, useL act l X = match l with | [] => X [] | s :: ss => use act s fun v => useL act ss fun vs => X (v :: vs)) ∧
  (∀ act fr X, useO act fr none X = X none) ∧ (∀ act fr x X, useO act fr (some x) X = use act (slot fr x) fun v => opK.asInt2 v fun n => X (some n)) ∧
  (∀ v X, opK.asInt2 v X = match v with | .int _ n => X n | _ => none) ∧
  (∀ b X, chk b X = match b with | true => X | false => none) ∧
  (∀ {α} (x : Option α) d K, oE none x d K = match x with | some v => K v | none => none) ∧ (∀ {α} (x : Option α) d K, oE (some true) x d K = match x with | some v => K v | none => none) ∧ (∀ {α} (x : Option α) d K, oE (some false) x d K = K (x.getD d)) ∧
  (∀ {α} (x : Option α) d K, heapE none x d K = match x with | some v => K v | none => none) ∧ (∀ {α} (x : Option α) d K, heapE (some true) x d K = match x with | some v => K v | none => none) ∧ (∀ {α} (x : Option α) d K, heapE (some false) x d K = K d) ∧
  (∀ x d h K pan, callE none x d h K pan = match x with | some o => (match o with | .ret v h => K v h | .pan v h => pan v h) | none => none) ∧ (∀ x d h K pan, callE (some true) x d h K pan = match x with | some o => (match o with | .ret v h => K v h | .pan v h => pan v h) | none => none) ∧ (∀ x d h K pan, callE (some false) x d h K pan = K d h) ∧
  (∀ v h' h K, mk2 none v h' h K = K (S v) h') ∧ (∀ v h' h K, mk2 (some true) v h' h K = K (S v) h') ∧ (∀ v h' h K, mk2 (some false) v h' h K = K ⟨false, true, undef⟩ h) ∧
  (∀ k v K, asInt k v K = match v with | .int k' n => (match decide (k' = k) with | true => K n | false => none) | _ => none) ∧ (∀ v K, asBool v K = match v with | .bool b => K b | _ => none) ∧ (∀ v K, asStr v K = match v with | .string s => K s | _ => none) ∧ (∀ v K, asTup v K = match v with | .tuple vs => K vs.toList | _ => none) ∧
  (∀ a l K, unc (a :: l) K = K a l) ∧ (∀ X, nilL [] X = X) ∧
  (∀ fr X, force fr X = match fr with | [] => X [] | a :: l => X (a :: l)) := by
  refine ⟨fun g _ => by cases g <;> rfl, fun g _ => by cases g <;> rfl, fun g _ => by cases g <;> rfl, fun _ => rfl, fun _ _ => rfl, fun _ l _ => by cases l <;> rfl, fun _ _ _ => rfl, fun _ _ _ _ => ?_, fun _ _ => rfl, 
    fun b _ => by cases b <;> rfl, fun x _ _ => by cases x <;> rfl, fun x _ _ => by cases x <;> rfl, fun x _ _ => by cases x <;> rfl,
    fun x _ _ => by cases x <;> rfl, fun x _ _ => by cases x <;> rfl, fun x _ _ => by cases x <;> rfl, fun x _ _ _ _ => by rcases x with _ | (_ | _) <;> rfl, fun x _ _ _ _ => by rcases x with _ | (_ | _) <;> rfl, fun _ _ _ _ _ => rfl,
    fun _ _ _ _ => rfl, fun _ _ _ _ => rfl, fun _ _ _ _ => rfl, ?_, fun _ _ => rfl, fun _ _ => rfl, fun _ _ => rfl, fun _ _ _ => rfl, fun _ => rfl, fun _ _ => rfl⟩
  · simp only [useO]; congr 1
  · intro k v K
    cases v <;> try rfl
    rename_i k' n
    by_cases hq : k' = k <;> simp [asInt, hq]

theorem XP : (∀ b, pickG true true b = true) ∧ (∀ a, pickG false a true = true) ∧ (∀ q, pickG q q true = true) ∧ (∀ q, pickG q true (!q) = true) ∧ (∀ q, pickG q true true = true) ∧
  (∀ q x y, pickV q (.bool x) (.bool y) = .bool (cond q x y)) ∧ (∀ q k x y, pickV q (.int k x) (.int k y) = .int k (cond q x y)) ∧ (∀ q x y, pickV q (.string x) (.string y) = .string (cond q x y)) := by
  refine ⟨fun b => by cases b <;> rfl, fun b => by cases b <;> rfl, fun q => by cases q <;> rfl, fun q => by cases q <;> rfl, fun q => by cases q <;> rfl, fun _ _ _ => rfl, fun q k x y => by simp [pickV], fun _ _ _ => rfl⟩

def xorI (k : IntKind) (a b : Int) : Int := k.wrap ((BitVec.ofInt k.bits a ^^^ BitVec.ofInt k.bits b).toNat : Int)
theorem XB : (∀ P t k a b act K, binK P .eql t (.int k a) (.int k b) act K = K (.bool (a == b))) ∧ (∀ P t k a b act K, binK P .neq t (.int k a) (.int k b) act K = K (.bool (a != b))) ∧
  (∀ P t k a b act K, binK P .lss t (.int k a) (.int k b) act K = K (.bool (decide (a < b)))) ∧ (∀ P t k a b act K, binK P .leq t (.int k a) (.int k b) act K = K (.bool (decide (a ≤ b)))) ∧
  (∀ P t k a b act K, binK P .gtr t (.int k a) (.int k b) act K = K (.bool (decide (b < a)))) ∧ (∀ P t k a b act K, binK P .geq t (.int k a) (.int k b) act K = K (.bool (decide (b ≤ a)))) ∧
  (∀ P t k a b act K, binK P .add t (.int k a) (.int k b) act K = K (.int k (k.wrap (a + b)))) ∧ (∀ P t k a b act K, binK P .sub t (.int k a) (.int k b) act K = K (.int k (k.wrap (a - b)))) ∧
  (∀ P t k a b act K, binK P .mul t (.int k a) (.int k b) act K = K (.int k (k.wrap (a * b)))) ∧
  (∀ P t k a b act K, binK P .quo t (.int k a) (.int k b) act K = oE act (if b = 0 then none else some (k.wrap (a.tdiv b))) 0 fun n => K (.int k n)) ∧
  (∀ P t k a b act K, binK P .rem t (.int k a) (.int k b) act K = oE act (if b = 0 then none else some (a.tmod b)) 0 fun n => K (.int k n)) ∧
  (∀ P t a b act K, binK P .eql t (.string a) (.string b) act K = K (.bool (decide (a = b)))) ∧ (∀ P t a b act K, binK P .neq t (.string a) (.string b) act K = K (.bool (!decide (a = b)))) ∧
  (∀ P t a b act K, binK P .add t (.string a) (.string b) act K = oE act (catA a b) ⟨#[]⟩ fun s => K (.string s)) ∧
  (∀ P t a b act K, binK P .lss t (.string a) (.string b) act K = K (.bool (Op.bytesLess a.toList b.toList))) ∧
  (∀ P t a b act K, binK P .geq t (.string a) (.string b) act K = K (.bool (!Op.bytesLess a.toList b.toList))) ∧
  (∀ P t a b act K, binK P .leq t (.string a) (.string b) act K = K (.bool (Op.bytesLess a.toList b.toList || decide (a = b)))) ∧
  (∀ P t k a b act K, binK P .xor t (.int k a) (.int k b) act K = K (.int k (xorI k a b))) ∧
  (∀ b, unA .not (.bool b) = some (.bool !b)) ∧ (∀ k n, unA .neg (.int k n) = some (.int k (k.wrap (0 - n)))) := by
  refine ⟨?_, ?_, ?_, ?_, ?_, ?_, ?_, ?_, ?_, ?_, ?_, fun _ _ _ _ _ _ => rfl, fun _ _ _ _ _ _ => rfl, fun _ _ _ _ _ _ => rfl, fun _ _ _ _ _ _ => rfl, fun _ _ _ _ _ _ => rfl, fun _ _ _ _ _ _ => rfl, ?_, fun _ => rfl, fun _ _ => rfl⟩ <;>
  (intro P t k a b act K; simp only [binK, isCmp, isSh, cmpA, arA, if_true]; try rfl)
  all_goals (split <;> rfl)

theorem XE : (∀ m, eraseB m [] = []) ∧ (∀ s fr, eraseB [] (s :: fr) = E :: eraseB [] fr) ∧ (∀ m s fr, eraseB (true :: m) (s :: fr) = s :: eraseB m fr) ∧ (∀ m s fr, eraseB (false :: m) (s :: fr) = E :: eraseB m fr) :=
  ⟨fun m => by cases m <;> rfl, fun _ _ => rfl, fun _ _ _ => rfl, fun _ _ _ => rfl⟩
theorem XT : (∀ X, noTups [] X = X) ∧ (∀ v vs X, noTups (v :: vs) X = noTup v (noTups vs X)) ∧ (∀ s X, noTup (.string s) X = X) ∧ (∀ k n X, noTup (.int k n) X = X) ∧ (∀ b X, noTup (.bool b) X = X) ∧
  (∀ a n c X, noTup (.slice a n c) X = X) ∧ (∀ p X, noTup (.pointer p) X = X) ∧ (∀ c X, noTup (.agg c) X = X) ∧ (∀ m X, noTup (.map m) X = X) ∧ (∀ t v X, noTup (.iface t v) X = X) ∧ (∀ X, noTup .nilIface X = X) :=
  ⟨fun _ => rfl, fun _ _ _ => rfl, fun _ _ => rfl, fun _ _ _ => rfl, fun _ _ => rfl, fun _ _ _ _ => rfl, fun _ _ => rfl, fun _ _ => rfl, fun _ _ => rfl, fun _ _ _ => rfl, fun _ => rfl⟩

theorem XQ : (∀ fr h, retQ V0.P [] fr h = some (.ret (.tuple #[]) h)) ∧ (∀ t fr h, retQ V0.P [.tmp t] fr h = match getO fr t with | some ⟨g, _, v⟩ => (match g with | true => some (.ret v h) | false => none) | none => none) ∧
  (∀ r q rs fr h, retQ V0.P (r :: q :: rs) fr h = match retL (r :: q :: rs) fr h V0.P with | some vs => some (.ret (.tuple ⟨vs⟩) h) | none => none) ∧
  (∀ a t fr h, retQ V0.P [.cell a t] fr h = match getO fr a with | some ⟨g, _, p⟩ => (match g with | true => (match aggK V0.P t with | some (some n) => (match ldN h p n with | some l => some (.ret (.agg ⟨l⟩) h) | none => none) | some none => (match ld h p with | some v => some (.ret v h) | none => none) | none => none) | false => none) | none => none) ∧
  (∀ fr h, retL [] fr h V0.P = some []) ∧ (∀ t rs fr h, retL (.tmp t :: rs) fr h V0.P = match getO fr t with | some ⟨g, _, v⟩ => (match g with | true => (match retL rs fr h V0.P with | some l => some (v :: l) | none => none) | false => none) | none => none) ∧
  (∀ a t rs fr h, retL (.cell a t :: rs) fr h V0.P = match getO fr a with
    | some ⟨g, _, p⟩ => (match g with
      | true => (match aggK V0.P t with
        | some (some n) => (match ldN h p n with | some l => (match retL rs fr h V0.P with | some r => some (.agg ⟨l⟩ :: r) | none => none) | none => none)
        | some none => (match ld h p with | some v => (match retL rs fr h V0.P with | some r => some (v :: r) | none => none) | none => none)
        | none => none)
      | false => none)
    | none => none) := by
  refine ⟨fun _ _ => rfl, fun t fr h => ?_, fun r q rs fr h => ?_, fun a t fr h => ?_, fun _ _ => rfl, fun t rs fr h => ?_, fun a t rs fr h => ?_⟩
  · simp only [retQ, retL, getO]
    cases (fr.getD t E).g <;> rfl
  · simp only [retQ]
    have key : ∀ vs, retL (r :: q :: rs) fr h V0.P = some vs → ∃ a b l, vs = a :: b :: l := by
      intro vs e
      have one : ∀ r rs vs, retL (r :: rs) fr h V0.P = some vs → ∃ a l, vs = a :: l ∧ retL rs fr h V0.P = some l := by
        intro r rs vs e
        cases r with
        | tmp t =>
          simp only [retL] at e
          split at e
          · obtain ⟨l, hl, rfl⟩ := Option.map_eq_some_iff.1 e; exact ⟨_, _, rfl, hl⟩
          · cases e
        | cell a t =>
          simp only [retL] at e
          split at e
          · obtain ⟨v, hv, e⟩ := Option.bind_eq_some_iff.1 e
            obtain ⟨l, hl, rfl⟩ := Option.map_eq_some_iff.1 e; exact ⟨_, _, rfl, hl⟩
          · cases e
      obtain ⟨a, l, rfl, e1⟩ := one r (q :: rs) vs e
      obtain ⟨b, l, rfl, _⟩ := one q rs l e1
      exact ⟨_, _, _, rfl⟩
    cases hq : retL (r :: q :: rs) fr h V0.P with
    | none => rfl
    | some vs => obtain ⟨a, b, l, rfl⟩ := key vs hq; rfl
  · simp only [retQ, retL, ldT, getO]
    cases (fr.getD a E).g <;> try rfl
    rcases aggK V0.P t with _ | (_ | n) <;> try rfl
    · simp only []; cases ld h (fr.getD a E).v <;> rfl
    · simp only []; cases ldN h (fr.getD a E).v n <;> rfl
  · simp only [retL, getO]
    cases (fr.getD t E).g <;> try rfl
    cases retL rs fr h V0.P <;> rfl
  · simp only [retL, ldT, getO]
    cases (fr.getD a E).g <;> try rfl
    rcases aggK V0.P t with _ | (_ | n) <;> try rfl
    · simp only []; cases ld h (fr.getD a E).v <;> try rfl
      cases retL rs fr h V0.P <;> rfl
    · simp only []; cases ldN h (fr.getD a E).v n <;> try rfl
      cases retL rs fr h V0.P <;> rfl
theorem XF : (∀ place cells, fillA place cells [] = some cells) ∧ (∀ place cells i v rest, fillA place cells ((i, v) :: rest) = match place i with
    | none => none
    | some (off, size) => if (cellsL v).length = size ∧ off + size ≤ cells.length then fillA place (setMany cells off (cellsL v)) rest else none) ∧
  (∀ k n, cellsL (.int k n) = [.int k n]) ∧ (∀ b, cellsL (.bool b) = [.bool b]) ∧ (∀ s, cellsL (.string s) = [.string s]) ∧ (∀ a n c, cellsL (.slice a n c) = [.slice a n c]) ∧ (∀ p, cellsL (.pointer p) = [.pointer p]) ∧ (∀ l, cellsL (.agg ⟨l⟩) = l) ∧ (∀ m, cellsL (.map m) = [.map m]) ∧
  (∀ z, repL 0 z = []) ∧ (∀ n z, repL (n + 1) z = z ++ repL n z) ∧
  (∀ cs off, setMany cs off [] = cs) ∧ (∀ cs off v vs, setMany cs off (v :: vs) = setMany (cs.set off v) (off + 1) vs) ∧ (∀ (a s : Value) l, List.set (a :: l) 0 s = s :: l) ∧ (∀ (a s : Value) l n, List.set (a :: l) (n + 1) s = a :: List.set l n s) :=
  ⟨fun _ _ => rfl, fun _ _ _ _ _ => rfl, fun _ _ => rfl, fun _ => rfl, fun _ => rfl, fun _ _ _ => rfl, fun _ => rfl, fun _ => rfl, fun _ => rfl, fun _ => rfl, fun n z => by simp [repL, List.replicate_succ], fun _ _ => rfl, fun _ _ _ _ => rfl, fun _ _ _ => rfl, fun _ _ _ _ => rfl⟩
set_option linter.defProp false
def XX := And.intro @X0 (And.intro @XO (And.intro @XG (And.intro @XR (And.intro @XO1 (And.intro @XS1 (And.intro @XP (And.intro @XB (And.intro @XQ (And.intro @XT (And.intro @XE (And.intro @XF (And.intro @op_build' (And.intro @op_buildSlice (And.intro @op_alloc (And.intro @op_convert (And.intro @op_makeSlice' (And.intro @op_slice (And.intro @op_indexAddr (And.intro @op_index (And.intro @op_len (And.intro @op_append' (And.intro @op_copy (And.intro @op_sliceData (And.intro @op_string (And.intro @op_min (And.intro @op_max (@op_call)))))))))))))))))))))))))))
def XXs := And.intro @X0 (And.intro @XOs (And.intro @XG (And.intro @XR (And.intro @XO1 (And.intro @XS1 (And.intro @XP (And.intro @XB (And.intro @XQ (And.intro @XT (And.intro @XE (And.intro @XF (And.intro @op_build' (And.intro @op_buildSlice (And.intro @op_alloc (And.intro @op_convert (And.intro @op_makeSlice' (And.intro @op_slice (And.intro @op_indexAddr (And.intro @op_index (And.intro @op_len (And.intro @op_append' (And.intro @op_copy (And.intro @op_sliceData (And.intro @op_string (And.intro @op_min (And.intro @op_max (@op_call)))))))))))))))))))))))))))
theorem frS : (∀ (f : Operand → Slot), List.map f [] = []) ∧ (∀ (f : Operand → Slot) a l, List.map f (a :: l) = f a :: List.map f l) ∧ (∀ (f : Nat × Operand → Slot), List.map f [] = []) ∧ (∀ (f : Nat × Operand → Slot) a l, List.map f (a :: l) = f a :: List.map f l) ∧
  (∀ (f : Nat × Operand → Nat), List.map f [] = []) ∧ (∀ (f : Nat × Operand → Nat) a l, List.map f (a :: l) = f a :: List.map f l) ∧ (∀ (f : Value → Slot), List.map f [] = []) ∧ (∀ (f : Value → Slot) a l, List.map f (a :: l) = f a :: List.map f l) ∧
  (∀ (l : List Nat), [] ++ l = l) ∧ (∀ (a : Nat) l m, (a :: l) ++ m = a :: (l ++ m)) ∧ (∀ (l : List Value), [] ++ l = l) ∧ (∀ (a : Value) l m, (a :: l) ++ m = a :: (l ++ m)) ∧ (∀ (l : List Value), l ++ [] = l) ∧
  (∀ (l : List Value), List.zip ([] : List Nat) l = []) ∧ (∀ (a : Nat) l (b : Value) m, List.zip (a :: l) (b :: m) = (a, b) :: List.zip l m) ∧ (∀ (l : List Value), (⟨l⟩ : Array Value).toList = l) ∧ (∀ (a : Oper) l, (a :: l)[0]? = some a) ∧ (∀ (a : Oper) l n, (a :: l)[n + 1]? = l[n]?) :=
  ⟨fun _ => rfl, fun _ _ _ => rfl, fun _ => rfl, fun _ _ _ => rfl, fun _ => rfl, fun _ _ _ => rfl, fun _ => rfl, fun _ _ _ => rfl, fun _ => rfl, fun _ _ _ => rfl, fun _ => rfl, fun _ _ _ => rfl, fun l => List.append_nil l, fun _ => rfl, fun _ _ _ _ => rfl, fun _ => rfl, fun _ _ => rfl, fun _ _ _ => rfl⟩
theorem YB : (∀ l, (⟨⟨l⟩⟩ : ByteArray) = B l) := fun _ => rfl
def YX := And.intro @YU (And.intro @YA (And.intro @YF (And.intro @YD (And.intro @YW (And.intro @YY (And.intro @XCut (And.intro @XL (And.intro @YB (@frS)))))))))
/-! ### bundles of rewriting rules, so that a text names them by one word -/
theorem ZB : type_of% @fg0 ∧ type_of% @fs0 ∧ type_of% @fg1 ∧ type_of% @fs1 ∧ type_of% @fg2 ∧ type_of% @fs2 ∧ type_of% @fg3 ∧ type_of% @fs3 ∧ type_of% @fg4 ∧ type_of% @fs4 ∧ type_of% @fg5 ∧ type_of% @fs5 ∧ type_of% @fg6 ∧ type_of% @fs6 ∧ type_of% @fg7 ∧ type_of% @fs7 ∧ type_of% @fg8 ∧ type_of% @fs8 ∧
    type_of% @dstOf.eq_1 ∧ type_of% @dstOf.eq_2 ∧ type_of% @dstOf.eq_3 ∧ type_of% @padF.eq_1 ∧ type_of% @padF.eq_2 ∧ type_of% @padF.eq_3 ∧ type_of% @tyL.eq_1 ∧ type_of% @tyL.eq_2 ∧ type_of% @convNum.eq_1 ∧
    type_of% @List.length_cons.{0} ∧ type_of% @List.length_nil.{0} ∧ type_of% @Nat.zero_add ∧ type_of% @Nat.zero_mul ∧ type_of% @Nat.mul_one ∧ type_of% @Nat.le_refl ∧ type_of% @and_self ∧ type_of% @Option.bind_some.{0, 0} ∧ type_of% @Option.map_some.{0, 0} ∧
    type_of% @cond_true.{1} ∧ type_of% @cond_false.{1} ∧ type_of% @decide_true ∧ type_of% @Option.getD_none.{0} ∧ type_of% @Option.getD_some.{0} ∧ type_of% @Option.isNone_some.{0} ∧ type_of% @Option.isNone_none.{0} ∧ type_of% @Option.isSome_some.{0} ∧ type_of% @Bool.or_true ∧ type_of% @Bool.true_or ∧ type_of% @Bool.false_or :=
  ⟨@fg0, @fs0, @fg1, @fs1, @fg2, @fs2, @fg3, @fs3, @fg4, @fs4, @fg5, @fs5, @fg6, @fs6, @fg7, @fs7, @fg8, @fs8,
    @dstOf.eq_1, @dstOf.eq_2, @dstOf.eq_3, @padF.eq_1, @padF.eq_2, @padF.eq_3, @tyL.eq_1, @tyL.eq_2, @convNum.eq_1,
    @List.length_cons, @List.length_nil, @Nat.zero_add, @Nat.zero_mul, @Nat.mul_one, @Nat.le_refl, @and_self, @Option.bind_some, @Option.map_some,
    @cond_true, @cond_false, @decide_true, @Option.getD_none, @Option.getD_some, @Option.isNone_some, @Option.isNone_none, @Option.isSome_some, @Bool.or_true, @Bool.true_or, @Bool.false_or⟩
theorem ZC : type_of% @List.getElem?_cons_zero.{0} ∧ type_of% @List.getElem?_cons_succ.{0} ∧ type_of% @List.all_cons.{0} ∧ type_of% @List.all_nil.{0} ∧ type_of% @Bool.and_self ∧ type_of% @List.drop_zero.{0} ∧ type_of% @List.drop_succ_cons.{0} ∧ type_of% @List.take_succ_cons.{0} ∧ type_of% @List.take_zero.{0} ∧ type_of% @decide_true :=
  ⟨@List.getElem?_cons_zero, @List.getElem?_cons_succ, @List.all_cons, @List.all_nil, @Bool.and_self, @List.drop_zero, @List.drop_succ_cons, @List.take_succ_cons, @List.take_zero, @decide_true⟩
theorem ZE : type_of% @List.nil_append.{0} ∧ type_of% @List.cons_append.{0} ∧ type_of% @List.contains_cons.{0} ∧ type_of% @List.contains_nil.{0} ∧ type_of% @Bool.or_false ∧ type_of% @List.set_set.{0} ∧ type_of% @List.length_append.{0} ∧ type_of% @List.length_set.{0} ∧ type_of% @List.set_cons_succ.{0} ∧ type_of% @List.set_cons_zero.{0} ∧ type_of% @and_true ∧ type_of% @true_and ∧ type_of% @if_true.{1} ∧ type_of% @Bool.and_true ∧ type_of% @Bool.true_and :=
  ⟨@List.nil_append, @List.cons_append, @List.contains_cons, @List.contains_nil, @Bool.or_false, @List.set_set, @List.length_append, @List.length_set, @List.set_cons_succ, @List.set_cons_zero, @and_true, @true_and, @if_true, @Bool.and_true, @Bool.true_and⟩
theorem ZL : type_of% @List.length_append.{0} ∧ type_of% @List.length_set.{0} ∧ type_of% @List.length_cons.{0} ∧ type_of% @List.length_nil.{0} ∧ type_of% @Nat.zero_add :=
  ⟨@List.length_append, @List.length_set, @List.length_cons, @List.length_nil, @Nat.zero_add⟩
end Go.Abs
namespace Go.Abs
open Go.Proofs
theorem XRP {V C lim} {l : List Oper} : (∀ fr h K, regP V C lim ⟨l⟩ [] fr h K = K fr h) ∧ (∀ i is fr h K, regP V C lim ⟨l⟩ ((i, false) :: is) fr h K = match l[i]? with | some o => regN V C lim panN ⟨l⟩ [o] fr h (fun fr h => regP V C lim ⟨l⟩ is fr h K) | none => none) ∧
  (∀ i is fr h K, regP V C lim ⟨l⟩ ((i, true) :: is) fr h K = match l[i]? with | some o => regN V C h.length panN ⟨l⟩ [o] fr h (fun fr h => regP V C lim ⟨l⟩ is fr h K) | none => none) :=
  ⟨fun _ _ _ => rfl, fun i is fr h K => by simp only [regP, List.getElem?_toArray]; cases l[i]? <;> rfl, fun i is fr h K => by simp only [regP, List.getElem?_toArray]; cases l[i]? <;> rfl⟩
theorem XD24_6 {C lim ret pan p n x fr h} {ops : Array Oper} (hd : drawS V0.P ops = some [(0, false), (1, false), (2, false), (3, false), (4, false), (5, false), (6, false), (7, false), (8, false), (9, false)]) : exec V0 C 24 lim ret pan (.region 6 ops true) p ⟨n, x⟩ fr h = regP V0 C lim ops [(0, false), (1, false), (2, false), (3, false), (4, false), (5, false), (6, false), (7, false), (8, false), (9, false)] fr h n := draw_rule rfl hd
theorem XD34_6 {C lim ret pan p n x fr h} {ops : Array Oper} (hd : drawS V0.P ops = some [(0, false), (1, false), (2, false), (3, false), (4, false), (5, false), (6, false), (7, false), (8, false)]) : exec V0 C 34 lim ret pan (.region 6 ops true) p ⟨n, x⟩ fr h = regP V0 C lim ops [(0, false), (1, false), (2, false), (3, false), (4, false), (5, false), (6, false), (7, false), (8, false)] fr h n := draw_rule rfl hd
theorem XD39_6 {C lim ret pan p n x fr h} {ops : Array Oper} (hd : drawS V0.P ops = some [(0, false), (1, false), (2, false), (3, false), (7, false), (8, false), (9, false), (4, false), (5, false), (6, false), (10, false), (11, false)]) : exec V0 C 39 lim ret pan (.region 6 ops true) p ⟨n, x⟩ fr h = regP V0 C lim ops [(0, false), (1, false), (2, false), (3, false), (7, false), (8, false), (9, false), (4, false), (5, false), (6, false), (10, false), (11, false)] fr h n := draw_rule rfl hd
theorem XD42_7 {C lim ret pan p n x fr h} {ops : Array Oper} (hd : drawS V0.P ops = some [(0, false), (1, false), (2, false), (3, false), (4, false), (5, false), (6, true), (7, false)]) : exec V0 C 42 lim ret pan (.region 7 ops true) p ⟨n, x⟩ fr h = regP V0 C lim ops [(0, false), (1, false), (2, false), (3, false), (4, false), (5, false), (6, true), (7, false)] fr h n := draw_rule rfl hd
theorem XD42_10 {C lim ret pan p n x fr h} {ops : Array Oper} (hd : drawS V0.P ops = some [(0, false), (1, false), (2, false), (3, false), (4, false), (5, false), (6, true), (7, false)]) : exec V0 C 42 lim ret pan (.region 10 ops true) p ⟨n, x⟩ fr h = regP V0 C lim ops [(0, false), (1, false), (2, false), (3, false), (4, false), (5, false), (6, true), (7, false)] fr h n := draw_rule rfl hd
theorem XD42_13 {C lim ret pan p n x fr h} {ops : Array Oper} (hd : drawS V0.P ops = some [(0, false), (1, false), (2, false), (3, false), (4, false), (5, false), (6, true), (7, false)]) : exec V0 C 42 lim ret pan (.region 13 ops true) p ⟨n, x⟩ fr h = regP V0 C lim ops [(0, false), (1, false), (2, false), (3, false), (4, false), (5, false), (6, true), (7, false)] fr h n := draw_rule rfl hd
theorem XD65_1 {C lim ret pan p n x fr h} {ops : Array Oper} (hd : drawS V0.P ops = some [(0, false), (1, false), (2, false), (3, false), (4, false), (5, false), (6, false), (7, false), (8, false), (9, false), (10, false), (11, false)]) : exec V0 C 65 lim ret pan (.region 1 ops true) p ⟨n, x⟩ fr h = regP V0 C lim ops [(0, false), (1, false), (2, false), (3, false), (4, false), (5, false), (6, false), (7, false), (8, false), (9, false), (10, false), (11, false)] fr h n := draw_rule rfl hd
theorem XD77_7 {C lim ret pan p n x fr h} {ops : Array Oper} (hd : drawS V0.P ops = some [(0, false), (1, false), (2, false), (3, false), (4, false), (5, false), (6, false), (7, false), (8, false), (9, false), (10, false), (11, false), (12, false), (13, false), (14, false), (15, false), (16, false), (17, false), (18, false), (19, false), (20, false), (21, false), (22, false), (23, false), (24, false), (25, false), (26, false), (27, false), (28, false), (29, false), (30, false), (31, false), (32, false), (33, false), (34, false), (35, false), (36, false), (37, false), (38, false), (39, false), (40, false), (41, false), (42, false), (43, false), (44, false), (45, false)]) : exec V0 C 77 lim ret pan (.region 7 ops true) p ⟨n, x⟩ fr h = regP V0 C lim ops [(0, false), (1, false), (2, false), (3, false), (4, false), (5, false), (6, false), (7, false), (8, false), (9, false), (10, false), (11, false), (12, false), (13, false), (14, false), (15, false), (16, false), (17, false), (18, false), (19, false), (20, false), (21, false), (22, false), (23, false), (24, false), (25, false), (26, false), (27, false), (28, false), (29, false), (30, false), (31, false), (32, false), (33, false), (34, false), (35, false), (36, false), (37, false), (38, false), (39, false), (40, false), (41, false), (42, false), (43, false), (44, false), (45, false)] fr h n := draw_rule rfl hd
theorem XD128_3 {C lim ret pan p n x fr h} {ops : Array Oper} (hd : drawS V0.P ops = some [(0, false), (1, false), (2, false), (3, false), (4, false), (5, false), (6, false), (7, false), (8, false), (9, false), (10, false), (11, false)]) : exec V0 C 128 lim ret pan (.region 3 ops true) p ⟨n, x⟩ fr h = regP V0 C lim ops [(0, false), (1, false), (2, false), (3, false), (4, false), (5, false), (6, false), (7, false), (8, false), (9, false), (10, false), (11, false)] fr h n := draw_rule rfl hd
theorem XRM {V C lim hide} {l : List Oper} : (∀ fr done h K, regM V C lim hide ⟨l⟩ [] fr done h K = K fr h) ∧
  (∀ i u w is fr done h K, regM V C lim hide ⟨l⟩ ((i, 0, u, w) :: is) fr done h K = match l[i]? with | some o => regN V C lim panN ⟨l⟩ [o] fr h (fun fr' h' => regM V C lim hide ⟨l⟩ is fr' (done ++ [⟨i, h.length, h'.length, bq hide V.P fr o⟩]) h' K) | none => none) ∧
  (∀ i u w is fr done h K, regM V C lim hide ⟨l⟩ ((i, 1, u, w) :: is) fr done h K = match l[i]? with | some o => regN V C h.length panN ⟨l⟩ [o] fr h (fun fr' h' => regM V C lim hide ⟨l⟩ is fr' (done ++ [⟨i, h.length, h'.length, bq hide V.P fr o⟩]) h' K) | none => none) ∧
  (∀ i u w is fr done h K, regM V C lim hide ⟨l⟩ ((i, 2, u, w) :: is) fr done h K = match l[i]? with
    | some o => (match baseOf V.P fr o with
      | some b => freshAt b (otherAt b (regN V C lim panN ⟨l⟩ [o] fr h (fun fr' h' => regM V C lim hide ⟨l⟩ is fr' (done ++ [⟨i, h.length, h'.length, bq hide V.P fr o⟩]) h' K)) (sel w done)) (sel u done)
      | none => none)
    | none => none) ∧
  (∀ i u w is fr done h K, regM V C lim hide ⟨l⟩ ((i, 3, u, w) :: is) fr done h K = match l[i]? with | some o => regN V C lim panN ⟨l⟩ [o] fr h (fun fr' h' => sameAt h h' (regM V C lim hide ⟨l⟩ is fr' (done ++ [⟨i, h.length, h'.length, bq hide V.P fr o⟩]) h' K) (sel u done)) | none => none) :=
  ⟨fun _ _ _ _ => rfl, fun i _ _ _ _ _ _ _ => by simp only [regM, List.getElem?_toArray]; cases l[i]? <;> rfl, fun i _ _ _ _ _ _ _ => by simp only [regM, List.getElem?_toArray]; cases l[i]? <;> rfl,
    fun i _ _ _ _ _ _ _ => by simp only [regM, List.getElem?_toArray]; cases l[i]? <;> rfl, fun i _ _ _ _ _ _ _ => by simp only [regM, List.getElem?_toArray]; cases l[i]? <;> rfl⟩
theorem XD109_20 {C lim ret pan p n x fr h} {ops : Array Oper} (hd : drawM V0.P true ops = some [(0, (0, ([], []))), (1, (0, ([], []))), (2, (0, ([], []))), (3, (0, ([], []))), (4, (0, ([], []))), (5, (0, ([], []))), (6, (0, ([], []))), (7, (0, ([], []))), (8, (0, ([], []))), (9, (0, ([], []))), (10, (0, ([], []))), (11, (0, ([], []))), (12, (0, ([], []))), (13, (3, ([4, 9], []))), (14, (0, ([], [])))]) : exec V0 C 109 lim ret pan (.region 20 ops true) p ⟨n, x⟩ fr h = regM V0 C lim true ops [(0, (0, ([], []))), (1, (0, ([], []))), (2, (0, ([], []))), (3, (0, ([], []))), (4, (0, ([], []))), (5, (0, ([], []))), (6, (0, ([], []))), (7, (0, ([], []))), (8, (0, ([], []))), (9, (0, ([], []))), (10, (0, ([], []))), (11, (0, ([], []))), (12, (0, ([], []))), (13, (3, ([4, 9], []))), (14, (0, ([], [])))] fr [] h n := draw_ruleM rfl hd
set_option linter.defProp false
def XD := And.intro @XRP (And.intro @XRM (And.intro @XD109_20 (And.intro @XD24_6 (And.intro @XD34_6 (And.intro @XD39_6 (And.intro @XD42_7 (And.intro @XD42_10 (And.intro @XD42_13 (And.intro @XD65_1 (And.intro @XD77_7 (@XD128_3)))))))))))
end Go.Abs
