/- Facts of the program's types, loops and regions, and the rules by which a function is run. No statement of the program is proved here; no condition. -/
import Derived.Test.YtoijpmokcdifnaaGreatDoorAbsC
import Derived.Test.YtoijpmokcdifnaaGreatDoorAbsB
import Derived.Test.YtoijpmokcdifnaaGreatDoorRows
namespace Go.Abs
open Go.Proofs
set_option maxRecDepth 100000
noncomputable def cutTab : List (Nat × List Nat × Nat) := [(10, [1, 1, 1, 0, 1, 0], 234881034), (10, [1, 1, 1, 1, 0, 1, 0], 123145302310920), (13, [1, 1, 1, 1, 1, 1, 1, 0, 1, 0], 864691128455135285), (13, [1, 1, 1, 1, 1, 1, 1, 1, 0, 0], 53), (17, [1, 1, 0, 1, 0], 481036337154), (17, [1, 1, 1, 0, 1, 0], 135399691796838467567091714), (18, [1, 1, 0, 1, 0], 44), (18, [1, 1, 1, 0, 1, 0], 76), (20, [1, 1, 1, 0, 1, 0], 35), (21, [1, 1, 1, 0, 1, 0], 35), (23, [1, 1, 1, 0, 1, 0], 26), (23, [1, 1, 1, 1, 0, 1, 0], 42), (24, [1, 1, 0, 1, 0], 25), (25, [1, 1, 0, 1, 0], 25), (29, [1, 1, 0, 1, 0], 35), (30, [1, 1, 0, 1, 0], 35), (31, [1, 1, 1, 1, 1, 1, 0, 0], 245), (31, [1, 1, 1, 1, 1, 1, 1, 0, 0], 181), (32, [1, 1, 1, 0, 1, 0], 57), (36, [1, 0, 1, 0], 35), (37, [1, 0, 1, 0], 35), (38, [1, 0, 1, 0], 35), (39, [1, 0, 1, 0], 35), (42, [1, 0, 1, 0], 449), (45, [1, 0, 1, 0], 449), (48, [1, 0, 1, 0], 1794), (49, [1, 1, 0, 1, 0], 904), (51, [1, 1, 0, 1, 0], 115), (52, [1, 1, 1, 0, 1, 0], 57), (52, [1, 1, 1, 1, 0, 1, 0], 521), (55, [1, 0, 1, 0], 9), (58, [1, 0, 1, 0], 10), (59, [1, 0, 1, 0], 10), (60, [1, 1, 0, 1, 0], 26), (62, [1, 1, 0, 1, 0], 25), (73, [1, 1, 0, 1, 0], 25), (74, [1, 1, 0, 1, 0], 25), (82, [1, 1, 1, 0, 0], 9), (90, [1, 0, 0], 1), (91, [1, 0, 1, 0], 387), (99, [1, 1, 0, 0], 9), (100, [1, 0, 1, 0], 9), (101, [1, 0, 1, 0], 38), (102, [1, 0, 1, 0], 38), (103, [1, 0, 1, 0], 38), (115, [1, 1, 1, 0, 1, 0], 903), (119, [1, 1, 1, 1, 0, 1, 0], 451), (126, [1, 1, 1, 1, 0, 1, 0], 56), (126, [1, 1, 1, 1, 1, 0, 1, 0, 1, 0, 1, 0], 2305843009213694024), (126, [1, 1, 1, 1, 1, 0, 1, 0, 1, 1, 0, 1, 0], 328), (126, [1, 1, 1, 1, 1, 1, 1, 0, 1, 0], 6152), (138, [1, 0, 1, 0], 527), (215, [1, 1, 1, 0, 1, 0, 1, 0], 7516192867), (215, [1, 1, 1, 0, 1, 1, 1, 0], 1123), (215, [1, 1, 1, 1, 1, 1, 1, 0, 1, 0], 28675)]
noncomputable def cutT (f : Nat) (p : List Nat) : Option Nat := if p.getLast? = some 1 then none else (cutTab.find? fun e => e.1 == f && e.2.1 == p).map (·.2.2)
noncomputable def primTab : List (Nat × (Hnd → Nat → List Value → AH → R)) := [(26, pPure fItoa), (28, pJoin), (33, pPure fNum), (67, pRepl 106 215 188), (107, pCopyCheck 84), (134, pPure fDecode), (217, pPure fCount)]
noncomputable def primT (g : Nat) : Option (Hnd → Nat → List Value → AH → R) := (primTab.find? fun e => e.1 == g).map (·.2)
noncomputable def V0 : Env := { P := Tryz.prog, prim := primT, cut := cutT, hide := fun f r => (f == 94 && (r == 9)) || (f == 40 && (r == 8 || r == 10)) }
theorem lim0 : ∀ g p, V0.prim g = some p → PrimLim V0 p := by
  intro g p h
  obtain ⟨e, he, rfl⟩ := Option.map_eq_some_iff.1 (show (primTab.find? fun e => e.1 == g).map (·.2) = some p from h)
  have hm := List.mem_of_find?_eq_some he
  simp only [primTab, List.mem_cons, List.not_mem_nil, or_false] at hm
  rcases hm with rfl | rfl | rfl | rfl | rfl | rfl | rfl
  all_goals first | exact pCopyCheck_lim | exact pPure_lim | exact pJoin_lim | exact pRepl_lim
theorem YU : V0.P.underlying 0 = some (.tuple #[]) ∧
  V0.P.underlying 3 = some (.int .i64) ∧
  V0.P.underlying 4 = some .bool ∧
  V0.P.underlying 5 = some (.int .u8) ∧
  V0.P.underlying 9 = some .string ∧
  V0.P.underlying 21 = some (.int .i32) ∧
  V0.P.underlying 22 = some (.slice 74) ∧
  V0.P.underlying 23 = some (.slice 76) ∧
  V0.P.underlying 28 = some (.slice 52) ∧
  V0.P.underlying 29 = some (.slice 54) ∧
  V0.P.underlying 35 = some (.tuple #[31, 4]) ∧
  V0.P.underlying 39 = some (.slice 5) ∧
  V0.P.underlying 50 = some (.slice 9) ∧
  V0.P.underlying 65 = some (.pointer 102) ∧
  V0.P.underlying 71 = some (.slice 107) ∧
  V0.P.underlying 80 = some (.pointer 131) ∧
  V0.P.underlying 82 = some (.pointer 84) ∧
  V0.P.underlying 99 = some (.slice 3) ∧
  V0.P.underlying 109 = some (.tuple #[71, 3]) ∧
  V0.P.underlying 119 = some (.int .u32) ∧
  V0.P.underlying 133 = some (.pointer 5) ∧
  V0.P.underlying 135 = some (.tuple #[9, 4]) ∧
  V0.P.underlying 141 = some (.tuple #[3, 3]) ∧
  V0.P.underlying 161 = some (.tuple #[21, 3]) ∧
  V0.P.underlying 178 = some (.pointer 201) ∧
  V0.P.underlying 180 = some (.pointer 207) ∧
  V0.P.underlying 184 = some (.pointer 183) ∧
  V0.P.underlying 188 = some (.pointer 187) ∧
  V0.P.underlying 198 = some (.pointer 226) ∧
  V0.P.underlying 202 = some (.pointer 205) ∧
  V0.P.underlying 203 = some (.slice 202) :=
  ⟨by kernel_rfl, by kernel_rfl, by kernel_rfl, by kernel_rfl, by kernel_rfl, by kernel_rfl, by kernel_rfl, by kernel_rfl, by kernel_rfl, by kernel_rfl, by kernel_rfl, by kernel_rfl, by kernel_rfl, by kernel_rfl, by kernel_rfl, by kernel_rfl, by kernel_rfl, by kernel_rfl, by kernel_rfl, by kernel_rfl, by kernel_rfl, by kernel_rfl, by kernel_rfl, by kernel_rfl, by kernel_rfl, by kernel_rfl, by kernel_rfl, by kernel_rfl, by kernel_rfl, by kernel_rfl, by kernel_rfl⟩
theorem YA : aggK V0.P 3 = some none ∧
  sizeT V0.P 3 = 1 ∧
  sizeO V0.P 3 = some 1 ∧
  szC V0.P 3 = 1 ∧
  isIface V0.P 3 = false ∧
  aggK V0.P 4 = some none ∧
  sizeT V0.P 4 = 1 ∧
  sizeO V0.P 4 = some 1 ∧
  szC V0.P 4 = 1 ∧
  isIface V0.P 4 = false ∧
  aggK V0.P 5 = some none ∧
  sizeT V0.P 5 = 1 ∧
  sizeO V0.P 5 = some 1 ∧
  szC V0.P 5 = 1 ∧
  tgE V0.P 5 1 = 25769803777 ∧
  isIface V0.P 5 = false ∧
  aggK V0.P 9 = some none ∧
  sizeT V0.P 9 = 1 ∧
  sizeO V0.P 9 = some 1 ∧
  szC V0.P 9 = 1 ∧
  isIface V0.P 9 = false ∧
  aggK V0.P 20 = some none ∧
  sizeT V0.P 20 = 1 ∧
  sizeO V0.P 20 = some 1 ∧
  szC V0.P 20 = 1 ∧
  isIface V0.P 20 = true ∧
  aggK V0.P 21 = some none ∧
  sizeT V0.P 21 = 1 ∧
  sizeO V0.P 21 = some 1 ∧
  szC V0.P 21 = 1 ∧
  isIface V0.P 21 = false ∧
  aggK V0.P 22 = some none ∧
  sizeT V0.P 22 = 1 ∧
  sizeO V0.P 22 = some 1 ∧
  szC V0.P 22 = 1 ∧
  isIface V0.P 22 = false ∧
  elemT V0.P 22 = some 74 ∧
  aggK V0.P 23 = some none ∧
  sizeT V0.P 23 = 1 ∧
  sizeO V0.P 23 = some 1 ∧
  szC V0.P 23 = 1 ∧
  isIface V0.P 23 = false ∧
  elemT V0.P 23 = some 76 ∧
  aggK V0.P 25 = some (some 5) ∧
  sizeT V0.P 25 = 5 ∧
  sizeO V0.P 25 = some 5 ∧
  szC V0.P 25 = 5 ∧
  isIface V0.P 25 = false ∧
  aggK V0.P 28 = some none ∧
  sizeT V0.P 28 = 1 ∧
  sizeO V0.P 28 = some 1 ∧
  szC V0.P 28 = 1 ∧
  isIface V0.P 28 = false ∧
  elemT V0.P 28 = some 52 ∧
  aggK V0.P 29 = some none ∧
  sizeT V0.P 29 = 1 ∧
  sizeO V0.P 29 = some 1 ∧
  szC V0.P 29 = 1 ∧
  isIface V0.P 29 = false ∧
  elemT V0.P 29 = some 54 ∧
  aggK V0.P 31 = some (some 5) ∧
  sizeT V0.P 31 = 5 ∧
  sizeO V0.P 31 = some 5 ∧
  szC V0.P 31 = 5 ∧
  isIface V0.P 31 = false ∧
  aggK V0.P 38 = some none ∧
  sizeT V0.P 38 = 1 ∧
  sizeO V0.P 38 = some 1 ∧
  szC V0.P 38 = 1 ∧
  isIface V0.P 38 = false ∧
  aggK V0.P 39 = some none ∧
  sizeT V0.P 39 = 1 ∧
  sizeO V0.P 39 = some 1 ∧
  szC V0.P 39 = 1 ∧
  isIface V0.P 39 = false ∧
  elemT V0.P 39 = some 5 ∧
  aggK V0.P 50 = some none ∧
  sizeT V0.P 50 = 1 ∧
  sizeO V0.P 50 = some 1 ∧
  szC V0.P 50 = 1 ∧
  isIface V0.P 50 = false ∧
  elemT V0.P 50 = some 9 ∧
  aggK V0.P 52 = some (some 3) ∧
  sizeT V0.P 52 = 3 ∧
  sizeO V0.P 52 = some 3 ∧
  szC V0.P 52 = 3 ∧
  isIface V0.P 52 = false ∧
  aggK V0.P 54 = some (some 2) ∧
  sizeT V0.P 54 = 2 ∧
  sizeO V0.P 54 = some 2 ∧
  szC V0.P 54 = 2 ∧
  isIface V0.P 54 = false ∧
  aggK V0.P 65 = some none ∧
  sizeT V0.P 65 = 1 ∧
  sizeO V0.P 65 = some 1 ∧
  szC V0.P 65 = 1 ∧
  isIface V0.P 65 = false ∧
  aggK V0.P 71 = some none ∧
  sizeT V0.P 71 = 1 ∧
  sizeO V0.P 71 = some 1 ∧
  szC V0.P 71 = 1 ∧
  isIface V0.P 71 = false ∧
  elemT V0.P 71 = some 107 ∧
  aggK V0.P 74 = some (some 3) ∧
  sizeT V0.P 74 = 3 ∧
  sizeO V0.P 74 = some 3 ∧
  szC V0.P 74 = 3 ∧
  isIface V0.P 74 = false ∧
  aggK V0.P 76 = some (some 2) ∧
  sizeT V0.P 76 = 2 ∧
  sizeO V0.P 76 = some 2 ∧
  szC V0.P 76 = 2 ∧
  isIface V0.P 76 = false ∧
  aggK V0.P 80 = some none ∧
  sizeT V0.P 80 = 1 ∧
  sizeO V0.P 80 = some 1 ∧
  szC V0.P 80 = 1 ∧
  isIface V0.P 80 = false ∧
  aggK V0.P 82 = some none ∧
  sizeT V0.P 82 = 1 ∧
  sizeO V0.P 82 = some 1 ∧
  szC V0.P 82 = 1 ∧
  isIface V0.P 82 = false ∧
  aggK V0.P 84 = some (some 2) ∧
  sizeT V0.P 84 = 2 ∧
  sizeO V0.P 84 = some 2 ∧
  szC V0.P 84 = 2 ∧
  isIface V0.P 84 = false ∧
  aggK V0.P 87 = some none ∧
  sizeT V0.P 87 = 1 ∧
  sizeO V0.P 87 = some 1 ∧
  szC V0.P 87 = 1 ∧
  isIface V0.P 87 = true ∧
  aggK V0.P 99 = some none ∧
  sizeT V0.P 99 = 1 ∧
  sizeO V0.P 99 = some 1 ∧
  szC V0.P 99 = 1 ∧
  isIface V0.P 99 = false ∧
  elemT V0.P 99 = some 3 ∧
  aggK V0.P 102 = some (some 2) ∧
  sizeT V0.P 102 = 2 ∧
  sizeO V0.P 102 = some 2 ∧
  szC V0.P 102 = 2 ∧
  isIface V0.P 102 = false ∧
  aggK V0.P 105 = some none ∧
  sizeT V0.P 105 = 1 ∧
  sizeO V0.P 105 = some 1 ∧
  szC V0.P 105 = 1 ∧
  isIface V0.P 105 = false ∧
  aggK V0.P 107 = some (some 9) ∧
  sizeT V0.P 107 = 9 ∧
  sizeO V0.P 107 = some 9 ∧
  szC V0.P 107 = 9 ∧
  isIface V0.P 107 = false ∧
  aggK V0.P 112 = some (some 10) ∧
  sizeT V0.P 112 = 10 ∧
  sizeO V0.P 112 = some 10 ∧
  szC V0.P 112 = 10 ∧
  isIface V0.P 112 = false ∧
  aggK V0.P 117 = some (some 0) ∧
  sizeT V0.P 117 = 0 ∧
  sizeO V0.P 117 = some 0 ∧
  szC V0.P 117 = 0 ∧
  isIface V0.P 117 = false ∧
  aggK V0.P 118 = some (some 0) ∧
  sizeT V0.P 118 = 0 ∧
  sizeO V0.P 118 = some 0 ∧
  szC V0.P 118 = 0 ∧
  isIface V0.P 118 = false ∧
  aggK V0.P 119 = some none ∧
  sizeT V0.P 119 = 1 ∧
  sizeO V0.P 119 = some 1 ∧
  szC V0.P 119 = 1 ∧
  isIface V0.P 119 = false ∧
  aggK V0.P 121 = some (some 1) ∧
  sizeT V0.P 121 = 1 ∧
  sizeO V0.P 121 = some 1 ∧
  szC V0.P 121 = 1 ∧
  isIface V0.P 121 = false ∧
  aggK V0.P 123 = some (some 2) ∧
  sizeT V0.P 123 = 2 ∧
  sizeO V0.P 123 = some 2 ∧
  szC V0.P 123 = 2 ∧
  isIface V0.P 123 = false ∧
  aggK V0.P 125 = some (some 2) ∧
  sizeT V0.P 125 = 2 ∧
  sizeO V0.P 125 = some 2 ∧
  szC V0.P 125 = 2 ∧
  isIface V0.P 125 = false ∧
  aggK V0.P 127 = some (some 3) ∧
  sizeT V0.P 127 = 3 ∧
  sizeO V0.P 127 = some 3 ∧
  szC V0.P 127 = 3 ∧
  isIface V0.P 127 = false ∧
  aggK V0.P 129 = some none ∧
  sizeT V0.P 129 = 1 ∧
  sizeO V0.P 129 = some 1 ∧
  szC V0.P 129 = 1 ∧
  isIface V0.P 129 = true ∧
  aggK V0.P 131 = some (some 5) ∧
  sizeT V0.P 131 = 5 ∧
  sizeO V0.P 131 = some 5 ∧
  szC V0.P 131 = 5 ∧
  isIface V0.P 131 = false ∧
  aggK V0.P 133 = some none ∧
  sizeT V0.P 133 = 1 ∧
  sizeO V0.P 133 = some 1 ∧
  szC V0.P 133 = 1 ∧
  ptT V0.P 133 = some 5 ∧
  isIface V0.P 133 = false ∧
  aggK V0.P 178 = some none ∧
  sizeT V0.P 178 = 1 ∧
  sizeO V0.P 178 = some 1 ∧
  szC V0.P 178 = 1 ∧
  isIface V0.P 178 = false ∧
  aggK V0.P 180 = some none ∧
  sizeT V0.P 180 = 1 ∧
  sizeO V0.P 180 = some 1 ∧
  szC V0.P 180 = 1 ∧
  isIface V0.P 180 = false ∧
  aggK V0.P 182 = some (some 256) ∧
  sizeT V0.P 182 = 256 ∧
  sizeO V0.P 182 = some 256 ∧
  szC V0.P 182 = 256 ∧
  isIface V0.P 182 = false ∧
  elemT V0.P 182 = none ∧
  arrT V0.P 182 = some (256, 1) ∧
  aggK V0.P 183 = some (some 256) ∧
  sizeT V0.P 183 = 256 ∧
  sizeO V0.P 183 = some 256 ∧
  szC V0.P 183 = 256 ∧
  isIface V0.P 183 = false ∧
  elemT V0.P 183 = none ∧
  arrT V0.P 183 = some (256, 1) ∧
  aggK V0.P 184 = some none ∧
  sizeT V0.P 184 = 1 ∧
  sizeO V0.P 184 = some 1 ∧
  szC V0.P 184 = 1 ∧
  isIface V0.P 184 = false ∧
  aggK V0.P 185 = some (some 256) ∧
  sizeT V0.P 185 = 256 ∧
  sizeO V0.P 185 = some 256 ∧
  szC V0.P 185 = 256 ∧
  isIface V0.P 185 = false ∧
  elemT V0.P 185 = none ∧
  arrT V0.P 185 = some (256, 1) ∧
  aggK V0.P 187 = some (some 257) ∧
  sizeT V0.P 187 = 257 ∧
  sizeO V0.P 187 = some 257 ∧
  szC V0.P 187 = 257 ∧
  isIface V0.P 187 = false ∧
  aggK V0.P 188 = some none ∧
  sizeT V0.P 188 = 1 ∧
  sizeO V0.P 188 = some 1 ∧
  szC V0.P 188 = 1 ∧
  isIface V0.P 188 = false ∧
  aggK V0.P 198 = some none ∧
  sizeT V0.P 198 = 1 ∧
  sizeO V0.P 198 = some 1 ∧
  szC V0.P 198 = 1 ∧
  isIface V0.P 198 = false ∧
  aggK V0.P 201 = some (some 2) ∧
  sizeT V0.P 201 = 2 ∧
  sizeO V0.P 201 = some 2 ∧
  szC V0.P 201 = 2 ∧
  isIface V0.P 201 = false ∧
  aggK V0.P 202 = some none ∧
  sizeT V0.P 202 = 1 ∧
  sizeO V0.P 202 = some 1 ∧
  szC V0.P 202 = 1 ∧
  isIface V0.P 202 = false ∧
  aggK V0.P 203 = some none ∧
  sizeT V0.P 203 = 1 ∧
  sizeO V0.P 203 = some 1 ∧
  szC V0.P 203 = 1 ∧
  isIface V0.P 203 = false ∧
  elemT V0.P 203 = some 202 ∧
  aggK V0.P 205 = some (some 5) ∧
  sizeT V0.P 205 = 5 ∧
  sizeO V0.P 205 = some 5 ∧
  szC V0.P 205 = 5 ∧
  isIface V0.P 205 = false ∧
  aggK V0.P 207 = some (some 262) ∧
  sizeT V0.P 207 = 262 ∧
  sizeO V0.P 207 = some 262 ∧
  szC V0.P 207 = 262 ∧
  isIface V0.P 207 = false ∧
  aggK V0.P 224 = some (some 256) ∧
  sizeT V0.P 224 = 256 ∧
  sizeO V0.P 224 = some 256 ∧
  szC V0.P 224 = 256 ∧
  isIface V0.P 224 = false ∧
  elemT V0.P 224 = none ∧
  arrT V0.P 224 = some (256, 1) ∧
  aggK V0.P 226 = some (some 258) ∧
  sizeT V0.P 226 = 258 ∧
  sizeO V0.P 226 = some 258 ∧
  szC V0.P 226 = 258 ∧
  isIface V0.P 226 = false :=
  ⟨by kernel_rfl, by kernel_rfl, by kernel_rfl, by kernel_rfl, by kernel_rfl, by kernel_rfl, by kernel_rfl, by kernel_rfl, by kernel_rfl, by kernel_rfl, by kernel_rfl, by kernel_rfl, by kernel_rfl, by kernel_rfl, by kernel_rfl, by kernel_rfl, by kernel_rfl, by kernel_rfl, by kernel_rfl, by kernel_rfl, by kernel_rfl, by kernel_rfl, by kernel_rfl, by kernel_rfl, by kernel_rfl, by kernel_rfl, by kernel_rfl, by kernel_rfl, by kernel_rfl, by kernel_rfl, by kernel_rfl, by kernel_rfl, by kernel_rfl, by kernel_rfl, by kernel_rfl, by kernel_rfl, by kernel_rfl, by kernel_rfl, by kernel_rfl, by kernel_rfl, by kernel_rfl, by kernel_rfl, by kernel_rfl, by kernel_rfl, by kernel_rfl, by kernel_rfl, by kernel_rfl, by kernel_rfl, by kernel_rfl, by kernel_rfl, by kernel_rfl, by kernel_rfl, by kernel_rfl, by kernel_rfl, by kernel_rfl, by kernel_rfl, by kernel_rfl, by kernel_rfl, by kernel_rfl, by kernel_rfl, by kernel_rfl, by kernel_rfl, by kernel_rfl, by kernel_rfl, by kernel_rfl, by kernel_rfl, by kernel_rfl, by kernel_rfl, by kernel_rfl, by kernel_rfl, by kernel_rfl, by kernel_rfl, by kernel_rfl, by kernel_rfl, by kernel_rfl, by kernel_rfl, by kernel_rfl, by kernel_rfl, by kernel_rfl, by kernel_rfl, by kernel_rfl, by kernel_rfl, by kernel_rfl, by kernel_rfl, by kernel_rfl, by kernel_rfl, by kernel_rfl, by kernel_rfl, by kernel_rfl, by kernel_rfl, by kernel_rfl, by kernel_rfl, by kernel_rfl, by kernel_rfl, by kernel_rfl, by kernel_rfl, by kernel_rfl, by kernel_rfl, by kernel_rfl, by kernel_rfl, by kernel_rfl, by kernel_rfl, by kernel_rfl, by kernel_rfl, by kernel_rfl, by kernel_rfl, by kernel_rfl, by kernel_rfl, by kernel_rfl, by kernel_rfl, by kernel_rfl, by kernel_rfl, by kernel_rfl, by kernel_rfl, by kernel_rfl, by kernel_rfl, by kernel_rfl, by kernel_rfl, by kernel_rfl, by kernel_rfl, by kernel_rfl, by kernel_rfl, by kernel_rfl, by kernel_rfl, by kernel_rfl, by kernel_rfl, by kernel_rfl, by kernel_rfl, by kernel_rfl, by kernel_rfl, by kernel_rfl, by kernel_rfl, by kernel_rfl, by kernel_rfl, by kernel_rfl, by kernel_rfl, by kernel_rfl, by kernel_rfl, by kernel_rfl, by kernel_rfl, by kernel_rfl, by kernel_rfl, by kernel_rfl, by kernel_rfl, by kernel_rfl, by kernel_rfl, by kernel_rfl, by kernel_rfl, by kernel_rfl, by kernel_rfl, by kernel_rfl, by kernel_rfl, by kernel_rfl, by kernel_rfl, by kernel_rfl, by kernel_rfl, by kernel_rfl, by kernel_rfl, by kernel_rfl, by kernel_rfl, by kernel_rfl, by kernel_rfl, by kernel_rfl, by kernel_rfl, by kernel_rfl, by kernel_rfl, by kernel_rfl, by kernel_rfl, by kernel_rfl, by kernel_rfl, by kernel_rfl, by kernel_rfl, by kernel_rfl, by kernel_rfl, by kernel_rfl, by kernel_rfl, by kernel_rfl, by kernel_rfl, by kernel_rfl, by kernel_rfl, by kernel_rfl, by kernel_rfl, by kernel_rfl, by kernel_rfl, by kernel_rfl, by kernel_rfl, by kernel_rfl, by kernel_rfl, by kernel_rfl, by kernel_rfl, by kernel_rfl, by kernel_rfl, by kernel_rfl, by kernel_rfl, by kernel_rfl, by kernel_rfl, by kernel_rfl, by kernel_rfl, by kernel_rfl, by kernel_rfl, by kernel_rfl, by kernel_rfl, by kernel_rfl, by kernel_rfl, by kernel_rfl, by kernel_rfl, by kernel_rfl, by kernel_rfl, by kernel_rfl, by kernel_rfl, by kernel_rfl, by kernel_rfl, by kernel_rfl, by kernel_rfl, by kernel_rfl, by kernel_rfl, by kernel_rfl, by kernel_rfl, by kernel_rfl, by kernel_rfl, by kernel_rfl, by kernel_rfl, by kernel_rfl, by kernel_rfl, by kernel_rfl, by kernel_rfl, by kernel_rfl, by kernel_rfl, by kernel_rfl, by kernel_rfl, by kernel_rfl, by kernel_rfl, by kernel_rfl, by kernel_rfl, by kernel_rfl, by kernel_rfl, by kernel_rfl, by kernel_rfl, by kernel_rfl, by kernel_rfl, by kernel_rfl, by kernel_rfl, by kernel_rfl, by kernel_rfl, by kernel_rfl, by kernel_rfl, by kernel_rfl, by kernel_rfl, by kernel_rfl, by kernel_rfl, by kernel_rfl, by kernel_rfl, by kernel_rfl, by kernel_rfl, by kernel_rfl, by kernel_rfl, by kernel_rfl, by kernel_rfl, by kernel_rfl, by kernel_rfl, by kernel_rfl, by kernel_rfl, by kernel_rfl, by kernel_rfl, by kernel_rfl, by kernel_rfl, by kernel_rfl, by kernel_rfl, by kernel_rfl, by kernel_rfl, by kernel_rfl, by kernel_rfl, by kernel_rfl, by kernel_rfl, by kernel_rfl, by kernel_rfl, by kernel_rfl, by kernel_rfl, by kernel_rfl, by kernel_rfl, by kernel_rfl, by kernel_rfl, by kernel_rfl, by kernel_rfl, by kernel_rfl, by kernel_rfl, by kernel_rfl, by kernel_rfl, by kernel_rfl, by kernel_rfl, by kernel_rfl, by kernel_rfl, by kernel_rfl, by kernel_rfl, by kernel_rfl, by kernel_rfl, by kernel_rfl, by kernel_rfl, by kernel_rfl⟩
theorem YF : fieldOf V0.P 25 0 = some (0, 9) ∧
  fieldOf V0.P 25 1 = some (1, 3) ∧
  fieldOf V0.P 25 2 = some (2, 22) ∧
  fieldOf V0.P 25 3 = some (3, 23) ∧
  fieldOf V0.P 25 4 = some (4, 9) ∧
  fieldOf V0.P 31 0 = some (0, 9) ∧
  fieldOf V0.P 31 1 = some (1, 3) ∧
  fieldOf V0.P 31 2 = some (2, 28) ∧
  fieldOf V0.P 31 3 = some (3, 29) ∧
  fieldOf V0.P 31 4 = some (4, 9) ∧
  fieldOf V0.P 52 0 = some (0, 9) ∧
  fieldOf V0.P 52 1 = some (1, 9) ∧
  fieldOf V0.P 52 2 = some (2, 3) ∧
  fieldOf V0.P 54 0 = some (0, 9) ∧
  fieldOf V0.P 54 1 = some (1, 3) ∧
  fieldOf V0.P 74 0 = some (0, 9) ∧
  fieldOf V0.P 74 1 = some (1, 9) ∧
  fieldOf V0.P 74 2 = some (2, 3) ∧
  fieldOf V0.P 76 0 = some (0, 9) ∧
  fieldOf V0.P 76 1 = some (1, 3) ∧
  fieldOf V0.P 84 0 = some (0, 82) ∧
  fieldOf V0.P 84 1 = some (1, 39) ∧
  fieldOf V0.P 102 0 = some (0, 39) ∧
  fieldOf V0.P 102 1 = some (1, 3) ∧
  fieldOf V0.P 107 0 = some (0, 9) ∧
  fieldOf V0.P 107 1 = some (1, 3) ∧
  fieldOf V0.P 107 2 = some (2, 3) ∧
  fieldOf V0.P 107 3 = some (3, 9) ∧
  fieldOf V0.P 107 4 = some (4, 9) ∧
  fieldOf V0.P 107 5 = some (5, 9) ∧
  fieldOf V0.P 107 6 = some (6, 9) ∧
  fieldOf V0.P 107 7 = some (7, 9) ∧
  fieldOf V0.P 107 8 = some (8, 3) ∧
  fieldOf V0.P 112 0 = some (0, 3) ∧
  fieldOf V0.P 112 1 = some (1, 9) ∧
  fieldOf V0.P 112 2 = some (2, 9) ∧
  fieldOf V0.P 112 3 = some (3, 9) ∧
  fieldOf V0.P 112 4 = some (4, 9) ∧
  fieldOf V0.P 112 5 = some (5, 9) ∧
  fieldOf V0.P 112 6 = some (6, 9) ∧
  fieldOf V0.P 112 7 = some (7, 3) ∧
  fieldOf V0.P 112 8 = some (8, 3) ∧
  fieldOf V0.P 112 9 = some (9, 3) ∧
  fieldOf V0.P 121 0 = some (0, 118) ∧
  fieldOf V0.P 121 1 = some (0, 119) ∧
  fieldOf V0.P 123 0 = some (0, 21) ∧
  fieldOf V0.P 123 1 = some (1, 119) ∧
  fieldOf V0.P 125 0 = some (0, 117) ∧
  fieldOf V0.P 125 1 = some (0, 123) ∧
  fieldOf V0.P 127 0 = some (0, 117) ∧
  fieldOf V0.P 127 1 = some (0, 121) ∧
  fieldOf V0.P 127 2 = some (1, 125) ∧
  fieldOf V0.P 131 0 = some (0, 127) ∧
  fieldOf V0.P 131 1 = some (3, 129) ∧
  fieldOf V0.P 131 2 = some (4, 50) ∧
  fieldOf V0.P 187 0 = some (0, 185) ∧
  fieldOf V0.P 187 1 = some (256, 50) ∧
  fieldOf V0.P 201 0 = some (0, 198) ∧
  fieldOf V0.P 201 1 = some (1, 9) ∧
  fieldOf V0.P 205 0 = some (0, 9) ∧
  fieldOf V0.P 205 1 = some (1, 3) ∧
  fieldOf V0.P 205 2 = some (2, 9) ∧
  fieldOf V0.P 205 3 = some (3, 202) ∧
  fieldOf V0.P 205 4 = some (4, 203) ∧
  fieldOf V0.P 207 0 = some (0, 205) ∧
  fieldOf V0.P 207 1 = some (5, 3) ∧
  fieldOf V0.P 207 2 = some (6, 182) ∧
  fieldOf V0.P 226 0 = some (0, 9) ∧
  fieldOf V0.P 226 1 = some (1, 224) ∧
  fieldOf V0.P 226 2 = some (257, 99) :=
  ⟨by kernel_rfl, by kernel_rfl, by kernel_rfl, by kernel_rfl, by kernel_rfl, by kernel_rfl, by kernel_rfl, by kernel_rfl, by kernel_rfl, by kernel_rfl, by kernel_rfl, by kernel_rfl, by kernel_rfl, by kernel_rfl, by kernel_rfl, by kernel_rfl, by kernel_rfl, by kernel_rfl, by kernel_rfl, by kernel_rfl, by kernel_rfl, by kernel_rfl, by kernel_rfl, by kernel_rfl, by kernel_rfl, by kernel_rfl, by kernel_rfl, by kernel_rfl, by kernel_rfl, by kernel_rfl, by kernel_rfl, by kernel_rfl, by kernel_rfl, by kernel_rfl, by kernel_rfl, by kernel_rfl, by kernel_rfl, by kernel_rfl, by kernel_rfl, by kernel_rfl, by kernel_rfl, by kernel_rfl, by kernel_rfl, by kernel_rfl, by kernel_rfl, by kernel_rfl, by kernel_rfl, by kernel_rfl, by kernel_rfl, by kernel_rfl, by kernel_rfl, by kernel_rfl, by kernel_rfl, by kernel_rfl, by kernel_rfl, by kernel_rfl, by kernel_rfl, by kernel_rfl, by kernel_rfl, by kernel_rfl, by kernel_rfl, by kernel_rfl, by kernel_rfl, by kernel_rfl, by kernel_rfl, by kernel_rfl, by kernel_rfl, by kernel_rfl, by kernel_rfl, by kernel_rfl⟩
theorem YD : dflt V0.P 0 = .tuple #[] ∧
  dflt1 V0.P 3 = .int .i64 0 ∧
  dflt V0.P 3 = .int .i64 0 ∧
  dflt1 V0.P 4 = .bool false ∧
  dflt V0.P 4 = .bool false ∧
  dflt1 V0.P 5 = .int .u8 0 ∧
  dflt V0.P 5 = .int .u8 0 ∧
  dflt1 V0.P 9 = .string ⟨#[]⟩ ∧
  dflt V0.P 9 = .string ⟨#[]⟩ ∧
  dflt1 V0.P 20 = undef ∧
  dflt V0.P 20 = undef ∧
  dflt1 V0.P 21 = .int .i32 0 ∧
  dflt V0.P 21 = .int .i32 0 ∧
  dflt1 V0.P 22 = undef ∧
  dflt V0.P 22 = undef ∧
  dflt1 V0.P 23 = undef ∧
  dflt V0.P 23 = undef ∧
  dflt1 V0.P 25 = undef ∧
  dflt V0.P 25 = undef ∧
  dflt1 V0.P 28 = undef ∧
  dflt V0.P 28 = undef ∧
  dflt1 V0.P 29 = undef ∧
  dflt V0.P 29 = undef ∧
  dflt1 V0.P 31 = undef ∧
  dflt V0.P 31 = undef ∧
  dflt V0.P 35 = .tuple #[undef, .bool false] ∧
  dflt1 V0.P 38 = undef ∧
  dflt V0.P 38 = undef ∧
  dflt1 V0.P 39 = undef ∧
  dflt V0.P 39 = undef ∧
  dflt1 V0.P 50 = undef ∧
  dflt V0.P 50 = undef ∧
  dflt1 V0.P 52 = undef ∧
  dflt V0.P 52 = undef ∧
  dflt1 V0.P 54 = undef ∧
  dflt V0.P 54 = undef ∧
  dflt1 V0.P 65 = undef ∧
  dflt V0.P 65 = undef ∧
  dflt1 V0.P 71 = undef ∧
  dflt V0.P 71 = undef ∧
  dflt1 V0.P 74 = undef ∧
  dflt V0.P 74 = undef ∧
  dflt1 V0.P 76 = undef ∧
  dflt V0.P 76 = undef ∧
  dflt1 V0.P 80 = undef ∧
  dflt V0.P 80 = undef ∧
  dflt1 V0.P 82 = undef ∧
  dflt V0.P 82 = undef ∧
  dflt1 V0.P 84 = undef ∧
  dflt V0.P 84 = undef ∧
  dflt1 V0.P 87 = undef ∧
  dflt V0.P 87 = undef ∧
  dflt1 V0.P 99 = undef ∧
  dflt V0.P 99 = undef ∧
  dflt1 V0.P 102 = undef ∧
  dflt V0.P 102 = undef ∧
  dflt1 V0.P 105 = undef ∧
  dflt V0.P 105 = undef ∧
  dflt1 V0.P 107 = undef ∧
  dflt V0.P 107 = undef ∧
  dflt V0.P 109 = .tuple #[undef, .int .i64 0] ∧
  dflt1 V0.P 112 = undef ∧
  dflt V0.P 112 = undef ∧
  dflt1 V0.P 117 = undef ∧
  dflt V0.P 117 = undef ∧
  dflt1 V0.P 118 = undef ∧
  dflt V0.P 118 = undef ∧
  dflt1 V0.P 119 = .int .u32 0 ∧
  dflt V0.P 119 = .int .u32 0 ∧
  dflt1 V0.P 121 = undef ∧
  dflt V0.P 121 = undef ∧
  dflt1 V0.P 123 = undef ∧
  dflt V0.P 123 = undef ∧
  dflt1 V0.P 125 = undef ∧
  dflt V0.P 125 = undef ∧
  dflt1 V0.P 127 = undef ∧
  dflt V0.P 127 = undef ∧
  dflt1 V0.P 129 = undef ∧
  dflt V0.P 129 = undef ∧
  dflt1 V0.P 131 = undef ∧
  dflt V0.P 131 = undef ∧
  dflt1 V0.P 133 = undef ∧
  dflt V0.P 133 = undef ∧
  dflt V0.P 135 = .tuple #[.string ⟨#[]⟩, .bool false] ∧
  dflt V0.P 141 = .tuple #[.int .i64 0, .int .i64 0] ∧
  dflt V0.P 161 = .tuple #[.int .i32 0, .int .i64 0] ∧
  dflt1 V0.P 178 = undef ∧
  dflt V0.P 178 = undef ∧
  dflt1 V0.P 180 = undef ∧
  dflt V0.P 180 = undef ∧
  dflt1 V0.P 182 = undef ∧
  dflt V0.P 182 = undef ∧
  dflt1 V0.P 183 = undef ∧
  dflt V0.P 183 = undef ∧
  dflt1 V0.P 184 = undef ∧
  dflt V0.P 184 = undef ∧
  dflt1 V0.P 185 = undef ∧
  dflt V0.P 185 = undef ∧
  dflt1 V0.P 187 = undef ∧
  dflt V0.P 187 = undef ∧
  dflt1 V0.P 188 = undef ∧
  dflt V0.P 188 = undef ∧
  dflt1 V0.P 198 = undef ∧
  dflt V0.P 198 = undef ∧
  dflt1 V0.P 201 = undef ∧
  dflt V0.P 201 = undef ∧
  dflt1 V0.P 202 = undef ∧
  dflt V0.P 202 = undef ∧
  dflt1 V0.P 203 = undef ∧
  dflt V0.P 203 = undef ∧
  dflt1 V0.P 205 = undef ∧
  dflt V0.P 205 = undef ∧
  dflt1 V0.P 207 = undef ∧
  dflt V0.P 207 = undef ∧
  dflt1 V0.P 224 = undef ∧
  dflt V0.P 224 = undef ∧
  dflt1 V0.P 226 = undef ∧
  dflt V0.P 226 = undef :=
  ⟨by kernel_rfl, by kernel_rfl, by kernel_rfl, by kernel_rfl, by kernel_rfl, by kernel_rfl, by kernel_rfl, by kernel_rfl, by kernel_rfl, by kernel_rfl, by kernel_rfl, by kernel_rfl, by kernel_rfl, by kernel_rfl, by kernel_rfl, by kernel_rfl, by kernel_rfl, by kernel_rfl, by kernel_rfl, by kernel_rfl, by kernel_rfl, by kernel_rfl, by kernel_rfl, by kernel_rfl, by kernel_rfl, by kernel_rfl, by kernel_rfl, by kernel_rfl, by kernel_rfl, by kernel_rfl, by kernel_rfl, by kernel_rfl, by kernel_rfl, by kernel_rfl, by kernel_rfl, by kernel_rfl, by kernel_rfl, by kernel_rfl, by kernel_rfl, by kernel_rfl, by kernel_rfl, by kernel_rfl, by kernel_rfl, by kernel_rfl, by kernel_rfl, by kernel_rfl, by kernel_rfl, by kernel_rfl, by kernel_rfl, by kernel_rfl, by kernel_rfl, by kernel_rfl, by kernel_rfl, by kernel_rfl, by kernel_rfl, by kernel_rfl, by kernel_rfl, by kernel_rfl, by kernel_rfl, by kernel_rfl, by kernel_rfl, by kernel_rfl, by kernel_rfl, by kernel_rfl, by kernel_rfl, by kernel_rfl, by kernel_rfl, by kernel_rfl, by kernel_rfl, by kernel_rfl, by kernel_rfl, by kernel_rfl, by kernel_rfl, by kernel_rfl, by kernel_rfl, by kernel_rfl, by kernel_rfl, by kernel_rfl, by kernel_rfl, by kernel_rfl, by kernel_rfl, by kernel_rfl, by kernel_rfl, by kernel_rfl, by kernel_rfl, by kernel_rfl, by kernel_rfl, by kernel_rfl, by kernel_rfl, by kernel_rfl, by kernel_rfl, by kernel_rfl, by kernel_rfl, by kernel_rfl, by kernel_rfl, by kernel_rfl, by kernel_rfl, by kernel_rfl, by kernel_rfl, by kernel_rfl, by kernel_rfl, by kernel_rfl, by kernel_rfl, by kernel_rfl, by kernel_rfl, by kernel_rfl, by kernel_rfl, by kernel_rfl, by kernel_rfl, by kernel_rfl, by kernel_rfl, by kernel_rfl, by kernel_rfl, by kernel_rfl, by kernel_rfl, by kernel_rfl, by kernel_rfl, by kernel_rfl⟩
theorem YW : alT V0.P 3 = some (1, [.int .i64 0]) ∧
  zeroOf V0.P 3 = some (.int .i64 0) ∧
  alT V0.P 4 = some (1, [.bool false]) ∧
  zeroOf V0.P 4 = some (.bool false) ∧
  alT V0.P 5 = some (1, [.int .u8 0]) ∧
  zeroOf V0.P 5 = some (.int .u8 0) ∧
  alT V0.P 9 = some (1, [.string ⟨#[]⟩]) ∧
  zeroOf V0.P 9 = some (.string ⟨#[]⟩) ∧
  alT V0.P 20 = some (1, [.nilIface]) ∧
  zeroOf V0.P 20 = some (.nilIface) ∧
  alT V0.P 21 = some (1, [.int .i32 0]) ∧
  zeroOf V0.P 21 = some (.int .i32 0) ∧
  alT V0.P 22 = some (1, [.slice none 0 0]) ∧
  zeroOf V0.P 22 = some (.slice none 0 0) ∧
  bsT V0.P 22 = some (3, 3, [.string ⟨#[]⟩, .string ⟨#[]⟩, .int .i64 0]) ∧
  msT V0.P 22 = some (40, 3, [.string ⟨#[]⟩, .string ⟨#[]⟩, .int .i64 0]) ∧
  alT V0.P 23 = some (1, [.slice none 0 0]) ∧
  zeroOf V0.P 23 = some (.slice none 0 0) ∧
  bsT V0.P 23 = some (2, 2, [.string ⟨#[]⟩, .int .i64 0]) ∧
  msT V0.P 23 = some (24, 2, [.string ⟨#[]⟩, .int .i64 0]) ∧
  alT V0.P 25 = some (5, [.string ⟨#[]⟩, .int .i64 0, .slice none 0 0, .slice none 0 0, .string ⟨#[]⟩]) ∧
  buT V0.P 25 = some ([.string ⟨#[]⟩, .int .i64 0, .slice none 0 0, .slice none 0 0, .string ⟨#[]⟩], [(0, 1), (1, 1), (2, 1), (3, 1), (4, 1)]) ∧
  zeroOf V0.P 25 = some (.agg #[.string ⟨#[]⟩, .int .i64 0, .slice none 0 0, .slice none 0 0, .string ⟨#[]⟩]) ∧
  alT V0.P 28 = some (1, [.slice none 0 0]) ∧
  zeroOf V0.P 28 = some (.slice none 0 0) ∧
  bsT V0.P 28 = some (3, 3, [.string ⟨#[]⟩, .string ⟨#[]⟩, .int .i64 0]) ∧
  msT V0.P 28 = some (40, 3, [.string ⟨#[]⟩, .string ⟨#[]⟩, .int .i64 0]) ∧
  alT V0.P 29 = some (1, [.slice none 0 0]) ∧
  zeroOf V0.P 29 = some (.slice none 0 0) ∧
  bsT V0.P 29 = some (2, 2, [.string ⟨#[]⟩, .int .i64 0]) ∧
  msT V0.P 29 = some (24, 2, [.string ⟨#[]⟩, .int .i64 0]) ∧
  alT V0.P 31 = some (5, [.string ⟨#[]⟩, .int .i64 0, .slice none 0 0, .slice none 0 0, .string ⟨#[]⟩]) ∧
  buT V0.P 31 = some ([.string ⟨#[]⟩, .int .i64 0, .slice none 0 0, .slice none 0 0, .string ⟨#[]⟩], [(0, 1), (1, 1), (2, 1), (3, 1), (4, 1)]) ∧
  zeroOf V0.P 31 = some (.agg #[.string ⟨#[]⟩, .int .i64 0, .slice none 0 0, .slice none 0 0, .string ⟨#[]⟩]) ∧
  alT V0.P 38 = some (1, [.nilFunc]) ∧
  zeroOf V0.P 38 = some (.nilFunc) ∧
  alT V0.P 39 = some (1, [.slice none 0 0]) ∧
  zeroOf V0.P 39 = some (.slice none 0 0) ∧
  bsT V0.P 39 = some (1, 25769803777, [.int .u8 0]) ∧
  msT V0.P 39 = some (1, 25769803777, [.int .u8 0]) ∧
  alT V0.P 50 = some (1, [.slice none 0 0]) ∧
  zeroOf V0.P 50 = some (.slice none 0 0) ∧
  bsT V0.P 50 = some (1, 1, [.string ⟨#[]⟩]) ∧
  msT V0.P 50 = some (16, 1, [.string ⟨#[]⟩]) ∧
  alT V0.P 52 = some (3, [.string ⟨#[]⟩, .string ⟨#[]⟩, .int .i64 0]) ∧
  buT V0.P 52 = some ([.string ⟨#[]⟩, .string ⟨#[]⟩, .int .i64 0], [(0, 1), (1, 1), (2, 1)]) ∧
  zeroOf V0.P 52 = some (.agg #[.string ⟨#[]⟩, .string ⟨#[]⟩, .int .i64 0]) ∧
  alT V0.P 54 = some (2, [.string ⟨#[]⟩, .int .i64 0]) ∧
  buT V0.P 54 = some ([.string ⟨#[]⟩, .int .i64 0], [(0, 1), (1, 1)]) ∧
  zeroOf V0.P 54 = some (.agg #[.string ⟨#[]⟩, .int .i64 0]) ∧
  alT V0.P 65 = some (1, [.pointer none]) ∧
  zeroOf V0.P 65 = some (.pointer none) ∧
  alT V0.P 71 = some (1, [.slice none 0 0]) ∧
  zeroOf V0.P 71 = some (.slice none 0 0) ∧
  bsT V0.P 71 = some (9, 9, [.string ⟨#[]⟩, .int .i64 0, .int .i64 0, .string ⟨#[]⟩, .string ⟨#[]⟩, .string ⟨#[]⟩, .string ⟨#[]⟩, .string ⟨#[]⟩, .int .i64 0]) ∧
  msT V0.P 71 = some (120, 9, [.string ⟨#[]⟩, .int .i64 0, .int .i64 0, .string ⟨#[]⟩, .string ⟨#[]⟩, .string ⟨#[]⟩, .string ⟨#[]⟩, .string ⟨#[]⟩, .int .i64 0]) ∧
  alT V0.P 74 = some (3, [.string ⟨#[]⟩, .string ⟨#[]⟩, .int .i64 0]) ∧
  buT V0.P 74 = some ([.string ⟨#[]⟩, .string ⟨#[]⟩, .int .i64 0], [(0, 1), (1, 1), (2, 1)]) ∧
  zeroOf V0.P 74 = some (.agg #[.string ⟨#[]⟩, .string ⟨#[]⟩, .int .i64 0]) ∧
  alT V0.P 76 = some (2, [.string ⟨#[]⟩, .int .i64 0]) ∧
  buT V0.P 76 = some ([.string ⟨#[]⟩, .int .i64 0], [(0, 1), (1, 1)]) ∧
  zeroOf V0.P 76 = some (.agg #[.string ⟨#[]⟩, .int .i64 0]) ∧
  alT V0.P 80 = some (1, [.pointer none]) ∧
  zeroOf V0.P 80 = some (.pointer none) ∧
  alT V0.P 82 = some (1, [.pointer none]) ∧
  zeroOf V0.P 82 = some (.pointer none) ∧
  alT V0.P 84 = some (365072220160, [.pointer none, .slice none 0 0]) ∧
  buT V0.P 84 = some ([.pointer none, .slice none 0 0], [(0, 1), (1, 1)]) ∧
  zeroOf V0.P 84 = some (.agg #[.pointer none, .slice none 0 0]) ∧
  alT V0.P 87 = some (1, [.nilIface]) ∧
  zeroOf V0.P 87 = some (.nilIface) ∧
  alT V0.P 99 = some (1, [.slice none 0 0]) ∧
  zeroOf V0.P 99 = some (.slice none 0 0) ∧
  bsT V0.P 99 = some (1, 1, [.int .i64 0]) ∧
  msT V0.P 99 = some (8, 1, [.int .i64 0]) ∧
  alT V0.P 102 = some (2, [.slice none 0 0, .int .i64 0]) ∧
  buT V0.P 102 = some ([.slice none 0 0, .int .i64 0], [(0, 1), (1, 1)]) ∧
  zeroOf V0.P 102 = some (.agg #[.slice none 0 0, .int .i64 0]) ∧
  alT V0.P 105 = some (1, [.nilFunc]) ∧
  zeroOf V0.P 105 = some (.nilFunc) ∧
  alT V0.P 107 = some (9, [.string ⟨#[]⟩, .int .i64 0, .int .i64 0, .string ⟨#[]⟩, .string ⟨#[]⟩, .string ⟨#[]⟩, .string ⟨#[]⟩, .string ⟨#[]⟩, .int .i64 0]) ∧
  buT V0.P 107 = some ([.string ⟨#[]⟩, .int .i64 0, .int .i64 0, .string ⟨#[]⟩, .string ⟨#[]⟩, .string ⟨#[]⟩, .string ⟨#[]⟩, .string ⟨#[]⟩, .int .i64 0], [(0, 1), (1, 1), (2, 1), (3, 1), (4, 1), (5, 1), (6, 1), (7, 1), (8, 1)]) ∧
  zeroOf V0.P 107 = some (.agg #[.string ⟨#[]⟩, .int .i64 0, .int .i64 0, .string ⟨#[]⟩, .string ⟨#[]⟩, .string ⟨#[]⟩, .string ⟨#[]⟩, .string ⟨#[]⟩, .int .i64 0]) ∧
  alT V0.P 112 = some (10, [.int .i64 0, .string ⟨#[]⟩, .string ⟨#[]⟩, .string ⟨#[]⟩, .string ⟨#[]⟩, .string ⟨#[]⟩, .string ⟨#[]⟩, .int .i64 0, .int .i64 0, .int .i64 0]) ∧
  buT V0.P 112 = some ([.int .i64 0, .string ⟨#[]⟩, .string ⟨#[]⟩, .string ⟨#[]⟩, .string ⟨#[]⟩, .string ⟨#[]⟩, .string ⟨#[]⟩, .int .i64 0, .int .i64 0, .int .i64 0], [(0, 1), (1, 1), (2, 1), (3, 1), (4, 1), (5, 1), (6, 1), (7, 1), (8, 1), (9, 1)]) ∧
  zeroOf V0.P 112 = some (.agg #[.int .i64 0, .string ⟨#[]⟩, .string ⟨#[]⟩, .string ⟨#[]⟩, .string ⟨#[]⟩, .string ⟨#[]⟩, .string ⟨#[]⟩, .int .i64 0, .int .i64 0, .int .i64 0]) ∧
  alT V0.P 117 = some (0, []) ∧
  buT V0.P 117 = some ([], []) ∧
  zeroOf V0.P 117 = some (.agg #[]) ∧
  alT V0.P 118 = some (0, []) ∧
  buT V0.P 118 = some ([], []) ∧
  zeroOf V0.P 118 = some (.agg #[]) ∧
  alT V0.P 119 = some (1, [.int .u32 0]) ∧
  zeroOf V0.P 119 = some (.int .u32 0) ∧
  alT V0.P 121 = some (1, [.int .u32 0]) ∧
  buT V0.P 121 = some ([.int .u32 0], [(0, 0), (0, 1)]) ∧
  zeroOf V0.P 121 = some (.agg #[.int .u32 0]) ∧
  alT V0.P 123 = some (2, [.int .i32 0, .int .u32 0]) ∧
  buT V0.P 123 = some ([.int .i32 0, .int .u32 0], [(0, 1), (1, 1)]) ∧
  zeroOf V0.P 123 = some (.agg #[.int .i32 0, .int .u32 0]) ∧
  alT V0.P 125 = some (2, [.int .i32 0, .int .u32 0]) ∧
  buT V0.P 125 = some ([.int .i32 0, .int .u32 0], [(0, 0), (0, 2)]) ∧
  zeroOf V0.P 125 = some (.agg #[.int .i32 0, .int .u32 0]) ∧
  alT V0.P 127 = some (3, [.int .u32 0, .int .i32 0, .int .u32 0]) ∧
  buT V0.P 127 = some ([.int .u32 0, .int .i32 0, .int .u32 0], [(0, 0), (0, 1), (1, 2)]) ∧
  zeroOf V0.P 127 = some (.agg #[.int .u32 0, .int .i32 0, .int .u32 0]) ∧
  alT V0.P 129 = some (1, [.nilIface]) ∧
  zeroOf V0.P 129 = some (.nilIface) ∧
  alT V0.P 131 = some (5, [.int .u32 0, .int .i32 0, .int .u32 0, .nilIface, .slice none 0 0]) ∧
  buT V0.P 131 = some ([.int .u32 0, .int .i32 0, .int .u32 0, .nilIface, .slice none 0 0], [(0, 3), (3, 1), (4, 1)]) ∧
  zeroOf V0.P 131 = some (.agg #[.int .u32 0, .int .i32 0, .int .u32 0, .nilIface, .slice none 0 0]) ∧
  alT V0.P 133 = some (1, [.pointer none]) ∧
  zeroOf V0.P 133 = some (.pointer none) ∧
  alT V0.P 178 = some (1, [.pointer none]) ∧
  zeroOf V0.P 178 = some (.pointer none) ∧
  alT V0.P 180 = some (1, [.pointer none]) ∧
  zeroOf V0.P 180 = some (.pointer none) ∧
  alT V0.P 184 = some (1, [.pointer none]) ∧
  zeroOf V0.P 184 = some (.pointer none) ∧
  alT V0.P 187 = some (257, List.replicate 257 (.slice none 0 0)) ∧
  buT V0.P 187 = some (List.replicate 257 (.slice none 0 0), [(0, 256), (256, 1)]) ∧
  alT V0.P 188 = some (1, [.pointer none]) ∧
  zeroOf V0.P 188 = some (.pointer none) ∧
  alT V0.P 198 = some (1, [.pointer none]) ∧
  zeroOf V0.P 198 = some (.pointer none) ∧
  alT V0.P 201 = some (2, [.pointer none, .string ⟨#[]⟩]) ∧
  buT V0.P 201 = some ([.pointer none, .string ⟨#[]⟩], [(0, 1), (1, 1)]) ∧
  zeroOf V0.P 201 = some (.agg #[.pointer none, .string ⟨#[]⟩]) ∧
  alT V0.P 202 = some (1, [.pointer none]) ∧
  zeroOf V0.P 202 = some (.pointer none) ∧
  alT V0.P 203 = some (1, [.slice none 0 0]) ∧
  zeroOf V0.P 203 = some (.slice none 0 0) ∧
  bsT V0.P 203 = some (1, 1, [.pointer none]) ∧
  msT V0.P 203 = some (8, 1, [.pointer none]) ∧
  alT V0.P 205 = some (5, [.string ⟨#[]⟩, .int .i64 0, .string ⟨#[]⟩, .pointer none, .slice none 0 0]) ∧
  buT V0.P 205 = some ([.string ⟨#[]⟩, .int .i64 0, .string ⟨#[]⟩, .pointer none, .slice none 0 0], [(0, 1), (1, 1), (2, 1), (3, 1), (4, 1)]) ∧
  zeroOf V0.P 205 = some (.agg #[.string ⟨#[]⟩, .int .i64 0, .string ⟨#[]⟩, .pointer none, .slice none 0 0]) ∧
  apT V0.P 28 28 = some (3, 3, 40) ∧
  apT V0.P 29 29 = some (2, 2, 24) ∧
  apT V0.P 39 39 = some (1, 25769803777, 1) ∧
  apT V0.P 50 50 = some (1, 1, 16) ∧
  apT V0.P 71 71 = some (9, 9, 120) :=
  ⟨by kernel_rfl, by kernel_rfl, by kernel_rfl, by kernel_rfl, by kernel_rfl, by kernel_rfl, by kernel_rfl, by kernel_rfl, by kernel_rfl, by kernel_rfl, by kernel_rfl, by kernel_rfl, by kernel_rfl, by kernel_rfl, by kernel_rfl, by kernel_rfl, by kernel_rfl, by kernel_rfl, by kernel_rfl, by kernel_rfl, by kernel_rfl, by kernel_rfl, by kernel_rfl, by kernel_rfl, by kernel_rfl, by kernel_rfl, by kernel_rfl, by kernel_rfl, by kernel_rfl, by kernel_rfl, by kernel_rfl, by kernel_rfl, by kernel_rfl, by kernel_rfl, by kernel_rfl, by kernel_rfl, by kernel_rfl, by kernel_rfl, by kernel_rfl, by kernel_rfl, by kernel_rfl, by kernel_rfl, by kernel_rfl, by kernel_rfl, by kernel_rfl, by kernel_rfl, by kernel_rfl, by kernel_rfl, by kernel_rfl, by kernel_rfl, by kernel_rfl, by kernel_rfl, by kernel_rfl, by kernel_rfl, by kernel_rfl, by kernel_rfl, by kernel_rfl, by kernel_rfl, by kernel_rfl, by kernel_rfl, by kernel_rfl, by kernel_rfl, by kernel_rfl, by kernel_rfl, by kernel_rfl, by kernel_rfl, by kernel_rfl, by kernel_rfl, by kernel_rfl, by kernel_rfl, by kernel_rfl, by kernel_rfl, by kernel_rfl, by kernel_rfl, by kernel_rfl, by kernel_rfl, by kernel_rfl, by kernel_rfl, by kernel_rfl, by kernel_rfl, by kernel_rfl, by kernel_rfl, by kernel_rfl, by kernel_rfl, by kernel_rfl, by kernel_rfl, by kernel_rfl, by kernel_rfl, by kernel_rfl, by kernel_rfl, by kernel_rfl, by kernel_rfl, by kernel_rfl, by kernel_rfl, by kernel_rfl, by kernel_rfl, by kernel_rfl, by kernel_rfl, by kernel_rfl, by kernel_rfl, by kernel_rfl, by kernel_rfl, by kernel_rfl, by kernel_rfl, by kernel_rfl, by kernel_rfl, by kernel_rfl, by kernel_rfl, by kernel_rfl, by kernel_rfl, by kernel_rfl, by kernel_rfl, by kernel_rfl, by kernel_rfl, by kernel_rfl, by kernel_rfl, by kernel_rfl, by kernel_rfl, by kernel_rfl, by kernel_rfl, by kernel_rfl, by kernel_rfl, by kernel_rfl, by kernel_rfl, by kernel_rfl, by kernel_rfl, by kernel_rfl, by kernel_rfl, by kernel_rfl, by kernel_rfl, by kernel_rfl, by kernel_rfl, by kernel_rfl, by kernel_rfl, by kernel_rfl, by kernel_rfl, by kernel_rfl, by kernel_rfl, by kernel_rfl, by kernel_rfl, by kernel_rfl, by kernel_rfl⟩
noncomputable def yk (k : TK) (v : Value) (K : Value → R) : R := match k with | .int k => asInt k v fun n => K (.int k n) | .bool => asBool v fun b => K (.bool b) | .str => asStr v fun s => K (.string s) | .other => K v
theorem y1 {t : TypeId} {k : TK} {v K} (h : tk V0.P t = k) : ty1 V0.P t v K = yk k v K := by unfold ty1; rw [h]; rfl
noncomputable def noTupD (t : TypeId) : Bool := match V0.P.underlying t with | some (.tuple _) => false | _ => true
theorem y2 {t : TypeId} {k : TK} {v K} (h : tk V0.P t = k) (hn : noTupD t = true) : ty V0.P t v K = yk k v K := by
  unfold ty
  unfold noTupD at hn
  split
  · rename_i e; rw [e] at hn; cases hn
  · exact y1 h
theorem bool_eq {t : TypeId} (ht : V0.P.underlying t = some .bool) (a b : Bool) (act : Option Bool) (K : Value → R) : binK V0.P .eql t (.bool a) (.bool b) act K = K (.bool (a == b)) := by
  have e : eqA V0.P 50 t (.bool a) (.bool b) = some (a == b) := by simp only [eqA, ht]
  simp only [binK, e]; rfl
theorem bool_ne {t : TypeId} (ht : V0.P.underlying t = some .bool) (a b : Bool) (act : Option Bool) (K : Value → R) : binK V0.P .neq t (.bool a) (.bool b) act K = K (.bool (!(a == b))) := by
  have e : eqA V0.P 50 t (.bool a) (.bool b) = some (a == b) := by simp only [eqA, ht]
  simp only [binK, e]; rfl
theorem slc_eq {t e : TypeId} (ht : V0.P.underlying t = some (.slice e)) (a : Addr) (n c m k : Nat) (act : Option Bool) (K : Value → R) : binK V0.P .eql t (.slice (some a) n c) (.slice none m k) act K = K (.bool false) := by
  have e : eqA V0.P 50 t (.slice (some a) n c) (.slice none m k) = some false := by simp only [eqA, ht]
  simp only [binK, e]; rfl
theorem slc_eq0 {t e : TypeId} (ht : V0.P.underlying t = some (.slice e)) (b : Option Addr) (n c m k : Nat) (act : Option Bool) (K : Value → R) : binK V0.P .eql t (.slice none n c) (.slice b m k) act K = K (.bool b.isNone) := by
  have e : eqA V0.P 50 t (.slice none n c) (.slice b m k) = some b.isNone := by simp only [eqA, ht]
  simp only [binK, e]; rfl
theorem slc_ne {t e : TypeId} (ht : V0.P.underlying t = some (.slice e)) (a : Addr) (n c m k : Nat) (act : Option Bool) (K : Value → R) : binK V0.P .neq t (.slice (some a) n c) (.slice none m k) act K = K (.bool true) := by
  have e : eqA V0.P 50 t (.slice (some a) n c) (.slice none m k) = some false := by simp only [eqA, ht]
  simp only [binK, e]; rfl
theorem slc_ne0 {t e : TypeId} (ht : V0.P.underlying t = some (.slice e)) (b : Option Addr) (n c m k : Nat) (act : Option Bool) (K : Value → R) : binK V0.P .neq t (.slice none n c) (.slice b m k) act K = K (.bool !b.isNone) := by
  have e : eqA V0.P 50 t (.slice none n c) (.slice b m k) = some b.isNone := by simp only [eqA, ht]
  simp only [binK, e]; rfl
theorem YY : (∀ v K, ty V0.P 0 v K = asTup v fun l => tyL V0.P [] l fun r => K (.tuple r.toArray)) ∧
  (∀ v K, ty1 V0.P 3 v K = asInt .i64 v fun n => K (.int .i64 n)) ∧
  (∀ v K, ty V0.P 3 v K = asInt .i64 v fun n => K (.int .i64 n)) ∧
  (∀ v K, ty1 V0.P 4 v K = asBool v fun b => K (.bool b)) ∧
  (∀ v K, ty V0.P 4 v K = asBool v fun b => K (.bool b)) ∧
  (∀ v K, ty1 V0.P 5 v K = asInt .u8 v fun n => K (.int .u8 n)) ∧
  (∀ v K, ty V0.P 5 v K = asInt .u8 v fun n => K (.int .u8 n)) ∧
  (∀ v K, ty1 V0.P 9 v K = asStr v fun s => K (.string s)) ∧
  (∀ v K, ty V0.P 9 v K = asStr v fun s => K (.string s)) ∧
  (∀ v K, ty1 V0.P 20 v K = K v) ∧
  (∀ v K, ty V0.P 20 v K = K v) ∧
  (∀ v K, ty1 V0.P 21 v K = asInt .i32 v fun n => K (.int .i32 n)) ∧
  (∀ v K, ty V0.P 21 v K = asInt .i32 v fun n => K (.int .i32 n)) ∧
  (∀ v K, ty1 V0.P 22 v K = K v) ∧
  (∀ v K, ty V0.P 22 v K = K v) ∧
  (∀ v K, ty1 V0.P 23 v K = K v) ∧
  (∀ v K, ty V0.P 23 v K = K v) ∧
  (∀ v K, ty1 V0.P 25 v K = K v) ∧
  (∀ v K, ty V0.P 25 v K = K v) ∧
  (∀ v K, ty1 V0.P 28 v K = K v) ∧
  (∀ v K, ty V0.P 28 v K = K v) ∧
  (∀ v K, ty1 V0.P 29 v K = K v) ∧
  (∀ v K, ty V0.P 29 v K = K v) ∧
  (∀ v K, ty1 V0.P 31 v K = K v) ∧
  (∀ v K, ty V0.P 31 v K = K v) ∧
  (∀ v K, ty V0.P 35 v K = asTup v fun l => tyL V0.P [31, 4] l fun r => K (.tuple r.toArray)) ∧
  (∀ v K, ty1 V0.P 38 v K = K v) ∧
  (∀ v K, ty V0.P 38 v K = K v) ∧
  (∀ v K, ty1 V0.P 39 v K = K v) ∧
  (∀ v K, ty V0.P 39 v K = K v) ∧
  (∀ v K, ty1 V0.P 50 v K = K v) ∧
  (∀ v K, ty V0.P 50 v K = K v) ∧
  (∀ v K, ty1 V0.P 52 v K = K v) ∧
  (∀ v K, ty V0.P 52 v K = K v) ∧
  (∀ v K, ty1 V0.P 54 v K = K v) ∧
  (∀ v K, ty V0.P 54 v K = K v) ∧
  (∀ v K, ty1 V0.P 65 v K = K v) ∧
  (∀ v K, ty V0.P 65 v K = K v) ∧
  (∀ v K, ty1 V0.P 71 v K = K v) ∧
  (∀ v K, ty V0.P 71 v K = K v) ∧
  (∀ v K, ty1 V0.P 74 v K = K v) ∧
  (∀ v K, ty V0.P 74 v K = K v) ∧
  (∀ v K, ty1 V0.P 76 v K = K v) ∧
  (∀ v K, ty V0.P 76 v K = K v) ∧
  (∀ v K, ty1 V0.P 80 v K = K v) ∧
  (∀ v K, ty V0.P 80 v K = K v) ∧
  (∀ v K, ty1 V0.P 82 v K = K v) ∧
  (∀ v K, ty V0.P 82 v K = K v) ∧
  (∀ v K, ty1 V0.P 84 v K = K v) ∧
  (∀ v K, ty V0.P 84 v K = K v) ∧
  (∀ v K, ty1 V0.P 87 v K = K v) ∧
  (∀ v K, ty V0.P 87 v K = K v) ∧
  (∀ v K, ty1 V0.P 99 v K = K v) ∧
  (∀ v K, ty V0.P 99 v K = K v) ∧
  (∀ v K, ty1 V0.P 102 v K = K v) ∧
  (∀ v K, ty V0.P 102 v K = K v) ∧
  (∀ v K, ty1 V0.P 105 v K = K v) ∧
  (∀ v K, ty V0.P 105 v K = K v) ∧
  (∀ v K, ty1 V0.P 107 v K = K v) ∧
  (∀ v K, ty V0.P 107 v K = K v) ∧
  (∀ v K, ty V0.P 109 v K = asTup v fun l => tyL V0.P [71, 3] l fun r => K (.tuple r.toArray)) ∧
  (∀ v K, ty1 V0.P 112 v K = K v) ∧
  (∀ v K, ty V0.P 112 v K = K v) ∧
  (∀ v K, ty1 V0.P 117 v K = K v) ∧
  (∀ v K, ty V0.P 117 v K = K v) ∧
  (∀ v K, ty1 V0.P 118 v K = K v) ∧
  (∀ v K, ty V0.P 118 v K = K v) ∧
  (∀ v K, ty1 V0.P 119 v K = asInt .u32 v fun n => K (.int .u32 n)) ∧
  (∀ v K, ty V0.P 119 v K = asInt .u32 v fun n => K (.int .u32 n)) ∧
  (∀ v K, ty1 V0.P 121 v K = K v) ∧
  (∀ v K, ty V0.P 121 v K = K v) ∧
  (∀ v K, ty1 V0.P 123 v K = K v) ∧
  (∀ v K, ty V0.P 123 v K = K v) ∧
  (∀ v K, ty1 V0.P 125 v K = K v) ∧
  (∀ v K, ty V0.P 125 v K = K v) ∧
  (∀ v K, ty1 V0.P 127 v K = K v) ∧
  (∀ v K, ty V0.P 127 v K = K v) ∧
  (∀ v K, ty1 V0.P 129 v K = K v) ∧
  (∀ v K, ty V0.P 129 v K = K v) ∧
  (∀ v K, ty1 V0.P 131 v K = K v) ∧
  (∀ v K, ty V0.P 131 v K = K v) ∧
  (∀ v K, ty1 V0.P 133 v K = K v) ∧
  (∀ v K, ty V0.P 133 v K = K v) ∧
  (∀ v K, ty V0.P 135 v K = asTup v fun l => tyL V0.P [9, 4] l fun r => K (.tuple r.toArray)) ∧
  (∀ v K, ty V0.P 141 v K = asTup v fun l => tyL V0.P [3, 3] l fun r => K (.tuple r.toArray)) ∧
  (∀ v K, ty V0.P 161 v K = asTup v fun l => tyL V0.P [21, 3] l fun r => K (.tuple r.toArray)) ∧
  (∀ v K, ty1 V0.P 178 v K = K v) ∧
  (∀ v K, ty V0.P 178 v K = K v) ∧
  (∀ v K, ty1 V0.P 180 v K = K v) ∧
  (∀ v K, ty V0.P 180 v K = K v) ∧
  (∀ v K, ty1 V0.P 182 v K = K v) ∧
  (∀ v K, ty V0.P 182 v K = K v) ∧
  (∀ v K, ty1 V0.P 183 v K = K v) ∧
  (∀ v K, ty V0.P 183 v K = K v) ∧
  (∀ v K, ty1 V0.P 184 v K = K v) ∧
  (∀ v K, ty V0.P 184 v K = K v) ∧
  (∀ v K, ty1 V0.P 185 v K = K v) ∧
  (∀ v K, ty V0.P 185 v K = K v) ∧
  (∀ v K, ty1 V0.P 187 v K = K v) ∧
  (∀ v K, ty V0.P 187 v K = K v) ∧
  (∀ v K, ty1 V0.P 188 v K = K v) ∧
  (∀ v K, ty V0.P 188 v K = K v) ∧
  (∀ v K, ty1 V0.P 198 v K = K v) ∧
  (∀ v K, ty V0.P 198 v K = K v) ∧
  (∀ v K, ty1 V0.P 201 v K = K v) ∧
  (∀ v K, ty V0.P 201 v K = K v) ∧
  (∀ v K, ty1 V0.P 202 v K = K v) ∧
  (∀ v K, ty V0.P 202 v K = K v) ∧
  (∀ v K, ty1 V0.P 203 v K = K v) ∧
  (∀ v K, ty V0.P 203 v K = K v) ∧
  (∀ v K, ty1 V0.P 205 v K = K v) ∧
  (∀ v K, ty V0.P 205 v K = K v) ∧
  (∀ v K, ty1 V0.P 207 v K = K v) ∧
  (∀ v K, ty V0.P 207 v K = K v) ∧
  (∀ v K, ty1 V0.P 224 v K = K v) ∧
  (∀ v K, ty V0.P 224 v K = K v) ∧
  (∀ v K, ty1 V0.P 226 v K = K v) ∧
  (∀ v K, ty V0.P 226 v K = K v) ∧
  (∀ a n c m k act K, binK V0.P .eql 28 (.slice (some a) n c) (.slice none m k) act K = K (.bool false)) ∧
  (∀ b n c m k act K, binK V0.P .eql 28 (.slice none n c) (.slice b m k) act K = K (.bool b.isNone)) ∧
  (∀ a n c m k act K, binK V0.P .neq 28 (.slice (some a) n c) (.slice none m k) act K = K (.bool true)) ∧
  (∀ b n c m k act K, binK V0.P .neq 28 (.slice none n c) (.slice b m k) act K = K (.bool !b.isNone)) ∧
  (∀ a n c m k act K, binK V0.P .eql 29 (.slice (some a) n c) (.slice none m k) act K = K (.bool false)) ∧
  (∀ b n c m k act K, binK V0.P .eql 29 (.slice none n c) (.slice b m k) act K = K (.bool b.isNone)) ∧
  (∀ a n c m k act K, binK V0.P .neq 29 (.slice (some a) n c) (.slice none m k) act K = K (.bool true)) ∧
  (∀ b n c m k act K, binK V0.P .neq 29 (.slice none n c) (.slice b m k) act K = K (.bool !b.isNone)) ∧
  (∀ a n c m k act K, binK V0.P .eql 39 (.slice (some a) n c) (.slice none m k) act K = K (.bool false)) ∧
  (∀ b n c m k act K, binK V0.P .eql 39 (.slice none n c) (.slice b m k) act K = K (.bool b.isNone)) ∧
  (∀ a n c m k act K, binK V0.P .neq 39 (.slice (some a) n c) (.slice none m k) act K = K (.bool true)) ∧
  (∀ b n c m k act K, binK V0.P .neq 39 (.slice none n c) (.slice b m k) act K = K (.bool !b.isNone)) ∧
  (∀ a b act K, binK V0.P .eql 4 (.bool a) (.bool b) act K = K (.bool (a == b))) ∧
  (∀ a b act K, binK V0.P .neq 4 (.bool a) (.bool b) act K = K (.bool (!(a == b)))) :=
  ⟨fun v K => by unfold ty; rw [show V0.P.underlying 0 = some (.tuple #[]) by kernel_rfl], fun _ _ => y1 (k := .int .i64) (by kernel_rfl), fun _ _ => y2 (k := .int .i64) (by kernel_rfl) (by kernel_rfl), fun _ _ => y1 (k := .bool) (by kernel_rfl), fun _ _ => y2 (k := .bool) (by kernel_rfl) (by kernel_rfl), fun _ _ => y1 (k := .int .u8) (by kernel_rfl), fun _ _ => y2 (k := .int .u8) (by kernel_rfl) (by kernel_rfl), fun _ _ => y1 (k := .str) (by kernel_rfl), fun _ _ => y2 (k := .str) (by kernel_rfl) (by kernel_rfl), fun _ _ => y1 (k := .other) (by kernel_rfl), fun _ _ => y2 (k := .other) (by kernel_rfl) (by kernel_rfl), fun _ _ => y1 (k := .int .i32) (by kernel_rfl), fun _ _ => y2 (k := .int .i32) (by kernel_rfl) (by kernel_rfl), fun _ _ => y1 (k := .other) (by kernel_rfl), fun _ _ => y2 (k := .other) (by kernel_rfl) (by kernel_rfl), fun _ _ => y1 (k := .other) (by kernel_rfl), fun _ _ => y2 (k := .other) (by kernel_rfl) (by kernel_rfl), fun _ _ => y1 (k := .other) (by kernel_rfl), fun _ _ => y2 (k := .other) (by kernel_rfl) (by kernel_rfl), fun _ _ => y1 (k := .other) (by kernel_rfl), fun _ _ => y2 (k := .other) (by kernel_rfl) (by kernel_rfl), fun _ _ => y1 (k := .other) (by kernel_rfl), fun _ _ => y2 (k := .other) (by kernel_rfl) (by kernel_rfl), fun _ _ => y1 (k := .other) (by kernel_rfl), fun _ _ => y2 (k := .other) (by kernel_rfl) (by kernel_rfl), fun v K => by unfold ty; rw [show V0.P.underlying 35 = some (.tuple #[31, 4]) by kernel_rfl], fun _ _ => y1 (k := .other) (by kernel_rfl), fun _ _ => y2 (k := .other) (by kernel_rfl) (by kernel_rfl), fun _ _ => y1 (k := .other) (by kernel_rfl), fun _ _ => y2 (k := .other) (by kernel_rfl) (by kernel_rfl), fun _ _ => y1 (k := .other) (by kernel_rfl), fun _ _ => y2 (k := .other) (by kernel_rfl) (by kernel_rfl), fun _ _ => y1 (k := .other) (by kernel_rfl), fun _ _ => y2 (k := .other) (by kernel_rfl) (by kernel_rfl), fun _ _ => y1 (k := .other) (by kernel_rfl), fun _ _ => y2 (k := .other) (by kernel_rfl) (by kernel_rfl), fun _ _ => y1 (k := .other) (by kernel_rfl), fun _ _ => y2 (k := .other) (by kernel_rfl) (by kernel_rfl), fun _ _ => y1 (k := .other) (by kernel_rfl), fun _ _ => y2 (k := .other) (by kernel_rfl) (by kernel_rfl), fun _ _ => y1 (k := .other) (by kernel_rfl), fun _ _ => y2 (k := .other) (by kernel_rfl) (by kernel_rfl), fun _ _ => y1 (k := .other) (by kernel_rfl), fun _ _ => y2 (k := .other) (by kernel_rfl) (by kernel_rfl), fun _ _ => y1 (k := .other) (by kernel_rfl), fun _ _ => y2 (k := .other) (by kernel_rfl) (by kernel_rfl), fun _ _ => y1 (k := .other) (by kernel_rfl), fun _ _ => y2 (k := .other) (by kernel_rfl) (by kernel_rfl), fun _ _ => y1 (k := .other) (by kernel_rfl), fun _ _ => y2 (k := .other) (by kernel_rfl) (by kernel_rfl), fun _ _ => y1 (k := .other) (by kernel_rfl), fun _ _ => y2 (k := .other) (by kernel_rfl) (by kernel_rfl), fun _ _ => y1 (k := .other) (by kernel_rfl), fun _ _ => y2 (k := .other) (by kernel_rfl) (by kernel_rfl), fun _ _ => y1 (k := .other) (by kernel_rfl), fun _ _ => y2 (k := .other) (by kernel_rfl) (by kernel_rfl), fun _ _ => y1 (k := .other) (by kernel_rfl), fun _ _ => y2 (k := .other) (by kernel_rfl) (by kernel_rfl), fun _ _ => y1 (k := .other) (by kernel_rfl), fun _ _ => y2 (k := .other) (by kernel_rfl) (by kernel_rfl), fun v K => by unfold ty; rw [show V0.P.underlying 109 = some (.tuple #[71, 3]) by kernel_rfl], fun _ _ => y1 (k := .other) (by kernel_rfl), fun _ _ => y2 (k := .other) (by kernel_rfl) (by kernel_rfl), fun _ _ => y1 (k := .other) (by kernel_rfl), fun _ _ => y2 (k := .other) (by kernel_rfl) (by kernel_rfl), fun _ _ => y1 (k := .other) (by kernel_rfl), fun _ _ => y2 (k := .other) (by kernel_rfl) (by kernel_rfl), fun _ _ => y1 (k := .int .u32) (by kernel_rfl), fun _ _ => y2 (k := .int .u32) (by kernel_rfl) (by kernel_rfl), fun _ _ => y1 (k := .other) (by kernel_rfl), fun _ _ => y2 (k := .other) (by kernel_rfl) (by kernel_rfl), fun _ _ => y1 (k := .other) (by kernel_rfl), fun _ _ => y2 (k := .other) (by kernel_rfl) (by kernel_rfl), fun _ _ => y1 (k := .other) (by kernel_rfl), fun _ _ => y2 (k := .other) (by kernel_rfl) (by kernel_rfl), fun _ _ => y1 (k := .other) (by kernel_rfl), fun _ _ => y2 (k := .other) (by kernel_rfl) (by kernel_rfl), fun _ _ => y1 (k := .other) (by kernel_rfl), fun _ _ => y2 (k := .other) (by kernel_rfl) (by kernel_rfl), fun _ _ => y1 (k := .other) (by kernel_rfl), fun _ _ => y2 (k := .other) (by kernel_rfl) (by kernel_rfl), fun _ _ => y1 (k := .other) (by kernel_rfl), fun _ _ => y2 (k := .other) (by kernel_rfl) (by kernel_rfl), fun v K => by unfold ty; rw [show V0.P.underlying 135 = some (.tuple #[9, 4]) by kernel_rfl], fun v K => by unfold ty; rw [show V0.P.underlying 141 = some (.tuple #[3, 3]) by kernel_rfl], fun v K => by unfold ty; rw [show V0.P.underlying 161 = some (.tuple #[21, 3]) by kernel_rfl], fun _ _ => y1 (k := .other) (by kernel_rfl), fun _ _ => y2 (k := .other) (by kernel_rfl) (by kernel_rfl), fun _ _ => y1 (k := .other) (by kernel_rfl), fun _ _ => y2 (k := .other) (by kernel_rfl) (by kernel_rfl), fun _ _ => y1 (k := .other) (by kernel_rfl), fun _ _ => y2 (k := .other) (by kernel_rfl) (by kernel_rfl), fun _ _ => y1 (k := .other) (by kernel_rfl), fun _ _ => y2 (k := .other) (by kernel_rfl) (by kernel_rfl), fun _ _ => y1 (k := .other) (by kernel_rfl), fun _ _ => y2 (k := .other) (by kernel_rfl) (by kernel_rfl), fun _ _ => y1 (k := .other) (by kernel_rfl), fun _ _ => y2 (k := .other) (by kernel_rfl) (by kernel_rfl), fun _ _ => y1 (k := .other) (by kernel_rfl), fun _ _ => y2 (k := .other) (by kernel_rfl) (by kernel_rfl), fun _ _ => y1 (k := .other) (by kernel_rfl), fun _ _ => y2 (k := .other) (by kernel_rfl) (by kernel_rfl), fun _ _ => y1 (k := .other) (by kernel_rfl), fun _ _ => y2 (k := .other) (by kernel_rfl) (by kernel_rfl), fun _ _ => y1 (k := .other) (by kernel_rfl), fun _ _ => y2 (k := .other) (by kernel_rfl) (by kernel_rfl), fun _ _ => y1 (k := .other) (by kernel_rfl), fun _ _ => y2 (k := .other) (by kernel_rfl) (by kernel_rfl), fun _ _ => y1 (k := .other) (by kernel_rfl), fun _ _ => y2 (k := .other) (by kernel_rfl) (by kernel_rfl), fun _ _ => y1 (k := .other) (by kernel_rfl), fun _ _ => y2 (k := .other) (by kernel_rfl) (by kernel_rfl), fun _ _ => y1 (k := .other) (by kernel_rfl), fun _ _ => y2 (k := .other) (by kernel_rfl) (by kernel_rfl), fun _ _ => y1 (k := .other) (by kernel_rfl), fun _ _ => y2 (k := .other) (by kernel_rfl) (by kernel_rfl), fun _ _ => y1 (k := .other) (by kernel_rfl), fun _ _ => y2 (k := .other) (by kernel_rfl) (by kernel_rfl), slc_eq (e := 52) (by kernel_rfl), slc_eq0 (e := 52) (by kernel_rfl), slc_ne (e := 52) (by kernel_rfl), slc_ne0 (e := 52) (by kernel_rfl), slc_eq (e := 54) (by kernel_rfl), slc_eq0 (e := 54) (by kernel_rfl), slc_ne (e := 54) (by kernel_rfl), slc_ne0 (e := 54) (by kernel_rfl), slc_eq (e := 5) (by kernel_rfl), slc_eq0 (e := 5) (by kernel_rfl), slc_ne (e := 5) (by kernel_rfl), slc_ne0 (e := 5) (by kernel_rfl), bool_eq (by kernel_rfl), bool_ne (by kernel_rfl)⟩
def eraseB : List Bool → Frm → Frm
  | _, [] => []
  | [], _ :: fr => E :: eraseB [] fr
  | true :: m, s :: fr => s :: eraseB m fr
  | false :: m, _ :: fr => E :: eraseB m fr
def bitsL : Nat → Nat → List Bool
  | 0, _ => []
  | k + 1, m => (m % 2 == 1) :: bitsL k (m / 2)
theorem eraseFrom_bits : ∀ (fr : Frm) (k m n i : Nat), n / 2 ^ i = m → m < 2 ^ k → eraseFrom n i fr = eraseB (bitsL k m) fr
  | [], k, m, n, i, _, _ => by cases hb : bitsL k m <;> simp [eraseFrom, eraseB]
  | s :: fr, k, m, n, i, hm, hk => by
    have hs : n / 2 ^ (i + 1) = m / 2 := by rw [← hm, Nat.pow_succ, Nat.div_div_eq_div_mul]
    cases k with
    | zero =>
      have h0 : m = 0 := by simpa using hk
      have := eraseFrom_bits fr 0 (m / 2) n (i + 1) hs (by rw [h0]; decide)
      simp only [bitsL, eraseFrom, eraseB, Nat.testBit_eq_decide_div_mod_eq, hm, h0] at this ⊢
      rw [this]; rfl
    | succ k =>
      have := eraseFrom_bits fr k (m / 2) n (i + 1) hs (by rw [Nat.pow_succ] at hk; omega)
      simp only [bitsL, eraseFrom, Nat.testBit_eq_decide_div_mod_eq, hm]
      rw [this]
      by_cases hq : m % 2 = 1
      · simp [hq, eraseB]
      · have : m % 2 = 0 := by omega
        simp [this, eraseB]
theorem erase_of {n k : Nat} {fr : Frm} {o : Option Nat} {b : List Bool} (ho : o = some n) (hb : bitsL k n = b) (hk : n < 2 ^ k) : erase o fr = eraseB b fr := by
  subst ho; subst hb
  exact eraseFrom_bits fr k n n 0 (by simp) hk
theorem XCut : (∀ fr, erase (V0.cut 10 [1, 1, 1, 0, 1, 0]) fr = eraseB [false, true, false, true, false, false, false, false, false, false, false, false, false, false, false, false, false, false, false, false, false, false, false, false, false, true, true, true] fr) ∧
  (∀ fr, erase (V0.cut 10 [1, 1, 1, 1, 0, 1, 0]) fr = eraseB [false, false, false, true, false, false, false, false, false, false, false, false, false, false, false, false, false, false, false, false, false, false, false, false, false, false, false, false, false, false, false, false, false, false, false, false, false, false, false, false, false, false, false, false, true, true, true] fr) ∧
  (∀ fr, erase (V0.cut 13 [1, 1, 1, 1, 1, 1, 1, 0, 1, 0]) fr = eraseB [true, false, true, false, true, true, false, false, false, false, false, false, false, false, false, false, false, false, false, false, false, false, false, false, false, false, false, false, false, false, false, false, false, false, false, false, false, false, false, false, false, false, false, false, false, false, false, false, false, false, false, false, false, false, false, false, false, false, true, true] fr) ∧
  (∀ fr, erase (V0.cut 13 [1, 1, 1, 1, 1, 1, 1, 1, 0, 0]) fr = eraseB [true, false, true, false, true, true] fr) ∧
  (∀ fr, erase (V0.cut 17 [1, 1, 0, 1, 0]) fr = eraseB [false, true, false, false, false, false, false, false, false, false, false, false, false, false, false, false, false, false, false, false, false, false, false, false, false, false, false, false, false, false, false, false, false, false, false, false, true, true, true] fr) ∧
  (∀ fr, erase (V0.cut 17 [1, 1, 1, 0, 1, 0]) fr = eraseB [false, true, false, false, false, false, false, false, false, false, false, false, false, false, false, false, false, false, false, false, false, false, false, false, false, false, false, false, false, false, false, false, false, false, false, false, false, false, false, false, false, false, false, false, false, false, false, false, false, false, false, false, false, false, false, false, false, false, false, false, false, false, false, false, false, false, false, false, false, false, false, false, false, false, false, false, false, false, false, false, false, false, false, false, true, true, true] fr) ∧
  (∀ fr, erase (V0.cut 18 [1, 1, 0, 1, 0]) fr = eraseB [false, false, true, true, false, true] fr) ∧
  (∀ fr, erase (V0.cut 18 [1, 1, 1, 0, 1, 0]) fr = eraseB [false, false, true, true, false, false, true] fr) ∧
  (∀ fr, erase (V0.cut 20 [1, 1, 1, 0, 1, 0]) fr = eraseB [true, true, false, false, false, true] fr) ∧
  (∀ fr, erase (V0.cut 21 [1, 1, 1, 0, 1, 0]) fr = eraseB [true, true, false, false, false, true] fr) ∧
  (∀ fr, erase (V0.cut 23 [1, 1, 1, 0, 1, 0]) fr = eraseB [false, true, false, true, true] fr) ∧
  (∀ fr, erase (V0.cut 23 [1, 1, 1, 1, 0, 1, 0]) fr = eraseB [false, true, false, true, false, true] fr) ∧
  (∀ fr, erase (V0.cut 24 [1, 1, 0, 1, 0]) fr = eraseB [true, false, false, true, true] fr) ∧
  (∀ fr, erase (V0.cut 25 [1, 1, 0, 1, 0]) fr = eraseB [true, false, false, true, true] fr) ∧
  (∀ fr, erase (V0.cut 29 [1, 1, 0, 1, 0]) fr = eraseB [true, true, false, false, false, true] fr) ∧
  (∀ fr, erase (V0.cut 30 [1, 1, 0, 1, 0]) fr = eraseB [true, true, false, false, false, true] fr) ∧
  (∀ fr, erase (V0.cut 31 [1, 1, 1, 1, 1, 1, 0, 0]) fr = eraseB [true, false, true, false, true, true, true, true] fr) ∧
  (∀ fr, erase (V0.cut 31 [1, 1, 1, 1, 1, 1, 1, 0, 0]) fr = eraseB [true, false, true, false, true, true, false, true] fr) ∧
  (∀ fr, erase (V0.cut 32 [1, 1, 1, 0, 1, 0]) fr = eraseB [true, false, false, true, true, true] fr) ∧
  (∀ fr, erase (V0.cut 36 [1, 0, 1, 0]) fr = eraseB [true, true, false, false, false, true] fr) ∧
  (∀ fr, erase (V0.cut 37 [1, 0, 1, 0]) fr = eraseB [true, true, false, false, false, true] fr) ∧
  (∀ fr, erase (V0.cut 38 [1, 0, 1, 0]) fr = eraseB [true, true, false, false, false, true] fr) ∧
  (∀ fr, erase (V0.cut 39 [1, 0, 1, 0]) fr = eraseB [true, true, false, false, false, true] fr) ∧
  (∀ fr, erase (V0.cut 42 [1, 0, 1, 0]) fr = eraseB [true, false, false, false, false, false, true, true, true] fr) ∧
  (∀ fr, erase (V0.cut 45 [1, 0, 1, 0]) fr = eraseB [true, false, false, false, false, false, true, true, true] fr) ∧
  (∀ fr, erase (V0.cut 48 [1, 0, 1, 0]) fr = eraseB [false, true, false, false, false, false, false, false, true, true, true] fr) ∧
  (∀ fr, erase (V0.cut 49 [1, 1, 0, 1, 0]) fr = eraseB [false, false, false, true, false, false, false, true, true, true] fr) ∧
  (∀ fr, erase (V0.cut 51 [1, 1, 0, 1, 0]) fr = eraseB [true, true, false, false, true, true, true] fr) ∧
  (∀ fr, erase (V0.cut 52 [1, 1, 1, 0, 1, 0]) fr = eraseB [true, false, false, true, true, true] fr) ∧
  (∀ fr, erase (V0.cut 52 [1, 1, 1, 1, 0, 1, 0]) fr = eraseB [true, false, false, true, false, false, false, false, false, true] fr) ∧
  (∀ fr, erase (V0.cut 55 [1, 0, 1, 0]) fr = eraseB [true, false, false, true] fr) ∧
  (∀ fr, erase (V0.cut 58 [1, 0, 1, 0]) fr = eraseB [false, true, false, true] fr) ∧
  (∀ fr, erase (V0.cut 59 [1, 0, 1, 0]) fr = eraseB [false, true, false, true] fr) ∧
  (∀ fr, erase (V0.cut 60 [1, 1, 0, 1, 0]) fr = eraseB [false, true, false, true, true] fr) ∧
  (∀ fr, erase (V0.cut 62 [1, 1, 0, 1, 0]) fr = eraseB [true, false, false, true, true] fr) ∧
  (∀ fr, erase (V0.cut 73 [1, 1, 0, 1, 0]) fr = eraseB [true, false, false, true, true] fr) ∧
  (∀ fr, erase (V0.cut 74 [1, 1, 0, 1, 0]) fr = eraseB [true, false, false, true, true] fr) ∧
  (∀ fr, erase (V0.cut 82 [1, 1, 1, 0, 0]) fr = eraseB [true, false, false, true] fr) ∧
  (∀ fr, erase (V0.cut 90 [1, 0, 0]) fr = eraseB [true] fr) ∧
  (∀ fr, erase (V0.cut 91 [1, 0, 1, 0]) fr = eraseB [true, true, false, false, false, false, false, true, true] fr) ∧
  (∀ fr, erase (V0.cut 99 [1, 1, 0, 0]) fr = eraseB [true, false, false, true] fr) ∧
  (∀ fr, erase (V0.cut 100 [1, 0, 1, 0]) fr = eraseB [true, false, false, true] fr) ∧
  (∀ fr, erase (V0.cut 101 [1, 0, 1, 0]) fr = eraseB [false, true, true, false, false, true] fr) ∧
  (∀ fr, erase (V0.cut 102 [1, 0, 1, 0]) fr = eraseB [false, true, true, false, false, true] fr) ∧
  (∀ fr, erase (V0.cut 103 [1, 0, 1, 0]) fr = eraseB [false, true, true, false, false, true] fr) ∧
  (∀ fr, erase (V0.cut 115 [1, 1, 1, 0, 1, 0]) fr = eraseB [true, true, true, false, false, false, false, true, true, true] fr) ∧
  (∀ fr, erase (V0.cut 119 [1, 1, 1, 1, 0, 1, 0]) fr = eraseB [true, true, false, false, false, false, true, true, true] fr) ∧
  (∀ fr, erase (V0.cut 126 [1, 1, 1, 1, 0, 1, 0]) fr = eraseB [false, false, false, true, true, true] fr) ∧
  (∀ fr, erase (V0.cut 126 [1, 1, 1, 1, 1, 0, 1, 0, 1, 0, 1, 0]) fr = eraseB [false, false, false, true, false, false, true, false, false, false, false, false, false, false, false, false, false, false, false, false, false, false, false, false, false, false, false, false, false, false, false, false, false, false, false, false, false, false, false, false, false, false, false, false, false, false, false, false, false, false, false, false, false, false, false, false, false, false, false, false, false, true] fr) ∧
  (∀ fr, erase (V0.cut 126 [1, 1, 1, 1, 1, 0, 1, 0, 1, 1, 0, 1, 0]) fr = eraseB [false, false, false, true, false, false, true, false, true] fr) ∧
  (∀ fr, erase (V0.cut 126 [1, 1, 1, 1, 1, 1, 1, 0, 1, 0]) fr = eraseB [false, false, false, true, false, false, false, false, false, false, false, true, true] fr) ∧
  (∀ fr, erase (V0.cut 138 [1, 0, 1, 0]) fr = eraseB [true, true, true, true, false, false, false, false, false, true] fr) ∧
  (∀ fr, erase (V0.cut 215 [1, 1, 1, 0, 1, 0, 1, 0]) fr = eraseB [true, true, false, false, false, true, true, false, false, false, false, false, false, false, false, false, false, false, false, false, false, false, false, false, false, false, false, false, false, false, true, true, true] fr) ∧
  (∀ fr, erase (V0.cut 215 [1, 1, 1, 0, 1, 1, 1, 0]) fr = eraseB [true, true, false, false, false, true, true, false, false, false, true] fr) ∧
  (∀ fr, erase (V0.cut 215 [1, 1, 1, 1, 1, 1, 1, 0, 1, 0]) fr = eraseB [true, true, false, false, false, false, false, false, false, false, false, false, true, true, true] fr) :=
  ⟨fun _ => erase_of (n := 234881034) (k := 28) (by kernel_rfl) (by kernel_rfl) (by decide), fun _ => erase_of (n := 123145302310920) (k := 47) (by kernel_rfl) (by kernel_rfl) (by decide), fun _ => erase_of (n := 864691128455135285) (k := 60) (by kernel_rfl) (by kernel_rfl) (by decide), fun _ => erase_of (n := 53) (k := 6) (by kernel_rfl) (by kernel_rfl) (by decide), fun _ => erase_of (n := 481036337154) (k := 39) (by kernel_rfl) (by kernel_rfl) (by decide), fun _ => erase_of (n := 135399691796838467567091714) (k := 87) (by kernel_rfl) (by kernel_rfl) (by decide), fun _ => erase_of (n := 44) (k := 6) (by kernel_rfl) (by kernel_rfl) (by decide), fun _ => erase_of (n := 76) (k := 7) (by kernel_rfl) (by kernel_rfl) (by decide), fun _ => erase_of (n := 35) (k := 6) (by kernel_rfl) (by kernel_rfl) (by decide), fun _ => erase_of (n := 35) (k := 6) (by kernel_rfl) (by kernel_rfl) (by decide), fun _ => erase_of (n := 26) (k := 5) (by kernel_rfl) (by kernel_rfl) (by decide), fun _ => erase_of (n := 42) (k := 6) (by kernel_rfl) (by kernel_rfl) (by decide), fun _ => erase_of (n := 25) (k := 5) (by kernel_rfl) (by kernel_rfl) (by decide), fun _ => erase_of (n := 25) (k := 5) (by kernel_rfl) (by kernel_rfl) (by decide), fun _ => erase_of (n := 35) (k := 6) (by kernel_rfl) (by kernel_rfl) (by decide), fun _ => erase_of (n := 35) (k := 6) (by kernel_rfl) (by kernel_rfl) (by decide), fun _ => erase_of (n := 245) (k := 8) (by kernel_rfl) (by kernel_rfl) (by decide), fun _ => erase_of (n := 181) (k := 8) (by kernel_rfl) (by kernel_rfl) (by decide), fun _ => erase_of (n := 57) (k := 6) (by kernel_rfl) (by kernel_rfl) (by decide), fun _ => erase_of (n := 35) (k := 6) (by kernel_rfl) (by kernel_rfl) (by decide), fun _ => erase_of (n := 35) (k := 6) (by kernel_rfl) (by kernel_rfl) (by decide), fun _ => erase_of (n := 35) (k := 6) (by kernel_rfl) (by kernel_rfl) (by decide), fun _ => erase_of (n := 35) (k := 6) (by kernel_rfl) (by kernel_rfl) (by decide), fun _ => erase_of (n := 449) (k := 9) (by kernel_rfl) (by kernel_rfl) (by decide), fun _ => erase_of (n := 449) (k := 9) (by kernel_rfl) (by kernel_rfl) (by decide), fun _ => erase_of (n := 1794) (k := 11) (by kernel_rfl) (by kernel_rfl) (by decide), fun _ => erase_of (n := 904) (k := 10) (by kernel_rfl) (by kernel_rfl) (by decide), fun _ => erase_of (n := 115) (k := 7) (by kernel_rfl) (by kernel_rfl) (by decide), fun _ => erase_of (n := 57) (k := 6) (by kernel_rfl) (by kernel_rfl) (by decide), fun _ => erase_of (n := 521) (k := 10) (by kernel_rfl) (by kernel_rfl) (by decide), fun _ => erase_of (n := 9) (k := 4) (by kernel_rfl) (by kernel_rfl) (by decide), fun _ => erase_of (n := 10) (k := 4) (by kernel_rfl) (by kernel_rfl) (by decide), fun _ => erase_of (n := 10) (k := 4) (by kernel_rfl) (by kernel_rfl) (by decide), fun _ => erase_of (n := 26) (k := 5) (by kernel_rfl) (by kernel_rfl) (by decide), fun _ => erase_of (n := 25) (k := 5) (by kernel_rfl) (by kernel_rfl) (by decide), fun _ => erase_of (n := 25) (k := 5) (by kernel_rfl) (by kernel_rfl) (by decide), fun _ => erase_of (n := 25) (k := 5) (by kernel_rfl) (by kernel_rfl) (by decide), fun _ => erase_of (n := 9) (k := 4) (by kernel_rfl) (by kernel_rfl) (by decide), fun _ => erase_of (n := 1) (k := 1) (by kernel_rfl) (by kernel_rfl) (by decide), fun _ => erase_of (n := 387) (k := 9) (by kernel_rfl) (by kernel_rfl) (by decide), fun _ => erase_of (n := 9) (k := 4) (by kernel_rfl) (by kernel_rfl) (by decide), fun _ => erase_of (n := 9) (k := 4) (by kernel_rfl) (by kernel_rfl) (by decide), fun _ => erase_of (n := 38) (k := 6) (by kernel_rfl) (by kernel_rfl) (by decide), fun _ => erase_of (n := 38) (k := 6) (by kernel_rfl) (by kernel_rfl) (by decide), fun _ => erase_of (n := 38) (k := 6) (by kernel_rfl) (by kernel_rfl) (by decide), fun _ => erase_of (n := 903) (k := 10) (by kernel_rfl) (by kernel_rfl) (by decide), fun _ => erase_of (n := 451) (k := 9) (by kernel_rfl) (by kernel_rfl) (by decide), fun _ => erase_of (n := 56) (k := 6) (by kernel_rfl) (by kernel_rfl) (by decide), fun _ => erase_of (n := 2305843009213694024) (k := 62) (by kernel_rfl) (by kernel_rfl) (by decide), fun _ => erase_of (n := 328) (k := 9) (by kernel_rfl) (by kernel_rfl) (by decide), fun _ => erase_of (n := 6152) (k := 13) (by kernel_rfl) (by kernel_rfl) (by decide), fun _ => erase_of (n := 527) (k := 10) (by kernel_rfl) (by kernel_rfl) (by decide), fun _ => erase_of (n := 7516192867) (k := 33) (by kernel_rfl) (by kernel_rfl) (by decide), fun _ => erase_of (n := 1123) (k := 11) (by kernel_rfl) (by kernel_rfl) (by decide), fun _ => erase_of (n := 28675) (k := 15) (by kernel_rfl) (by kernel_rfl) (by decide)⟩
/-- loop.example/hubbub/impl.RoomPut, loop 0 -/
noncomputable def L10_0 (l : Nat) (v1 v3 v25 v26 v27 : Value) (h : AH) : R := run V0 (.code 10 [1, 1, 1, 0, 1, 0]) l [E, S v1, E, S v3, E, E, E, E, E, E, E, E, E, E, E, E, E, E, E, E, E, E, E, E, E, S v25, S v26, S v27, E, E, E, E, E, E, E, E, E, E, E, E, E, E, E, E, E, E, E, E, E, E, E, E, E, E, E, E, E, E, E, E, E] h
/-- loop.example/hubbub/impl.RoomPut, loop 1 -/
noncomputable def L10_1 (l : Nat) (v3 v44 v45 v46 : Value) (h : AH) : R := run V0 (.code 10 [1, 1, 1, 1, 0, 1, 0]) l [E, E, E, S v3, E, E, E, E, E, E, E, E, E, E, E, E, E, E, E, E, E, E, E, E, E, E, E, E, E, E, E, E, E, E, E, E, E, E, E, E, E, E, E, E, S v44, S v45, S v46, E, E, E, E, E, E, E, E, E, E, E, E, E, E] h
/-- loop.example/hubbub/impl.RoomGet, loop 0 -/
noncomputable def L13_0 (l : Nat) (v0 v2 v4 v5 v58 v59 : Value) (h : AH) : R := run V0 (.code 13 [1, 1, 1, 1, 1, 1, 1, 0, 1, 0]) l [S v0, E, S v2, E, S v4, S v5, E, E, E, E, E, E, E, E, E, E, E, E, E, E, E, E, E, E, E, E, E, E, E, E, E, E, E, E, E, E, E, E, E, E, E, E, E, E, E, E, E, E, E, E, E, E, E, E, E, E, E, E, S v58, S v59, E, E, E, E, E, E, E, E, E, E, E, E, E, E, E, E, E, E, E, E, E, E, E, E, E, E, E, E, E, E, E, E, E, E, E, E, E, E, E, E, E, E, E, E, E, E, E, E, E, E] h
/-- loop.example/hubbub/impl.RoomGet, loop 1 -/
noncomputable def L13_1 (l : Nat) (v0 v2 v4 v5 : Value) (h : AH) : R := run V0 (.code 13 [1, 1, 1, 1, 1, 1, 1, 1, 0, 0]) l [S v0, E, S v2, E, S v4, S v5, E, E, E, E, E, E, E, E, E, E, E, E, E, E, E, E, E, E, E, E, E, E, E, E, E, E, E, E, E, E, E, E, E, E, E, E, E, E, E, E, E, E, E, E, E, E, E, E, E, E, E, E, E, E, E, E, E, E, E, E, E, E, E, E, E, E, E, E, E, E, E, E, E, E, E, E, E, E, E, E, E, E, E, E, E, E, E, E, E, E, E, E, E, E, E, E, E, E, E, E, E, E, E, E] h
/-- loop.example/hubbub/impl.RoomOk, loop 0 -/
noncomputable def L17_0 (l : Nat) (v1 v36 v37 v38 : Value) (h : AH) : R := run V0 (.code 17 [1, 1, 0, 1, 0]) l [E, S v1, E, E, E, E, E, E, E, E, E, E, E, E, E, E, E, E, E, E, E, E, E, E, E, E, E, E, E, E, E, E, E, E, E, E, S v36, S v37, S v38, E, E, E, E, E, E, E, E, E, E, E, E, E, E, E, E, E, E, E, E, E, E, E, E, E, E, E, E, E, E, E, E, E, E, E, E, E, E, E, E, E, E, E, E, E, E, E, E, E, E, E, E, E, E, E, E, E, E, E, E, E, E, E, E, E, E, E, E, E, E, E, E, E, E, E, E, E, E, E, E, E, E, E, E, E, E, E, E, E, E, E, E, E, E, E, E, E, E, E, E, E, E, E, E, E, E, E, E, E] h
/-- loop.example/hubbub/impl.RoomOk, loop 1 -/
noncomputable def L17_1 (l : Nat) (v1 v84 v85 v86 : Value) (h : AH) : R := run V0 (.code 17 [1, 1, 1, 0, 1, 0]) l [E, S v1, E, E, E, E, E, E, E, E, E, E, E, E, E, E, E, E, E, E, E, E, E, E, E, E, E, E, E, E, E, E, E, E, E, E, E, E, E, E, E, E, E, E, E, E, E, E, E, E, E, E, E, E, E, E, E, E, E, E, E, E, E, E, E, E, E, E, E, E, E, E, E, E, E, E, E, E, E, E, E, E, E, E, S v84, S v85, S v86, E, E, E, E, E, E, E, E, E, E, E, E, E, E, E, E, E, E, E, E, E, E, E, E, E, E, E, E, E, E, E, E, E, E, E, E, E, E, E, E, E, E, E, E, E, E, E, E, E, E, E, E, E, E, E, E, E, E, E, E, E] h
/-- loop.example/hubbub/laws.hbRoom, loop 0 -/
noncomputable def L18_0 (l : Nat) (v2 v3 v5 : Value) (h : AH) : R := run V0 (.code 18 [1, 1, 0, 1, 0]) l [E, E, S v2, S v3, E, S v5, E, E, E, E, E, E, E, E, E, E, E, E, E, E, E, E, E, E, E, E, E, E, E, E, E, E, E, E, E, E, E, E, E, E, E, E, E, E, E, E, E, E, E, E, E, E, E, E, E, E, E, E, E, E, E, E, E, E, E, E, E, E, E, E, E, E, E, E, E, E, E, E, E, E] h
/-- loop.example/hubbub/laws.hbRoom, loop 1 -/
noncomputable def L18_1 (l : Nat) (v2 v3 v6 : Value) (h : AH) : R := run V0 (.code 18 [1, 1, 1, 0, 1, 0]) l [E, E, S v2, S v3, E, E, S v6, E, E, E, E, E, E, E, E, E, E, E, E, E, E, E, E, E, E, E, E, E, E, E, E, E, E, E, E, E, E, E, E, E, E, E, E, E, E, E, E, E, E, E, E, E, E, E, E, E, E, E, E, E, E, E, E, E, E, E, E, E, E, E, E, E, E, E, E, E, E, E, E, E] h
/-- loop.example/hubbub/laws.szMemberS, loop 0 -/
noncomputable def L20_0 (l : Nat) (v0 v1 v5 : Value) (h : AH) : R := run V0 (.code 20 [1, 1, 1, 0, 1, 0]) l [S v0, S v1, E, E, E, S v5, E, E, E, E, E, E, E, E, E, E, E, E, E, E, E, E, E, E, E, E, E] h
/-- loop.example/hubbub/laws.szRankS, loop 0 -/
noncomputable def L21_0 (l : Nat) (v0 v1 v5 : Value) (h : AH) : R := run V0 (.code 21 [1, 1, 1, 0, 1, 0]) l [S v0, S v1, E, E, E, S v5, E, E, E, E, E, E, E, E, E, E, E, E, E, E, E, E, E, E, E, E, E] h
/-- loop.example/hubbub/spec.l13Put, loop 0 -/
noncomputable def L23_0 (l : Nat) (v1 v3 v4 : Value) (h : AH) : R := run V0 (.code 23 [1, 1, 1, 0, 1, 0]) l [E, S v1, E, S v3, S v4, E, E, E, E, E, E, E, E, E, E, E, E, E, E, E, E, E, E, E, E, E, E, E, E, E, E, E, E, E, E, E, E, E, E, E, E, E, E, E, E, E, E, E, E, E, E, E, E, E, E, E, E, E, E, E, E, E, E, E, E, E, E, E, E, E, E, E, E, E, E, E, E, E, E, E, E, E, E, E, E] h
/-- loop.example/hubbub/spec.l13Put, loop 1 -/
noncomputable def L23_1 (l : Nat) (v1 v3 v5 : Value) (h : AH) : R := run V0 (.code 23 [1, 1, 1, 1, 0, 1, 0]) l [E, S v1, E, S v3, E, S v5, E, E, E, E, E, E, E, E, E, E, E, E, E, E, E, E, E, E, E, E, E, E, E, E, E, E, E, E, E, E, E, E, E, E, E, E, E, E, E, E, E, E, E, E, E, E, E, E, E, E, E, E, E, E, E, E, E, E, E, E, E, E, E, E, E, E, E, E, E, E, E, E, E, E, E, E, E, E, E] h
/-- loop.example/hubbub/laws.toMemberS, loop 0 -/
noncomputable def L24_0 (l : Nat) (v0 v3 v4 : Value) (h : AH) : R := run V0 (.code 24 [1, 1, 0, 1, 0]) l [S v0, E, E, S v3, S v4, E, E, E, E, E, E, E, E, E, E, E, E, E, E, E, E, E, E] h
/-- loop.example/hubbub/laws.toRankS, loop 0 -/
noncomputable def L25_0 (l : Nat) (v0 v3 v4 : Value) (h : AH) : R := run V0 (.code 25 [1, 1, 0, 1, 0]) l [S v0, E, E, S v3, S v4, E, E, E, E, E, E, E, E, E, E, E, E, E, E, E, E, E, E] h
/-- loop.example/hubbub/laws.eqMemberS, loop 0 -/
noncomputable def L29_0 (l : Nat) (v0 v1 v5 : Value) (h : AH) : R := run V0 (.code 29 [1, 1, 0, 1, 0]) l [S v0, S v1, E, E, E, S v5, E, E, E, E, E, E, E, E, E, E, E, E, E, E, E, E, E, E, E, E, E] h
/-- loop.example/hubbub/laws.eqRankS, loop 0 -/
noncomputable def L30_0 (l : Nat) (v0 v1 v5 : Value) (h : AH) : R := run V0 (.code 30 [1, 1, 0, 1, 0]) l [S v0, S v1, E, E, E, S v5, E, E, E, E, E, E, E, E, E, E, E, E, E, E, E, E, E, E, E, E, E] h
/-- loop.example/hubbub/spec.l13Get, loop 0 -/
noncomputable def L31_0 (l : Nat) (v0 v2 v4 v5 v6 v7 : Value) (h : AH) : R := run V0 (.code 31 [1, 1, 1, 1, 1, 1, 0, 0]) l [S v0, E, S v2, E, S v4, S v5, S v6, S v7, E, E, E, E, E, E, E, E, E, E, E, E, E, E, E, E, E, E, E, E, E, E, E, E, E, E, E, E, E, E, E, E, E, E, E, E, E, E, E, E, E, E, E, E, E, E, E, E, E, E, E, E, E, E, E, E, E, E, E, E, E, E, E, E, E, E, E, E, E, E, E, E, E, E, E, E, E, E, E, E, E, E, E, E, E, E, E, E, E] h
/-- loop.example/hubbub/spec.l13Get, loop 1 -/
noncomputable def L31_1 (l : Nat) (v0 v2 v4 v5 v7 : Value) (h : AH) : R := run V0 (.code 31 [1, 1, 1, 1, 1, 1, 1, 0, 0]) l [S v0, E, S v2, E, S v4, S v5, E, S v7, E, E, E, E, E, E, E, E, E, E, E, E, E, E, E, E, E, E, E, E, E, E, E, E, E, E, E, E, E, E, E, E, E, E, E, E, E, E, E, E, E, E, E, E, E, E, E, E, E, E, E, E, E, E, E, E, E, E, E, E, E, E, E, E, E, E, E, E, E, E, E, E, E, E, E, E, E, E, E, E, E, E, E, E, E, E, E, E, E] h
/-- loop.example/hubbub/impl.fields, loop 0 -/
noncomputable def L32_0 (l : Nat) (v0 v3 v4 v5 : Value) (h : AH) : R := run V0 (.code 32 [1, 1, 1, 0, 1, 0]) l [S v0, E, E, S v3, S v4, S v5, E, E, E, E, E, E, E, E, E, E, E, E, E, E, E, E, E, E, E, E, E, E, E, E, E, E, E, E, E, E, E, E, E, E, E, E, E, E, E, E, E, E, E] h
/-- loop.example/hubbub/laws.markMemberS, loop 0 -/
noncomputable def L36_0 (l : Nat) (v0 v1 v5 : Value) (h : AH) : R := run V0 (.code 36 [1, 0, 1, 0]) l [S v0, S v1, E, E, E, S v5, E, E, E, E, E, E, E, E, E, E, E, E, E, E, E, E, E, E, E, E, E, E, E, E, E, E, E, E, E, E] h
/-- loop.example/hubbub/laws.markRankS, loop 0 -/
noncomputable def L37_0 (l : Nat) (v0 v1 v5 : Value) (h : AH) : R := run V0 (.code 37 [1, 0, 1, 0]) l [S v0, S v1, E, E, E, S v5, E, E, E, E, E, E, E, E, E, E, E, E, E, E, E, E, E, E, E, E, E, E] h
/-- loop.example/hubbub/laws.heldMemberS, loop 0 -/
noncomputable def L38_0 (l : Nat) (v0 v1 v5 : Value) (h : AH) : R := run V0 (.code 38 [1, 0, 1, 0]) l [S v0, S v1, E, E, E, S v5, E, E, E, E, E, E, E, E, E, E, E, E, E, E, E, E, E, E, E, E, E, E, E, E, E, E, E, E, E, E, E, E, E, E, E, E] h
/-- loop.example/hubbub/laws.heldRankS, loop 0 -/
noncomputable def L39_0 (l : Nat) (v0 v1 v5 : Value) (h : AH) : R := run V0 (.code 39 [1, 0, 1, 0]) l [S v0, S v1, E, E, E, S v5, E, E, E, E, E, E, E, E, E, E, E, E, E, E, E, E, E, E, E, E, E, E, E, E, E, E] h
/-- loop.example/hubbub/impl.userOk, loop 0 -/
noncomputable def L42_0 (l : Nat) (v0 v6 v7 v8 : Value) (h : AH) : R := run V0 (.code 42 [1, 0, 1, 0]) l [S v0, E, E, E, E, E, S v6, S v7, S v8, E, E, E, E, E, E, E, E, E, E, E, E, E, E, E, E, E, E, E, E, E, E] h
/-- loop.example/hubbub/impl.nickOk, loop 0 -/
noncomputable def L45_0 (l : Nat) (v0 v6 v7 v8 : Value) (h : AH) : R := run V0 (.code 45 [1, 0, 1, 0]) l [S v0, E, E, E, E, E, S v6, S v7, S v8, E, E, E, E, E, E, E, E, E, E, E, E, E, E, E, E, E, E, E, E, E, E, E, E, E, E, E, E, E, E] h
/-- (loop.example/hubbub/impl.Room).rank, loop 0 -/
noncomputable def L48_0 (l : Nat) (v1 v8 v9 v10 : Value) (h : AH) : R := run V0 (.code 48 [1, 0, 1, 0]) l [E, S v1, E, E, E, E, E, E, S v8, S v9, S v10, E, E, E, E, E, E, E, E, E, E] h
/-- (loop.example/hubbub/impl.Room).owners, loop 0 -/
noncomputable def L49_0 (l : Nat) (v3 v7 v8 v9 : Value) (h : AH) : R := run V0 (.code 49 [1, 1, 0, 1, 0]) l [E, E, E, S v3, E, E, E, S v7, S v8, S v9, E, E, E, E, E, E, E, E, E, E] h
/-- loop.example/hubbub/spec.l8Room, loop 0 -/
noncomputable def L51_0 (l : Nat) (v0 v1 v4 v5 v6 : Value) (h : AH) : R := run V0 (.code 51 [1, 1, 0, 1, 0]) l [S v0, S v1, E, E, S v4, S v5, S v6, E, E, E, E, E, E, E, E, E, E, E, E, E, E, E, E, E, E, E, E, E, E] h
/-- loop.example/hubbub/spec.l16Log, loop 0 -/
noncomputable def L52_0 (l : Nat) (v0 v3 v4 v5 : Value) (h : AH) : R := run V0 (.code 52 [1, 1, 1, 0, 1, 0]) l [S v0, E, E, S v3, S v4, S v5, E, E, E, E, E, E, E, E, E, E, E, E, E, E, E, E, E, E, E, E, E, E, E, E, E, E, E, E, E, E, E, E, E, E, E, E, E, E, E, E, E, E, E, E, E, E, E, E, E, E, E, E, E, E, E, E, E, E, E, E, E, E, E, E, E, E, E, E, E, E, E, E, E, E, E, E, E, E, E, E, E, E, E, E, E, E] h
/-- loop.example/hubbub/spec.l16Log, loop 1 -/
noncomputable def L52_1 (l : Nat) (v0 v3 v9 : Value) (h : AH) : R := run V0 (.code 52 [1, 1, 1, 1, 0, 1, 0]) l [S v0, E, E, S v3, E, E, E, E, E, S v9, E, E, E, E, E, E, E, E, E, E, E, E, E, E, E, E, E, E, E, E, E, E, E, E, E, E, E, E, E, E, E, E, E, E, E, E, E, E, E, E, E, E, E, E, E, E, E, E, E, E, E, E, E, E, E, E, E, E, E, E, E, E, E, E, E, E, E, E, E, E, E, E, E, E, E, E, E, E, E, E, E, E] h
/-- loop.example/hubbub/spec.l4User, loop 0 -/
noncomputable def L55_0 (l : Nat) (v0 v3 : Value) (h : AH) : R := run V0 (.code 55 [1, 0, 1, 0]) l [S v0, E, E, S v3, E, E, E, E, E, E, E, E, E, E, E, E, E, E, E, E, E, E, E, E, E, E, E, E, E, E, E, E, E, E, E, E] h
/-- loop.example/hubbub/spec.l6MembersOk, loop 0 -/
noncomputable def L58_0 (l : Nat) (v1 v3 : Value) (h : AH) : R := run V0 (.code 58 [1, 0, 1, 0]) l [E, S v1, E, S v3, E, E, E, E, E, E, E, E, E, E, E, E, E, E, E, E, E, E, E, E, E, E, E, E, E, E, E, E, E, E, E, E, E, E, E, E, E, E, E, E, E, E, E, E, E, E, E, E, E, E, E, E, E, E, E, E] h
/-- loop.example/hubbub/spec.l6RanksOk, loop 0 -/
noncomputable def L59_0 (l : Nat) (v1 v3 : Value) (h : AH) : R := run V0 (.code 59 [1, 0, 1, 0]) l [E, S v1, E, S v3, E, E, E, E, E, E, E, E, E, E, E, E, E, E, E, E, E, E, E, E, E, E, E, E, E, E, E, E, E, E, E, E, E, E, E, E, E, E, E, E, E, E, E, E, E, E, E, E] h
/-- loop.example/hubbub/spec.l6Owners, loop 0 -/
noncomputable def L60_0 (l : Nat) (v1 v3 v4 : Value) (h : AH) : R := run V0 (.code 60 [1, 1, 0, 1, 0]) l [E, S v1, E, S v3, S v4, E, E, E, E, E, E, E, E, E, E, E, E, E, E, E, E, E] h
/-- loop.example/hubbub/spec.l8Field, loop 0 -/
noncomputable def L62_0 (l : Nat) (v0 v3 v4 : Value) (h : AH) : R := run V0 (.code 62 [1, 1, 0, 1, 0]) l [S v0, E, E, S v3, S v4, E, E, E, E, E, E, E, E, E, E, E, E, E, E, E, E, E, E, E, E, E, E, E, E, E, E] h
/-- loop.example/hubbub/spec.l8Fields, loop 0 -/
noncomputable def L73_0 (l : Nat) (v0 v3 v4 : Value) (h : AH) : R := run V0 (.code 73 [1, 1, 0, 1, 0]) l [S v0, E, E, S v3, S v4, E, E, E, E, E, E, E, E, E, E, E, E, E, E, E, E, E, E, E, E, E, E, E, E, E, E, E, E, E, E, E, E, E, E, E, E, E, E, E, E, E, E, E, E, E, E, E, E, E, E, E, E, E, E, E, E, E, E, E, E] h
/-- loop.example/hubbub/spec.l1Num, loop 0 -/
noncomputable def L74_0 (l : Nat) (v0 v3 v4 : Value) (h : AH) : R := run V0 (.code 74 [1, 1, 0, 1, 0]) l [S v0, E, E, S v3, S v4, E, E, E, E, E, E, E, E, E, E, E, E, E, E, E, E, E, E, E, E, E, E, E, E, E, E, E, E, E, E, E, E, E, E, E, E, E] h
/-- loop.example/hubbub/laws.markText, loop 0 -/
noncomputable def L82_0 (l : Nat) (v0 v3 : Value) (h : AH) : R := run V0 (.code 82 [1, 1, 1, 0, 0]) l [S v0, E, E, S v3, E, E, E, E, E, E, E, E, E, E, E, E, E, E, E, E] h
/-- loop.example/hubbub/impl.TextOk, loop 0 -/
noncomputable def L90_0 (l : Nat) (v0 : Value) (h : AH) : R := run V0 (.code 90 [1, 0, 0]) l [S v0, E, E, E, E, E, E, E, E, E, E, E, E, E, E, E, E, E] h
/-- slices.IndexFunc[[]loop.example/hubbub/impl.Member,loop.example/hubbub/impl.Member], loop 0 -/
noncomputable def L91_0 (l : Nat) (v0 v1 v7 v8 : Value) (h : AH) : R := run V0 (.code 91 [1, 0, 1, 0]) l [S v0, S v1, E, E, E, E, E, S v7, S v8, E, E, E, E, E, E, E, E, E, E] h
/-- loop.example/hubbub/spec.l1Utf, loop 0 -/
noncomputable def L99_0 (l : Nat) (v0 v3 : Value) (h : AH) : R := run V0 (.code 99 [1, 1, 0, 0]) l [S v0, E, E, S v3, E, E, E, E, E, E, E, E, E, E, E, E, E, E, E, E, E] h
/-- loop.example/hubbub/spec.l4Nick, loop 0 -/
noncomputable def L100_0 (l : Nat) (v0 v3 : Value) (h : AH) : R := run V0 (.code 100 [1, 0, 1, 0]) l [S v0, E, E, S v3, E, E, E, E, E, E, E, E, E, E, E, E, E, E, E, E, E, E, E, E, E, E, E, E, E, E, E, E, E, E, E, E, E, E, E, E] h
/-- loop.example/hubbub/spec.l6Of, loop 0 -/
noncomputable def L101_0 (l : Nat) (v1 v2 v5 : Value) (h : AH) : R := run V0 (.code 101 [1, 0, 1, 0]) l [E, S v1, S v2, E, E, S v5, E, E, E, E, E, E, E, E, E, E, E, E, E, E, E, E] h
/-- loop.example/hubbub/spec.l6Nick, loop 0 -/
noncomputable def L102_0 (l : Nat) (v1 v2 v5 : Value) (h : AH) : R := run V0 (.code 102 [1, 0, 1, 0]) l [E, S v1, S v2, E, E, S v5, E, E, E, E, E, E, E, E, E, E, E, E, E, E, E, E] h
/-- loop.example/hubbub/spec.l6Rank, loop 0 -/
noncomputable def L103_0 (l : Nat) (v1 v2 v5 : Value) (h : AH) : R := run V0 (.code 103 [1, 0, 1, 0]) l [E, S v1, S v2, E, E, S v5, E, E, E, E, E, E, E, E, E, E, E, E, E, E, E, E, E, E, E, E, E] h
/-- loop.example/hubbub/spec.l6Ranked, loop 0 -/
noncomputable def L115_0 (l : Nat) (v0 v1 v2 v7 v8 v9 : Value) (h : AH) : R := run V0 (.code 115 [1, 1, 1, 0, 1, 0]) l [S v0, S v1, S v2, E, E, E, E, S v7, S v8, S v9, E, E, E, E, E, E, E, E, E, E, E, E, E, E, E, E, E, E, E, E, E, E, E, E, E, E, E, E, E, E, E, E, E, E, E, E, E, E, E, E, E, E, E, E, E, E, E, E, E] h
/-- loop.example/hubbub/spec.l1Next, loop 0 -/
noncomputable def L119_0 (l : Nat) (v0 v1 v6 v7 v8 : Value) (h : AH) : R := run V0 (.code 119 [1, 1, 1, 1, 0, 1, 0]) l [S v0, S v1, E, E, E, E, S v6, S v7, S v8, E, E, E, E, E, E, E, E, E, E, E, E, E, E, E, E, E, E, E, E, E, E, E, E, E, E, E, E, E, E, E, E, E, E, E, E, E, E, E, E, E, E, E, E, E, E, E, E, E, E, E, E, E, E, E, E, E, E, E, E, E, E, E, E] h
/-- (*strings.Replacer).build, loop 0 -/
noncomputable def L126_0 (l : Nat) (v3 v4 v5 : Value) (h : AH) : R := run V0 (.code 126 [1, 1, 1, 1, 0, 1, 0]) l [E, E, E, S v3, S v4, S v5, E, E, E, E, E, E, E, E, E, E, E, E, E, E, E, E, E, E, E, E, E, E, E, E, E, E, E, E, E, E, E, E, E, E, E, E, E, E, E, E, E, E, E, E, E, E, E, E, E, E, E, E, E, E, E, E, E, E, E, E, E, E, E, E, E, E, E, E, E, E, E, E, E, E, E, E, E, E, E, E, E, E, E, E, E, E, E, E, E, E, E, E, E, E, E, E, E, E, E, E, E, E, E, E, E, E, E, E, E, E, E, E, E, E, E, E, E, E, E, E, E, E, E, E, E, E] h
/-- (*strings.Replacer).build, loop 1 -/
noncomputable def L126_1 (l : Nat) (v3 v6 v61 : Value) (h : AH) : R := run V0 (.code 126 [1, 1, 1, 1, 1, 0, 1, 0, 1, 0, 1, 0]) l [E, E, E, S v3, E, E, S v6, E, E, E, E, E, E, E, E, E, E, E, E, E, E, E, E, E, E, E, E, E, E, E, E, E, E, E, E, E, E, E, E, E, E, E, E, E, E, E, E, E, E, E, E, E, E, E, E, E, E, E, E, E, E, S v61, E, E, E, E, E, E, E, E, E, E, E, E, E, E, E, E, E, E, E, E, E, E, E, E, E, E, E, E, E, E, E, E, E, E, E, E, E, E, E, E, E, E, E, E, E, E, E, E, E, E, E, E, E, E, E, E, E, E, E, E, E, E, E, E, E, E, E, E, E, E] h
/-- (*strings.Replacer).build, loop 2 -/
noncomputable def L126_2 (l : Nat) (v3 v6 v8 : Value) (h : AH) : R := run V0 (.code 126 [1, 1, 1, 1, 1, 0, 1, 0, 1, 1, 0, 1, 0]) l [E, E, E, S v3, E, E, S v6, E, S v8, E, E, E, E, E, E, E, E, E, E, E, E, E, E, E, E, E, E, E, E, E, E, E, E, E, E, E, E, E, E, E, E, E, E, E, E, E, E, E, E, E, E, E, E, E, E, E, E, E, E, E, E, E, E, E, E, E, E, E, E, E, E, E, E, E, E, E, E, E, E, E, E, E, E, E, E, E, E, E, E, E, E, E, E, E, E, E, E, E, E, E, E, E, E, E, E, E, E, E, E, E, E, E, E, E, E, E, E, E, E, E, E, E, E, E, E, E, E, E, E, E, E, E] h
/-- (*strings.Replacer).build, loop 3 -/
noncomputable def L126_3 (l : Nat) (v3 v11 v12 : Value) (h : AH) : R := run V0 (.code 126 [1, 1, 1, 1, 1, 1, 1, 0, 1, 0]) l [E, E, E, S v3, E, E, E, E, E, E, E, S v11, S v12, E, E, E, E, E, E, E, E, E, E, E, E, E, E, E, E, E, E, E, E, E, E, E, E, E, E, E, E, E, E, E, E, E, E, E, E, E, E, E, E, E, E, E, E, E, E, E, E, E, E, E, E, E, E, E, E, E, E, E, E, E, E, E, E, E, E, E, E, E, E, E, E, E, E, E, E, E, E, E, E, E, E, E, E, E, E, E, E, E, E, E, E, E, E, E, E, E, E, E, E, E, E, E, E, E, E, E, E, E, E, E, E, E, E, E, E, E, E, E] h
/-- loop.example/hubbub/spec.l6Said, loop 0 -/
noncomputable def L138_0 (l : Nat) (v0 v1 v2 v3 v9 : Value) (h : AH) : R := run V0 (.code 138 [1, 0, 1, 0]) l [S v0, S v1, S v2, S v3, E, E, E, E, E, S v9, E, E, E, E, E, E, E, E, E, E, E, E, E, E, E, E, E, E, E, E, E, E, E, E, E, E, E, E, E, E, E, E, E, E, E, E, E] h
/-- (*strings.byteStringReplacer).Replace, loop 0 -/
noncomputable def L215_0 (l : Nat) (v0 v1 v5 v6 v30 v31 v32 : Value) (h : AH) : R := run V0 (.code 215 [1, 1, 1, 0, 1, 0, 1, 0]) l [S v0, S v1, E, E, E, S v5, S v6, E, E, E, E, E, E, E, E, E, E, E, E, E, E, E, E, E, E, E, E, E, E, E, S v30, S v31, S v32, E, E, E, E, E, E, E, E, E, E, E, E, E, E, E, E, E, E, E, E, E, E, E, E, E, E, E, E, E, E, E, E, E, E, E, E, E, E, E, E, E, E, E, E, E, E, E, E, E, E, E, E, E, E, E, E, E, E, E, E, E, E, E, E, E, E, E, E, E, E, E, E, E, E, E, E, E, E, E, E, E, E, E, E, E, E, E, E, E] h
/-- (*strings.byteStringReplacer).Replace, loop 1 -/
noncomputable def L215_1 (l : Nat) (v0 v1 v5 v6 v10 : Value) (h : AH) : R := run V0 (.code 215 [1, 1, 1, 0, 1, 1, 1, 0]) l [S v0, S v1, E, E, E, S v5, S v6, E, E, E, S v10, E, E, E, E, E, E, E, E, E, E, E, E, E, E, E, E, E, E, E, E, E, E, E, E, E, E, E, E, E, E, E, E, E, E, E, E, E, E, E, E, E, E, E, E, E, E, E, E, E, E, E, E, E, E, E, E, E, E, E, E, E, E, E, E, E, E, E, E, E, E, E, E, E, E, E, E, E, E, E, E, E, E, E, E, E, E, E, E, E, E, E, E, E, E, E, E, E, E, E, E, E, E, E, E, E, E, E, E, E, E, E] h
/-- (*strings.byteStringReplacer).Replace, loop 2 -/
noncomputable def L215_2 (l : Nat) (v0 v1 v12 v13 v14 : Value) (h : AH) : R := run V0 (.code 215 [1, 1, 1, 1, 1, 1, 1, 0, 1, 0]) l [S v0, S v1, E, E, E, E, E, E, E, E, E, E, S v12, S v13, S v14, E, E, E, E, E, E, E, E, E, E, E, E, E, E, E, E, E, E, E, E, E, E, E, E, E, E, E, E, E, E, E, E, E, E, E, E, E, E, E, E, E, E, E, E, E, E, E, E, E, E, E, E, E, E, E, E, E, E, E, E, E, E, E, E, E, E, E, E, E, E, E, E, E, E, E, E, E, E, E, E, E, E, E, E, E, E, E, E, E, E, E, E, E, E, E, E, E, E, E, E, E, E, E, E, E, E, E] h
theorem XL : (∀ l v1 v3 v25 v26 v27 h, run V0 (.code 10 [1, 1, 1, 0, 1, 0]) l [E, S v1, E, S v3, E, E, E, E, E, E, E, E, E, E, E, E, E, E, E, E, E, E, E, E, E, S v25, S v26, S v27, E, E, E, E, E, E, E, E, E, E, E, E, E, E, E, E, E, E, E, E, E, E, E, E, E, E, E, E, E, E, E, E, E] h = L10_0 l v1 v3 v25 v26 v27 h) ∧
  (∀ l v3 v44 v45 v46 h, run V0 (.code 10 [1, 1, 1, 1, 0, 1, 0]) l [E, E, E, S v3, E, E, E, E, E, E, E, E, E, E, E, E, E, E, E, E, E, E, E, E, E, E, E, E, E, E, E, E, E, E, E, E, E, E, E, E, E, E, E, E, S v44, S v45, S v46, E, E, E, E, E, E, E, E, E, E, E, E, E, E] h = L10_1 l v3 v44 v45 v46 h) ∧
  (∀ l v0 v2 v4 v5 v58 v59 h, run V0 (.code 13 [1, 1, 1, 1, 1, 1, 1, 0, 1, 0]) l [S v0, E, S v2, E, S v4, S v5, E, E, E, E, E, E, E, E, E, E, E, E, E, E, E, E, E, E, E, E, E, E, E, E, E, E, E, E, E, E, E, E, E, E, E, E, E, E, E, E, E, E, E, E, E, E, E, E, E, E, E, E, S v58, S v59, E, E, E, E, E, E, E, E, E, E, E, E, E, E, E, E, E, E, E, E, E, E, E, E, E, E, E, E, E, E, E, E, E, E, E, E, E, E, E, E, E, E, E, E, E, E, E, E, E, E] h = L13_0 l v0 v2 v4 v5 v58 v59 h) ∧
  (∀ l v0 v2 v4 v5 h, run V0 (.code 13 [1, 1, 1, 1, 1, 1, 1, 1, 0, 0]) l [S v0, E, S v2, E, S v4, S v5, E, E, E, E, E, E, E, E, E, E, E, E, E, E, E, E, E, E, E, E, E, E, E, E, E, E, E, E, E, E, E, E, E, E, E, E, E, E, E, E, E, E, E, E, E, E, E, E, E, E, E, E, E, E, E, E, E, E, E, E, E, E, E, E, E, E, E, E, E, E, E, E, E, E, E, E, E, E, E, E, E, E, E, E, E, E, E, E, E, E, E, E, E, E, E, E, E, E, E, E, E, E, E, E] h = L13_1 l v0 v2 v4 v5 h) ∧
  (∀ l v1 v36 v37 v38 h, run V0 (.code 17 [1, 1, 0, 1, 0]) l [E, S v1, E, E, E, E, E, E, E, E, E, E, E, E, E, E, E, E, E, E, E, E, E, E, E, E, E, E, E, E, E, E, E, E, E, E, S v36, S v37, S v38, E, E, E, E, E, E, E, E, E, E, E, E, E, E, E, E, E, E, E, E, E, E, E, E, E, E, E, E, E, E, E, E, E, E, E, E, E, E, E, E, E, E, E, E, E, E, E, E, E, E, E, E, E, E, E, E, E, E, E, E, E, E, E, E, E, E, E, E, E, E, E, E, E, E, E, E, E, E, E, E, E, E, E, E, E, E, E, E, E, E, E, E, E, E, E, E, E, E, E, E, E, E, E, E, E, E, E, E, E] h = L17_0 l v1 v36 v37 v38 h) ∧
  (∀ l v1 v84 v85 v86 h, run V0 (.code 17 [1, 1, 1, 0, 1, 0]) l [E, S v1, E, E, E, E, E, E, E, E, E, E, E, E, E, E, E, E, E, E, E, E, E, E, E, E, E, E, E, E, E, E, E, E, E, E, E, E, E, E, E, E, E, E, E, E, E, E, E, E, E, E, E, E, E, E, E, E, E, E, E, E, E, E, E, E, E, E, E, E, E, E, E, E, E, E, E, E, E, E, E, E, E, E, S v84, S v85, S v86, E, E, E, E, E, E, E, E, E, E, E, E, E, E, E, E, E, E, E, E, E, E, E, E, E, E, E, E, E, E, E, E, E, E, E, E, E, E, E, E, E, E, E, E, E, E, E, E, E, E, E, E, E, E, E, E, E, E, E, E, E] h = L17_1 l v1 v84 v85 v86 h) ∧
  (∀ l v2 v3 v5 h, run V0 (.code 18 [1, 1, 0, 1, 0]) l [E, E, S v2, S v3, E, S v5, E, E, E, E, E, E, E, E, E, E, E, E, E, E, E, E, E, E, E, E, E, E, E, E, E, E, E, E, E, E, E, E, E, E, E, E, E, E, E, E, E, E, E, E, E, E, E, E, E, E, E, E, E, E, E, E, E, E, E, E, E, E, E, E, E, E, E, E, E, E, E, E, E, E] h = L18_0 l v2 v3 v5 h) ∧
  (∀ l v2 v3 v6 h, run V0 (.code 18 [1, 1, 1, 0, 1, 0]) l [E, E, S v2, S v3, E, E, S v6, E, E, E, E, E, E, E, E, E, E, E, E, E, E, E, E, E, E, E, E, E, E, E, E, E, E, E, E, E, E, E, E, E, E, E, E, E, E, E, E, E, E, E, E, E, E, E, E, E, E, E, E, E, E, E, E, E, E, E, E, E, E, E, E, E, E, E, E, E, E, E, E, E] h = L18_1 l v2 v3 v6 h) ∧
  (∀ l v0 v1 v5 h, run V0 (.code 20 [1, 1, 1, 0, 1, 0]) l [S v0, S v1, E, E, E, S v5, E, E, E, E, E, E, E, E, E, E, E, E, E, E, E, E, E, E, E, E, E] h = L20_0 l v0 v1 v5 h) ∧
  (∀ l v0 v1 v5 h, run V0 (.code 21 [1, 1, 1, 0, 1, 0]) l [S v0, S v1, E, E, E, S v5, E, E, E, E, E, E, E, E, E, E, E, E, E, E, E, E, E, E, E, E, E] h = L21_0 l v0 v1 v5 h) ∧
  (∀ l v1 v3 v4 h, run V0 (.code 23 [1, 1, 1, 0, 1, 0]) l [E, S v1, E, S v3, S v4, E, E, E, E, E, E, E, E, E, E, E, E, E, E, E, E, E, E, E, E, E, E, E, E, E, E, E, E, E, E, E, E, E, E, E, E, E, E, E, E, E, E, E, E, E, E, E, E, E, E, E, E, E, E, E, E, E, E, E, E, E, E, E, E, E, E, E, E, E, E, E, E, E, E, E, E, E, E, E, E] h = L23_0 l v1 v3 v4 h) ∧
  (∀ l v1 v3 v5 h, run V0 (.code 23 [1, 1, 1, 1, 0, 1, 0]) l [E, S v1, E, S v3, E, S v5, E, E, E, E, E, E, E, E, E, E, E, E, E, E, E, E, E, E, E, E, E, E, E, E, E, E, E, E, E, E, E, E, E, E, E, E, E, E, E, E, E, E, E, E, E, E, E, E, E, E, E, E, E, E, E, E, E, E, E, E, E, E, E, E, E, E, E, E, E, E, E, E, E, E, E, E, E, E, E] h = L23_1 l v1 v3 v5 h) ∧
  (∀ l v0 v3 v4 h, run V0 (.code 24 [1, 1, 0, 1, 0]) l [S v0, E, E, S v3, S v4, E, E, E, E, E, E, E, E, E, E, E, E, E, E, E, E, E, E] h = L24_0 l v0 v3 v4 h) ∧
  (∀ l v0 v3 v4 h, run V0 (.code 25 [1, 1, 0, 1, 0]) l [S v0, E, E, S v3, S v4, E, E, E, E, E, E, E, E, E, E, E, E, E, E, E, E, E, E] h = L25_0 l v0 v3 v4 h) ∧
  (∀ l v0 v1 v5 h, run V0 (.code 29 [1, 1, 0, 1, 0]) l [S v0, S v1, E, E, E, S v5, E, E, E, E, E, E, E, E, E, E, E, E, E, E, E, E, E, E, E, E, E] h = L29_0 l v0 v1 v5 h) ∧
  (∀ l v0 v1 v5 h, run V0 (.code 30 [1, 1, 0, 1, 0]) l [S v0, S v1, E, E, E, S v5, E, E, E, E, E, E, E, E, E, E, E, E, E, E, E, E, E, E, E, E, E] h = L30_0 l v0 v1 v5 h) ∧
  (∀ l v0 v2 v4 v5 v6 v7 h, run V0 (.code 31 [1, 1, 1, 1, 1, 1, 0, 0]) l [S v0, E, S v2, E, S v4, S v5, S v6, S v7, E, E, E, E, E, E, E, E, E, E, E, E, E, E, E, E, E, E, E, E, E, E, E, E, E, E, E, E, E, E, E, E, E, E, E, E, E, E, E, E, E, E, E, E, E, E, E, E, E, E, E, E, E, E, E, E, E, E, E, E, E, E, E, E, E, E, E, E, E, E, E, E, E, E, E, E, E, E, E, E, E, E, E, E, E, E, E, E, E] h = L31_0 l v0 v2 v4 v5 v6 v7 h) ∧
  (∀ l v0 v2 v4 v5 v7 h, run V0 (.code 31 [1, 1, 1, 1, 1, 1, 1, 0, 0]) l [S v0, E, S v2, E, S v4, S v5, E, S v7, E, E, E, E, E, E, E, E, E, E, E, E, E, E, E, E, E, E, E, E, E, E, E, E, E, E, E, E, E, E, E, E, E, E, E, E, E, E, E, E, E, E, E, E, E, E, E, E, E, E, E, E, E, E, E, E, E, E, E, E, E, E, E, E, E, E, E, E, E, E, E, E, E, E, E, E, E, E, E, E, E, E, E, E, E, E, E, E, E] h = L31_1 l v0 v2 v4 v5 v7 h) ∧
  (∀ l v0 v3 v4 v5 h, run V0 (.code 32 [1, 1, 1, 0, 1, 0]) l [S v0, E, E, S v3, S v4, S v5, E, E, E, E, E, E, E, E, E, E, E, E, E, E, E, E, E, E, E, E, E, E, E, E, E, E, E, E, E, E, E, E, E, E, E, E, E, E, E, E, E, E, E] h = L32_0 l v0 v3 v4 v5 h) ∧
  (∀ l v0 v1 v5 h, run V0 (.code 36 [1, 0, 1, 0]) l [S v0, S v1, E, E, E, S v5, E, E, E, E, E, E, E, E, E, E, E, E, E, E, E, E, E, E, E, E, E, E, E, E, E, E, E, E, E, E] h = L36_0 l v0 v1 v5 h) ∧
  (∀ l v0 v1 v5 h, run V0 (.code 37 [1, 0, 1, 0]) l [S v0, S v1, E, E, E, S v5, E, E, E, E, E, E, E, E, E, E, E, E, E, E, E, E, E, E, E, E, E, E] h = L37_0 l v0 v1 v5 h) ∧
  (∀ l v0 v1 v5 h, run V0 (.code 38 [1, 0, 1, 0]) l [S v0, S v1, E, E, E, S v5, E, E, E, E, E, E, E, E, E, E, E, E, E, E, E, E, E, E, E, E, E, E, E, E, E, E, E, E, E, E, E, E, E, E, E, E] h = L38_0 l v0 v1 v5 h) ∧
  (∀ l v0 v1 v5 h, run V0 (.code 39 [1, 0, 1, 0]) l [S v0, S v1, E, E, E, S v5, E, E, E, E, E, E, E, E, E, E, E, E, E, E, E, E, E, E, E, E, E, E, E, E, E, E] h = L39_0 l v0 v1 v5 h) ∧
  (∀ l v0 v6 v7 v8 h, run V0 (.code 42 [1, 0, 1, 0]) l [S v0, E, E, E, E, E, S v6, S v7, S v8, E, E, E, E, E, E, E, E, E, E, E, E, E, E, E, E, E, E, E, E, E, E] h = L42_0 l v0 v6 v7 v8 h) ∧
  (∀ l v0 v6 v7 v8 h, run V0 (.code 45 [1, 0, 1, 0]) l [S v0, E, E, E, E, E, S v6, S v7, S v8, E, E, E, E, E, E, E, E, E, E, E, E, E, E, E, E, E, E, E, E, E, E, E, E, E, E, E, E, E, E] h = L45_0 l v0 v6 v7 v8 h) ∧
  (∀ l v1 v8 v9 v10 h, run V0 (.code 48 [1, 0, 1, 0]) l [E, S v1, E, E, E, E, E, E, S v8, S v9, S v10, E, E, E, E, E, E, E, E, E, E] h = L48_0 l v1 v8 v9 v10 h) ∧
  (∀ l v3 v7 v8 v9 h, run V0 (.code 49 [1, 1, 0, 1, 0]) l [E, E, E, S v3, E, E, E, S v7, S v8, S v9, E, E, E, E, E, E, E, E, E, E] h = L49_0 l v3 v7 v8 v9 h) ∧
  (∀ l v0 v1 v4 v5 v6 h, run V0 (.code 51 [1, 1, 0, 1, 0]) l [S v0, S v1, E, E, S v4, S v5, S v6, E, E, E, E, E, E, E, E, E, E, E, E, E, E, E, E, E, E, E, E, E, E] h = L51_0 l v0 v1 v4 v5 v6 h) ∧
  (∀ l v0 v3 v4 v5 h, run V0 (.code 52 [1, 1, 1, 0, 1, 0]) l [S v0, E, E, S v3, S v4, S v5, E, E, E, E, E, E, E, E, E, E, E, E, E, E, E, E, E, E, E, E, E, E, E, E, E, E, E, E, E, E, E, E, E, E, E, E, E, E, E, E, E, E, E, E, E, E, E, E, E, E, E, E, E, E, E, E, E, E, E, E, E, E, E, E, E, E, E, E, E, E, E, E, E, E, E, E, E, E, E, E, E, E, E, E, E, E] h = L52_0 l v0 v3 v4 v5 h) ∧
  (∀ l v0 v3 v9 h, run V0 (.code 52 [1, 1, 1, 1, 0, 1, 0]) l [S v0, E, E, S v3, E, E, E, E, E, S v9, E, E, E, E, E, E, E, E, E, E, E, E, E, E, E, E, E, E, E, E, E, E, E, E, E, E, E, E, E, E, E, E, E, E, E, E, E, E, E, E, E, E, E, E, E, E, E, E, E, E, E, E, E, E, E, E, E, E, E, E, E, E, E, E, E, E, E, E, E, E, E, E, E, E, E, E, E, E, E, E, E, E] h = L52_1 l v0 v3 v9 h) ∧
  (∀ l v0 v3 h, run V0 (.code 55 [1, 0, 1, 0]) l [S v0, E, E, S v3, E, E, E, E, E, E, E, E, E, E, E, E, E, E, E, E, E, E, E, E, E, E, E, E, E, E, E, E, E, E, E, E] h = L55_0 l v0 v3 h) ∧
  (∀ l v1 v3 h, run V0 (.code 58 [1, 0, 1, 0]) l [E, S v1, E, S v3, E, E, E, E, E, E, E, E, E, E, E, E, E, E, E, E, E, E, E, E, E, E, E, E, E, E, E, E, E, E, E, E, E, E, E, E, E, E, E, E, E, E, E, E, E, E, E, E, E, E, E, E, E, E, E, E] h = L58_0 l v1 v3 h) ∧
  (∀ l v1 v3 h, run V0 (.code 59 [1, 0, 1, 0]) l [E, S v1, E, S v3, E, E, E, E, E, E, E, E, E, E, E, E, E, E, E, E, E, E, E, E, E, E, E, E, E, E, E, E, E, E, E, E, E, E, E, E, E, E, E, E, E, E, E, E, E, E, E, E] h = L59_0 l v1 v3 h) ∧
  (∀ l v1 v3 v4 h, run V0 (.code 60 [1, 1, 0, 1, 0]) l [E, S v1, E, S v3, S v4, E, E, E, E, E, E, E, E, E, E, E, E, E, E, E, E, E] h = L60_0 l v1 v3 v4 h) ∧
  (∀ l v0 v3 v4 h, run V0 (.code 62 [1, 1, 0, 1, 0]) l [S v0, E, E, S v3, S v4, E, E, E, E, E, E, E, E, E, E, E, E, E, E, E, E, E, E, E, E, E, E, E, E, E, E] h = L62_0 l v0 v3 v4 h) ∧
  (∀ l v0 v3 v4 h, run V0 (.code 73 [1, 1, 0, 1, 0]) l [S v0, E, E, S v3, S v4, E, E, E, E, E, E, E, E, E, E, E, E, E, E, E, E, E, E, E, E, E, E, E, E, E, E, E, E, E, E, E, E, E, E, E, E, E, E, E, E, E, E, E, E, E, E, E, E, E, E, E, E, E, E, E, E, E, E, E, E] h = L73_0 l v0 v3 v4 h) ∧
  (∀ l v0 v3 v4 h, run V0 (.code 74 [1, 1, 0, 1, 0]) l [S v0, E, E, S v3, S v4, E, E, E, E, E, E, E, E, E, E, E, E, E, E, E, E, E, E, E, E, E, E, E, E, E, E, E, E, E, E, E, E, E, E, E, E, E] h = L74_0 l v0 v3 v4 h) ∧
  (∀ l v0 v3 h, run V0 (.code 82 [1, 1, 1, 0, 0]) l [S v0, E, E, S v3, E, E, E, E, E, E, E, E, E, E, E, E, E, E, E, E] h = L82_0 l v0 v3 h) ∧
  (∀ l v0 h, run V0 (.code 90 [1, 0, 0]) l [S v0, E, E, E, E, E, E, E, E, E, E, E, E, E, E, E, E, E] h = L90_0 l v0 h) ∧
  (∀ l v0 v1 v7 v8 h, run V0 (.code 91 [1, 0, 1, 0]) l [S v0, S v1, E, E, E, E, E, S v7, S v8, E, E, E, E, E, E, E, E, E, E] h = L91_0 l v0 v1 v7 v8 h) ∧
  (∀ l v0 v3 h, run V0 (.code 99 [1, 1, 0, 0]) l [S v0, E, E, S v3, E, E, E, E, E, E, E, E, E, E, E, E, E, E, E, E, E] h = L99_0 l v0 v3 h) ∧
  (∀ l v0 v3 h, run V0 (.code 100 [1, 0, 1, 0]) l [S v0, E, E, S v3, E, E, E, E, E, E, E, E, E, E, E, E, E, E, E, E, E, E, E, E, E, E, E, E, E, E, E, E, E, E, E, E, E, E, E, E] h = L100_0 l v0 v3 h) ∧
  (∀ l v1 v2 v5 h, run V0 (.code 101 [1, 0, 1, 0]) l [E, S v1, S v2, E, E, S v5, E, E, E, E, E, E, E, E, E, E, E, E, E, E, E, E] h = L101_0 l v1 v2 v5 h) ∧
  (∀ l v1 v2 v5 h, run V0 (.code 102 [1, 0, 1, 0]) l [E, S v1, S v2, E, E, S v5, E, E, E, E, E, E, E, E, E, E, E, E, E, E, E, E] h = L102_0 l v1 v2 v5 h) ∧
  (∀ l v1 v2 v5 h, run V0 (.code 103 [1, 0, 1, 0]) l [E, S v1, S v2, E, E, S v5, E, E, E, E, E, E, E, E, E, E, E, E, E, E, E, E, E, E, E, E, E] h = L103_0 l v1 v2 v5 h) ∧
  (∀ l v0 v1 v2 v7 v8 v9 h, run V0 (.code 115 [1, 1, 1, 0, 1, 0]) l [S v0, S v1, S v2, E, E, E, E, S v7, S v8, S v9, E, E, E, E, E, E, E, E, E, E, E, E, E, E, E, E, E, E, E, E, E, E, E, E, E, E, E, E, E, E, E, E, E, E, E, E, E, E, E, E, E, E, E, E, E, E, E, E, E] h = L115_0 l v0 v1 v2 v7 v8 v9 h) ∧
  (∀ l v0 v1 v6 v7 v8 h, run V0 (.code 119 [1, 1, 1, 1, 0, 1, 0]) l [S v0, S v1, E, E, E, E, S v6, S v7, S v8, E, E, E, E, E, E, E, E, E, E, E, E, E, E, E, E, E, E, E, E, E, E, E, E, E, E, E, E, E, E, E, E, E, E, E, E, E, E, E, E, E, E, E, E, E, E, E, E, E, E, E, E, E, E, E, E, E, E, E, E, E, E, E, E] h = L119_0 l v0 v1 v6 v7 v8 h) ∧
  (∀ l v3 v4 v5 h, run V0 (.code 126 [1, 1, 1, 1, 0, 1, 0]) l [E, E, E, S v3, S v4, S v5, E, E, E, E, E, E, E, E, E, E, E, E, E, E, E, E, E, E, E, E, E, E, E, E, E, E, E, E, E, E, E, E, E, E, E, E, E, E, E, E, E, E, E, E, E, E, E, E, E, E, E, E, E, E, E, E, E, E, E, E, E, E, E, E, E, E, E, E, E, E, E, E, E, E, E, E, E, E, E, E, E, E, E, E, E, E, E, E, E, E, E, E, E, E, E, E, E, E, E, E, E, E, E, E, E, E, E, E, E, E, E, E, E, E, E, E, E, E, E, E, E, E, E, E, E, E] h = L126_0 l v3 v4 v5 h) ∧
  (∀ l v3 v6 v61 h, run V0 (.code 126 [1, 1, 1, 1, 1, 0, 1, 0, 1, 0, 1, 0]) l [E, E, E, S v3, E, E, S v6, E, E, E, E, E, E, E, E, E, E, E, E, E, E, E, E, E, E, E, E, E, E, E, E, E, E, E, E, E, E, E, E, E, E, E, E, E, E, E, E, E, E, E, E, E, E, E, E, E, E, E, E, E, E, S v61, E, E, E, E, E, E, E, E, E, E, E, E, E, E, E, E, E, E, E, E, E, E, E, E, E, E, E, E, E, E, E, E, E, E, E, E, E, E, E, E, E, E, E, E, E, E, E, E, E, E, E, E, E, E, E, E, E, E, E, E, E, E, E, E, E, E, E, E, E, E] h = L126_1 l v3 v6 v61 h) ∧
  (∀ l v3 v6 v8 h, run V0 (.code 126 [1, 1, 1, 1, 1, 0, 1, 0, 1, 1, 0, 1, 0]) l [E, E, E, S v3, E, E, S v6, E, S v8, E, E, E, E, E, E, E, E, E, E, E, E, E, E, E, E, E, E, E, E, E, E, E, E, E, E, E, E, E, E, E, E, E, E, E, E, E, E, E, E, E, E, E, E, E, E, E, E, E, E, E, E, E, E, E, E, E, E, E, E, E, E, E, E, E, E, E, E, E, E, E, E, E, E, E, E, E, E, E, E, E, E, E, E, E, E, E, E, E, E, E, E, E, E, E, E, E, E, E, E, E, E, E, E, E, E, E, E, E, E, E, E, E, E, E, E, E, E, E, E, E, E, E] h = L126_2 l v3 v6 v8 h) ∧
  (∀ l v3 v11 v12 h, run V0 (.code 126 [1, 1, 1, 1, 1, 1, 1, 0, 1, 0]) l [E, E, E, S v3, E, E, E, E, E, E, E, S v11, S v12, E, E, E, E, E, E, E, E, E, E, E, E, E, E, E, E, E, E, E, E, E, E, E, E, E, E, E, E, E, E, E, E, E, E, E, E, E, E, E, E, E, E, E, E, E, E, E, E, E, E, E, E, E, E, E, E, E, E, E, E, E, E, E, E, E, E, E, E, E, E, E, E, E, E, E, E, E, E, E, E, E, E, E, E, E, E, E, E, E, E, E, E, E, E, E, E, E, E, E, E, E, E, E, E, E, E, E, E, E, E, E, E, E, E, E, E, E, E, E] h = L126_3 l v3 v11 v12 h) ∧
  (∀ l v0 v1 v2 v3 v9 h, run V0 (.code 138 [1, 0, 1, 0]) l [S v0, S v1, S v2, S v3, E, E, E, E, E, S v9, E, E, E, E, E, E, E, E, E, E, E, E, E, E, E, E, E, E, E, E, E, E, E, E, E, E, E, E, E, E, E, E, E, E, E, E, E] h = L138_0 l v0 v1 v2 v3 v9 h) ∧
  (∀ l v0 v1 v5 v6 v30 v31 v32 h, run V0 (.code 215 [1, 1, 1, 0, 1, 0, 1, 0]) l [S v0, S v1, E, E, E, S v5, S v6, E, E, E, E, E, E, E, E, E, E, E, E, E, E, E, E, E, E, E, E, E, E, E, S v30, S v31, S v32, E, E, E, E, E, E, E, E, E, E, E, E, E, E, E, E, E, E, E, E, E, E, E, E, E, E, E, E, E, E, E, E, E, E, E, E, E, E, E, E, E, E, E, E, E, E, E, E, E, E, E, E, E, E, E, E, E, E, E, E, E, E, E, E, E, E, E, E, E, E, E, E, E, E, E, E, E, E, E, E, E, E, E, E, E, E, E, E, E] h = L215_0 l v0 v1 v5 v6 v30 v31 v32 h) ∧
  (∀ l v0 v1 v5 v6 v10 h, run V0 (.code 215 [1, 1, 1, 0, 1, 1, 1, 0]) l [S v0, S v1, E, E, E, S v5, S v6, E, E, E, S v10, E, E, E, E, E, E, E, E, E, E, E, E, E, E, E, E, E, E, E, E, E, E, E, E, E, E, E, E, E, E, E, E, E, E, E, E, E, E, E, E, E, E, E, E, E, E, E, E, E, E, E, E, E, E, E, E, E, E, E, E, E, E, E, E, E, E, E, E, E, E, E, E, E, E, E, E, E, E, E, E, E, E, E, E, E, E, E, E, E, E, E, E, E, E, E, E, E, E, E, E, E, E, E, E, E, E, E, E, E, E, E] h = L215_1 l v0 v1 v5 v6 v10 h) ∧
  (∀ l v0 v1 v12 v13 v14 h, run V0 (.code 215 [1, 1, 1, 1, 1, 1, 1, 0, 1, 0]) l [S v0, S v1, E, E, E, E, E, E, E, E, E, E, S v12, S v13, S v14, E, E, E, E, E, E, E, E, E, E, E, E, E, E, E, E, E, E, E, E, E, E, E, E, E, E, E, E, E, E, E, E, E, E, E, E, E, E, E, E, E, E, E, E, E, E, E, E, E, E, E, E, E, E, E, E, E, E, E, E, E, E, E, E, E, E, E, E, E, E, E, E, E, E, E, E, E, E, E, E, E, E, E, E, E, E, E, E, E, E, E, E, E, E, E, E, E, E, E, E, E, E, E, E, E, E, E] h = L215_2 l v0 v1 v12 v13 v14 h) :=
  ⟨fun _ _ _ _ _ _ _ => rfl, fun _ _ _ _ _ _ => rfl, fun _ _ _ _ _ _ _ _ => rfl, fun _ _ _ _ _ _ => rfl, fun _ _ _ _ _ _ => rfl, fun _ _ _ _ _ _ => rfl, fun _ _ _ _ _ => rfl, fun _ _ _ _ _ => rfl, fun _ _ _ _ _ => rfl, fun _ _ _ _ _ => rfl, fun _ _ _ _ _ => rfl, fun _ _ _ _ _ => rfl, fun _ _ _ _ _ => rfl, fun _ _ _ _ _ => rfl, fun _ _ _ _ _ => rfl, fun _ _ _ _ _ => rfl, fun _ _ _ _ _ _ _ _ => rfl, fun _ _ _ _ _ _ _ => rfl, fun _ _ _ _ _ _ => rfl, fun _ _ _ _ _ => rfl, fun _ _ _ _ _ => rfl, fun _ _ _ _ _ => rfl, fun _ _ _ _ _ => rfl, fun _ _ _ _ _ _ => rfl, fun _ _ _ _ _ _ => rfl, fun _ _ _ _ _ _ => rfl, fun _ _ _ _ _ _ => rfl, fun _ _ _ _ _ _ _ => rfl, fun _ _ _ _ _ _ => rfl, fun _ _ _ _ _ => rfl, fun _ _ _ _ => rfl, fun _ _ _ _ => rfl, fun _ _ _ _ => rfl, fun _ _ _ _ _ => rfl, fun _ _ _ _ _ => rfl, fun _ _ _ _ _ => rfl, fun _ _ _ _ _ => rfl, fun _ _ _ _ => rfl, fun _ _ _ => rfl, fun _ _ _ _ _ _ => rfl, fun _ _ _ _ => rfl, fun _ _ _ _ => rfl, fun _ _ _ _ _ => rfl, fun _ _ _ _ _ => rfl, fun _ _ _ _ _ => rfl, fun _ _ _ _ _ _ _ _ => rfl, fun _ _ _ _ _ _ _ => rfl, fun _ _ _ _ _ => rfl, fun _ _ _ _ _ => rfl, fun _ _ _ _ _ => rfl, fun _ _ _ _ _ => rfl, fun _ _ _ _ _ _ _ => rfl, fun _ _ _ _ _ _ _ _ _ => rfl, fun _ _ _ _ _ _ _ => rfl, fun _ _ _ _ _ _ _ => rfl⟩
end Go.Abs
namespace Go.Abs
open Go.Proofs
set_option maxRecDepth 100000

/-- a text of bytes, by its list -/
def B (l : List UInt8) : ByteArray := ⟨⟨l⟩⟩
theorem step0_fn {C f l fr h F c} (hF : Tryz.prog.funcs[f]? = some F) (hb : F.body = some c) (hp : V0.prim f = none) :
    step V0 C (.fn f) l fr h = exec V0 C f l (retK V0.P F) panK c [] ⟨retK V0.P F, fun _ _ _ => none⟩ (fr ++ List.replicate (F.ntmps - fr.length) E) h := by
  have hF' : V0.P.funcs[f]? = some F := hF
  simp only [step, hp, hF', hb]
/-- what a function of the library's does that is taken as one step -/
theorem run_prim {f : Nat} {p : Hnd → Nat → List Value → AH → R} {l : Nat} {vs : List Value} {h : AH} {o : Out} (hp : V0.prim f = some p) (e : p (run V0) l vs h = some o) : run V0 (.fn f) l (vs.map S) h = some o := by
  refine run_step lim0 ?_
  simp only [step, hp]
  rw [← e]
  congr 1
  simp [Function.comp_def]
/-- what is run of a function -/
theorem run_fn {f : Nat} {F : Func} {c : Code} {rs : List ResultVar} {n : Nat} {l : Nat} {fr fr' : Frm} {h : AH} {o : Out} (hF : Tryz.prog.funcs[f]? = some F) (hb : F.body = some c) (hr : F.results.toList = rs) (hn : F.ntmps = n) (hf : padF n fr = fr')
    (e : exec V0 (run V0) f l (retQ V0.P rs) panK c [] ⟨retQ V0.P rs, fun _ _ _ => none⟩ fr' h = some o) (hp : V0.prim f = none := by rfl) : run V0 (.fn f) l fr h = some o := by
  refine run_step lim0 ?_
  rw [step0_fn hF hb hp, padF_eq, hn, hf]
  subst hr
  exact e

theorem V0_cut (f : Nat) (p : List Nat) : V0.cut f (p ++ [1]) = none := by
  show cutT f (p ++ [1]) = none
  simp only [cutT, List.getLast?_append, List.getLast?_singleton, Option.some_or, if_true]
theorem seqK0 (C : Hnd) (f : Nat) (lim : Nat) (X : Frm → AH → R) (p : List Nat) : seqK V0 C f lim (p ++ [1]) X = X := by
  funext fr h; simp only [seqK, V0_cut]
noncomputable def goAt (C : Hnd) (f lim : Nat) (ret : Frm → AH → R) (pan : Value → AH → R) : List Nat → Code → List Nat → (Frm → AH → R) → (Nat → Frm → AH → R) → Frm → AH → R
  | 0 :: is, .seq a b, p, n, x => goAt C f lim ret pan is a (p ++ [0]) (exec V0 C f lim ret pan b (p ++ [1]) ⟨n, x⟩) x
  | 1 :: is, .seq _ b, p, n, x => goAt C f lim ret pan is b (p ++ [1]) n x
  | 0 :: is, .cond _ a _, p, n, x => goAt C f lim ret pan is a (p ++ [0]) n x
  | 1 :: is, .cond _ _ b, p, n, x => goAt C f lim ret pan is b (p ++ [1]) n x
  | 0 :: is, .block id b, p, n, x => goAt C f lim ret pan is b (p ++ [0]) n (fun i => if i = id then n else x i)
  | 0 :: is, .loop b, p, _, x => goAt C f lim ret pan is b (p ++ [0]) (fun fr h => C (.code f p) lim (erase (V0.cut f p) fr) h) x
  | [], .loop b, p, _, x => exec V0 C f lim ret pan b (p ++ [0]) ⟨fun fr h => C (.code f p) lim (erase (V0.cut f p) fr) h, x⟩
  | [], c, p, n, x => exec V0 C f lim ret pan c p ⟨n, x⟩
  | _ :: _, _, _, _, _ => fun _ _ => none
theorem goAt_eq (C : Hnd) (f lim : Nat) (ret : Frm → AH → R) (pan : Value → AH → R) (fr : Frm) (h : AH) (o : Out) : ∀ (is : List Nat) (c : Code) (p : List Nat) (n : Frm → AH → R) (x : Nat → Frm → AH → R),
    goAt C f lim ret pan is c p n x fr h = some o → (match At.go V0 C f lim ret pan is ⟨c, p, ⟨n, x⟩⟩ with
        | some a =>
          match a.c with
          | .loop b => exec V0 C f lim ret pan b (a.p ++ [0]) { a.K with n := fun fr h => C (.code f a.p) lim (erase (V0.cut f a.p) fr) h } fr h
          | c => exec V0 C f lim ret pan c a.p a.K fr h
        | none => none) = some o := by
  intro is
  induction is with
  | nil => intro c p n x e; cases c <;> exact e
  | cons i is ih =>
    intro c p n x e
    cases c <;> rcases i with _ | _ | i <;> first | (simp [goAt] at e; done) | skip
    · have := ih _ _ _ _ e; simp only [At.go, At.sub, seqK0]; exact this
    · exact ih _ _ _ _ e
    · exact ih _ _ _ _ e
    · exact ih _ _ _ _ e
    · exact ih _ _ _ _ e
    · exact ih _ _ _ _ e
/-- what is run from the head of a loop -/
theorem run_code {f : Nat} {F : Func} {c : Code} {rs : List ResultVar} {l : Nat} {p : List Nat} {fr : Frm} {h : AH} {o : Out} (hF : Tryz.prog.funcs[f]? = some F) (hb : F.body = some c) (hr : F.results.toList = rs)
    (e : goAt (run V0) f l (retQ V0.P rs) panK p c [] (retQ V0.P rs) (fun _ _ _ => none) fr h = some o) : run V0 (.code f p) l fr h = some o := by
  refine run_step lim0 ?_
  subst hr
  have := goAt_eq _ _ _ _ _ _ _ _ _ _ _ _ _ e
  have hF' : V0.P.funcs[f]? = some F := hF
  simp only [step, hF', hb]
  exact this
theorem XG {C f lim ret pan} : (∀ is a b p n x, goAt C f lim ret pan (0 :: is) (.seq a b) p n x = goAt C f lim ret pan is a (p ++ [0]) (exec V0 C f lim ret pan b (p ++ [1]) ⟨n, x⟩) x) ∧
  (∀ is a b p n x, goAt C f lim ret pan (1 :: is) (.seq a b) p n x = goAt C f lim ret pan is b (p ++ [1]) n x) ∧
  (∀ is c a b p n x, goAt C f lim ret pan (0 :: is) (.cond c a b) p n x = goAt C f lim ret pan is a (p ++ [0]) n x) ∧
  (∀ is c a b p n x, goAt C f lim ret pan (1 :: is) (.cond c a b) p n x = goAt C f lim ret pan is b (p ++ [1]) n x) ∧
  (∀ is id b p n x, goAt C f lim ret pan (0 :: is) (.block id b) p n x = goAt C f lim ret pan is b (p ++ [0]) n (fun i => if i = id then n else x i)) ∧
  (∀ is b p n x, goAt C f lim ret pan (0 :: is) (.loop b) p n x = goAt C f lim ret pan is b (p ++ [0]) (fun fr h => C (.code f p) lim (erase (V0.cut f p) fr) h) x) ∧
  (∀ b p n x, goAt C f lim ret pan [] (.loop b) p n x = exec V0 C f lim ret pan b (p ++ [0]) ⟨fun fr h => C (.code f p) lim (erase (V0.cut f p) fr) h, x⟩) :=
  ⟨fun _ _ _ _ _ _ => rfl, fun _ _ _ _ _ _ => rfl, fun _ _ _ _ _ _ _ => rfl, fun _ _ _ _ _ _ _ => rfl, fun _ _ _ _ _ _ => rfl, fun _ _ _ _ _ => rfl, fun _ _ _ _ => rfl⟩
theorem X0 {C : Hnd} {f lim : Nat} {ret : Frm → AH → R} {pan : Value → AH → R} : (∀ a b p n x fr h, exec V0 C f lim ret pan (.seq a b) p ⟨n, x⟩ fr h = exec V0 C f lim ret pan a (p ++ [0]) ⟨exec V0 C f lim ret pan b (p ++ [1]) ⟨n, x⟩, x⟩ fr h) ∧
  (∀ id l p n x fr h, exec V0 C f lim ret pan (.region id ⟨l⟩ false) p ⟨n, x⟩ fr h = regN V0 C lim pan ⟨l⟩ l fr h n) ∧
  (∀ p n x fr h, exec V0 C f lim ret pan .skip p ⟨n, x⟩ fr h = n fr h) ∧
  (∀ p K fr h, exec V0 C f lim ret pan .ret p K fr h = ret fr h) ∧
  (∀ i p n x fr h, exec V0 C f lim ret pan (.exit i) p ⟨n, x⟩ fr h = x i fr h) ∧
  (∀ b p K fr h, exec V0 C f lim ret pan (.loop b) p K fr h = C (.code f p) lim (erase (V0.cut f p) fr) h) ∧
  (∀ i b p n x fr h, exec V0 C f lim ret pan (.block i b) p ⟨n, x⟩ fr h = exec V0 C f lim ret pan b (p ++ [0]) ⟨n, fun j => if j = i then n else x j⟩ fr h) ∧
  (∀ c a b p K fr h, exec V0 C f lim ret pan (.cond c a b) p K fr h = onCond (slot fr c) (exec V0 C f lim ret pan a (p ++ [0]) K fr h) (exec V0 C f lim ret pan b (p ++ [1]) K fr h)) := by
  refine ⟨fun a b p n x fr h => ?_, fun _ _ _ _ _ _ _ => rfl, fun _ _ _ _ _ => rfl, fun _ _ _ _ => rfl, fun _ _ _ _ _ _ => rfl, fun _ _ _ _ _ => rfl, fun _ _ _ _ _ _ _ => rfl, fun _ _ _ _ _ _ _ => rfl⟩
  show exec V0 C f lim ret pan a (p ++ [0]) ⟨seqK V0 C f lim (p ++ [1]) (exec V0 C f lim ret pan b (p ++ [1]) ⟨n, x⟩), x⟩ fr h = _
  rw [seqK0]

/-- a slot as an option: so that it is looked at before it is used -/
def slotO (fr : Frm) (x : Operand) : Option Slot := some (slot fr x)
theorem XO : (∀ fr t, slotO fr (.tmp t) = getO fr t) ∧ (∀ fr f, slotO fr (.func f) = some (S (.func (.func f) #[] #[]))) ∧
  (∀ fr k n, slotO fr (.const (.int k n)) = some (S (.int k n))) ∧ (∀ fr b, slotO fr (.const (.bool b)) = some (S (.bool b))) ∧ (∀ fr s, slotO fr (.const (.string s)) = some (S (.string s))) ∧
  (∀ fr, slotO fr (.const (.slice none 0 0)) = some (S (.slice none 0 0))) ∧ (∀ fr, slotO fr (.const (.pointer none)) = some (S (.pointer none))) ∧ (∀ fr, slotO fr (.const .nilIface) = some (S .nilIface)) ∧ (∀ fr, slotO fr (.const .nilFunc) = some (S .nilFunc)) ∧
  (∀ act fr x X, use act (slot fr x) X = match slotO fr x with | some ⟨g, _, v⟩ => useG act g (X v) | none => none) ∧
  (∀ act g u v X, use act ⟨g, u, v⟩ X = useG act g (X v)) ∧
  (∀ fr x A C, onCond (slot fr x) A C = match slotO fr x with | some ⟨g, _, v⟩ => (match v with | .bool b => chk g (match b with | true => A | false => C) | _ => none) | none => none) ∧
  (∀ fr e X, gSp (fr.getD e E) true X = match getO fr e with
    | some ⟨g, u, v⟩ => (match v with
      | .bool b => match u with
        | true => match g with
          | true => match b with | true => X ⟨true, true, .bool true⟩ true | false => X ⟨true, true, .bool false⟩ false
          | false => X ⟨false, true, .bool b⟩ false
        | false => chk g (X ⟨g, false, .bool b⟩ (eqW b true))
      | _ => none)
    | none => none) ∧
  (∀ fr e X, gSp (fr.getD e E) false X = match getO fr e with
    | some ⟨g, u, v⟩ => (match v with
      | .bool b => match u with
        | true => match g with
          | true => match b with | true => X ⟨true, true, .bool true⟩ false | false => X ⟨true, true, .bool false⟩ true
          | false => X ⟨false, true, .bool b⟩ false
        | false => chk g (X ⟨g, false, .bool b⟩ (eqW b false))
      | _ => none)
    | none => none) ∧
  (∀ act fr c a b X, pk act (slot fr c) (slot fr a) (slot fr b) X = match slotO fr c with
    | some ⟨gc, _, vc⟩ => useG act gc (asBool vc fun q => match slotO fr a with
      | some ⟨ga, _, va⟩ => (match slotO fr b with | some ⟨gb, _, vb⟩ => useG act (pickG q ga gb) (X (pickV q va vb)) | none => none)
      | none => none)
    | none => none) := by
  refine ⟨fun _ _ => rfl, fun _ _ => rfl, fun _ _ _ => rfl, fun _ _ => rfl, fun _ _ => rfl, fun _ => rfl, fun _ => rfl, fun _ => rfl, fun _ => rfl, fun _ _ _ _ => rfl, fun _ _ _ _ _ => rfl, fun _ _ _ _ => rfl, fun _ _ _ => rfl, fun _ _ _ => rfl, fun _ _ _ _ _ _ => rfl⟩
/-- where a run is looked at before it goes on: what stands in it is not rewritten -/
inductive Fx (x : R) : Type where
  | mk : Fx x
def Stop (x : R) (_ : Fx x) : R := x
def onB (b : Bool) (x y : R) : R := match b with | true => x | false => y
theorem XOB : (∀ A C (w : Fx A) (u : Fx C), onB true (Stop A w) (Stop C u) = A) ∧ (∀ A C (w : Fx A) (u : Fx C), onB false (Stop A w) (Stop C u) = C) := ⟨fun _ _ _ _ => rfl, fun _ _ _ _ => rfl⟩
theorem XOs : (∀ fr t, slotO fr (.tmp t) = getO fr t) ∧ (∀ fr f, slotO fr (.func f) = some (S (.func (.func f) #[] #[]))) ∧
  (∀ fr k n, slotO fr (.const (.int k n)) = some (S (.int k n))) ∧ (∀ fr b, slotO fr (.const (.bool b)) = some (S (.bool b))) ∧ (∀ fr s, slotO fr (.const (.string s)) = some (S (.string s))) ∧
  (∀ fr, slotO fr (.const (.slice none 0 0)) = some (S (.slice none 0 0))) ∧ (∀ fr, slotO fr (.const (.pointer none)) = some (S (.pointer none))) ∧ (∀ fr, slotO fr (.const .nilIface) = some (S .nilIface)) ∧ (∀ fr, slotO fr (.const .nilFunc) = some (S .nilFunc)) ∧
  (∀ act fr x X, use act (slot fr x) X = match slotO fr x with | some ⟨g, _, v⟩ => useG act g (X v) | none => none) ∧
  (∀ act g u v X, use act ⟨g, u, v⟩ X = useG act g (X v)) ∧
  (∀ fr x A C, onCond (slot fr x) A C = match slotO fr x with | some ⟨g, _, v⟩ => (match v with | .bool b => chk g (onB b (Stop A .mk) (Stop C .mk)) | _ => none) | none => none) ∧
  (∀ fr e X, gSp (fr.getD e E) true X = match getO fr e with
    | some ⟨g, u, v⟩ => (match v with
      | .bool b => match u with
        | true => match g with
          | true => onB b (Stop (X ⟨true, true, .bool true⟩ true) .mk) (Stop (X ⟨true, true, .bool false⟩ false) .mk)
          | false => X ⟨false, true, .bool b⟩ false
        | false => chk g (X ⟨g, false, .bool b⟩ (eqW b true))
      | _ => none)
    | none => none) ∧
  (∀ fr e X, gSp (fr.getD e E) false X = match getO fr e with
    | some ⟨g, u, v⟩ => (match v with
      | .bool b => match u with
        | true => match g with
          | true => onB b (Stop (X ⟨true, true, .bool true⟩ false) .mk) (Stop (X ⟨true, true, .bool false⟩ true) .mk)
          | false => X ⟨false, true, .bool b⟩ false
        | false => chk g (X ⟨g, false, .bool b⟩ (eqW b false))
      | _ => none)
    | none => none) ∧
  (∀ act fr c a b X, pk act (slot fr c) (slot fr a) (slot fr b) X = match slotO fr c with
    | some ⟨gc, _, vc⟩ => useG act gc (asBool vc fun q => match slotO fr a with
      | some ⟨ga, _, va⟩ => (match slotO fr b with | some ⟨gb, _, vb⟩ => useG act (pickG q ga gb) (X (pickV q va vb)) | none => none)
      | none => none)
    | none => none) := by
  refine ⟨fun _ _ => rfl, fun _ _ => rfl, fun _ _ _ => rfl, fun _ _ => rfl, fun _ _ => rfl, fun _ => rfl, fun _ => rfl, fun _ => rfl, fun _ => rfl, fun _ _ _ _ => rfl, fun _ _ _ _ _ => rfl, fun _ _ _ _ => rfl, fun _ _ _ => rfl, fun _ _ _ => rfl, fun _ _ _ _ _ _ => rfl⟩

theorem XS1 : (∀ g X, useG none g X = match g with | true => X | false => none) ∧ (∀ g X, useG (some true) g X = match g with | true => X | false => none) ∧ (∀ g X, useG (some false) g X = X) ∧
  (∀ v, mkS none v = S v) ∧ (∀ a v, mkS (some a) v = ⟨a, true, v⟩) ∧
  (∀ act l X, useL act l X = match l with | [] => X [] | s :: ss => use act s fun v => useL act ss fun vs => X (v :: vs)) ∧
  (∀ act fr X, useO act fr none X = X none) ∧ (∀ act fr x X, useO act fr (some x) X = use act (slot fr x) fun v => opK.asInt2 v fun n => X (some n)) ∧
  (∀ v X, opK.asInt2 v X = match v with | .int _ n => X n | _ => none) ∧
  (∀ b X, chk b X = match b with | true => X | false => none) ∧
  (∀ {α} (x : Option α) d K, oE none x d K = match x with | some v => K v | none => none) ∧ (∀ {α} (x : Option α) d K, oE (some true) x d K = match x with | some v => K v | none => none) ∧ (∀ {α} (x : Option α) d K, oE (some false) x d K = K (x.getD d)) ∧
  (∀ {α} (x : Option α) d K, heapE none x d K = match x with | some v => K v | none => none) ∧ (∀ {α} (x : Option α) d K, heapE (some true) x d K = match x with | some v => K v | none => none) ∧ (∀ {α} (x : Option α) d K, heapE (some false) x d K = K d) ∧
  (∀ x d h K pan, callE none x d h K pan = match x with | some o => (match o with | .ret v h => K v h | .pan v h => pan v h) | none => none) ∧ (∀ x d h K pan, callE (some true) x d h K pan = match x with | some o => (match o with | .ret v h => K v h | .pan v h => pan v h) | none => none) ∧ (∀ x d h K pan, callE (some false) x d h K pan = K d h) ∧
  (∀ v h' h K, mk2 none v h' h K = K (S v) h') ∧ (∀ v h' h K, mk2 (some true) v h' h K = K (S v) h') ∧ (∀ v h' h K, mk2 (some false) v h' h K = K ⟨false, true, undef⟩ h) ∧
  (∀ k v K, asInt k v K = match v with | .int k' n => (match decide (k' = k) with | true => K n | false => none) | _ => none) ∧ (∀ v K, asBool v K = match v with | .bool b => K b | _ => none) ∧ (∀ v K, asStr v K = match v with | .string s => K s | _ => none) ∧ (∀ v K, asTup v K = match v with | .tuple vs => K vs.toList | _ => none) ∧
  (∀ a l K, unc (a :: l) K = K a l) ∧ (∀ X, nilL [] X = X) ∧
  (∀ fr X, force fr X = match fr with | [] => X [] | a :: l => X (a :: l)) := by
  refine ⟨fun g _ => by cases g <;> rfl, fun g _ => by cases g <;> rfl, fun g _ => by cases g <;> rfl, fun _ => rfl, fun _ _ => rfl, fun _ l _ => by cases l <;> rfl, fun _ _ _ => rfl, fun _ _ _ _ => ?_, fun _ _ => rfl, 
    fun b _ => by cases b <;> rfl, fun x _ _ => by cases x <;> rfl, fun x _ _ => by cases x <;> rfl, fun x _ _ => by cases x <;> rfl,
    fun x _ _ => by cases x <;> rfl, fun x _ _ => by cases x <;> rfl, fun x _ _ => by cases x <;> rfl, fun x _ _ _ _ => by rcases x with _ | (_ | _) <;> rfl, fun x _ _ _ _ => by rcases x with _ | (_ | _) <;> rfl, fun _ _ _ _ _ => rfl,
    fun _ _ _ _ => rfl, fun _ _ _ _ => rfl, fun _ _ _ _ => rfl, ?_, fun _ _ => rfl, fun _ _ => rfl, fun _ _ => rfl, fun _ _ _ => rfl, fun _ => rfl, fun _ _ => rfl⟩
  · simp only [useO]; congr 1
  · intro k v K
    cases v <;> try rfl
    rename_i k' n
    by_cases hq : k' = k <;> simp [asInt, hq]

theorem XP : (∀ b, pickG true true b = true) ∧ (∀ a, pickG false a true = true) ∧ (∀ q, pickG q q true = true) ∧ (∀ q, pickG q true (!q) = true) ∧ (∀ q, pickG q true true = true) ∧
  (∀ q x y, pickV q (.bool x) (.bool y) = .bool (cond q x y)) ∧ (∀ q k x y, pickV q (.int k x) (.int k y) = .int k (cond q x y)) ∧ (∀ q x y, pickV q (.string x) (.string y) = .string (cond q x y)) := by
  refine ⟨fun b => by cases b <;> rfl, fun b => by cases b <;> rfl, fun q => by cases q <;> rfl, fun q => by cases q <;> rfl, fun q => by cases q <;> rfl, fun _ _ _ => rfl, fun q k x y => by simp [pickV], fun _ _ _ => rfl⟩

def xorI (k : IntKind) (a b : Int) : Int := k.wrap ((BitVec.ofInt k.bits a ^^^ BitVec.ofInt k.bits b).toNat : Int)
theorem XB : (∀ P t k a b act K, binK P .eql t (.int k a) (.int k b) act K = K (.bool (a == b))) ∧ (∀ P t k a b act K, binK P .neq t (.int k a) (.int k b) act K = K (.bool (a != b))) ∧
  (∀ P t k a b act K, binK P .lss t (.int k a) (.int k b) act K = K (.bool (decide (a < b)))) ∧ (∀ P t k a b act K, binK P .leq t (.int k a) (.int k b) act K = K (.bool (decide (a ≤ b)))) ∧
  (∀ P t k a b act K, binK P .gtr t (.int k a) (.int k b) act K = K (.bool (decide (b < a)))) ∧ (∀ P t k a b act K, binK P .geq t (.int k a) (.int k b) act K = K (.bool (decide (b ≤ a)))) ∧
  (∀ P t k a b act K, binK P .add t (.int k a) (.int k b) act K = K (.int k (k.wrap (a + b)))) ∧ (∀ P t k a b act K, binK P .sub t (.int k a) (.int k b) act K = K (.int k (k.wrap (a - b)))) ∧
  (∀ P t k a b act K, binK P .mul t (.int k a) (.int k b) act K = K (.int k (k.wrap (a * b)))) ∧
  (∀ P t k a b act K, binK P .quo t (.int k a) (.int k b) act K = oE act (if b = 0 then none else some (k.wrap (a.tdiv b))) 0 fun n => K (.int k n)) ∧
  (∀ P t k a b act K, binK P .rem t (.int k a) (.int k b) act K = oE act (if b = 0 then none else some (a.tmod b)) 0 fun n => K (.int k n)) ∧
  (∀ P t a b act K, binK P .eql t (.string a) (.string b) act K = K (.bool (decide (a = b)))) ∧ (∀ P t a b act K, binK P .neq t (.string a) (.string b) act K = K (.bool (!decide (a = b)))) ∧
  (∀ P t a b act K, binK P .add t (.string a) (.string b) act K = oE act (catA a b) ⟨#[]⟩ fun s => K (.string s)) ∧
  (∀ P t a b act K, binK P .lss t (.string a) (.string b) act K = K (.bool (Op.bytesLess a.toList b.toList))) ∧
  (∀ P t a b act K, binK P .geq t (.string a) (.string b) act K = K (.bool (!Op.bytesLess a.toList b.toList))) ∧
  (∀ P t a b act K, binK P .leq t (.string a) (.string b) act K = K (.bool (Op.bytesLess a.toList b.toList || decide (a = b)))) ∧
  (∀ P t k a b act K, binK P .xor t (.int k a) (.int k b) act K = K (.int k (xorI k a b))) ∧
  (∀ b, unA .not (.bool b) = some (.bool !b)) ∧ (∀ k n, unA .neg (.int k n) = some (.int k (k.wrap (0 - n)))) := by
  refine ⟨?_, ?_, ?_, ?_, ?_, ?_, ?_, ?_, ?_, ?_, ?_, fun _ _ _ _ _ _ => rfl, fun _ _ _ _ _ _ => rfl, fun _ _ _ _ _ _ => rfl, fun _ _ _ _ _ _ => rfl, fun _ _ _ _ _ _ => rfl, fun _ _ _ _ _ _ => rfl, ?_, fun _ => rfl, fun _ _ => rfl⟩ <;>
  (intro P t k a b act K; simp only [binK, isCmp, isSh, cmpA, arA, if_true]; try rfl)
  all_goals (split <;> rfl)

theorem XE : (∀ m, eraseB m [] = []) ∧ (∀ s fr, eraseB [] (s :: fr) = E :: eraseB [] fr) ∧ (∀ m s fr, eraseB (true :: m) (s :: fr) = s :: eraseB m fr) ∧ (∀ m s fr, eraseB (false :: m) (s :: fr) = E :: eraseB m fr) :=
  ⟨fun m => by cases m <;> rfl, fun _ _ => rfl, fun _ _ _ => rfl, fun _ _ _ => rfl⟩
theorem XT : (∀ X, noTups [] X = X) ∧ (∀ v vs X, noTups (v :: vs) X = noTup v (noTups vs X)) ∧ (∀ s X, noTup (.string s) X = X) ∧ (∀ k n X, noTup (.int k n) X = X) ∧ (∀ b X, noTup (.bool b) X = X) ∧
  (∀ a n c X, noTup (.slice a n c) X = X) ∧ (∀ p X, noTup (.pointer p) X = X) ∧ (∀ c X, noTup (.agg c) X = X) ∧ (∀ m X, noTup (.map m) X = X) ∧ (∀ t v X, noTup (.iface t v) X = X) ∧ (∀ X, noTup .nilIface X = X) :=
  ⟨fun _ => rfl, fun _ _ _ => rfl, fun _ _ => rfl, fun _ _ _ => rfl, fun _ _ => rfl, fun _ _ _ _ => rfl, fun _ _ => rfl, fun _ _ => rfl, fun _ _ => rfl, fun _ _ _ => rfl, fun _ => rfl⟩

theorem XQ : (∀ fr h, retQ V0.P [] fr h = some (.ret (.tuple #[]) h)) ∧ (∀ t fr h, retQ V0.P [.tmp t] fr h = match getO fr t with | some ⟨g, _, v⟩ => (match g with | true => some (.ret v h) | false => none) | none => none) ∧
  (∀ r q rs fr h, retQ V0.P (r :: q :: rs) fr h = match retL (r :: q :: rs) fr h V0.P with | some vs => some (.ret (.tuple ⟨vs⟩) h) | none => none) ∧
  (∀ a t fr h, retQ V0.P [.cell a t] fr h = match getO fr a with | some ⟨g, _, p⟩ => (match g with | true => (match aggK V0.P t with | some (some n) => (match ldN h p n with | some l => some (.ret (.agg ⟨l⟩) h) | none => none) | some none => (match ld h p with | some v => some (.ret v h) | none => none) | none => none) | false => none) | none => none) ∧
  (∀ fr h, retL [] fr h V0.P = some []) ∧ (∀ t rs fr h, retL (.tmp t :: rs) fr h V0.P = match getO fr t with | some ⟨g, _, v⟩ => (match g with | true => (match retL rs fr h V0.P with | some l => some (v :: l) | none => none) | false => none) | none => none) ∧
  (∀ a t rs fr h, retL (.cell a t :: rs) fr h V0.P = match getO fr a with
    | some ⟨g, _, p⟩ => (match g with
      | true => (match aggK V0.P t with
        | some (some n) => (match ldN h p n with | some l => (match retL rs fr h V0.P with | some r => some (.agg ⟨l⟩ :: r) | none => none) | none => none)
        | some none => (match ld h p with | some v => (match retL rs fr h V0.P with | some r => some (v :: r) | none => none) | none => none)
        | none => none)
      | false => none)
    | none => none) := by
  refine ⟨fun _ _ => rfl, fun t fr h => ?_, fun r q rs fr h => ?_, fun a t fr h => ?_, fun _ _ => rfl, fun t rs fr h => ?_, fun a t rs fr h => ?_⟩
  · simp only [retQ, retL, getO]
    cases (fr.getD t E).g <;> rfl
  · simp only [retQ]
    have key : ∀ vs, retL (r :: q :: rs) fr h V0.P = some vs → ∃ a b l, vs = a :: b :: l := by
      intro vs e
      have one : ∀ r rs vs, retL (r :: rs) fr h V0.P = some vs → ∃ a l, vs = a :: l ∧ retL rs fr h V0.P = some l := by
        intro r rs vs e
        cases r with
        | tmp t =>
          simp only [retL] at e
          split at e
          · obtain ⟨l, hl, rfl⟩ := Option.map_eq_some_iff.1 e; exact ⟨_, _, rfl, hl⟩
          · cases e
        | cell a t =>
          simp only [retL] at e
          split at e
          · obtain ⟨v, hv, e⟩ := Option.bind_eq_some_iff.1 e
            obtain ⟨l, hl, rfl⟩ := Option.map_eq_some_iff.1 e; exact ⟨_, _, rfl, hl⟩
          · cases e
      obtain ⟨a, l, rfl, e1⟩ := one r (q :: rs) vs e
      obtain ⟨b, l, rfl, _⟩ := one q rs l e1
      exact ⟨_, _, _, rfl⟩
    cases hq : retL (r :: q :: rs) fr h V0.P with
    | none => rfl
    | some vs => obtain ⟨a, b, l, rfl⟩ := key vs hq; rfl
  · simp only [retQ, retL, ldT, getO]
    cases (fr.getD a E).g <;> try rfl
    rcases aggK V0.P t with _ | (_ | n) <;> try rfl
    · simp only []; cases ld h (fr.getD a E).v <;> rfl
    · simp only []; cases ldN h (fr.getD a E).v n <;> rfl
  · simp only [retL, getO]
    cases (fr.getD t E).g <;> try rfl
    cases retL rs fr h V0.P <;> rfl
  · simp only [retL, ldT, getO]
    cases (fr.getD a E).g <;> try rfl
    rcases aggK V0.P t with _ | (_ | n) <;> try rfl
    · simp only []; cases ld h (fr.getD a E).v <;> try rfl
      cases retL rs fr h V0.P <;> rfl
    · simp only []; cases ldN h (fr.getD a E).v n <;> try rfl
      cases retL rs fr h V0.P <;> rfl
theorem XF : (∀ place cells, fillA place cells [] = some cells) ∧ (∀ place cells i v rest, fillA place cells ((i, v) :: rest) = match place i with
    | none => none
    | some (off, size) => if (cellsL v).length = size ∧ off + size ≤ cells.length then fillA place (setMany cells off (cellsL v)) rest else none) ∧
  (∀ k n, cellsL (.int k n) = [.int k n]) ∧ (∀ b, cellsL (.bool b) = [.bool b]) ∧ (∀ s, cellsL (.string s) = [.string s]) ∧ (∀ a n c, cellsL (.slice a n c) = [.slice a n c]) ∧ (∀ p, cellsL (.pointer p) = [.pointer p]) ∧ (∀ l, cellsL (.agg ⟨l⟩) = l) ∧ (∀ m, cellsL (.map m) = [.map m]) ∧
  (∀ z, repL 0 z = []) ∧ (∀ n z, repL (n + 1) z = z ++ repL n z) ∧
  (∀ cs off, setMany cs off [] = cs) ∧ (∀ cs off v vs, setMany cs off (v :: vs) = setMany (cs.set off v) (off + 1) vs) ∧ (∀ (a s : Value) l, List.set (a :: l) 0 s = s :: l) ∧ (∀ (a s : Value) l n, List.set (a :: l) (n + 1) s = a :: List.set l n s) :=
  ⟨fun _ _ => rfl, fun _ _ _ _ _ => rfl, fun _ _ => rfl, fun _ => rfl, fun _ => rfl, fun _ _ _ => rfl, fun _ => rfl, fun _ => rfl, fun _ => rfl, fun _ => rfl, fun n z => by simp [repL, List.replicate_succ], fun _ _ => rfl, fun _ _ _ _ => rfl, fun _ _ _ => rfl, fun _ _ _ _ => rfl⟩
set_option linter.defProp false
def XX := And.intro @X0 (And.intro @XO (And.intro @XG (And.intro @XR (And.intro @XO1 (And.intro @XS1 (And.intro @XP (And.intro @XB (And.intro @XQ (And.intro @XT (And.intro @XE (And.intro @XF (And.intro @op_build' (And.intro @op_buildSlice (And.intro @op_alloc (And.intro @op_convert (And.intro @op_makeSlice' (And.intro @op_slice (And.intro @op_indexAddr (And.intro @op_index (And.intro @op_len (And.intro @op_append' (And.intro @op_copy (And.intro @op_sliceData (And.intro @op_string (And.intro @op_min (And.intro @op_max (@op_call)))))))))))))))))))))))))))
def XXs := And.intro @X0 (And.intro @XOs (And.intro @XG (And.intro @XR (And.intro @XO1 (And.intro @XS1 (And.intro @XP (And.intro @XB (And.intro @XQ (And.intro @XT (And.intro @XE (And.intro @XF (And.intro @op_build' (And.intro @op_buildSlice (And.intro @op_alloc (And.intro @op_convert (And.intro @op_makeSlice' (And.intro @op_slice (And.intro @op_indexAddr (And.intro @op_index (And.intro @op_len (And.intro @op_append' (And.intro @op_copy (And.intro @op_sliceData (And.intro @op_string (And.intro @op_min (And.intro @op_max (@op_call)))))))))))))))))))))))))))
theorem frS : (∀ (f : Operand → Slot), List.map f [] = []) ∧ (∀ (f : Operand → Slot) a l, List.map f (a :: l) = f a :: List.map f l) ∧ (∀ (f : Nat × Operand → Slot), List.map f [] = []) ∧ (∀ (f : Nat × Operand → Slot) a l, List.map f (a :: l) = f a :: List.map f l) ∧
  (∀ (f : Nat × Operand → Nat), List.map f [] = []) ∧ (∀ (f : Nat × Operand → Nat) a l, List.map f (a :: l) = f a :: List.map f l) ∧ (∀ (f : Value → Slot), List.map f [] = []) ∧ (∀ (f : Value → Slot) a l, List.map f (a :: l) = f a :: List.map f l) ∧
  (∀ (l : List Nat), [] ++ l = l) ∧ (∀ (a : Nat) l m, (a :: l) ++ m = a :: (l ++ m)) ∧ (∀ (l : List Value), [] ++ l = l) ∧ (∀ (a : Value) l m, (a :: l) ++ m = a :: (l ++ m)) ∧ (∀ (l : List Value), l ++ [] = l) ∧
  (∀ (l : List Value), List.zip ([] : List Nat) l = []) ∧ (∀ (a : Nat) l (b : Value) m, List.zip (a :: l) (b :: m) = (a, b) :: List.zip l m) ∧ (∀ (l : List Value), (⟨l⟩ : Array Value).toList = l) ∧ (∀ (a : Oper) l, (a :: l)[0]? = some a) ∧ (∀ (a : Oper) l n, (a :: l)[n + 1]? = l[n]?) :=
  ⟨fun _ => rfl, fun _ _ _ => rfl, fun _ => rfl, fun _ _ _ => rfl, fun _ => rfl, fun _ _ _ => rfl, fun _ => rfl, fun _ _ _ => rfl, fun _ => rfl, fun _ _ _ => rfl, fun _ => rfl, fun _ _ _ => rfl, fun l => List.append_nil l, fun _ => rfl, fun _ _ _ _ => rfl, fun _ => rfl, fun _ _ => rfl, fun _ _ _ => rfl⟩
theorem YB : (∀ l, (⟨⟨l⟩⟩ : ByteArray) = B l) := fun _ => rfl
def YX := And.intro @YU (And.intro @YA (And.intro @YF (And.intro @YD (And.intro @YW (And.intro @YY (And.intro @XCut (And.intro @XL (And.intro @YB (@frS)))))))))
/-! ### bundles of rewriting rules, so that a text names them by one word -/
theorem ZB : type_of% @fg0 ∧ type_of% @fs0 ∧ type_of% @fg1 ∧ type_of% @fs1 ∧ type_of% @fg2 ∧ type_of% @fs2 ∧ type_of% @fg3 ∧ type_of% @fs3 ∧ type_of% @fg4 ∧ type_of% @fs4 ∧ type_of% @fg5 ∧ type_of% @fs5 ∧ type_of% @fg6 ∧ type_of% @fs6 ∧ type_of% @fg7 ∧ type_of% @fs7 ∧ type_of% @fg8 ∧ type_of% @fs8 ∧
    type_of% @dstOf.eq_1 ∧ type_of% @dstOf.eq_2 ∧ type_of% @dstOf.eq_3 ∧ type_of% @padF.eq_1 ∧ type_of% @padF.eq_2 ∧ type_of% @padF.eq_3 ∧ type_of% @tyL.eq_1 ∧ type_of% @tyL.eq_2 ∧ type_of% @convNum.eq_1 ∧
    type_of% @List.length_cons.{0} ∧ type_of% @List.length_nil.{0} ∧ type_of% @Nat.zero_add ∧ type_of% @Nat.zero_mul ∧ type_of% @Nat.mul_one ∧ type_of% @Nat.le_refl ∧ type_of% @and_self ∧ type_of% @Option.bind_some.{0, 0} ∧ type_of% @Option.map_some.{0, 0} ∧
    type_of% @cond_true.{1} ∧ type_of% @cond_false.{1} ∧ type_of% @decide_true ∧ type_of% @Option.getD_none.{0} ∧ type_of% @Option.getD_some.{0} ∧ type_of% @Option.isNone_some.{0} ∧ type_of% @Option.isNone_none.{0} ∧ type_of% @Option.isSome_some.{0} ∧ type_of% @Bool.or_true ∧ type_of% @Bool.true_or ∧ type_of% @Bool.false_or :=
  ⟨@fg0, @fs0, @fg1, @fs1, @fg2, @fs2, @fg3, @fs3, @fg4, @fs4, @fg5, @fs5, @fg6, @fs6, @fg7, @fs7, @fg8, @fs8,
    @dstOf.eq_1, @dstOf.eq_2, @dstOf.eq_3, @padF.eq_1, @padF.eq_2, @padF.eq_3, @tyL.eq_1, @tyL.eq_2, @convNum.eq_1,
    @List.length_cons, @List.length_nil, @Nat.zero_add, @Nat.zero_mul, @Nat.mul_one, @Nat.le_refl, @and_self, @Option.bind_some, @Option.map_some,
    @cond_true, @cond_false, @decide_true, @Option.getD_none, @Option.getD_some, @Option.isNone_some, @Option.isNone_none, @Option.isSome_some, @Bool.or_true, @Bool.true_or, @Bool.false_or⟩
theorem ZC : type_of% @List.getElem?_cons_zero.{0} ∧ type_of% @List.getElem?_cons_succ.{0} ∧ type_of% @List.all_cons.{0} ∧ type_of% @List.all_nil.{0} ∧ type_of% @Bool.and_self ∧ type_of% @List.drop_zero.{0} ∧ type_of% @List.drop_succ_cons.{0} ∧ type_of% @List.take_succ_cons.{0} ∧ type_of% @List.take_zero.{0} ∧ type_of% @decide_true :=
  ⟨@List.getElem?_cons_zero, @List.getElem?_cons_succ, @List.all_cons, @List.all_nil, @Bool.and_self, @List.drop_zero, @List.drop_succ_cons, @List.take_succ_cons, @List.take_zero, @decide_true⟩
theorem ZE : type_of% @List.nil_append.{0} ∧ type_of% @List.cons_append.{0} ∧ type_of% @List.contains_cons.{0} ∧ type_of% @List.contains_nil.{0} ∧ type_of% @Bool.or_false ∧ type_of% @List.set_set.{0} ∧ type_of% @List.length_append.{0} ∧ type_of% @List.length_set.{0} ∧ type_of% @List.set_cons_succ.{0} ∧ type_of% @List.set_cons_zero.{0} ∧ type_of% @and_true ∧ type_of% @true_and ∧ type_of% @if_true.{1} ∧ type_of% @Bool.and_true ∧ type_of% @Bool.true_and :=
  ⟨@List.nil_append, @List.cons_append, @List.contains_cons, @List.contains_nil, @Bool.or_false, @List.set_set, @List.length_append, @List.length_set, @List.set_cons_succ, @List.set_cons_zero, @and_true, @true_and, @if_true, @Bool.and_true, @Bool.true_and⟩
theorem ZL : type_of% @List.length_append.{0} ∧ type_of% @List.length_set.{0} ∧ type_of% @List.length_cons.{0} ∧ type_of% @List.length_nil.{0} ∧ type_of% @Nat.zero_add :=
  ⟨@List.length_append, @List.length_set, @List.length_cons, @List.length_nil, @Nat.zero_add⟩
end Go.Abs
namespace Go.Abs
open Go.Proofs
theorem XRP {V C lim} {l : List Oper} : (∀ fr h K, regP V C lim ⟨l⟩ [] fr h K = K fr h) ∧ (∀ i is fr h K, regP V C lim ⟨l⟩ ((i, false) :: is) fr h K = match l[i]? with | some o => regN V C lim panN ⟨l⟩ [o] fr h (fun fr h => regP V C lim ⟨l⟩ is fr h K) | none => none) ∧
  (∀ i is fr h K, regP V C lim ⟨l⟩ ((i, true) :: is) fr h K = match l[i]? with | some o => regN V C h.length panN ⟨l⟩ [o] fr h (fun fr h => regP V C lim ⟨l⟩ is fr h K) | none => none) :=
  ⟨fun _ _ _ => rfl, fun i is fr h K => by simp only [regP, List.getElem?_toArray]; cases l[i]? <;> rfl, fun i is fr h K => by simp only [regP, List.getElem?_toArray]; cases l[i]? <;> rfl⟩
theorem XD3_10 {C lim ret pan p n x fr h} {ops : Array Oper} (hd : drawS V0.P ops = some [(0, false), (1, false), (2, true), (3, false), (4, false)]) : exec V0 C 3 lim ret pan (.region 10 ops true) p ⟨n, x⟩ fr h = regP V0 C lim ops [(0, false), (1, false), (2, true), (3, false), (4, false)] fr h n := draw_rule rfl hd
theorem XD10_3 {C lim ret pan p n x fr h} {ops : Array Oper} (hd : drawS V0.P ops = some [(0, false), (1, false), (2, false), (3, false), (5, false), (6, false), (8, false), (9, false), (10, false), (4, true), (7, true), (11, true), (12, false), (13, false)]) : exec V0 C 10 lim ret pan (.region 3 ops true) p ⟨n, x⟩ fr h = regP V0 C lim ops [(0, false), (1, false), (2, false), (3, false), (5, false), (6, false), (8, false), (9, false), (10, false), (4, true), (7, true), (11, true), (12, false), (13, false)] fr h n := draw_rule rfl hd
theorem XD10_7 {C lim ret pan p n x fr h} {ops : Array Oper} (hd : drawS V0.P ops = some [(0, false), (1, false), (2, false), (3, false), (4, false), (6, false), (7, false), (5, true), (8, true), (9, false), (10, false), (11, false)]) : exec V0 C 10 lim ret pan (.region 7 ops true) p ⟨n, x⟩ fr h = regP V0 C lim ops [(0, false), (1, false), (2, false), (3, false), (4, false), (6, false), (7, false), (5, true), (8, true), (9, false), (10, false), (11, false)] fr h n := draw_rule rfl hd
theorem XD10_12 {C lim ret pan p n x fr h} {ops : Array Oper} (hd : drawS V0.P ops = some [(0, false), (1, false), (2, false), (3, false), (4, false), (5, true), (6, false), (7, false), (8, false)]) : exec V0 C 10 lim ret pan (.region 12 ops true) p ⟨n, x⟩ fr h = regP V0 C lim ops [(0, false), (1, false), (2, false), (3, false), (4, false), (5, true), (6, false), (7, false), (8, false)] fr h n := draw_rule rfl hd
theorem XD13_4 {C lim ret pan p n x fr h} {ops : Array Oper} (hd : drawS V0.P ops = some [(0, false), (1, false), (2, false), (3, false), (4, false), (5, false), (7, false), (8, false), (9, false), (6, true), (10, false), (11, false), (12, false)]) : exec V0 C 13 lim ret pan (.region 4 ops true) p ⟨n, x⟩ fr h = regP V0 C lim ops [(0, false), (1, false), (2, false), (3, false), (4, false), (5, false), (7, false), (8, false), (9, false), (6, true), (10, false), (11, false), (12, false)] fr h n := draw_rule rfl hd
theorem XD13_11 {C lim ret pan p n x fr h} {ops : Array Oper} (hd : drawS V0.P ops = some [(0, false), (1, false), (2, false), (3, false), (4, false), (5, false), (6, false), (7, false), (8, false), (9, false), (10, false), (11, true), (12, false), (13, false), (14, false), (15, false), (16, false)]) : exec V0 C 13 lim ret pan (.region 11 ops true) p ⟨n, x⟩ fr h = regP V0 C lim ops [(0, false), (1, false), (2, false), (3, false), (4, false), (5, false), (6, false), (7, false), (8, false), (9, false), (10, false), (11, true), (12, false), (13, false), (14, false), (15, false), (16, false)] fr h n := draw_rule rfl hd
theorem XD13_16 {C lim ret pan p n x fr h} {ops : Array Oper} (hd : drawS V0.P ops = some [(0, false), (1, false), (2, false), (3, false), (4, false), (5, false), (6, false), (7, false), (8, true), (9, false), (10, false), (11, false), (12, false), (13, false)]) : exec V0 C 13 lim ret pan (.region 16 ops true) p ⟨n, x⟩ fr h = regP V0 C lim ops [(0, false), (1, false), (2, false), (3, false), (4, false), (5, false), (6, false), (7, false), (8, true), (9, false), (10, false), (11, false), (12, false), (13, false)] fr h n := draw_rule rfl hd
theorem XD17_12 {C lim ret pan p n x fr h} {ops : Array Oper} (hd : drawS V0.P ops = some [(0, false), (1, false), (2, false), (3, false), (4, false), (5, false), (6, false), (7, false), (8, false), (9, false), (10, false), (11, false), (12, false), (13, false), (14, false), (15, false), (16, false), (17, false), (18, false), (19, false), (20, false), (21, false), (22, false), (23, false), (24, false), (25, false), (26, false), (27, false), (28, false), (29, false), (30, false)]) : exec V0 C 17 lim ret pan (.region 12 ops true) p ⟨n, x⟩ fr h = regP V0 C lim ops [(0, false), (1, false), (2, false), (3, false), (4, false), (5, false), (6, false), (7, false), (8, false), (9, false), (10, false), (11, false), (12, false), (13, false), (14, false), (15, false), (16, false), (17, false), (18, false), (19, false), (20, false), (21, false), (22, false), (23, false), (24, false), (25, false), (26, false), (27, false), (28, false), (29, false), (30, false)] fr h n := draw_rule rfl hd
theorem XD18_6 {C lim ret pan p n x fr h} {ops : Array Oper} (hd : drawS V0.P ops = some [(0, false), (1, false), (2, false), (3, false), (4, false), (5, false), (6, false), (7, false), (8, false), (9, false), (10, false)]) : exec V0 C 18 lim ret pan (.region 6 ops true) p ⟨n, x⟩ fr h = regP V0 C lim ops [(0, false), (1, false), (2, false), (3, false), (4, false), (5, false), (6, false), (7, false), (8, false), (9, false), (10, false)] fr h n := draw_rule rfl hd
theorem XD18_11 {C lim ret pan p n x fr h} {ops : Array Oper} (hd : drawS V0.P ops = some [(0, false), (1, false), (2, false), (3, false), (4, false), (5, false), (6, false), (7, false), (8, false), (9, false), (10, false)]) : exec V0 C 18 lim ret pan (.region 11 ops true) p ⟨n, x⟩ fr h = regP V0 C lim ops [(0, false), (1, false), (2, false), (3, false), (4, false), (5, false), (6, false), (7, false), (8, false), (9, false), (10, false)] fr h n := draw_rule rfl hd
theorem XD23_1 {C lim ret pan p n x fr h} {ops : Array Oper} (hd : drawS V0.P ops = some [(0, false), (1, false), (2, false), (3, false), (4, false), (8, false), (9, false), (5, true), (6, false), (7, false), (10, true), (11, false), (12, false)]) : exec V0 C 23 lim ret pan (.region 1 ops true) p ⟨n, x⟩ fr h = regP V0 C lim ops [(0, false), (1, false), (2, false), (3, false), (4, false), (8, false), (9, false), (5, true), (6, false), (7, false), (10, true), (11, false), (12, false)] fr h n := draw_rule rfl hd
theorem XD23_6 {C lim ret pan p n x fr h} {ops : Array Oper} (hd : drawS V0.P ops = some [(0, false), (1, false), (2, false), (3, false), (4, false), (5, false), (6, false), (7, false), (8, false), (9, false), (10, false), (11, false), (12, false), (13, false), (14, false), (15, false), (19, false), (20, false), (21, false), (22, false), (23, false), (24, false), (16, true), (17, false), (18, false), (25, true), (26, false), (27, false)]) : exec V0 C 23 lim ret pan (.region 6 ops true) p ⟨n, x⟩ fr h = regP V0 C lim ops [(0, false), (1, false), (2, false), (3, false), (4, false), (5, false), (6, false), (7, false), (8, false), (9, false), (10, false), (11, false), (12, false), (13, false), (14, false), (15, false), (19, false), (20, false), (21, false), (22, false), (23, false), (24, false), (16, true), (17, false), (18, false), (25, true), (26, false), (27, false)] fr h n := draw_rule rfl hd
theorem XD23_10 {C lim ret pan p n x fr h} {ops : Array Oper} (hd : drawS V0.P ops = some [(0, false), (1, false), (2, false), (3, false), (4, false), (5, false), (6, false), (7, false), (8, false), (9, false), (10, false), (11, false), (12, false), (13, false), (14, false), (15, false), (16, true), (17, false), (18, false)]) : exec V0 C 23 lim ret pan (.region 10 ops true) p ⟨n, x⟩ fr h = regP V0 C lim ops [(0, false), (1, false), (2, false), (3, false), (4, false), (5, false), (6, false), (7, false), (8, false), (9, false), (10, false), (11, false), (12, false), (13, false), (14, false), (15, false), (16, true), (17, false), (18, false)] fr h n := draw_rule rfl hd
theorem XD29_6 {C lim ret pan p n x fr h} {ops : Array Oper} (hd : drawS V0.P ops = some [(0, false), (1, false), (2, false), (3, false), (4, false), (5, false), (6, false), (7, false), (8, false), (9, false)]) : exec V0 C 29 lim ret pan (.region 6 ops true) p ⟨n, x⟩ fr h = regP V0 C lim ops [(0, false), (1, false), (2, false), (3, false), (4, false), (5, false), (6, false), (7, false), (8, false), (9, false)] fr h n := draw_rule rfl hd
theorem XD30_6 {C lim ret pan p n x fr h} {ops : Array Oper} (hd : drawS V0.P ops = some [(0, false), (1, false), (2, false), (3, false), (4, false), (5, false), (6, false), (7, false), (8, false), (9, false)]) : exec V0 C 30 lim ret pan (.region 6 ops true) p ⟨n, x⟩ fr h = regP V0 C lim ops [(0, false), (1, false), (2, false), (3, false), (4, false), (5, false), (6, false), (7, false), (8, false), (9, false)] fr h n := draw_rule rfl hd
theorem XD31_4 {C lim ret pan p n x fr h} {ops : Array Oper} (hd : drawS V0.P ops = some [(0, false), (1, false), (2, false), (3, false), (4, false), (5, false), (7, false), (8, false), (9, false), (6, true), (10, false), (11, false), (12, false)]) : exec V0 C 31 lim ret pan (.region 4 ops true) p ⟨n, x⟩ fr h = regP V0 C lim ops [(0, false), (1, false), (2, false), (3, false), (4, false), (5, false), (7, false), (8, false), (9, false), (6, true), (10, false), (11, false), (12, false)] fr h n := draw_rule rfl hd
theorem XD31_9 {C lim ret pan p n x fr h} {ops : Array Oper} (hd : drawS V0.P ops = some [(0, false), (1, false), (2, false), (3, false), (4, false), (5, false), (6, false), (7, false), (8, false), (9, false), (10, false), (11, false), (12, false), (13, false), (14, false), (15, false), (16, true), (17, false), (18, false), (19, false), (20, false), (21, false)]) : exec V0 C 31 lim ret pan (.region 9 ops true) p ⟨n, x⟩ fr h = regP V0 C lim ops [(0, false), (1, false), (2, false), (3, false), (4, false), (5, false), (6, false), (7, false), (8, false), (9, false), (10, false), (11, false), (12, false), (13, false), (14, false), (15, false), (16, true), (17, false), (18, false), (19, false), (20, false), (21, false)] fr h n := draw_rule rfl hd
theorem XD31_12 {C lim ret pan p n x fr h} {ops : Array Oper} (hd : drawS V0.P ops = some [(0, false), (1, false), (2, false), (3, false), (4, false), (5, false), (6, false), (7, false), (8, false), (9, false), (10, false), (11, true), (12, false), (13, false), (14, false), (15, false), (16, false)]) : exec V0 C 31 lim ret pan (.region 12 ops true) p ⟨n, x⟩ fr h = regP V0 C lim ops [(0, false), (1, false), (2, false), (3, false), (4, false), (5, false), (6, false), (7, false), (8, false), (9, false), (10, false), (11, true), (12, false), (13, false), (14, false), (15, false), (16, false)] fr h n := draw_rule rfl hd
theorem XD35_1 {C lim ret pan p n x fr h} {ops : Array Oper} (hd : drawS V0.P ops = some [(0, false), (1, false), (4, false), (5, false), (2, true), (3, true), (8, false), (6, false), (7, false), (9, false), (10, false), (11, false)]) : exec V0 C 35 lim ret pan (.region 1 ops true) p ⟨n, x⟩ fr h = regP V0 C lim ops [(0, false), (1, false), (4, false), (5, false), (2, true), (3, true), (8, false), (6, false), (7, false), (9, false), (10, false), (11, false)] fr h n := draw_rule rfl hd
theorem XD38_4 {C lim ret pan p n x fr h} {ops : Array Oper} (hd : drawS V0.P ops = some [(0, false), (1, false), (2, false), (3, false), (4, false), (5, false), (6, true), (7, false)]) : exec V0 C 38 lim ret pan (.region 4 ops true) p ⟨n, x⟩ fr h = regP V0 C lim ops [(0, false), (1, false), (2, false), (3, false), (4, false), (5, false), (6, true), (7, false)] fr h n := draw_rule rfl hd
theorem XD38_7 {C lim ret pan p n x fr h} {ops : Array Oper} (hd : drawS V0.P ops = some [(0, false), (1, false), (2, false), (3, false), (4, false), (5, false), (6, true), (7, false)]) : exec V0 C 38 lim ret pan (.region 7 ops true) p ⟨n, x⟩ fr h = regP V0 C lim ops [(0, false), (1, false), (2, false), (3, false), (4, false), (5, false), (6, true), (7, false)] fr h n := draw_rule rfl hd
theorem XD39_4 {C lim ret pan p n x fr h} {ops : Array Oper} (hd : drawS V0.P ops = some [(0, false), (1, false), (2, false), (3, false), (4, false), (5, false), (6, true), (7, false)]) : exec V0 C 39 lim ret pan (.region 4 ops true) p ⟨n, x⟩ fr h = regP V0 C lim ops [(0, false), (1, false), (2, false), (3, false), (4, false), (5, false), (6, true), (7, false)] fr h n := draw_rule rfl hd
theorem XD50_5 {C lim ret pan p n x fr h} {ops : Array Oper} (hd : drawS V0.P ops = some [(0, false), (1, false), (2, false), (3, false), (7, false), (8, false), (9, false), (10, false), (4, false), (5, false), (6, false), (11, false), (12, false)]) : exec V0 C 50 lim ret pan (.region 5 ops true) p ⟨n, x⟩ fr h = regP V0 C lim ops [(0, false), (1, false), (2, false), (3, false), (7, false), (8, false), (9, false), (10, false), (4, false), (5, false), (6, false), (11, false), (12, false)] fr h n := draw_rule rfl hd
theorem XD50_11 {C lim ret pan p n x fr h} {ops : Array Oper} (hd : drawS V0.P ops = some [(0, false), (1, false), (2, false), (3, false), (7, false), (8, false), (9, false), (4, false), (5, false), (6, false), (10, false), (11, false)]) : exec V0 C 50 lim ret pan (.region 11 ops true) p ⟨n, x⟩ fr h = regP V0 C lim ops [(0, false), (1, false), (2, false), (3, false), (7, false), (8, false), (9, false), (4, false), (5, false), (6, false), (10, false), (11, false)] fr h n := draw_rule rfl hd
theorem XD51_6 {C lim ret pan p n x fr h} {ops : Array Oper} (hd : drawS V0.P ops = some [(0, false), (1, false), (2, false), (3, false), (4, false), (5, false), (6, false)]) : exec V0 C 51 lim ret pan (.region 6 ops true) p ⟨n, x⟩ fr h = regP V0 C lim ops [(0, false), (1, false), (2, false), (3, false), (4, false), (5, false), (6, false)] fr h n := draw_rule rfl hd
theorem XD52_17 {C lim ret pan p n x fr h} {ops : Array Oper} (hd : drawS V0.P ops = some [(0, false), (1, false), (2, false), (4, false), (5, false), (6, false), (3, true), (7, false), (8, false), (9, false), (10, false), (11, false), (12, false)]) : exec V0 C 52 lim ret pan (.region 17 ops true) p ⟨n, x⟩ fr h = regP V0 C lim ops [(0, false), (1, false), (2, false), (4, false), (5, false), (6, false), (3, true), (7, false), (8, false), (9, false), (10, false), (11, false), (12, false)] fr h n := draw_rule rfl hd
theorem XD59_5 {C lim ret pan p n x fr h} {ops : Array Oper} (hd : drawS V0.P ops = some [(0, false), (1, false), (2, false), (3, false), (4, false), (5, false), (6, false), (7, false), (8, false), (9, false), (10, false), (11, false), (12, false), (13, false), (14, false), (15, false), (16, false), (17, false), (18, false), (19, false), (20, false), (21, false), (22, false), (23, false), (24, false), (25, false), (26, false), (27, false), (28, false), (29, false), (30, false)]) : exec V0 C 59 lim ret pan (.region 5 ops true) p ⟨n, x⟩ fr h = regP V0 C lim ops [(0, false), (1, false), (2, false), (3, false), (4, false), (5, false), (6, false), (7, false), (8, false), (9, false), (10, false), (11, false), (12, false), (13, false), (14, false), (15, false), (16, false), (17, false), (18, false), (19, false), (20, false), (21, false), (22, false), (23, false), (24, false), (25, false), (26, false), (27, false), (28, false), (29, false), (30, false)] fr h n := draw_rule rfl hd
theorem XD68_3 {C lim ret pan p n x fr h} {ops : Array Oper} (hd : drawS V0.P ops = some [(0, false), (1, false), (2, false), (3, false), (4, false), (5, false), (6, false), (7, false), (8, false), (9, false), (10, false), (11, false), (12, false)]) : exec V0 C 68 lim ret pan (.region 3 ops true) p ⟨n, x⟩ fr h = regP V0 C lim ops [(0, false), (1, false), (2, false), (3, false), (4, false), (5, false), (6, false), (7, false), (8, false), (9, false), (10, false), (11, false), (12, false)] fr h n := draw_rule rfl hd
theorem XD70_1 {C lim ret pan p n x fr h} {ops : Array Oper} (hd : drawS V0.P ops = some [(0, false), (1, false), (2, false), (3, false), (4, false), (5, false), (6, false), (7, false), (8, false), (9, false), (10, false), (11, false)]) : exec V0 C 70 lim ret pan (.region 1 ops true) p ⟨n, x⟩ fr h = regP V0 C lim ops [(0, false), (1, false), (2, false), (3, false), (4, false), (5, false), (6, false), (7, false), (8, false), (9, false), (10, false), (11, false)] fr h n := draw_rule rfl hd
theorem XD73_11 {C lim ret pan p n x fr h} {ops : Array Oper} (hd : drawS V0.P ops = some [(0, false), (1, false), (2, false), (3, false), (4, false), (5, false), (6, false), (7, false), (8, false), (9, false), (10, false), (11, false), (12, false), (13, false)]) : exec V0 C 73 lim ret pan (.region 11 ops true) p ⟨n, x⟩ fr h = regP V0 C lim ops [(0, false), (1, false), (2, false), (3, false), (4, false), (5, false), (6, false), (7, false), (8, false), (9, false), (10, false), (11, false), (12, false), (13, false)] fr h n := draw_rule rfl hd
theorem XD73_6 {C lim ret pan p n x fr h} {ops : Array Oper} (hd : drawS V0.P ops = some [(0, false), (1, false), (2, false), (3, false), (4, false), (5, false), (6, false), (7, false), (8, false), (9, false), (10, false), (11, false), (12, false), (13, false)]) : exec V0 C 73 lim ret pan (.region 6 ops true) p ⟨n, x⟩ fr h = regP V0 C lim ops [(0, false), (1, false), (2, false), (3, false), (4, false), (5, false), (6, false), (7, false), (8, false), (9, false), (10, false), (11, false), (12, false), (13, false)] fr h n := draw_rule rfl hd
theorem XD83_7 {C lim ret pan p n x fr h} {ops : Array Oper} (hd : drawS V0.P ops = some [(0, false), (1, false), (2, false), (3, false), (4, false), (5, false), (6, false), (7, false), (8, false), (9, false), (10, false), (11, false), (12, false), (13, false), (14, false), (15, false), (16, false), (17, false), (18, false), (19, false), (20, false), (21, false), (22, false), (23, false), (24, false), (25, false), (26, false), (27, false), (28, false), (29, false), (30, false), (31, false), (32, false), (33, false), (34, false), (35, false), (36, false), (37, false), (38, false), (39, false), (40, false), (41, false), (42, false), (43, false), (44, false), (45, false)]) : exec V0 C 83 lim ret pan (.region 7 ops true) p ⟨n, x⟩ fr h = regP V0 C lim ops [(0, false), (1, false), (2, false), (3, false), (4, false), (5, false), (6, false), (7, false), (8, false), (9, false), (10, false), (11, false), (12, false), (13, false), (14, false), (15, false), (16, false), (17, false), (18, false), (19, false), (20, false), (21, false), (22, false), (23, false), (24, false), (25, false), (26, false), (27, false), (28, false), (29, false), (30, false), (31, false), (32, false), (33, false), (34, false), (35, false), (36, false), (37, false), (38, false), (39, false), (40, false), (41, false), (42, false), (43, false), (44, false), (45, false)] fr h n := draw_rule rfl hd
theorem XD108_0 {C lim ret pan p n x fr h} {ops : Array Oper} (hd : drawS V0.P ops = some [(0, false), (1, false), (2, false), (3, false), (4, false), (5, false), (6, false), (7, false), (9, false), (10, false), (11, false), (12, false), (13, false), (8, true), (14, false), (15, false)]) : exec V0 C 108 lim ret pan (.region 0 ops true) p ⟨n, x⟩ fr h = regP V0 C lim ops [(0, false), (1, false), (2, false), (3, false), (4, false), (5, false), (6, false), (7, false), (9, false), (10, false), (11, false), (12, false), (13, false), (8, true), (14, false), (15, false)] fr h n := draw_rule rfl hd
theorem XD113_2 {C lim ret pan p n x fr h} {ops : Array Oper} (hd : drawS V0.P ops = some [(0, false), (1, false), (2, false), (3, false), (4, false), (5, false), (6, false), (7, false), (8, false), (9, false), (10, false), (11, false), (12, false), (13, false), (14, false), (15, false)]) : exec V0 C 113 lim ret pan (.region 2 ops true) p ⟨n, x⟩ fr h = regP V0 C lim ops [(0, false), (1, false), (2, false), (3, false), (4, false), (5, false), (6, false), (7, false), (8, false), (9, false), (10, false), (11, false), (12, false), (13, false), (14, false), (15, false)] fr h n := draw_rule rfl hd
theorem XD116_14 {C lim ret pan p n x fr h} {ops : Array Oper} (hd : drawS V0.P ops = some [(0, false), (1, false), (2, false), (3, false), (4, false), (5, false), (6, false), (7, false), (8, false), (9, false), (10, true), (11, false), (12, false), (13, false)]) : exec V0 C 116 lim ret pan (.region 14 ops true) p ⟨n, x⟩ fr h = regP V0 C lim ops [(0, false), (1, false), (2, false), (3, false), (4, false), (5, false), (6, false), (7, false), (8, false), (9, false), (10, true), (11, false), (12, false), (13, false)] fr h n := draw_rule rfl hd
theorem XD117_1 {C lim ret pan p n x fr h} {ops : Array Oper} (hd : drawS V0.P ops = some [(0, false), (1, false), (2, false), (3, false), (4, true), (5, false), (6, false), (7, false), (8, false)]) : exec V0 C 117 lim ret pan (.region 1 ops true) p ⟨n, x⟩ fr h = regP V0 C lim ops [(0, false), (1, false), (2, false), (3, false), (4, true), (5, false), (6, false), (7, false), (8, false)] fr h n := draw_rule rfl hd
theorem XD122_7 {C lim ret pan p n x fr h} {ops : Array Oper} (hd : drawS V0.P ops = some [(0, false), (1, false), (2, false), (3, false), (4, false), (5, false), (6, false), (7, false), (8, false), (9, false), (10, false), (11, false), (12, false), (13, false), (14, false)]) : exec V0 C 122 lim ret pan (.region 7 ops true) p ⟨n, x⟩ fr h = regP V0 C lim ops [(0, false), (1, false), (2, false), (3, false), (4, false), (5, false), (6, false), (7, false), (8, false), (9, false), (10, false), (11, false), (12, false), (13, false), (14, false)] fr h n := draw_rule rfl hd
theorem XD122_8 {C lim ret pan p n x fr h} {ops : Array Oper} (hd : drawS V0.P ops = some [(0, false), (1, false), (2, false), (3, false), (4, false), (5, false), (6, false), (7, false), (8, false), (9, false), (10, false), (11, false), (12, false), (13, false), (14, false)]) : exec V0 C 122 lim ret pan (.region 8 ops true) p ⟨n, x⟩ fr h = regP V0 C lim ops [(0, false), (1, false), (2, false), (3, false), (4, false), (5, false), (6, false), (7, false), (8, false), (9, false), (10, false), (11, false), (12, false), (13, false), (14, false)] fr h n := draw_rule rfl hd
theorem XD122_9 {C lim ret pan p n x fr h} {ops : Array Oper} (hd : drawS V0.P ops = some [(0, false), (1, false), (2, false), (3, false), (4, false), (5, false), (6, false), (7, false), (8, false), (9, false), (10, false), (11, false), (12, false), (13, false), (14, false)]) : exec V0 C 122 lim ret pan (.region 9 ops true) p ⟨n, x⟩ fr h = regP V0 C lim ops [(0, false), (1, false), (2, false), (3, false), (4, false), (5, false), (6, false), (7, false), (8, false), (9, false), (10, false), (11, false), (12, false), (13, false), (14, false)] fr h n := draw_rule rfl hd
theorem XD122_10 {C lim ret pan p n x fr h} {ops : Array Oper} (hd : drawS V0.P ops = some [(0, false), (1, false), (2, false), (3, false), (4, false), (5, false), (6, false), (7, false), (8, false), (9, false), (10, false), (11, false), (12, false), (13, false), (14, false)]) : exec V0 C 122 lim ret pan (.region 10 ops true) p ⟨n, x⟩ fr h = regP V0 C lim ops [(0, false), (1, false), (2, false), (3, false), (4, false), (5, false), (6, false), (7, false), (8, false), (9, false), (10, false), (11, false), (12, false), (13, false), (14, false)] fr h n := draw_rule rfl hd
theorem XD122_17 {C lim ret pan p n x fr h} {ops : Array Oper} (hd : drawS V0.P ops = some [(0, false), (1, false), (2, false), (3, false), (4, false), (5, false), (6, false), (7, false), (8, false), (9, false), (10, false), (11, false), (12, false), (13, false), (14, false)]) : exec V0 C 122 lim ret pan (.region 17 ops true) p ⟨n, x⟩ fr h = regP V0 C lim ops [(0, false), (1, false), (2, false), (3, false), (4, false), (5, false), (6, false), (7, false), (8, false), (9, false), (10, false), (11, false), (12, false), (13, false), (14, false)] fr h n := draw_rule rfl hd
theorem XD122_18 {C lim ret pan p n x fr h} {ops : Array Oper} (hd : drawS V0.P ops = some [(0, false), (1, false), (2, false), (3, false), (4, false), (5, false), (6, false), (7, false), (8, false), (9, false), (10, false), (11, false), (12, false), (13, false), (14, false)]) : exec V0 C 122 lim ret pan (.region 18 ops true) p ⟨n, x⟩ fr h = regP V0 C lim ops [(0, false), (1, false), (2, false), (3, false), (4, false), (5, false), (6, false), (7, false), (8, false), (9, false), (10, false), (11, false), (12, false), (13, false), (14, false)] fr h n := draw_rule rfl hd
theorem XD122_23 {C lim ret pan p n x fr h} {ops : Array Oper} (hd : drawS V0.P ops = some [(0, false), (1, false), (2, false), (3, false), (4, false), (5, false), (6, false), (7, false), (8, false), (9, false), (10, false), (11, false), (12, false), (13, false), (14, false)]) : exec V0 C 122 lim ret pan (.region 23 ops true) p ⟨n, x⟩ fr h = regP V0 C lim ops [(0, false), (1, false), (2, false), (3, false), (4, false), (5, false), (6, false), (7, false), (8, false), (9, false), (10, false), (11, false), (12, false), (13, false), (14, false)] fr h n := draw_rule rfl hd
theorem XD126_3 {C lim ret pan p n x fr h} {ops : Array Oper} (hd : drawS V0.P ops = some [(0, false), (1, false), (2, false), (3, false), (4, false), (5, false), (6, false), (7, false), (8, false)]) : exec V0 C 126 lim ret pan (.region 3 ops true) p ⟨n, x⟩ fr h = regP V0 C lim ops [(0, false), (1, false), (2, false), (3, false), (4, false), (5, false), (6, false), (7, false), (8, false)] fr h n := draw_rule rfl hd
theorem XD130_1 {C lim ret pan p n x fr h} {ops : Array Oper} (hd : drawS V0.P ops = some [(0, false), (1, false), (3, false), (2, true), (4, false), (5, false), (6, false)]) : exec V0 C 130 lim ret pan (.region 1 ops true) p ⟨n, x⟩ fr h = regP V0 C lim ops [(0, false), (1, false), (3, false), (2, true), (4, false), (5, false), (6, false)] fr h n := draw_rule rfl hd
theorem XD131_1 {C lim ret pan p n x fr h} {ops : Array Oper} (hd : drawS V0.P ops = some [(0, false), (1, false), (3, false), (2, true), (4, false), (5, false), (6, false)]) : exec V0 C 131 lim ret pan (.region 1 ops true) p ⟨n, x⟩ fr h = regP V0 C lim ops [(0, false), (1, false), (3, false), (2, true), (4, false), (5, false), (6, false)] fr h n := draw_rule rfl hd
theorem XD139_2 {C lim ret pan p n x fr h} {ops : Array Oper} (hd : drawS V0.P ops = some [(0, false), (1, false), (2, false), (3, false), (4, true), (5, false), (6, false), (7, false), (8, false)]) : exec V0 C 139 lim ret pan (.region 2 ops true) p ⟨n, x⟩ fr h = regP V0 C lim ops [(0, false), (1, false), (2, false), (3, false), (4, true), (5, false), (6, false), (7, false), (8, false)] fr h n := draw_rule rfl hd
theorem XD152_0 {C lim ret pan p n x fr h} {ops : Array Oper} (hd : drawS V0.P ops = some [(0, false), (1, false), (2, false), (3, false), (4, false), (5, false)]) : exec V0 C 152 lim ret pan (.region 0 ops true) p ⟨n, x⟩ fr h = regP V0 C lim ops [(0, false), (1, false), (2, false), (3, false), (4, false), (5, false)] fr h n := draw_rule rfl hd
theorem XD154_9 {C lim ret pan p n x fr h} {ops : Array Oper} (hd : drawS V0.P ops = some [(0, false), (1, false), (2, false), (3, false), (4, false), (5, false), (6, false), (7, false)]) : exec V0 C 154 lim ret pan (.region 9 ops true) p ⟨n, x⟩ fr h = regP V0 C lim ops [(0, false), (1, false), (2, false), (3, false), (4, false), (5, false), (6, false), (7, false)] fr h n := draw_rule rfl hd
theorem XD154_20 {C lim ret pan p n x fr h} {ops : Array Oper} (hd : drawS V0.P ops = some [(0, false), (1, false), (2, false), (3, false), (4, false), (5, false), (6, false), (7, false), (8, false), (9, false), (10, false)]) : exec V0 C 154 lim ret pan (.region 20 ops true) p ⟨n, x⟩ fr h = regP V0 C lim ops [(0, false), (1, false), (2, false), (3, false), (4, false), (5, false), (6, false), (7, false), (8, false), (9, false), (10, false)] fr h n := draw_rule rfl hd
theorem XD154_28 {C lim ret pan p n x fr h} {ops : Array Oper} (hd : drawS V0.P ops = some [(0, false), (1, false), (2, false), (3, false), (4, false), (5, false), (6, false), (7, false), (8, false), (9, false), (10, false), (11, false), (12, false), (13, false), (14, false), (15, false), (16, false), (17, false)]) : exec V0 C 154 lim ret pan (.region 28 ops true) p ⟨n, x⟩ fr h = regP V0 C lim ops [(0, false), (1, false), (2, false), (3, false), (4, false), (5, false), (6, false), (7, false), (8, false), (9, false), (10, false), (11, false), (12, false), (13, false), (14, false), (15, false), (16, false), (17, false)] fr h n := draw_rule rfl hd
theorem XD165_11 {C lim ret pan p n x fr h} {ops : Array Oper} (hd : drawS V0.P ops = some [(0, false), (1, false), (2, false), (3, false), (4, false), (5, false), (6, false), (7, false), (8, false), (9, false), (10, false)]) : exec V0 C 165 lim ret pan (.region 11 ops true) p ⟨n, x⟩ fr h = regP V0 C lim ops [(0, false), (1, false), (2, false), (3, false), (4, false), (5, false), (6, false), (7, false), (8, false), (9, false), (10, false)] fr h n := draw_rule rfl hd
theorem XD165_23 {C lim ret pan p n x fr h} {ops : Array Oper} (hd : drawS V0.P ops = some [(0, false), (1, false), (2, false), (3, false), (4, false), (5, false), (6, false), (7, false), (8, false), (9, false), (10, false)]) : exec V0 C 165 lim ret pan (.region 23 ops true) p ⟨n, x⟩ fr h = regP V0 C lim ops [(0, false), (1, false), (2, false), (3, false), (4, false), (5, false), (6, false), (7, false), (8, false), (9, false), (10, false)] fr h n := draw_rule rfl hd
theorem XD166_8 {C lim ret pan p n x fr h} {ops : Array Oper} (hd : drawS V0.P ops = some [(0, false), (1, false), (2, false), (3, false), (4, false), (5, false), (6, false), (7, false), (8, false), (9, false)]) : exec V0 C 166 lim ret pan (.region 8 ops true) p ⟨n, x⟩ fr h = regP V0 C lim ops [(0, false), (1, false), (2, false), (3, false), (4, false), (5, false), (6, false), (7, false), (8, false), (9, false)] fr h n := draw_rule rfl hd
theorem XD166_10 {C lim ret pan p n x fr h} {ops : Array Oper} (hd : drawS V0.P ops = some [(0, false), (1, false), (2, false), (3, false), (4, false), (5, false), (6, false), (7, false), (8, false), (9, false), (10, false)]) : exec V0 C 166 lim ret pan (.region 10 ops true) p ⟨n, x⟩ fr h = regP V0 C lim ops [(0, false), (1, false), (2, false), (3, false), (4, false), (5, false), (6, false), (7, false), (8, false), (9, false), (10, false)] fr h n := draw_rule rfl hd
theorem XD166_15 {C lim ret pan p n x fr h} {ops : Array Oper} (hd : drawS V0.P ops = some [(0, false), (1, false), (2, false), (3, false), (4, false), (5, false), (6, false), (7, false), (8, false), (9, false), (10, false), (11, false)]) : exec V0 C 166 lim ret pan (.region 15 ops true) p ⟨n, x⟩ fr h = regP V0 C lim ops [(0, false), (1, false), (2, false), (3, false), (4, false), (5, false), (6, false), (7, false), (8, false), (9, false), (10, false), (11, false)] fr h n := draw_rule rfl hd
theorem XD166_18 {C lim ret pan p n x fr h} {ops : Array Oper} (hd : drawS V0.P ops = some [(0, false), (1, false), (2, false), (3, false), (4, false), (5, false), (6, false), (7, false), (8, false), (9, false), (10, false), (11, false), (12, false), (13, false), (14, false), (15, false), (16, false)]) : exec V0 C 166 lim ret pan (.region 18 ops true) p ⟨n, x⟩ fr h = regP V0 C lim ops [(0, false), (1, false), (2, false), (3, false), (4, false), (5, false), (6, false), (7, false), (8, false), (9, false), (10, false), (11, false), (12, false), (13, false), (14, false), (15, false), (16, false)] fr h n := draw_rule rfl hd
theorem XD166_19 {C lim ret pan p n x fr h} {ops : Array Oper} (hd : drawS V0.P ops = some [(0, false), (1, false), (2, false), (3, false), (4, false), (5, false), (6, false), (7, false), (8, false), (9, false), (10, false), (11, false), (12, false), (13, false)]) : exec V0 C 166 lim ret pan (.region 19 ops true) p ⟨n, x⟩ fr h = regP V0 C lim ops [(0, false), (1, false), (2, false), (3, false), (4, false), (5, false), (6, false), (7, false), (8, false), (9, false), (10, false), (11, false), (12, false), (13, false)] fr h n := draw_rule rfl hd
theorem XD166_23 {C lim ret pan p n x fr h} {ops : Array Oper} (hd : drawS V0.P ops = some [(0, false), (1, false), (2, false), (3, false), (4, false), (5, false), (6, false), (7, false), (8, false), (9, false), (10, false), (11, false), (12, false)]) : exec V0 C 166 lim ret pan (.region 23 ops true) p ⟨n, x⟩ fr h = regP V0 C lim ops [(0, false), (1, false), (2, false), (3, false), (4, false), (5, false), (6, false), (7, false), (8, false), (9, false), (10, false), (11, false), (12, false)] fr h n := draw_rule rfl hd
theorem XD166_28 {C lim ret pan p n x fr h} {ops : Array Oper} (hd : drawS V0.P ops = some [(0, false), (1, false), (2, false), (3, false), (4, false), (5, false), (6, false), (7, false)]) : exec V0 C 166 lim ret pan (.region 28 ops true) p ⟨n, x⟩ fr h = regP V0 C lim ops [(0, false), (1, false), (2, false), (3, false), (4, false), (5, false), (6, false), (7, false)] fr h n := draw_rule rfl hd
theorem XD166_31 {C lim ret pan p n x fr h} {ops : Array Oper} (hd : drawS V0.P ops = some [(0, false), (1, false), (2, false), (3, false), (4, false), (5, false), (6, false), (7, false), (8, false), (9, false), (10, false), (11, false), (12, false)]) : exec V0 C 166 lim ret pan (.region 31 ops true) p ⟨n, x⟩ fr h = regP V0 C lim ops [(0, false), (1, false), (2, false), (3, false), (4, false), (5, false), (6, false), (7, false), (8, false), (9, false), (10, false), (11, false), (12, false)] fr h n := draw_rule rfl hd
theorem XD178_3 {C lim ret pan p n x fr h} {ops : Array Oper} (hd : drawS V0.P ops = some [(0, false), (1, false), (2, false), (3, false), (4, false), (5, false), (6, false), (7, false), (8, false), (9, false), (10, false), (11, false), (12, false), (13, false), (14, false)]) : exec V0 C 178 lim ret pan (.region 3 ops true) p ⟨n, x⟩ fr h = regP V0 C lim ops [(0, false), (1, false), (2, false), (3, false), (4, false), (5, false), (6, false), (7, false), (8, false), (9, false), (10, false), (11, false), (12, false), (13, false), (14, false)] fr h n := draw_rule rfl hd
theorem XRM {V C lim hide} {l : List Oper} : (∀ fr done h K, regM V C lim hide ⟨l⟩ [] fr done h K = K fr h) ∧
  (∀ i u w is fr done h K, regM V C lim hide ⟨l⟩ ((i, 0, u, w) :: is) fr done h K = match l[i]? with | some o => regN V C lim panN ⟨l⟩ [o] fr h (fun fr' h' => regM V C lim hide ⟨l⟩ is fr' (done ++ [⟨i, h.length, h'.length, bq hide V.P fr o⟩]) h' K) | none => none) ∧
  (∀ i u w is fr done h K, regM V C lim hide ⟨l⟩ ((i, 1, u, w) :: is) fr done h K = match l[i]? with | some o => regN V C h.length panN ⟨l⟩ [o] fr h (fun fr' h' => regM V C lim hide ⟨l⟩ is fr' (done ++ [⟨i, h.length, h'.length, bq hide V.P fr o⟩]) h' K) | none => none) ∧
  (∀ i u w is fr done h K, regM V C lim hide ⟨l⟩ ((i, 2, u, w) :: is) fr done h K = match l[i]? with
    | some o => (match baseOf V.P fr o with
      | some b => freshAt b (otherAt b (regN V C lim panN ⟨l⟩ [o] fr h (fun fr' h' => regM V C lim hide ⟨l⟩ is fr' (done ++ [⟨i, h.length, h'.length, bq hide V.P fr o⟩]) h' K)) (sel w done)) (sel u done)
      | none => none)
    | none => none) ∧
  (∀ i u w is fr done h K, regM V C lim hide ⟨l⟩ ((i, 3, u, w) :: is) fr done h K = match l[i]? with | some o => regN V C lim panN ⟨l⟩ [o] fr h (fun fr' h' => sameAt h h' (regM V C lim hide ⟨l⟩ is fr' (done ++ [⟨i, h.length, h'.length, bq hide V.P fr o⟩]) h' K) (sel u done)) | none => none) :=
  ⟨fun _ _ _ _ => rfl, fun i _ _ _ _ _ _ _ => by simp only [regM, List.getElem?_toArray]; cases l[i]? <;> rfl, fun i _ _ _ _ _ _ _ => by simp only [regM, List.getElem?_toArray]; cases l[i]? <;> rfl,
    fun i _ _ _ _ _ _ _ => by simp only [regM, List.getElem?_toArray]; cases l[i]? <;> rfl, fun i _ _ _ _ _ _ _ => by simp only [regM, List.getElem?_toArray]; cases l[i]? <;> rfl⟩
theorem XD52_7 {C lim ret pan p n x fr h} {ops : Array Oper} (hd : drawM V0.P false ops = some [(0, (0, ([], []))), (2, (0, ([], []))), (3, (0, ([], []))), (5, (0, ([], []))), (1, (0, ([], []))), (4, (0, ([], []))), (6, (0, ([], []))), (7, (2, ([1], []))), (8, (0, ([], []))), (9, (0, ([], []))), (10, (0, ([], []))), (11, (0, ([], []))), (12, (0, ([], []))), (13, (0, ([], []))), (14, (0, ([], [])))]) : exec V0 C 52 lim ret pan (.region 7 ops true) p ⟨n, x⟩ fr h = regM V0 C lim false ops [(0, (0, ([], []))), (2, (0, ([], []))), (3, (0, ([], []))), (5, (0, ([], []))), (1, (0, ([], []))), (4, (0, ([], []))), (6, (0, ([], []))), (7, (2, ([1], []))), (8, (0, ([], []))), (9, (0, ([], []))), (10, (0, ([], []))), (11, (0, ([], []))), (12, (0, ([], []))), (13, (0, ([], []))), (14, (0, ([], [])))] fr [] h n := draw_ruleM rfl hd
theorem XD61_7 {C lim ret pan p n x fr h} {ops : Array Oper} (hd : drawM V0.P false ops = some [(0, (0, ([], []))), (1, (0, ([], []))), (3, (0, ([], []))), (4, (0, ([], []))), (5, (0, ([], []))), (6, (0, ([], []))), (2, (0, ([], []))), (7, (0, ([], []))), (8, (2, ([2], []))), (9, (0, ([], []))), (10, (0, ([], [])))]) : exec V0 C 61 lim ret pan (.region 7 ops true) p ⟨n, x⟩ fr h = regM V0 C lim false ops [(0, (0, ([], []))), (1, (0, ([], []))), (3, (0, ([], []))), (4, (0, ([], []))), (5, (0, ([], []))), (6, (0, ([], []))), (2, (0, ([], []))), (7, (0, ([], []))), (8, (2, ([2], []))), (9, (0, ([], []))), (10, (0, ([], [])))] fr [] h n := draw_ruleM rfl hd
theorem XD40_8 {C lim ret pan p n x fr h} {ops : Array Oper} (hd : drawM V0.P true ops = some [(0, (0, ([], []))), (1, (0, ([], []))), (2, (0, ([], []))), (4, (0, ([], []))), (6, (0, ([], []))), (3, (3, ([1], []))), (5, (3, ([1], []))), (7, (3, ([1], []))), (8, (0, ([], []))), (9, (0, ([], []))), (10, (0, ([], []))), (11, (0, ([], []))), (12, (0, ([], [])))]) : exec V0 C 40 lim ret pan (.region 8 ops true) p ⟨n, x⟩ fr h = regM V0 C lim true ops [(0, (0, ([], []))), (1, (0, ([], []))), (2, (0, ([], []))), (4, (0, ([], []))), (6, (0, ([], []))), (3, (3, ([1], []))), (5, (3, ([1], []))), (7, (3, ([1], []))), (8, (0, ([], []))), (9, (0, ([], []))), (10, (0, ([], []))), (11, (0, ([], []))), (12, (0, ([], [])))] fr [] h n := draw_ruleM rfl hd
theorem XD40_10 {C lim ret pan p n x fr h} {ops : Array Oper} (hd : drawM V0.P true ops = some [(0, (0, ([], []))), (1, (0, ([], []))), (2, (0, ([], []))), (5, (0, ([], []))), (3, (0, ([], []))), (4, (3, ([1], []))), (6, (3, ([1], []))), (7, (0, ([], []))), (8, (0, ([], []))), (9, (0, ([], []))), (10, (0, ([], []))), (11, (0, ([], [])))]) : exec V0 C 40 lim ret pan (.region 10 ops true) p ⟨n, x⟩ fr h = regM V0 C lim true ops [(0, (0, ([], []))), (1, (0, ([], []))), (2, (0, ([], []))), (5, (0, ([], []))), (3, (0, ([], []))), (4, (3, ([1], []))), (6, (3, ([1], []))), (7, (0, ([], []))), (8, (0, ([], []))), (9, (0, ([], []))), (10, (0, ([], []))), (11, (0, ([], [])))] fr [] h n := draw_ruleM rfl hd
theorem XD94_9 {C lim ret pan p n x fr h} {ops : Array Oper} (hd : drawM V0.P true ops = some [(1, (0, ([], []))), (2, (0, ([], []))), (3, (0, ([], []))), (4, (0, ([], []))), (6, (0, ([], []))), (7, (0, ([], []))), (8, (0, ([], []))), (9, (0, ([], []))), (10, (0, ([], []))), (0, (0, ([], []))), (5, (3, ([7, 10], []))), (11, (0, ([], []))), (12, (0, ([], []))), (13, (0, ([], [])))]) : exec V0 C 94 lim ret pan (.region 9 ops true) p ⟨n, x⟩ fr h = regM V0 C lim true ops [(1, (0, ([], []))), (2, (0, ([], []))), (3, (0, ([], []))), (4, (0, ([], []))), (6, (0, ([], []))), (7, (0, ([], []))), (8, (0, ([], []))), (9, (0, ([], []))), (10, (0, ([], []))), (0, (0, ([], []))), (5, (3, ([7, 10], []))), (11, (0, ([], []))), (12, (0, ([], []))), (13, (0, ([], [])))] fr [] h n := draw_ruleM rfl hd
set_option linter.defProp false
def XD := And.intro @XRP (And.intro @XRM (And.intro @XD52_7 (And.intro @XD61_7 (And.intro @XD94_9 (And.intro @XD3_10 (And.intro @XD10_3 (And.intro @XD10_7 (And.intro @XD10_12 (And.intro @XD13_4 (And.intro @XD13_11 (And.intro @XD13_16 (And.intro @XD17_12 (And.intro @XD18_6 (And.intro @XD18_11 (And.intro @XD23_1 (And.intro @XD23_6 (And.intro @XD23_10 (And.intro @XD29_6 (And.intro @XD30_6 (And.intro @XD31_4 (And.intro @XD31_9 (And.intro @XD31_12 (And.intro @XD35_1 (And.intro @XD38_4 (And.intro @XD38_7 (And.intro @XD39_4 (And.intro @XD40_8 (And.intro @XD40_10 (And.intro @XD50_5 (And.intro @XD50_11 (And.intro @XD51_6 (And.intro @XD52_17 (And.intro @XD59_5 (And.intro @XD68_3 (And.intro @XD70_1 (And.intro @XD73_11 (And.intro @XD73_6 (And.intro @XD83_7 (And.intro @XD108_0 (And.intro @XD113_2 (And.intro @XD116_14 (And.intro @XD117_1 (And.intro @XD122_7 (And.intro @XD122_8 (And.intro @XD122_9 (And.intro @XD122_10 (And.intro @XD122_17 (And.intro @XD122_18 (And.intro @XD122_23 (And.intro @XD126_3 (And.intro @XD130_1 (And.intro @XD131_1 (And.intro @XD139_2 (And.intro @XD152_0 (And.intro @XD154_9 (And.intro @XD154_20 (And.intro @XD154_28 (And.intro @XD165_11 (And.intro @XD165_23 (And.intro @XD166_8 (And.intro @XD166_10 (And.intro @XD166_15 (And.intro @XD166_18 (And.intro @XD166_19 (And.intro @XD166_23 (And.intro @XD166_28 (And.intro @XD166_31 (@XD178_3))))))))))))))))))))))))))))))))))))))))))))))))))))))))))))))))))))
end Go.Abs
