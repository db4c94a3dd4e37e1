/- FnExactPathGet returns true, for every text, and leaves its argument as it was. No condition. -/
import Derived.Test.YtdhogmkdmbfijaaProg
import Derived.Test.YtdhogmkdmbfijaaRows
import Derived.Lib.Walk
import Derived.Lib.Builder
import Derived.Lib.UnsafeStr
import Derived.WalkKit
import Derived.Laws.Externs
import Derived.Laws.IdiomCopy
import Derived.Shelf.Strings.BuilderX
import Derived.Test.YtdhogmkdmbfijaaAbsB
import Derived.Shelf.Strings.IndexAnyAll
import Derived.Shelf.Small.Utf8
import Derived.Laws.RangeAny
import Derived.Scope
import Derived.WalkMore
import Derived.Shelf.RegionOpenPlain
import Derived.Lib.OthersKept
import Derived.IntWalk
import Derived.Shelf.Strings.Builder1
import Derived.Shelf.Small.Bits
import Derived.Shelf.Small.Strs
import Derived.Shelf.Strings.BuilderF
import Derived.Shelf.Strings.BuilderK
import Derived.Shelf.Strconv.Itoa0
import Derived.Shelf.LaysM
import Derived.Shelf.Strconv.Clone
import Derived.Shelf.Strings.Search1
import Derived.Shelf.Strings.Search2
import Derived.Shelf.Strings.Cut
import Derived.Shelf.Strings.Shaped
import Derived.Shelf.Strings.Prefix
import Derived.Shelf.Strings.Runes
import Derived.Shelf.Strings.IndexAny
import Derived.Shelf.Strings.AsciiSet
import Derived.Test.YtdhogmkdmbfijaaFactsA
import Derived.Test.YtdhogmkdmbfijaaAbsA
import Derived.Shelf.Vars
import Derived.Test.YtdhogmkdmbfijaaPathA
import Derived.HandedShaped
import Derived.ProofKit
import Derived.Deep.Slices
import Derived.Test.YtdhogmkdmbfijaaPathC
set_option linter.unusedVariables false
namespace Go.Proofs
open Go.Shelf Go.RowKit
set_option maxHeartbeats 1000000 in
set_option maxRecDepth 100000 in
theorem Try.cc_used (b : Nat) (w : World) (h0 : w.cell? ⟨b, 0, none⟩ = some (.pointer (some ⟨b, 0, none⟩))) :
    Calls Try.prog 92 #[.pointer (some ⟨b, 0, none⟩)] w fun e w' => e = .returned (.tuple #[]) ∧ w' = w := by
  obtain ⟨j, hj, _⟩ := Option.map_eq_some_iff.1 (show (Try.prog.info? 81).map (·.size) = some 2 by kernel_rfl)
  have mixed : Try.prog.follows .mixedOrders = true := by kernel_rfl
  go_enter Try.func92, Try.ntmps92
  go_wp2
  rw [Lib.run_neq_ptr_same w _ Try.underlying79 hj]
  go_wp2
  go_end0
  exact ⟨rfl, rfl⟩
set_option maxHeartbeats 1000000 in
set_option maxRecDepth 100000 in
theorem Try.cc_fresh (b : Nat) (w : World) (h0 : w.cell? ⟨b, 0, none⟩ = some (.pointer none)) (hsh : w.shape? b = some (81, 2)) (hfz : w.frozen? ⟨b, 0, none⟩ = false) :
    Calls Try.prog 92 #[.pointer (some ⟨b, 0, none⟩)] w fun e w' => e = .returned (.tuple #[]) ∧ w' = w.setCell ⟨b, 0, none⟩ (.pointer (some ⟨b, 0, none⟩)) := by
  obtain ⟨j, hj, hjs⟩ := Option.map_eq_some_iff.1 (show (Try.prog.info? 81).map (·.size) = some 2 by kernel_rfl)
  have mixed : Try.prog.follows .mixedOrders = true := by kernel_rfl
  go_enter Try.func92, Try.ntmps92
  go_wp2
  rw [Lib.run_to_unsafe w ⟨b, 0, none⟩ Try.underlying79 Try.underlying128 hj (by rw [hjs]; decide) hsh (Nat.zero_lt_succ 1)]
  simp only [Result.andThen]
  rw [Oper.upon_value]
  go_wp2
  rw [run_callFunc_extern Try.func118 (by kernel_rfl) (by kernel_rfl) (by kernel_rfl) (e := Extern.AbiNoEscape.same) (by kernel_rfl)]
  rw [Lib.run_noEscape]
  simp only [Result.andThen]
  rw [Oper.upon_value]
  go_wp2
  rw [Lib.run_from_unsafe w ⟨b, 0, none⟩ Try.underlying128 Try.underlying79 hj hsh (by kernel_rfl)]
  simp only [Result.andThen]
  rw [Oper.upon_value]
  go_wp2
  go_end0
  exact ⟨rfl, rfl⟩
end Go.Proofs
namespace Go.Proofs
open Go.Shelf Go.RowKit Go.Lib
variable {P : Program} {ρ : Ren}
/-- the text of the two bytes '/' and '[' -/
def sepB : ByteArray := ⟨#[47, 91]⟩
set_option maxHeartbeats 8000000 in
set_option maxRecDepth 1000000 in
theorem Any.strings_IndexRune_err (L : Lays.n152 P ρ) (w : World) :
    Calls P (ρ.f 152) #[.string sepB, .int .i32 65533] w fun e w' => e = .returned (.int .i64 (-1)) ∧ ∃ pos, w' = w.iter sepB pos := by
  have t3 := L.t3; have a3 := L.a3; have z3 := L.z3; have v3 := L.v3
  have t4 := L.t4; have a4 := L.a4; have z4 := L.z4; have v4 := L.v4
  have t5 := L.t5; have a5 := L.a5; have z5 := L.z5; have v5 := L.v5
  have t9 := L.t9; have a9 := L.a9; have z9 := L.z9; have v9 := L.v9
  have t21 := L.t21; have a21 := L.a21; have z21 := L.z21; have v21 := L.v21
  go_enter L.f152, Body.n152_ntmps ρ
  go_wp2
  go_loopg [5, 6] 2 (fun g _ _ wx => ∃ i : Nat, i + g = 2 ∧ wx = w.iter sepB i)
  case atStart => exact ⟨0, by omega, rfl⟩
  case round =>
    obtain ⟨i, hig, rfl⟩ := hrel
    cases gk with
    | zero =>
      obtain rfl : i = 2 := by omega
      have hnx := fun ty => run_next_end (P := P) w sepB 2 ty (by decide)
      go_wp2
      go_ret
      exact ⟨rfl, _, rfl⟩
    | succ g =>
      rcases (show i = 0 ∨ i = 1 by omega) with rfl | rfl
      · have hnx := fun ty => run_next_ascii (P := P) w sepB 0 ty (by decide) (by decide)
        go_wp2
        go_roundg g
        case measure => omega
        case rel => exact ⟨1, by omega, rfl⟩
      · have hnx := fun ty => run_next_ascii (P := P) w sepB 1 ty (by decide) (by decide)
        go_wp2
        go_roundg g
        case measure => omega
        case rel => exact ⟨2, by omega, rfl⟩
theorem enc_high {r : Int} (hv : Lib.validRune r = true) (h0 : 128 ≤ r) : (3 ≤ (Utf8.encode r).size ∧ (Utf8.encode r).size ≤ 4) ∨ ∃ x y : UInt8, Utf8.encode r = ⟨#[x, y]⟩ ∧ 128 ≤ y.toNat := by
  have hu : Utf8.valid r = true := by
    unfold Lib.validRune at hv
    unfold Utf8.valid
    simp only [Bool.or_eq_true, Bool.and_eq_true, decide_eq_true_eq] at hv ⊢
    omega
  unfold Utf8.encode
  simp only [hu, if_true]
  rw [if_neg (by omega)]
  split
  · refine .inr ⟨_, _, rfl, ?_⟩
    rw [UInt8.toNat_ofNat']
    omega
  · split
    · exact .inl ⟨Nat.le_refl _, by show (3 : Nat) ≤ 4; omega⟩
    · exact .inl ⟨by show (3 : Nat) ≤ 4; omega, Nat.le_refl _⟩
set_option maxHeartbeats 8000000 in
set_option maxRecDepth 1000000 in
theorem Any.strings_IndexRune_bad (L : Lays.n152 P ρ) (r : Int) (w : World) (h0 : 128 ≤ r) (hn : r ≠ 65533) (hv : Lib.validRune r = false) :
    Calls P (ρ.f 152) #[.string sepB, .int .i32 r] w fun e w' => e = .returned (.int .i64 (-1)) ∧ w' = w := by
  have t3 := L.t3; have a3 := L.a3; have z3 := L.z3; have v3 := L.v3
  have t4 := L.t4; have a4 := L.a4; have z4 := L.z4; have v4 := L.v4
  have t5 := L.t5; have a5 := L.a5; have z5 := L.z5; have v5 := L.v5
  have t9 := L.t9; have a9 := L.a9; have z9 := L.z9; have v9 := L.v9
  have t21 := L.t21; have a21 := L.a21; have z21 := L.z21; have v21 := L.v21
  have e119 : ∀ args w, (callFunc (ρ.f 119) args).run P w = .ok (.enter (ρ.f 119) args) w := enters_of L.f119 (by kernel_rfl) rfl
  have d1 : decide (r < 128) = false := decide_eq_false (by omega)
  have d2 : (r == 65533) = false := beq_eq_false_iff_ne.2 hn
  go_enter L.f152, Body.n152_ntmps ρ
  go_wp2_with (go_at_fn (ρ.f 119); refine (Any.utf8_ValidRune { L with } _ _).mono ?_; rintro e w' ⟨rfl, hw⟩; rw [hw, hv])
  go_ret
  exact ⟨rfl, rfl⟩
set_option maxHeartbeats 8000000 in
set_option maxRecDepth 1000000 in
theorem Any.strings_IndexRune_long (L : Lays.n152 P ρ) (r : Int) (w : World) (h0 : 128 ≤ r) (hn : r ≠ 65533) (hv : Lib.validRune r = true) (hs : 3 ≤ (Utf8.encode r).size ∧ (Utf8.encode r).size ≤ 4) :
    Calls P (ρ.f 152) #[.string sepB, .int .i32 r] w fun e w' => e = .returned (.int .i64 (-1)) ∧ w' = w := by
  have t3 := L.t3; have a3 := L.a3; have z3 := L.z3; have v3 := L.v3
  have t4 := L.t4; have a4 := L.a4; have z4 := L.z4; have v4 := L.v4
  have t5 := L.t5; have a5 := L.a5; have z5 := L.z5; have v5 := L.v5
  have t9 := L.t9; have a9 := L.a9; have z9 := L.z9; have v9 := L.v9
  have t21 := L.t21; have a21 := L.a21; have z21 := L.z21; have v21 := L.v21
  have e119 : ∀ args w, (callFunc (ρ.f 119) args).run P w = .ok (.enter (ρ.f 119) args) w := enters_of L.f119 (by kernel_rfl) rfl
  have d1 : decide (r < 128) = false := decide_eq_false (by omega)
  have d2 : (r == 65533) = false := beq_eq_false_iff_ne.2 hn
  have d3 : IntKind.i64.wrap (((Utf8.encode r).size : Int) - 1) = ((Utf8.encode r).size : Int) - 1 := IntWalk.i64_in _ (by omega)
  have d4 : decide (((Utf8.encode r).size : Int) - 1 < (sepB.size : Int)) = false := decide_eq_false (by have : sepB.size = 2 := rfl; omega)
  go_enter L.f152, Body.n152_ntmps ρ
  go_wp2_with (go_at_fn (ρ.f 119); refine (Any.utf8_ValidRune { L with } _ _).mono ?_; rintro e w' ⟨rfl, hw⟩; rw [hw, hv])
  refine wp_scope_straight ?_
  go_wp2
  refine wp_loop_once ?_
  go_wp2
  show Exit.inBlock 0 _ Exit.ret _ _
  go_ret
  exact ⟨rfl, rfl⟩
set_option maxHeartbeats 8000000 in
set_option maxRecDepth 1000000 in
theorem Any.strings_IndexRune_two (L : Lays.n152 P ρ) (r : Int) (w : World) (h0 : 128 ≤ r) (hn : r ≠ 65533) (hv : Lib.validRune r = true) (x y : UInt8) (he : Utf8.encode r = ⟨#[x, y]⟩) (hy : 128 ≤ y.toNat) :
    Calls P (ρ.f 152) #[.string sepB, .int .i32 r] w fun e w' => e = .returned (.int .i64 (-1)) ∧ ∃ n, w' = w.drewN n := by
  have mixed := L.mixed
  have t3 := L.t3; have a3 := L.a3; have z3 := L.z3; have v3 := L.v3
  have t4 := L.t4; have a4 := L.a4; have z4 := L.z4; have v4 := L.v4
  have t5 := L.t5; have a5 := L.a5; have z5 := L.z5; have v5 := L.v5
  have t9 := L.t9; have a9 := L.a9; have z9 := L.z9; have v9 := L.v9
  have t21 := L.t21; have a21 := L.a21; have z21 := L.z21; have v21 := L.v21
  have e119 : ∀ args w, (callFunc (ρ.f 119) args).run P w = .ok (.enter (ρ.f 119) args) w := enters_of L.f119 (by kernel_rfl) rfl
  have e137 : ∀ args w, (callFunc (ρ.f 137) args).run P w = .ok (.enter (ρ.f 137) args) w := enters_of L.f137 (by kernel_rfl) rfl
  have d1 : decide (r < 128) = false := decide_eq_false (by omega)
  have d2 : (r == 65533) = false := beq_eq_false_iff_ne.2 hn
  obtain ⟨rs, hrs⟩ : ∃ rs, Utf8.encode r = rs := ⟨_, rfl⟩
  have h2 : rs.size = 2 := by rw [← hrs, he]; rfl
  have hs2 : (rs.size : Int) = 2 := by rw [h2]; rfl
  have hb : rs[1]'(by omega) = y := by subst hrs; simp only [he]; rfl
  clear he
  have hsb : (sepB.size : Int) = 2 := rfl
  have hsl : sepB.size = 2 := rfl
  have hb2 : sepB[1]'(by decide) = 91 := rfl
  have hne : (((91 : UInt8).toNat : Int) != (y.toNat : Int)) = true := by rw [bne_iff_ne]; have : (91 : UInt8).toNat = 91 := rfl; omega
  have hw2 : IntKind.i64.wrap 2 = 2 := rfl
  have hxt : sepB.extract 2 sepB.size = ⟨#[]⟩ := rfl
  have hxt2 : sepB.extract 2 2 = ⟨#[]⟩ := rfl
  have hcq : ∀ (wq : World) (n : Nat) (c : Int), Calls P (ρ.f 137) #[.string ByteArray.empty, .int .u8 c] (wq.drewN n) fun e w'' => e = .returned (.int .i64 (-1)) ∧ ∃ m, w'' = wq.drewN m := fun wq n c =>
    Calls.quiet_of_same ((Any.strings_IndexByte { L with } ByteArray.empty c (wq.drewN n)).mono fun e w' h => ⟨h.1.trans rfl, h.2⟩)
  go_enter L.f152, Body.n152_ntmps ρ
  go_wp2_with (go_at_fn (ρ.f 119); refine (Any.utf8_ValidRune { L with } _ _).mono ?_; rintro e w' ⟨rfl, hw⟩; rw [hw, hv])
  refine wp_scope_straight ?_
  go_wp2
  refine wp_loop_once ?_
  go_wp2
  refine wp_scope_straight ?_
  go_wp2
  go_quiet_o (fail)
  generalize hwq : w.drewN nq = wq
  go_wp2
  go_quiet_o (exact hcq _ _ _)
  go_wp2
  simp (config := { zetaDelta := true }) only [Exit.inBlock, Exit.noGoto, Exit.then]
  go_ret
  exact ⟨rfl, _, by rw [← hwq, World.drewN_drewN]⟩
/-- at whatever rune of two bytes and more -/
theorem Any.strings_IndexRune_high (L : Lays.n152 P ρ) (r : Int) (w : World) (h0 : 128 ≤ r) :
    Calls P (ρ.f 152) #[.string sepB, .int .i32 r] w fun e w' => e = .returned (.int .i64 (-1)) ∧ Below w.heap.size w w' := by
  by_cases hn : r = 65533
  · subst hn
    refine (Any.strings_IndexRune_err L w).mono fun e w' ⟨he, pos, hw⟩ => ⟨he, ?_⟩
    subst hw
    exact (Below.refl _ w).alloc (Nat.le_refl _) _
  · cases hv : Lib.validRune r with
    | false => exact (Any.strings_IndexRune_bad L r w h0 hn hv).mono fun e w' ⟨he, hw⟩ => ⟨he, by rw [hw]; exact Below.refl _ _⟩
    | true =>
      rcases enc_high hv h0 with hs | ⟨x, y, he, hy⟩
      · exact (Any.strings_IndexRune_long L r w h0 hn hv hs).mono fun e w' ⟨he, hw⟩ => ⟨he, by rw [hw]; exact Below.refl _ _⟩
      · refine (Any.strings_IndexRune_two L r w h0 hn hv x y he hy).mono fun e w' ⟨he, n, hw⟩ => ⟨he, ?_⟩
        subst hw
        exact ⟨rfl, rfl, rfl, Nat.le_refl _, fun _ _ => rfl⟩
theorem dec_cont (s : ByteArray) (pos : Nat) (h : pos < s.size) (ha : 128 ≤ (s[pos]'h).toNat) : 128 ≤ (Utf8.decode s pos).1 ∧ 1 ≤ (Utf8.decode s pos).2 ∧ ∀ j, j < (Utf8.decode s pos).2 → pos + j < s.size ∧ 128 ≤ (s.get! (pos + j)).toNat := by
  have h1 := decode_high s pos h ha
  refine ⟨h1.1, h1.2, ?_⟩
  have hg := get_at s pos h
  have h0 : 128 ≤ (s.get! (pos + 0)).toNat := by rw [hg]; exact ha
  have hn : ¬ (s[pos]'h).toNat < 128 := by omega
  have c0 : pos + 0 < s.size := h
  have cont : ∀ k, (decide (pos + k < s.size) && ((s.get! (pos + k)).toNat / 64 == 2)) = true → pos + k < s.size ∧ 128 ≤ (s.get! (pos + k)).toNat := by
    intro k q
    rw [Bool.and_eq_true] at q
    have q1 := of_decide_eq_true q.1
    have q2 : (s.get! (pos + k)).toNat / 64 = 2 := by simpa using q.2
    exact ⟨q1, by omega⟩
  have one : ∀ j, j < 1 → pos + j < s.size ∧ 128 ≤ (s.get! (pos + j)).toNat := by
    intro j hj
    obtain rfl : j = 0 := by omega
    exact ⟨c0, h0⟩
  simp only [Utf8.decode, hg, hn, if_false]
  split
  · rename_i q
    rw [Bool.and_eq_true] at q
    have k1 := cont 1 q.2
    split
    · intro j hj
      have hj : j < 2 := hj
      rcases (show j = 0 ∨ j = 1 by omega) with rfl | rfl
      · exact ⟨c0, h0⟩
      · exact k1
    · exact one
  · split
    · rename_i q
      simp only [Bool.and_eq_true] at q
      have k1 := cont 1 (by simpa using q.1.2)
      have k2 := cont 2 (by simpa using q.2)
      split
      · intro j hj
        have hj : j < 3 := hj
        rcases (show j = 0 ∨ j = 1 ∨ j = 2 by omega) with rfl | rfl | rfl
        · exact ⟨c0, h0⟩
        · exact k1
        · exact k2
      · exact one
    · split
      · rename_i q
        simp only [Bool.and_eq_true] at q
        have k1 := cont 1 (by simpa using q.1.1.2)
        have k2 := cont 2 (by simpa using q.1.2)
        have k3 := cont 3 (by simpa using q.2)
        split
        · intro j hj
          have hj : j < 4 := hj
          rcases (show j = 0 ∨ j = 1 ∨ j = 2 ∨ j = 3 by omega) with rfl | rfl | rfl | rfl
          · exact ⟨c0, h0⟩
          · exact k1
          · exact k2
          · exact k3
        · exact one
      · exact one
theorem sep_data : sepB.data.toList = [47, 91] := rfl
theorem noAny_more {s : ByteArray} {i n : Nat} (h : Lib.NoAny s.data.toList sepB.data.toList i) (hn : ∀ j, j < n → i + j < s.size ∧ 128 ≤ (s.get! (i + j)).toNat) : Lib.NoAny s.data.toList sepB.data.toList (i + n) := by
  intro j b hj hb
  by_cases hji : j < i
  · exact h j b hji hb
  · have := hn (j - i) (by omega)
    rw [show i + (j - i) = j by omega] at this
    have hbj : s.get! j = b := by
      have e1 := Lib.data_getElem? s j this.1
      rw [e1] at hb
      injection hb with hb
      rw [← hb]
      simp [ByteArray.get!, getElem!_pos, this.1]
      rfl
    rw [hbj] at this
    rw [sep_data]
    have h47 : b ≠ 47 := by rintro rfl; exact absurd this.2 (by decide)
    have h91 : b ≠ 91 := by rintro rfl; exact absurd this.2 (by decide)
    simp [h47, h91]
set_option maxHeartbeats 8000000 in
set_option maxRecDepth 1000000 in
theorem Any.strings_IndexAny_sep (L : Lays.n153 P ρ) (s : ByteArray) (w : World) (h8 : s.size ≤ 8) :
    Calls P (ρ.f 153) #[.string s, .string sepB] w fun e w' => e = .returned (.int .i64 (Lib.indexAny s.data.toList sepB.data.toList)) ∧ Below w.heap.size w w' := by
  have hemp : sepB.toList.isEmpty = false := by rw [Lib.toList_data]; rfl
  have hn1 : ((sepB.size : Int) == 1) = false := rfl
  have h8z : decide ((8 : Int) < (s.size : Int)) = false := decide_eq_false (by omega)
  have t3 := L.t3; have a3 := L.a3; have z3 := L.z3; have v3 := L.v3
  have t4 := L.t4; have a4 := L.a4; have z4 := L.z4; have v4 := L.v4
  have t5 := L.t5; have a5 := L.a5; have z5 := L.z5; have v5 := L.v5
  have t9 := L.t9; have a9 := L.a9; have z9 := L.z9; have v9 := L.v9
  have t21 := L.t21; have a21 := L.a21; have z21 := L.z21; have v21 := L.v21
  have e152 : ∀ args w, (callFunc (ρ.f 152) args).run P w = .ok (.enter (ρ.f 152) args) w := enters_of L.f152 (by kernel_rfl) rfl
  have e226 : ∀ args w, (callFunc (ρ.f 226) args).run P w = .ok (.enter (ρ.f 226) args) w := enters_of L.f226 (by kernel_rfl) rfl
  go_enter L.f153, Body.n153_ntmps ρ
  go_wp2_with (go_at_fn (ρ.f 226); refine (Any.strings_shouldUseASCIISet { L with } _ _).mono ?_; rintro e w' ⟨rfl, hw⟩; rw [hw, h8z])
  go_loopg [9, 10] s.size (fun g _ _ wx => ∃ i : Nat, i + g = s.size ∧ wx.heap[w.heap.size]? = some (.stringIter s i) ∧ Below w.heap.size w wx ∧ Lib.NoAny s.data.toList sepB.data.toList i)
  case atStart => exact ⟨0, by omega, by simp [World.iter_heap], (Below.refl _ w).alloc (Nat.le_refl _) _, Lib.NoAny.zero _ _⟩
  case round =>
    obtain ⟨i, hig, hk, hbl, hno⟩ := hrel
    have hno' : Aside (Lib.NoAny s.data.toList sepB.data.toList i) := hno
    clear hno
    have hbl' : Aside (Below w.heap.size w _) := hbl
    clear hbl
    cases gk with
    | zero =>
      obtain rfl : i = s.size := by omega
      have hnx := fun ty => run_next_end_at (P := P) _ w.heap.size s s.size ty hk (by omega)
      go_wp2
      go_ret
      exact ⟨by rw [Lib.indexAny_none (by rw [← Lib.size_eq]; exact hno'.out)]; rfl, hbl'.out⟩
    | succ g =>
      have hi : i < s.size := by omega
      have hnx := fun ty => run_next_any_at (P := P) _ w.heap.size s i ty hk hi
      by_cases h128 : (s[i]'hi).toNat < 128
      · rw [decode_ascii s i hi h128] at hnx
        obtain ⟨x, hx⟩ : ∃ x : UInt8, s[i]'hi = x := ⟨_, rfl⟩
        have hxl : s.data.toList[i]? = some x := by rw [← hx]; exact Lib.data_getElem? s i hi
        rw [hx] at hnx h128
        have Hx : Aside (s.data.toList[i]? = some x) := hxl
        clear hxl hx
        have hcon := Lib.contains_iff_indexByte sepB.data.toList x
        have hback : ((x.toNat : Int)).toNat.toUInt8 = x := by simp
        have H128 : Aside (x.toNat < 128) := h128
        clear h128
        have HK : Aside (_ = some (Obj.stringIter s i)) := hk
        clear hk
        cases hin : sepB.data.toList.contains x
        · rw [hin] at hcon
          have hlt : ¬ ((0 : Int) ≤ Lib.indexByte sepB.data.toList x) := of_decide_eq_false hcon.symm
          clear hcon
          go_wp2_with (go_at_fn (ρ.f 152); refine (Any.strings_IndexRune_ascii { L with } _ _ _ (by omega) (by have := H128.out; omega)).mono ?_; rintro e w' ⟨rfl, hw⟩; rw [hw, hback])
          go_roundg g
          case measure => omega
          case rel => exact ⟨i + 1, by omega, iterAt_heap _ _ _ _ _ HK.out, below_iterAt hbl'.out (Nat.le_refl _) _ _, hno'.out.succ Hx.out hin⟩
        · rw [hin] at hcon
          have hge : (0 : Int) ≤ Lib.indexByte sepB.data.toList x := of_decide_eq_true hcon.symm
          clear hcon
          go_wp2_with (go_at_fn (ρ.f 152); refine (Any.strings_IndexRune_ascii { L with } _ _ _ (by omega) (by have := H128.out; omega)).mono ?_; rintro e w' ⟨rfl, hw⟩; rw [hw, hback])
          go_ret
          exact ⟨by rw [Lib.indexAny_hit hno'.out Hx.out hin]; rfl, below_iterAt hbl'.out (Nat.le_refl _) _ _⟩
      · have hd := dec_cont s i hi (by omega)
        have HK : Aside (_ = some (Obj.stringIter s i)) := hk
        clear hk h128
        generalize hdn : (Utf8.decode s i).2 = n at *
        generalize hdr : (Utf8.decode s i).1 = r at *
        have HD : Aside (128 ≤ r ∧ 1 ≤ n ∧ ∀ j, j < n → i + j < s.size ∧ 128 ≤ (s.get! (i + j)).toNat) := hd
        clear hd hdn hdr
        go_wp2_with (go_at_fn (ρ.f 152); refine (Any.strings_IndexRune_high { L with } _ _ (by have := HD.out.1; omega)).mono ?_; rintro e w' ⟨rfl, hw⟩)
        have hle : i + n ≤ s.size ∧ 1 ≤ n := by
          have h1 := HD.out.2.1
          have := (HD.out.2.2 (n - 1) (by omega)).1
          omega
        go_roundg (s.size - (i + n))
        case measure => omega
        case rel =>
          have hlt : w.heap.size < (World.iterAt _ w.heap.size s (i + n)).heap.size := (Array.getElem?_eq_some_iff.1 (iterAt_heap _ _ _ _ (i + n) HK.out)).1
          exact ⟨i + n, by omega, (hw.block _ hlt).trans (iterAt_heap _ _ _ _ _ HK.out), (below_iterAt hbl'.out (Nat.le_refl _) _ _).trans (hw.mono (by omega)), noAny_more hno'.out HD.out.2.2⟩
/-- strings.IndexAny for the two bytes, at whatever text -/
theorem Any.strings_IndexAny_sep_all (L : Lays.n153 P ρ) (h116 : (P.info? (ρ.t 116)).map (fun i => (i.zero, i.size)) = some (some (.agg (Array.replicate 256 (.bool false))), 256)) (s : ByteArray) (w : World) (hs : s.size < 4294967281) :
    Calls P (ρ.f 153) #[.string s, .string sepB] w fun e w' => e = .returned (.int .i64 (Lib.indexAny s.data.toList [47, 91])) ∧ Below w.heap.size w w' := by
  by_cases h8 : s.size ≤ 8
  · exact Any.strings_IndexAny_sep L s w h8
  · refine (Any.strings_IndexAny_long L (zero_of_info h116).1 (zero_of_info h116).2 s sepB w (by decide) (by omega) hs (by decide) (fun j b hb => ?_)).mono fun e w' ⟨h1, h2⟩ => ⟨h1, ?_⟩
    · have hm : b ∈ sepB.data.toList := List.mem_of_getElem? hb
      rw [sep_data] at hm
      simp at hm
      rcases hm with rfl | rfl <;> decide
    · rw [h2]
      exact ((Below.refl _ _).alloc (Nat.le_refl _) _).alloc (by simp) _
end Go.Proofs
namespace Go.Proofs
open Go.Shelf
def Try.laysM316_ren : Go.Shelf.Ren := ⟨fun | 316 => 112 | n => n, fun | 9 => 9 | 3 => 3 | 4 => 4 | 37 => 27 | 0 => 0 | 127 => 105 | 5 => 5 | n => n, fun | n => n⟩
theorem Try.laysM316 : Go.Proofs.LaysM.n316 Try.prog Try.laysM316_ren := {
  mixed := by kernel_rfl
  f316 := Try.func112.trans (congrArg some (by kernel_rfl))
  t0 := Try.underlying0
  a0 := Try.isAgg0
  z0 := Try.sizeOf0
  v0 := Try.zeroValue0
  t3 := Try.underlying3
  a3 := Try.isAgg3
  z3 := Try.sizeOf3
  v3 := Try.zeroValue3
  t4 := Try.underlying4
  a4 := Try.isAgg4
  z4 := Try.sizeOf4
  v4 := Try.zeroValue4
  t9 := Try.underlying9
  a9 := Try.isAgg9
  z9 := Try.sizeOf9
  v9 := Try.zeroValue9
  t37 := Try.underlying27
  a37 := Try.isAgg27
  z37 := Try.sizeOf27
  v37 := Try.zeroValue27
  t127 := Try.underlying105
  a127 := Try.isAgg105
  z127 := Try.sizeOf105
  v127 := Try.zeroValue105
  t5 := Try.underlying5
  a5 := Try.isAgg5
  z5 := Try.sizeOf5
  v5 := Try.zeroValue5
  i0 := by kernel_rfl
  i3 := by kernel_rfl
  i4 := by kernel_rfl
  i5 := by kernel_rfl
  i9 := by kernel_rfl
  i37 := by kernel_rfl
  i127 := by kernel_rfl }
open Go.RowKit in
/-- internal/stringslite.Clone (what strings.Clone calls): "Clone returns a fresh copy of s.": THE SAME BYTES. Of what was there nothing has turned (a new row is laid, and frozen, where s is not empty). (LAID: no walk: one application.) -/
theorem Try.stringslite_Clone (s : ByteArray) (w : World) (hlim : s.size ≤ 281474976710656) :
    Calls Try.prog 112 #[.string s] w fun e w' => e = .returned (.string s) ∧ Below w.heap.size w w' := Any.stringslite_Clone Try.laysM316 s w hlim
def Try.lays145_ren : Go.Shelf.Ren := ⟨fun | 145 => 106 | 220 => 128 | 219 => 157 | 217 => 165 | 225 => 156 | 224 => 155 | 267 => 166 | 266 => 168 | 314 => 169 | n => n, fun | 9 => 9 | 4 => 4 | 59 => 120 | 3 => 3 | 5 => 5 | 46 => 127 | 146 => 175 | 51 => 150 | n => n, fun | 1 => 0 | n => n⟩
theorem Try.lays145 : Go.Proofs.Lays.n145 Try.prog Try.lays145_ren := {
  mixed := by kernel_rfl
  f145 := Try.func106.trans (congrArg some (by kernel_rfl))
  f217 := Try.func165.trans (congrArg some (by kernel_rfl))
  f219 := Try.func157.trans (congrArg some (by kernel_rfl))
  f220 := Try.func128.trans (congrArg some (by kernel_rfl))
  f224 := Try.func155.trans (congrArg some (by kernel_rfl))
  f225 := Try.func156.trans (congrArg some (by kernel_rfl))
  f266 := Try.func168.trans (congrArg some (by kernel_rfl))
  f267 := Try.func166.trans (congrArg some (by kernel_rfl))
  f314 := Try.func169.trans (congrArg some (by kernel_rfl))
  t3 := Try.underlying3
  a3 := Try.isAgg3
  z3 := Try.sizeOf3
  v3 := Try.zeroValue3
  t4 := Try.underlying4
  a4 := Try.isAgg4
  z4 := Try.sizeOf4
  v4 := Try.zeroValue4
  t5 := Try.underlying5
  a5 := Try.isAgg5
  z5 := Try.sizeOf5
  v5 := Try.zeroValue5
  t9 := Try.underlying9
  a9 := Try.isAgg9
  z9 := Try.sizeOf9
  v9 := Try.zeroValue9
  t46 := Try.underlying127
  a46 := Try.isAgg127
  z46 := Try.sizeOf127
  v46 := Try.zeroValue127
  t51 := Try.underlying150
  a51 := Try.isAgg150
  z51 := Try.sizeOf150
  v51 := Try.zeroValue150
  t59 := Try.underlying120
  a59 := Try.isAgg120
  z59 := Try.sizeOf120
  v59 := Try.zeroValue120
  t146 := Try.underlying175
  a146 := Try.isAgg175
  z146 := Try.sizeOf175
  v146 := Try.zeroValue175
  g1 := by kernel_rfl }
open Go.RowKit Go.Lib in
/-- strings.Cut: "Cut slices s around the first instance of sep, returning the text before and after sep. The found result reports whether sep appears in s. If sep does not appear in s, cut returns s, "", false.": IT RETURNS 'Lib.cut s sep'; the world is as it was but for the count of draws. (LAID: no walk: one application.) -/
theorem Try.strings_Cut (s sep : ByteArray) (m : Int) (w : World) (hs : s.size < 4294967281) (hm : w.cell? ⟨0, 0, none⟩ = some (.int .i64 m)) :
    Calls Try.prog 106 #[.string s, .string sep] w fun e w' => e = .returned (.tuple #[.string ⟨(Lib.cut s.data.toList sep.data.toList).1.toArray⟩, .string ⟨(Lib.cut s.data.toList sep.data.toList).2.1.toArray⟩, .bool (Lib.cut s.data.toList sep.data.toList).2.2]) ∧ ∃ n, w' = w.drewN n := Any.strings_Cut Try.lays145 s sep m w hs hm
def Try.lays99_ren : Go.Shelf.Ren := ⟨fun | 99 => 70 | 206 => 103 | n => n, fun | 9 => 9 | 4 => 4 | 3 => 3 | n => n, fun | n => n⟩
theorem Try.lays99 : Go.Proofs.Lays.n99 Try.prog Try.lays99_ren := {
  mixed := by kernel_rfl
  f99 := Try.func70.trans (congrArg some (by kernel_rfl))
  f206 := Try.func103.trans (congrArg some (by kernel_rfl))
  t3 := Try.underlying3
  a3 := Try.isAgg3
  z3 := Try.sizeOf3
  v3 := Try.zeroValue3
  t4 := Try.underlying4
  a4 := Try.isAgg4
  z4 := Try.sizeOf4
  v4 := Try.zeroValue4
  t9 := Try.underlying9
  a9 := Try.isAgg9
  z9 := Try.sizeOf9
  v9 := Try.zeroValue9 }
open Go.RowKit Go.Lib in
/-- strings.HasPrefix: "HasPrefix reports whether the string s begins with prefix.": IT RETURNS 'Lib.hasPrefix s prefix'; the world is as it was. (LAID: no walk: one application.) -/
theorem Try.strings_HasPrefix (s p : ByteArray) (w : World) :
    Calls Try.prog 70 #[.string s, .string p] w fun e w' => e = .returned (.bool (Lib.hasPrefix s.data.toList p.data.toList)) ∧ w' = w := Any.strings_HasPrefix Try.lays99 s p w
def Try.lays101_ren : Go.Shelf.Ren := ⟨fun | 101 => 71 | 208 => 104 | 206 => 103 | n => n, fun | 9 => 9 | 4 => 4 | 3 => 3 | n => n, fun | n => n⟩
theorem Try.lays101 : Go.Proofs.Lays.n101 Try.prog Try.lays101_ren := {
  mixed := by kernel_rfl
  f101 := Try.func71.trans (congrArg some (by kernel_rfl))
  f206 := Try.func103.trans (congrArg some (by kernel_rfl))
  f208 := Try.func104.trans (congrArg some (by kernel_rfl))
  t3 := Try.underlying3
  a3 := Try.isAgg3
  z3 := Try.sizeOf3
  v3 := Try.zeroValue3
  t4 := Try.underlying4
  a4 := Try.isAgg4
  z4 := Try.sizeOf4
  v4 := Try.zeroValue4
  t9 := Try.underlying9
  a9 := Try.isAgg9
  z9 := Try.sizeOf9
  v9 := Try.zeroValue9 }
open Go.RowKit Go.Lib in
/-- strings.TrimPrefix: "TrimPrefix returns s without the provided leading prefix string. If s doesn't start with prefix, s is returned unchanged.": IT RETURNS 'Lib.trimPrefix s prefix'; the world is as it was. (LAID: no walk: one application.) -/
theorem Try.strings_TrimPrefix (s p : ByteArray) (w : World) :
    Calls Try.prog 71 #[.string s, .string p] w fun e w' => e = .returned (.string ⟨(Lib.trimPrefix s.data.toList p.data.toList).toArray⟩) ∧ w' = w := Any.strings_TrimPrefix Try.lays101 s p w
def Try.lays153_ren : Go.Shelf.Ren := ⟨fun | 153 => 105 | 152 => 124 | 226 => 125 | 227 => 126 | 228 => 127 | 137 => 153 | 119 => 154 | 224 => 155 | 225 => 156 | 217 => 165 | 266 => 168 | n => n, fun | 9 => 9 | 3 => 3 | 4 => 4 | 5 => 5 | 21 => 21 | 117 => 138 | 116 => 137 | 0 => 0 | 46 => 127 | 124 => 162 | n => n, fun | n => n⟩
theorem Try.lays153 : Go.Proofs.Lays.n153 Try.prog Try.lays153_ren := {
  mixed := by kernel_rfl
  f119 := Try.func154.trans (congrArg some (by kernel_rfl))
  f137 := Try.func153.trans (congrArg some (by kernel_rfl))
  f152 := Try.func124.trans (congrArg some (by kernel_rfl))
  f153 := Try.func105.trans (congrArg some (by kernel_rfl))
  f217 := Try.func165.trans (congrArg some (by kernel_rfl))
  f224 := Try.func155.trans (congrArg some (by kernel_rfl))
  f225 := Try.func156.trans (congrArg some (by kernel_rfl))
  f226 := Try.func125.trans (congrArg some (by kernel_rfl))
  f227 := Try.func126.trans (congrArg some (by kernel_rfl))
  f228 := Try.func127.trans (congrArg some (by kernel_rfl))
  f266 := Try.func168.trans (congrArg some (by kernel_rfl))
  t0 := Try.underlying0
  a0 := Try.isAgg0
  z0 := Try.sizeOf0
  v0 := Try.zeroValue0
  t3 := Try.underlying3
  a3 := Try.isAgg3
  z3 := Try.sizeOf3
  v3 := Try.zeroValue3
  t4 := Try.underlying4
  a4 := Try.isAgg4
  z4 := Try.sizeOf4
  v4 := Try.zeroValue4
  t5 := Try.underlying5
  a5 := Try.isAgg5
  z5 := Try.sizeOf5
  v5 := Try.zeroValue5
  t9 := Try.underlying9
  a9 := Try.isAgg9
  z9 := Try.sizeOf9
  v9 := Try.zeroValue9
  t21 := Try.underlying21
  a21 := Try.isAgg21
  z21 := Try.sizeOf21
  v21 := Try.zeroValue21
  t46 := Try.underlying127
  a46 := Try.isAgg127
  z46 := Try.sizeOf127
  v46 := Try.zeroValue127
  t116 := Try.underlying137
  a116 := Try.isAgg137
  z116 := Try.sizeOf137
  t117 := Try.underlying138
  a117 := Try.isAgg138
  z117 := Try.sizeOf138
  v117 := Try.zeroValue138
  t124 := Try.underlying162
  a124 := Try.isAgg162
  z124 := Try.sizeOf162
  v124 := Try.zeroValue162 }
open Go.RowKit Go.Lib in
theorem Try.strings_IndexAny_sep (s : ByteArray) (w : World) (hs : s.size < 4294967281) :
    Calls Try.prog 105 #[.string s, .string ⟨#[47, 91]⟩] w fun e w' => e = .returned (.int .i64 (Lib.indexAny s.data.toList [47, 91])) ∧ Below w.heap.size w w' := Any.strings_IndexAny_sep_all Try.lays153 (by kernel_rfl) s w hs
end Go.Proofs
namespace Go.Abs
open Go.Proofs Go.RowKit
set_option maxRecDepth 100000
theorem enters_of (g : Nat) (F : Func) (h : Try.prog.funcs[g]? = some F) (hb : F.body.isSome = true) (hn : (F.name == "runtime.NumGoroutine") = false) : Enters V0.P g := ⟨F, h, hb, hn⟩
theorem prims0 : ∀ g p, V0.prim g = some p → PrimSnd V0.P g p := by
  intro g p h
  obtain ⟨e, he, rfl⟩ := Option.map_eq_some_iff.1 (show (primTab.find? fun e => e.1 == g).map (·.2) = some p from h)
  have hm := List.mem_of_find?_eq_some he
  have hg : e.1 = g := by simpa using List.find?_some he
  subst hg
  simp only [primTab, List.mem_cons, List.not_mem_nil, or_false] at hm
  rcases hm with rfl | rfl | rfl | rfl | rfl | rfl
  · exact fHasPrefix_snd (enters_of 70 _ Try.func70 (by kernel_rfl) (by kernel_rfl)) Try.strings_HasPrefix
  · exact fTrimPrefix_snd (enters_of 71 _ Try.func71 (by kernel_rfl) (by kernel_rfl)) Try.strings_TrimPrefix
  · exact pCopyCheck_snd (enters_of 92 _ Try.func92 (by kernel_rfl) (by kernel_rfl)) Try.cc_fresh Try.cc_used
  · exact fIndexAny_snd (enters_of 105 _ Try.func105 (by kernel_rfl) (by kernel_rfl)) Try.strings_IndexAny_sep
  · exact fCut_snd (enters_of 106 _ Try.func106 (by kernel_rfl) (by kernel_rfl)) fun s t w hw hs => let ⟨m, hm⟩ := hw 0 (by simp); Try.strings_Cut s t m w hs hm
  · exact fClone_snd (enters_of 112 _ Try.func112 (by kernel_rfl) (by kernel_rfl)) Try.stringslite_Clone
end Go.Abs
namespace Go.Abs
open Go.Proofs Go.RowKit
/-- what is known of the library's own variables, of any world of this program's shape -/
theorem glob_of {W : World} (hsh : W.ShapedOpen Try.prog) : Glob W := by
  intro b hb
  have hb0 : b = 0 := by simpa using hb
  subst hb0
  exact Go.Proofs.cell_of_shapedOpen_int (zero := #[.int .i64 0]) (t := 3) hsh (of_decide_eq_true (by kernel_rfl)) (by kernel_rfl) rfl (by kernel_rfl) (by kernel_rfl) Try.underlying3
end Go.Abs
namespace Go.Abs
set_option linter.unusedVariables false
open Go.RowKit Go.Proofs Go.Deep

theorem good0 : Go.Abs.Good V0 where
  draw := draw_sound (by kernel_rfl)
  prim := prims0
  name := by
    intro f F hF hb
    have all : (Try.prog.funcs.all fun F => !F.body.isSome || !(F.name == "runtime.NumGoroutine")) = true := by kernel_rfl
    have := Array.all_eq_true.1 all
    obtain ⟨hi, rfl⟩ := Array.getElem?_eq_some_iff.1 hF
    have h1 : (!V0.P.funcs[f].body.isSome || !(V0.P.funcs[f].name == "runtime.NumGoroutine")) = true := this f hi
    rw [hb, Bool.not_true, Bool.false_or] at h1
    cases hq : (V0.P.funcs[f].name == "runtime.NumGoroutine") with
    | false => rfl
    | true => rw [hq] at h1; cases h1

theorem rel_start (W : World) (hg : Glob W) : Rel W 0 (fun _ => ⟨0, 0, 0⟩) [] W :=
  ⟨Below.refl _ _, fun id g sz cs e => by simp at e, fun id es e => by simp at e, fun i j _ hi _ _ => by rcases hi with ⟨_, _, _, e⟩ | ⟨_, e⟩ <;> simp at e, hg⟩

/-- a cell that stands for itself -/
def plainC : Value → Bool
  | .bool _ | .int .. | .string _ => true
  | _ => false
theorem plainC_vr {ι : Iota} {h : AH} {v : Value} (p : plainC v = true) : VR ι h v v ∧ oneCell v = true := by
  cases v <;> first | (cases p; done) | skip
  · exact ⟨VR.bool _, rfl⟩
  · exact ⟨VR.int _ _, rfl⟩
  · exact ⟨VR.str _, rfl⟩

theorem okWide_has {P : Program} {W : World} {r : Reach} {base t e : Nat} {a : Addr} {len cap : Nat} (ht : P.underlying t = some (.slice e)) (h : Value.okWide P W r base t (.slice (some a) len cap)) :
    a.spot = none ∧ ∃ arr el fr, W.heap[a.block]? = some (.cells arr el fr) := by
  simp only [Value.okWide, ht, Cell.okWide, Cell.ok, World.has] at h
  obtain ⟨-, -, -, hs, row, n, hsh, -⟩ := h
  refine ⟨hs, ?_⟩
  unfold World.shape? at hsh
  split at hsh
  · rename_i c el fr e; exact ⟨_, _, _, e⟩
  · cases hsh
theorem compat_app {ι ι' : Iota} {h : AH} (o : AObj) (hι : ∀ j, j < h.length → ι' j = ι j) : Compat ι h ι' (h ++ [o]) := by
  have key : ∀ id, live h id → (h ++ [o])[id]? = h[id]? := fun id l => List.getElem?_append_left (live_lt l)
  refine ⟨by simp, fun id l => ?_, fun id l g' sz' cs' e => ?_, fun id l es' e => ?_⟩
  · rcases l with ⟨g, sz, cs, e⟩ | ⟨es, e⟩
    · exact .inl ⟨g, sz, cs, by rw [key id (.inl ⟨g, sz, cs, e⟩), e]⟩
    · exact .inr ⟨es, by rw [key id (.inr ⟨es, e⟩), e]⟩
  · rw [key id l] at e
    exact ⟨g', _, cs', e, Nat.le_refl _, fun _ => ⟨rfl, hι id (live_lt l)⟩⟩
  · rw [key id l] at e
    exact ⟨es', e, hι id (live_lt l)⟩
/-- an argument that is a slice of plain cells: an object that is read, behind those of the arguments ahead of it -/
theorem rel_arg {W : World} {n0 : Nat} {ι : Iota} {h : AH} (R : Rel W n0 ι h W) {a : Addr} {len cap k : Nat} {cs : List Value} {arr : Array Value} {el : TypeId} {fr : Nat × Nat} (hk : 0 < k ∧ k < 4294967296) (hsp : a.spot = none) (harr : W.heap[a.block]? = some (.cells arr el fr))
    (hm : ∀ (id : Nat) es, h[id]? ≠ some (AObj.map es)) (hlc : len ≤ cap) (hcs : cs.length = len * k) (hp : cs.all plainC = true)
    (hget : ∀ (i : Nat) v, cs[i]? = some v → arr[a.off + i]? = some v) (hcap : 0 < cap → a.off + cap * k ≤ arr.size) :
    ∃ ι', Rel W (h.length + 1) ι' (h ++ [AObj.row 0 k cs]) W ∧ (∀ j, j < h.length → ι' j = ι j) ∧ VR ι' (h ++ [AObj.row 0 k cs]) (slV h.length 0 len len) (.slice (some a) len cap) := by
  refine ⟨fun j => if j < h.length then ι j else ⟨a.block, if cap = 0 then 0 else a.off, arr.size⟩, ?_, fun j hj => if_pos hj, ?_⟩
  · have C : Compat ι h (fun j => if j < h.length then ι j else ⟨a.block, if cap = 0 then 0 else a.off, arr.size⟩) (h ++ [AObj.row 0 k cs]) := compat_app _ fun j hj => if_pos hj
    refine ⟨R.below, fun id g sz cs' e => ?_, fun id es e => ?_, fun i j hij hi hj hl => ?_, R.glob⟩
    · by_cases hid : id < h.length
      · rw [List.getElem?_append_left hid] at e
        obtain ⟨arr', t', fr', e1, e2, e3, e4⟩ := R.row id g sz cs' e
        simp only [if_pos hid]
        exact ⟨arr', t', fr', e1, e2, fun i v hv => let ⟨v', a1, a2, a3⟩ := e3 i v hv; ⟨v', a1, a2.mono C, a3⟩, fun hq => absurd hq (by omega)⟩
      · have hid2 : id = h.length := by
          have := lt_of_get e
          simp at this; omega
        subst hid2
        simp at e
        obtain ⟨rfl, rfl, rfl⟩ := e
        simp only [if_neg hid]
        refine ⟨arr, el, fr, harr, rfl, fun i v hv => ?_, fun hq => absurd hq (by omega)⟩
        have hc0 : cap ≠ 0 := by
          intro q
          have : i < cs.length := by
            rcases Nat.lt_or_ge i cs.length with q | q
            · exact q
            · rw [List.getElem?_eq_none q] at hv; cases hv
          have h0 : len = 0 := by omega
          have : cs.length = 0 := by rw [hcs, h0, Nat.zero_mul]
          omega
        have ho : (if cap = 0 then 0 else a.off) = a.off := if_neg hc0
        have hpv := List.all_eq_true.1 hp v (List.mem_of_getElem? hv)
        obtain ⟨p1, p2⟩ := plainC_vr (ι := fun j => if j < h.length then ι j else ⟨a.block, if cap = 0 then 0 else a.off, arr.size⟩) (h := h ++ [AObj.row 0 k cs]) hpv
        exact ⟨v, by rw [ho]; exact hget i v hv, p1, p2⟩
    · by_cases hid : id < h.length
      · rw [List.getElem?_append_left hid] at e
        exact absurd e (hm id es)
      · have hid2 : id = h.length := by
          have := lt_of_get e
          simp at this; omega
        subst hid2
        simp at e
    · have := live_lt hi
      simp at this; omega
  · refine VR.slice (.inl ⟨0, k, cs, by simp⟩) hlc hlc fun g' sz cs' e => ?_
    simp at e
    obtain ⟨rfl, rfl, rfl⟩ := e
    refine ⟨Nat.le_refl _, fun _ => ⟨?_, ?_⟩⟩
    · by_cases hc0 : cap = 0
      · exact .inl hc0
      · refine .inr ?_
        simp only [if_neg (Nat.lt_irrefl _), if_neg hc0, Nat.add_zero]
        cases a; simp only at hsp; subst hsp; rfl
    · simp only [if_neg (Nat.lt_irrefl _)]
      by_cases hc0 : cap = 0
      · simp [hc0]
      · have hwk : wd k = k := Nat.mod_eq_of_lt hk.2
        rw [if_neg hc0, hwk]; have := hcap (by omega); omega
theorem add_block (a : Addr) (n : Nat) : (a.add n).block = a.block := by unfold Addr.add; split <;> rfl
theorem add_off (a : Addr) (n : Nat) : (a.add n).off = a.off + n := by unfold Addr.add; split <;> simp_all
theorem cell_arr {W : World} {p : Addr} {v : Value} {b : Nat} {arr : Array Value} {el : TypeId} {fr : Nat × Nat} (hb : W.heap[b]? = some (.cells arr el fr)) (hp : p.block = b) (h : W.cell? p = some v) : arr[p.off]? = some v := by
  unfold World.cell? at h
  rw [hp, hb] at h
  simp only at h
  split at h
  · cases h
  · exact h
theorem flat_get {α : Type} {f : α → List Value} {k : Nat} (hk : 0 < k) (hf : ∀ x, (f x).length = k) : ∀ (xs : List α) (i : Nat), (xs.flatMap f)[i]? = (xs[i / k]?).bind fun x => (f x)[i % k]?
  | [], i => by simp
  | x :: xs, i => by
    rw [List.flatMap_cons]
    by_cases hi : i < k
    · rw [List.getElem?_append_left (by rw [hf]; exact hi), Nat.div_eq_of_lt hi, Nat.mod_eq_of_lt hi]; rfl
    · rw [List.getElem?_append_right (by rw [hf]; omega), hf, flat_get hk hf xs (i - k)]
      have h1 : i / k = (i - k) / k + 1 := by rw [Nat.div_eq_sub_div hk (by omega)]
      have h2 : i % k = (i - k) % k := Nat.mod_eq_sub_mod (by omega)
      rw [h1, h2, List.getElem?_cons_succ]
/-- the elements of a slice that is an argument, each of k cells -/
theorem open_els {α : Type} [Inhabited α] {f : α → List Value} {k : Nat} (hk : 0 < k) (hf : ∀ x, (f x).length = k) {good : α → Prop} {H : Type} {enc : TypeId × Value → H} {P : Program} {W : World} {t e base : Nat} {v : Value} {d : DataW H} {ps : List MemPlace}
    (ht : P.underlying t = some (.slice e)) (hc : P.cellsOf e = k) (hval : Value.okWide P W .any base t v) (hd : DataW.Trod enc P W 0 (fun _ => true) true t v d ps)
    (hel : ∀ fuel cs x, DataW.trod enc P W 0 (fun _ => true) true fuel e cs = some x → ∃ y, cs = f y ∧ good y) (hplain : ∀ y, (f y).all plainC = true) :
    v = .slice none 0 0 ∨ ∃ (a : Addr) (len cap : Nat) (xs : List α) (arr : Array Value) (el : TypeId) (fr : Nat × Nat), v = .slice (some a) len cap ∧ a.spot = none ∧ W.heap[a.block]? = some (.cells arr el fr) ∧ xs.length = len ∧ len ≤ cap ∧ len ≤ maxLen ∧
      (∀ x ∈ xs, good x) ∧ (xs.flatMap f).length = len * k ∧ (xs.flatMap f).all plainC = true ∧ (∀ (i : Nat) v, (xs.flatMap f)[i]? = some v → arr[a.off + i]? = some v) ∧ (0 < cap → a.off + cap * k ≤ arr.size) := by
  obtain ⟨fuel, hfu⟩ := hd
  obtain ⟨va, len, cap, rfl⟩ := Go.WideShapes.okWide_slice ht hval
  rcases open_slice ht hfu with ⟨h0, -⟩ | ⟨a, len', cap', m, n, D, Pl, hcs, hb, hl, hm, hmm, -, hx⟩
  · left; simpa [Value.cells] using h0
  · right
    simp only [Value.cells, List.cons.injEq, and_true] at hcs
    cases hcs
    simp only [if_true] at hmm
    subst hmm
    obtain ⟨hsp, arr, el, fr, harr⟩ := okWide_has ht hval
    rw [hc] at hx
    have hx' : ∀ i, i < m → ∃ y, W.cells? 0 (a.add (i * k)) k = some (f y) ∧ good y := fun i hi => by
      obtain ⟨cs', h1, h2⟩ := hx i hi
      obtain ⟨y, rfl, hg⟩ := hel _ _ _ h2
      exact ⟨y, h1, hg⟩
    obtain ⟨X, hX⟩ := choose_lt hx'
    have hcell : ∀ i, i < m → ∀ j v, (f (X i))[j]? = some v → arr[a.off + (i * k + j)]? = some v := fun i hi j v hv => by
      obtain ⟨-, hlen, hg⟩ := World.cells?_some (hX i hi).1
      have hj : j < k := by
        rcases Nat.lt_or_ge j (f (X i)).length with q | q
        · rw [hf] at q; exact q
        · rw [List.getElem?_eq_none q] at hv; cases hv
      have := cell_arr harr (by rw [add_block, add_block]) ((hg j hj).trans hv)
      rw [add_off, add_off] at this
      rw [← Nat.add_assoc]; exact this
    have hxs : ∀ i, i < len → ((List.range len).map X)[i]? = some (X i) := fun i hi => by simp [hi]
    refine ⟨a, len, m, (List.range len).map X, arr, el, fr, rfl, hsp, harr, by simp, hl, by omega, ?_, ?_, ?_, ?_, ?_⟩
    · intro x hx
      obtain ⟨i, hi, rfl⟩ := List.mem_map.1 hx
      exact (hX i (by have := List.mem_range.1 hi; omega)).2
    · have : ∀ (l : List α), (l.flatMap f).length = l.length * k := by
        intro l
        induction l with
        | nil => simp
        | cons x l ih => rw [List.flatMap_cons, List.length_append, ih, hf, List.length_cons, Nat.succ_mul]; omega
      rw [this]; simp
    · rw [List.all_eq_true]
      intro v hv
      obtain ⟨x, -, hx⟩ := List.mem_flatMap.1 hv
      exact List.all_eq_true.1 (hplain x) v hx
    · intro i v hv
      rw [flat_get hk hf] at hv
      obtain ⟨x, h1, h2⟩ := Option.bind_eq_some_iff.1 hv
      have hi : i / k < len := by
        rcases Nat.lt_or_ge (i / k) len with q | q
        · exact q
        · rw [List.getElem?_eq_none (by simpa using q)] at h1; cases h1
      rw [hxs _ hi] at h1
      cases h1
      have := hcell (i / k) (by omega) (i % k) v h2
      rw [Nat.div_add_mod' i k] at this
      exact this
    · intro h0
      have hlast : (f (X (m - 1)))[k - 1]? = some ((f (X (m - 1)))[k - 1]'(by rw [hf]; omega)) := List.getElem?_eq_getElem _
      have := hcell (m - 1) (by omega) (k - 1) _ hlast
      have hs : a.off + ((m - 1) * k + (k - 1)) < arr.size := by
        rcases Nat.lt_or_ge (a.off + ((m - 1) * k + (k - 1))) arr.size with q | q
        · exact q
        · rw [Array.getElem?_eq_none q] at this; cases this
      have : m * k = (m - 1) * k + k := by rw [← Nat.succ_mul]; congr 1; omega
      omega
end Go.Abs
namespace Go.Abs
open Go.RowKit Go.Proofs Go.Deep
theorem maxLen_is : maxLen = 9223372036854775807 := by kernel_rfl
theorem sV_data (s : ByteArray) : sV s.data.toList = .string s := by cases s; rfl
theorem Try.own : ownKnob Try.prog.godebug = none := by kernel_rfl
theorem Try.laidOut : laidOutB Try.prog = true := by kernel_rfl
theorem und3 : Try.prog.underlying 3 = some (.int .i64) := by kernel_rfl
theorem und4 : Try.prog.underlying 4 = some .bool := by kernel_rfl
theorem und5 : Try.prog.underlying 5 = some (.int .u8) := by kernel_rfl
theorem und9 : Try.prog.underlying 9 = some .string := by kernel_rfl
theorem cells3 : Try.prog.cellsOf 3 = 1 := by kernel_rfl
theorem cells4 : Try.prog.cellsOf 4 = 1 := by kernel_rfl
theorem cells5 : Try.prog.cellsOf 5 = 1 := by kernel_rfl
theorem cells9 : Try.prog.cellsOf 9 = 1 := by kernel_rfl
def NoMaps (h : AH) : Prop := ∀ (id : Nat) es, h[id]? ≠ some (AObj.map es)
end Go.Abs
namespace Go.Abs
open Go.Proofs Go.ChangeShapes Go.WideShapes Go.ChangeAt
set_option maxRecDepth 100000
/-- an argument that is a text -/
theorem string_arg {H : Type} {enc : TypeId × Value → H} {W : World} {base : Nat} {v : Value} {d : DataW H} {ps : List MemPlace} {n0 : Nat} {ι : Iota} {h : AH} (R : Rel W n0 ι h W) (hn0 : n0 ≤ h.length) (hm : NoMaps h)
    (hval : Value.okWide Try.prog W .any base 9 v) (hd : DataW.Trod enc Try.prog W 0 (fun _ => true) true 9 v d ps) :
    ∃ (n1 : Nat) (ι' : Iota) (h' : AH) (va : Value) (s : Bs), n1 ≤ h'.length ∧ Rel W n1 ι' h' W ∧ NoMaps h' ∧ Keep h.length h h' ∧ Compat ι h ι' h' ∧ VR ι' h' va v ∧ va = sV s := by
  obtain ⟨s, rfl, rfl, rfl, ws⟩ := Go.ChangeMaps.open_string Try.underlying9 hval hd
  exact ⟨n0, ι, h, .string s, s.data.toList, hn0, R, hm, Keep.refl _ _, Compat.refl _ _, VR.str s, by cases s; rfl⟩
end Go.Abs
namespace Go.Proofs.Ytdhogmkdmbfijaa
open Go.ChangeShapes Go.WideShapes Go.ChangeAt Go.RowKit Go.Abs

set_option maxRecDepth 100000 in
theorem fnExactPathGet_lifted (os : Os) (started : os.Started) (H : Type) (enc : TypeId × Value → H) :
    ReturnsInHanded {} Try.checked os 11 .any (Rows.fnExactPathGetSpec.pre6 enc Try.prog Try.f11 Rows.fnExactPathGetRow.domain false) (Rows.fnExactPathGetSpec.post enc Try.prog Try.f11 false true false false) := by
  refine returnsInHanded_of_change_shaped (C := Try.checked) Try.own started (by kernel_rfl) Try.func11
    (ChangeSpec.witness6 (enc := enc) (C := Try.checked) false ⟨#[], #[.string ⟨#[]⟩], []⟩ 8 (by kernel_rfl) (by kernel_rfl) (by kernel_rfl) (by kernel_rfl)) ?_
  intro W base args ds gs before hval0 hW hcnd _ hsh _
  have hval : ∀ (j : Nat) t v, Try.f11.params[j]? = some t → args[j]? = some v → Value.okWide Try.prog W .any base t v := hval0
  have hW' := hW
  obtain ⟨p, q, hA0, hV, rfl, hfz, hnd⟩ := hW
  have hA : DataW.TrodAll enc Try.prog W 0 (fun _ => true) true Try.f11.params.toList args.toList ds p := hA0
  rw [Try.params11] at hA hval
  obtain ⟨v0, d0, rfl, rfl, h0⟩ := trodAll_one hA
  obtain ⟨rfl, rfl⟩ := trodVars_none hV
  have hlt : ∀ x ∈ p, x.block < W.heap.size := fun x hx => by simpa using hW'.lt x (by simpa using hx)
  obtain ⟨n0, ι0, g0, va0, na0, hn0, R0, m0, k0, c0, hv0, hq0⟩ := string_arg (rel_start W (glob_of hsh)) (Nat.le_refl _) (fun id es e => by simp at e) (hval 0 9 v0 rfl rfl) h0
  clear hA0 hval0
  simp only [List.append_nil] at hW'
  obtain ⟨h', e⟩ := rz11 va0 na0 n0 g0 hq0 hn0
  obtain ⟨-, hc⟩ := run_sound good0 11 n0 [va0] g0 _ e
  refine (hc W n0 ι0 W [v0] (Nat.le_refl _) R0 ⟨rfl, fun i v hv' => ?_⟩).mono fun en W' hr => ?_
  · match i, hv' with
    | 0, hv' => cases hv'; exact ⟨v0, rfl, hv0⟩
    | i + 1, hv' => simp at hv'
  · cases en with
    | returned v' =>
      obtain ⟨v, h2, ι', ho, hrel, hstep, hvr⟩ := hr
      cases ho
      cases hvr
      have bel := hrel.below
      exact ⟨_, rfl, _, _, _, [], p, [], hW', trodAll_mk1 (shut_bool und4 true), trodAll_mk1 (Below.trod Try.laidOut (by kernel_rfl) (of_decide_eq_true (by kernel_rfl)) h0 bel hlt), rfl, bel.frame _, fun h => by cases h⟩
    | panicked ch => obtain ⟨v, v', h2, ι', ho, _⟩ := hr; cases ho
    | outgrown => exact hr.elim

theorem fnExactPathGet_holds : Rows.FnExactPathGetSaid :=
  OpenClaim.holds_of_wide 11 Try.f11 rfl rfl rfl rfl rfl rfl rfl ⟨rfl, rfl, rfl, rfl, rfl⟩ rfl rfl rfl rfl rfl (by kernel_rfl) Try.func11 (by kernel_rfl)
    (of_decide_eq_true (by kernel_rfl)) (by unfold Func.isWrapper; first | (rw [if_pos (by decide +kernel)]; kernel_rfl) | (rw [if_neg (by decide +kernel)]; exact ⟨rfl, rfl⟩))
    (fun os started H enc _ => fnExactPathGet_lifted os started H enc)
end Go.Proofs.Ytdhogmkdmbfijaa
