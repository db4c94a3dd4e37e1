/- The library's functions that are taken as a step. No condition. -/
import Derived.Test.YtoijpmokcdifnaaGreatDoorFactsA
import Derived.Shelf.Strings.Builder1
import Derived.Shelf.Strings.Builder2
import Derived.Shelf.Strings.OnBuilder
import Derived.Shelf.Strings.BuilderF
import Derived.Shelf.Strings.BuilderK
import Derived.Shelf.Strconv.Atoi
import Derived.Shelf.Strconv.Itoa0
import Derived.Shelf.Strconv.Itoa1
import Derived.Shelf.LaysM
import Derived.Shelf.Strconv.Itoa2
import Derived.Shelf.Strconv.Itoa3
import Derived.Shelf.Strconv.AtoiErrFast
import Derived.Shelf.Strconv.ParseIntEmpty
import Derived.Shelf.Strconv.AtoiFail
import Derived.Shelf.Strconv.Clone
import Derived.Shelf.Strconv.SyntaxError
import Derived.Shelf.LaysC
import Derived.Shelf.Strconv.ToError
import Derived.Shelf.Strconv.Lower
import Derived.Shelf.Strconv.ParseUint10
import Derived.Shelf.Strconv.ParseUint10Empty
import Derived.Shelf.Strconv.ParseUint10Any
import Derived.Shelf.Strconv.ParseInt10
import Derived.Shelf.Strconv.AtoiLong
import Derived.Shelf.Strconv.AtoiInnerAll
import Derived.Shelf.Strconv.RangeError
import Derived.Shelf.Strconv.ToErrorRange
import Derived.Shelf.Strconv.AtoiAll
import Derived.Shelf.Strings.Search1
import Derived.Shelf.Strings.Search2
import Derived.Shelf.Strings.Search3
import Derived.Shelf.Strings.Count
import Derived.Shelf.Strings.Shaped
import Derived.Shelf.Unicode.DecodeSlow
import Derived.Shelf.Unicode.DecodeAny
import Derived.Test.YtoijpmokcdifnaaGreatDoorProg
import Derived.Test.YtoijpmokcdifnaaGreatDoorRows
import Derived.Lib.Walk
import Derived.Lib.Builder
import Derived.Lib.UnsafeStr
import Derived.WalkKit
import Derived.Laws.Externs
import Derived.Laws.IdiomCopy
import Derived.Shelf.Strings.BuilderX
import Derived.Test.YtoijpmokcdifnaaGreatDoorAbsB
import Derived.Defers
import Derived.Laws.LoneSync
import Derived.RegionCalls
import Derived.Lib.AtoiErrMem
namespace Go.Abs
open Go.Proofs
set_option maxRecDepth 100000
set_option linter.unusedSimpArgs false
set_option pp.maxSteps 20000

/-! ### values and heaps -/
abbrev Bs := List UInt8
abbrev iV (n : Int) : Value := .int .i64 n
abbrev sV (s : Bs) : Value := .string (B s)
abbrev slV (id g n c : Nat) : Value := .slice (some ⟨id, 0, some g⟩) n c
def Keep (n : Nat) (h h' : AH) : Prop := h.length ≤ h'.length ∧ ∀ j, j < n → h'[j]? = h[j]?
theorem Keep.refl (n : Nat) (h : AH) : Keep n h h := ⟨Nat.le_refl _, fun _ _ => rfl⟩
theorem Keep.trans {n : Nat} {a b c : AH} (x : Keep n a b) (y : Keep n b c) : Keep n a c := ⟨Nat.le_trans x.1 y.1, fun j hj => (y.2 j hj).trans (x.2 j hj)⟩
theorem Keep.le {n m : Nat} {a b : AH} (x : Keep n a b) (hm : m ≤ n) : Keep m a b := ⟨x.1, fun j hj => x.2 j (Nat.lt_of_lt_of_le hj hm)⟩
theorem Keep.app {n : Nat} (h l : AH) (hn : n ≤ h.length) : Keep n h (h ++ l) := ⟨by simp, fun j hj => by rw [List.getElem?_append_left (by omega)]⟩
theorem Keep.set {n : Nat} (h : AH) (i : Nat) (o : AObj) (hn : n ≤ i) : Keep n h (h.set i o) := ⟨by simp, fun j hj => by rw [List.getElem?_set_ne (by omega)]⟩
theorem Keep.get {n : Nat} {h h' : AH} (x : Keep n h h') {j : Nat} {o : AObj} (e : h[j]? = some o) (hj : j < n) : h'[j]? = some o := by rw [x.2 j hj, e]
theorem lt_of_get {h : AH} {j : Nat} {o : AObj} (e : h[j]? = some o) : j < h.length := by
  rcases Nat.lt_or_ge j h.length with q | q
  · exact q
  · rw [List.getElem?_eq_none q] at e; cases e

theorem rowAt_of {h : AH} {id g sz : Nat} {cs : List Value} (e : h[id]? = some (.row g sz cs)) : rowAt h id g = some (sz, cs) := by simp [rowAt, e]

/-! ### bytes -/
theorem strAt_B (s : Bs) (i : Nat) : strAt (B s) i = (s[i]?).map fun b => (b.toNat : Int) := by
  simp only [strAt, B]
  rw [if_pos (by omega)]
  congr 1
  simp only [Int.toNat_natCast]
  by_cases hi : i < s.length
  · rw [List.getElem?_eq_getElem hi, getElem?_pos _ _ (by exact hi)]; rfl
  · rw [List.getElem?_eq_none (by omega), getElem?_neg _ _ (by exact hi)]
theorem size_B (s : Bs) : (B s).size = s.length := rfl
theorem B_inj {a b : Bs} : B a = B b ↔ a = b := ⟨fun h => by cases h; rfl, fun h => by rw [h]⟩
theorem ba_ext {a b : ByteArray} (h : a.data = b.data) : a = b := by cases a; cases b; cases h; rfl
theorem strCut_B (s : Bs) (a b : Nat) (hab : a ≤ b) (hb : b ≤ s.length) : strCut (B s) a b = some (B ((s.take b).drop a)) := by
  have hq : (0 : Int) ≤ (a : Int) ∧ (a : Int) ≤ (b : Int) ∧ (b : Int) ≤ ((B s).size : Int) := by rw [size_B]; omega
  unfold strCut
  rw [if_pos hq]
  refine congrArg some (ba_ext ?_)
  rw [ByteArray.data_extract, Int.toNat_natCast, Int.toNat_natCast]
  show (⟨s⟩ : Array UInt8).extract a b = ⟨(s.take b).drop a⟩
  apply Array.ext'
  simp [List.extract_eq_take_drop, List.drop_take]
theorem catA_B (a b : Bs) (h : a.length + b.length ≤ 2 ^ 62) : catA (B a) (B b) = some (B (a ++ b)) := by
  have hq : (B a).size + (B b).size ≤ 9223372036854775807 := by rw [size_B, size_B]; omega
  unfold catA
  rw [if_pos hq]
  refine congrArg some (ba_ext ?_)
  rw [ByteArray.data_append]
  show (⟨a⟩ : Array UInt8) ++ ⟨b⟩ = ⟨a ++ b⟩
  simp

/-! ### memory -/
abbrev pV (id off g : Nat) : Value := .pointer (some ⟨id, off, some g⟩)
theorem ixAddr_sl {id off g n c i sz : Nat} (hi : i < n) : ixAddr (.slice (some ⟨id, off, some g⟩) n c) (i : Int) sz = some (pV id (off + i * sz) g) := by
  simp only [ixAddr]
  rw [if_pos (by omega)]
  simp
theorem ld_of {h : AH} {id off g sz : Nat} {cs : List Value} {v : Value} (e : h[id]? = some (.row g sz cs)) (hv : cs[off]? = some v) : ld h (pV id off g) = some v := by
  simp only [ld, rowAt_of e, Option.bind_some, hv]
theorem ldN_of {h : AH} {id off g sz n : Nat} {cs : List Value} (e : h[id]? = some (.row g sz cs)) (hv : off + n ≤ cs.length) : ldN h (pV id off g) n = some ((cs.drop off).take n) := by
  simp only [ldN, rowAt_of e, Option.bind_some, cut, if_pos hv]
theorem stN_of {lim : Nat} {h : AH} {id off g sz : Nat} {cs vs : List Value} (hl : lim ≤ id) (e : h[id]? = some (.row g sz cs)) (ho : off + vs.length ≤ cs.length) (hv : vs.all oneCell = true) :
    stN lim h (pV id off g) vs = some (h.set id (.row g sz (setMany cs off vs))) := by
  simp only [stN, rowAt_of e, Option.bind_some, if_pos (And.intro hl (And.intro ho hv))]
theorem st1_of {lim : Nat} {h : AH} {id off g sz : Nat} {cs : List Value} {v : Value} (hl : lim ≤ id) (e : h[id]? = some (.row g sz cs)) (ho : off < cs.length) (hv : oneCell v = true) :
    stN lim h (pV id off g) [v] = some (h.set id (.row g sz (cs.set off v))) :=
  stN_of hl e (by simp only [List.length_cons, List.length_nil]; omega) (by simp [hv])
/-- append of what was just made, where all of the row is taken -/
theorem app_new {lim : Nat} {h : AH} {id g sz tg sz2 n k by' : Nat} {cs ds : List Value} (hl : lim ≤ id) (e : h[id]? = some (.row g tg cs)) (hn : n * sz = cs.length) (hk : k * sz = ds.length) (h0 : 0 < k) (hb : (n + k) * by' ≤ 2 ^ 47) :
    app lim (h ++ [AObj.row 0 sz2 ds]) (slV id g n n) (newS h k k) sz tg by' = some (slV id (g + 1) (n + k) (n + k), (h ++ [AObj.row 0 sz2 ds]).set id (AObj.row (g + 1) tg (cs ++ ds))) := by
  have hid := lt_of_get e
  have e' : (h ++ [AObj.row 0 sz2 ds])[id]? = some (.row g tg cs) := by rw [List.getElem?_append_left hid, e]
  have en : (h ++ [AObj.row 0 sz2 ds])[h.length]? = some (.row 0 sz2 ds) := by simp
  simp only [app, lenOf, newS, Option.bind_some]
  rw [if_neg (by omega)]
  have hs : srcCells (h ++ [AObj.row 0 sz2 ds]) (.slice (some ⟨h.length, 0, some 0⟩) k k) k sz = some ds := by
    simp only [srcCells, rowAt_of en, Option.bind_some, cut]
    rw [if_pos (by omega)]
    simp [hk]
  rw [hs, rowAt_of e']
  simp only [Option.bind_some]
  rw [if_neg (by omega), if_pos ⟨hl, True.intro, True.intro, hn, hb⟩]
theorem wrap64 {n : Int} (h : -9223372036854775808 ≤ n ∧ n ≤ 9223372036854775807) : IntKind.i64.wrap n = n := by
  show (let m := n % (2 ^ 64 : Int); if true && m ≥ (2 ^ (64 - 1) : Int) then m - (2 ^ 64 : Int) else m) = n
  simp only [Bool.true_and, ge_iff_le, decide_eq_true_eq]
  show (if (9223372036854775808 : Int) ≤ n % 18446744073709551616 then n % 18446744073709551616 - 18446744073709551616 else n % 18446744073709551616) = n
  omega
theorem wrap8 {n : Int} (h : 0 ≤ n ∧ n ≤ 255) : IntKind.u8.wrap n = n := by
  show (let m := n % (2 ^ 8 : Int); if false && m ≥ (2 ^ (8 - 1) : Int) then m - (2 ^ 8 : Int) else m) = n
  simp only [Bool.false_and]
  show n % 256 = n
  omega
def u8c (s : Bs) : List Value := s.map fun b => .int .u8 b.toNat
theorem u8c_len (s : Bs) : (u8c s).length = s.length := by simp [u8c]
theorem bytesOf_u8c (s : Bs) : bytesOf (u8c s) = some s := by
  induction s with
  | nil => rfl
  | cons a s ih =>
    simp only [u8c, List.map_cons, bytesOf] at ih ⊢
    rw [ih]
    simp
theorem b2s_of {h : AH} {id g n c sz : Nat} {s : Bs} (e : h[id]? = some (.row g sz (u8c s))) (hn : n = s.length) : b2s h (slV id g n c) = some (B s) := by
  subst hn
  simp only [b2s, rowAt_of e, Option.bind_some, cut]
  rw [if_pos (by rw [u8c_len]; omega)]
  simp only [Option.bind_some, List.drop_zero]
  rw [List.take_of_length_le (by rw [u8c_len]; omega), bytesOf_u8c]
  rfl
theorem bytesR_u8c (s : Bs) : bytesR (u8c s) = some s := by
  induction s with
  | nil => rfl
  | cons a s ih =>
    simp only [u8c, List.map_cons, bytesR] at ih ⊢
    have := a.toNat_lt
    rw [if_pos (by omega), ih]
    simp
theorem strRow_of {lim : Nat} {h : AH} {id g e n : Nat} {s : Bs} (hl : lim ≤ id) (he : h[id]? = some (.row g (4294967296 * (e + 1) + 1) (u8c s))) (hn : n = s.length) (h0 : 0 < n) (h63 : n ≤ 9223372036854775807) :
    strRow lim h (pV id 0 g) (n : Int) e = some (B s, h.set id (.row (g + 1) 0 [])) := by
  have hne : ¬ ((n : Int) = 0) := by omega
  simp only [strRow, if_neg hne, rowAt_of he, Option.bind_some]
  rw [if_pos ⟨hl, by omega, by omega, True.intro, True.intro⟩]
  have hc : cut (u8c s) 0 ((n : Int).toNat) = some (u8c s) := by
    unfold cut
    rw [if_pos (by rw [u8c_len]; omega)]
    simp only [List.drop_zero]
    rw [List.take_of_length_le (by rw [u8c_len]; omega)]
  rw [hc]
  simp only [Option.bind_some, bytesR_u8c, Option.map_some]
  rfl
theorem set_same {α : Type} {h : List α} {i : Nat} {o : α} (e : h[i]? = some o) : h.set i o = h := by
  apply List.ext_getElem?
  intro j
  rw [List.getElem?_set]
  split
  · rename_i q; subst q
    split
    · exact e.symm
    · rename_i q; rw [List.getElem?_eq_none (by omega)] at e; cases e
  · rfl
theorem get_set {h : AH} {i : Nat} {o : AObj} (o' : AObj) (e : h[i]? = some o) : (h.set i o')[i]? = some o' := by
  have : i < h.length := by
    rcases Nat.lt_or_ge i h.length with q | q
    · exact q
    · rw [List.getElem?_eq_none q] at e; cases e
  simp [this]
theorem u8c_get (d : Bs) (b : UInt8) (r : Bs) : (u8c (d ++ b :: r))[d.length]? = some (.int .u8 b.toNat) := by simp [u8c]
end Go.Abs
namespace Go.Abs
open Go.Proofs
set_option maxRecDepth 100000
set_option linter.unusedSimpArgs false
set_option pp.maxSteps 20000

/-! ### new objects -/
theorem XH1 : (∀ (h : AH) o, (h ++ [o])[h.length]? = some o) ∧ (∀ (h : AH) o1 o2, (h ++ [o1] ++ [o2])[h.length]? = some o1) ∧ (∀ (h : AH) o1 o2 o3, (h ++ [o1] ++ [o2] ++ [o3])[h.length]? = some o1) ∧ (∀ (h : AH) o1 o2 o3 o4, (h ++ [o1] ++ [o2] ++ [o3] ++ [o4])[h.length]? = some o1) ∧
  (∀ (h : AH) o o', (h ++ [o]).set h.length o' = h ++ [o']) ∧ (∀ (h : AH) o1 o2 o', (h ++ [o1] ++ [o2]).set h.length o' = h ++ [o'] ++ [o2]) ∧ (∀ (h : AH) o1 o2 o3 o', (h ++ [o1] ++ [o2] ++ [o3]).set h.length o' = h ++ [o'] ++ [o2] ++ [o3]) ∧ (∀ (h : AH) o1 o2 o3 o4 o', (h ++ [o1] ++ [o2] ++ [o3] ++ [o4]).set h.length o' = h ++ [o'] ++ [o2] ++ [o3] ++ [o4]) := by
  refine ⟨fun h o => by simp, fun h o1 o2 => by simp, fun h o1 o2 o3 => by simp, fun h o1 o2 o3 o4 => by simp, fun h o o' => by simp, fun h o1 o2 o' => by simp, fun h o1 o2 o3 o' => by simp, fun h o1 o2 o3 o4 o' => by simp⟩
theorem XH2 : (∀ h id off g, ld h (pV id off g) = match h[id]? with | some (.row g' _ cs) => (match decide (g = g') with | true => cs[off]? | false => none) | _ => none) ∧
  (∀ h id off g n, ldN h (pV id off g) n = match h[id]? with | some (.row g' _ cs) => (match decide (g = g') with | true => cut cs off n | false => none) | _ => none) ∧
  (∀ lim h id off g vs, stN lim h (pV id off g) vs = match h[id]? with | some (.row g' sz cs) => (match decide (g = g') with | true => if lim ≤ id ∧ off + vs.length ≤ cs.length ∧ vs.all oneCell = true then some (h.set id (.row g sz (setMany cs off vs))) else none | false => none) | _ => none) ∧
  (∀ id off g n, addOff (pV id off g) n = some (pV id (off + n) g)) ∧ (∀ id off g, nonNil (pV id off g) = some (pV id off g)) ∧ (∀ h, newP h = pV h.length 0 0) ∧
  (∀ (s : ByteArray), oneCell (.string s) = true) ∧ (∀ k n, oneCell (.int k n) = true) ∧ (∀ b, oneCell (.bool b) = true) ∧ (∀ a n c, oneCell (.slice a n c) = true) ∧ (∀ a, oneCell (.pointer a) = true) ∧
  (∀ (l : List Value), aggOf (.agg ⟨l⟩) = some l) ∧
  (∀ cs off n, cut cs off n = match decide (off + n ≤ cs.length) with | true => some ((cs.drop off).take n) | false => none) := by
  refine ⟨fun h id off g => ?_, fun h id off g n => ?_, fun lim h id off g vs => ?_, fun _ _ _ _ => rfl, fun _ _ _ => rfl, fun _ => rfl, fun _ => rfl, fun _ _ => rfl, fun _ => rfl, fun _ _ _ => rfl, fun _ => rfl, fun _ => rfl, fun cs off n => ?_⟩
  · simp only [ld, rowAt]
    rcases h[id]? with _ | o
    · rfl
    · cases o <;> try rfl
      rename_i g' sz cs
      by_cases hq : g = g' <;> simp [hq]
  · simp only [ldN, rowAt]
    rcases h[id]? with _ | o
    · rfl
    · cases o <;> try rfl
      rename_i g' sz cs
      by_cases hq : g = g' <;> simp [hq]
  · simp only [stN, rowAt]
    rcases h[id]? with _ | o
    · rfl
    · cases o <;> try rfl
      rename_i g' sz cs
      by_cases hq : g = g' <;> simp [hq]
  · simp only [cut]
    by_cases hq : off + n ≤ cs.length <;> simp [hq]

def inI (n a b : Int) : Bool := decide (a ≤ n) && decide (n ≤ b)
theorem natCast_succ_wrap {n m : Nat} (h : n ≤ 2 ^ 62) (hm : n + 1 = m) : IntKind.i64.wrap ((n : Int) + 1) = (m : Int) := by rw [wrap64 (by omega)]; omega
theorem neB (a b : Bs) : (!decide (B a = B b)) = !decide (a = b) := by rw [show decide (B a = B b) = decide (a = b) by rw [decide_eq_decide, B_inj]]
theorem eqB (a b : Bs) : decide (B a = B b) = decide (a = b) := by rw [decide_eq_decide, B_inj]
theorem strAt_mid (d : Bs) (b : UInt8) (r : Bs) : strAt (B (d ++ b :: r)) (d.length : Int) = some (b.toNat : Int) := by
  rw [strAt_B]; simp
abbrev fnV (f : Nat) : Value := .func (.func f) #[] #[]
def KX (n id : Nat) (h h' : AH) : Prop := h.length ≤ h'.length ∧ ∀ j, j < n → j ≠ id → h'[j]? = h[j]?
theorem KX.refl (n id : Nat) (h : AH) : KX n id h h := ⟨Nat.le_refl _, fun _ _ _ => rfl⟩
theorem KX.trans {n id : Nat} {a b c : AH} (x : KX n id a b) (y : KX n id b c) : KX n id a c := ⟨Nat.le_trans x.1 y.1, fun j hj hi => (y.2 j hj hi).trans (x.2 j hj hi)⟩
theorem Keep.kx {n m id : Nat} {a b : AH} (x : Keep n a b) (hm : m ≤ n) : KX m id a b := ⟨x.1, fun j hj _ => x.2 j (by omega)⟩
theorem KX.set (n id : Nat) (h : AH) (o : AObj) : KX n id h (h.set id o) := ⟨by simp, fun j hj hi => by rw [List.getElem?_set_ne (by omega)]⟩
theorem KX.get {n id : Nat} {h h' : AH} (x : KX n id h h') {j : Nat} {o : AObj} (e : h[j]? = some o) (hj : j < n) (hi : j ≠ id) : h'[j]? = some o := by rw [x.2 j hj hi, e]
theorem Keep.ofKX {n id : Nat} {a b : AH} (x : KX n id a b) {m : Nat} (hm : m ≤ n) (hi : m ≤ id) : Keep m a b := ⟨x.1, fun j hj => x.2 j (by omega) (by omega)⟩
def sL (xs : List Bs) : List Value := xs.map sV
theorem sL_len (xs : List Bs) : (sL xs).length = xs.length := by simp [sL]
theorem sL_app (a b : List Bs) : sL (a ++ b) = sL a ++ sL b := by simp [sL]
theorem XRN : (∀ P fr o, bq false P fr o = none) ∧ (∀ P fr o, bq true P fr o = baseOf P fr o) ∧
  (∀ P fr d t x ty pos aft g, baseOf P fr ⟨d, .load t x, ty, pos, aft, g⟩ = match slotO fr x with | some ⟨_, _, v⟩ => baseId v | none => none) ∧
  (∀ P fr d t x a b c ty pos aft g, baseOf P fr ⟨d, .slice t x a b c, ty, pos, aft, g⟩ = match P.underlying t with | some u => (match u with | .slice _ => (match slotO fr x with | some ⟨_, _, v⟩ => baseId v | none => none) | _ => none) | none => none) ∧
  (∀ a, baseId (.pointer (some a)) = some a.block) ∧ (∀ a n c, baseId (.slice (some a) n c) = some a.block) ∧ (∀ n c, baseId (.slice none n c) = none) ∧
  (∀ l, sel l [] = []) ∧ (∀ l i n m b ds, sel l (⟨i, n, m, b⟩ :: ds) = match l.contains i with | true => ⟨i, n, m, b⟩ :: sel l ds | false => sel l ds) ∧
  (∀ b X, freshAt b X [] = X) ∧ (∀ b X i n m o ds, freshAt b X (⟨i, n, m, o⟩ :: ds) = match decide (m ≤ b) with | true => freshAt b X ds | false => none) ∧
  (∀ b X, otherAt b X [] = X) ∧ (∀ b X i n m o ds, otherAt b X (⟨i, n, m, o⟩ :: ds) = match decide (b = n) with | true => none | false => otherAt b X ds) ∧
  (∀ h h' X, sameAt h h' X [] = X) ∧ (∀ h h' X i n m ds, sameAt h h' X (⟨i, n, m, none⟩ :: ds) = sameAt h h' X ds) ∧ (∀ h h' X i n m b ds, h'[b]? = h[b]? → sameAt h h' X (⟨i, n, m, some b⟩ :: ds) = sameAt h h' X ds) ∧
  (∀ (d : Did) l, [] ++ (d :: l) = d :: l) ∧ (∀ (a : Did) l m, (a :: l) ++ m = a :: (l ++ m)) :=
  ⟨fun _ _ _ => rfl, fun _ _ _ => rfl, fun _ _ _ _ _ _ _ _ _ => rfl, fun P _ _ t _ _ _ _ _ _ _ _ => by simp only [baseOf, isL]; cases P.underlying t with | none => rfl | some u => cases u <;> simp [Op.operands, slotO],
    fun _ => rfl, fun _ _ _ => rfl, fun _ _ => rfl, fun _ => rfl, fun l i _ _ _ _ => by unfold sel; rw [List.filter_cons]; cases l.contains i <;> rfl,
    fun _ _ => rfl, fun b _ _ _ m _ _ => by by_cases q : m ≤ b <;> simp [freshAt, q], fun _ _ => rfl, fun b _ _ n _ _ _ => by by_cases q : b = n <;> simp [otherAt, q],
    fun _ _ _ => rfl, fun _ _ _ _ _ _ _ => rfl, fun _ _ _ _ _ _ _ _ q => if_pos q, fun _ _ => rfl, fun _ _ _ => rfl⟩
end Go.Abs
namespace Go.Proofs
open Go.Shelf
def Tryz.lays156_ren : Go.Shelf.Ren := ⟨fun | 156 => 28 | 165 => 68 | 166 => 69 | 169 => 70 | 240 => 107 | 241 => 108 | 276 => 127 | 277 => 128 | n => n, fun | 31 => 50 | 9 => 9 | 3 => 3 | 4 => 4 | 0 => 0 | 20 => 20 | 72 => 84 | 76 => 88 | 70 => 82 | 37 => 39 | 75 => 87 | 127 => 133 | 164 => 152 | 5 => 5 | 80 => 90 | n => n, fun | n => n⟩
theorem Tryz.lays156 : Go.Proofs.Lays.n156 Tryz.prog Tryz.lays156_ren := {
  mixed := by kernel_rfl
  f156 := Tryz.func28.trans (congrArg some (by kernel_rfl))
  f165 := Tryz.func68.trans (congrArg some (by kernel_rfl))
  f166 := Tryz.func69.trans (congrArg some (by kernel_rfl))
  f169 := Tryz.func70.trans (congrArg some (by kernel_rfl))
  f240 := Tryz.func107.trans (congrArg some (by kernel_rfl))
  f241 := Tryz.func108.trans (congrArg some (by kernel_rfl))
  f276 := Tryz.func127.trans (congrArg some (by kernel_rfl))
  f277 := Tryz.func128.trans (congrArg some (by kernel_rfl))
  t0 := Tryz.underlying0
  a0 := Tryz.isAgg0
  z0 := Tryz.sizeOf0
  v0 := Tryz.zeroValue0
  t3 := Tryz.underlying3
  a3 := Tryz.isAgg3
  z3 := Tryz.sizeOf3
  v3 := Tryz.zeroValue3
  t4 := Tryz.underlying4
  a4 := Tryz.isAgg4
  z4 := Tryz.sizeOf4
  v4 := Tryz.zeroValue4
  t9 := Tryz.underlying9
  a9 := Tryz.isAgg9
  z9 := Tryz.sizeOf9
  v9 := Tryz.zeroValue9
  t20 := Tryz.underlying20
  a20 := Tryz.isAgg20
  z20 := Tryz.sizeOf20
  v20 := Tryz.zeroValue20
  t31 := Tryz.underlying50
  a31 := Tryz.isAgg50
  z31 := Tryz.sizeOf50
  v31 := Tryz.zeroValue50
  t37 := Tryz.underlying39
  a37 := Tryz.isAgg39
  z37 := Tryz.sizeOf39
  v37 := Tryz.zeroValue39
  t70 := Tryz.underlying82
  a70 := Tryz.isAgg82
  z70 := Tryz.sizeOf82
  v70 := Tryz.zeroValue82
  t72 := Tryz.underlying84
  a72 := Tryz.isAgg84
  z72 := Tryz.sizeOf84
  v72 := Tryz.zeroValue84
  t75 := Tryz.underlying87
  a75 := Tryz.isAgg87
  z75 := Tryz.sizeOf87
  v75 := Tryz.zeroValue87
  t76 := Tryz.underlying88
  a76 := Tryz.isAgg88
  z76 := Tryz.sizeOf88
  v76 := Tryz.zeroValue88
  t127 := Tryz.underlying133
  a127 := Tryz.isAgg133
  z127 := Tryz.sizeOf133
  v127 := Tryz.zeroValue133
  t164 := Tryz.underlying152
  a164 := Tryz.isAgg152
  z164 := Tryz.sizeOf152
  v164 := Tryz.zeroValue152 }
theorem Tryz.Builder_Extra_156 : Builder.Extra Tryz.prog Tryz.lays156_ren := {
  sizeBuilder := by kernel_rfl
  liesBuilder := by kernel_rfl
  t5 := Tryz.underlying5
  a5 := Tryz.isAgg5
  z5 := Tryz.sizeOf5
  v5 := Tryz.zeroValue5
  infoByte := by kernel_rfl
  cellsByte := by kernel_rfl
  sizeByte := by kernel_rfl
  neB5 := by decide }
open Go.RowKit in
/-- No element: the empty string; the world is as it was. (Whatever the slice's address and capacity: a nil slice too.) (LAID: no walk: one application.) -/
theorem Tryz.strings_Join_none (a : Option Addr) (c : Nat) (sep : ByteArray) (w : World) :
    Calls Tryz.prog 28 #[.slice a 0 c, .string sep] w fun e w' => e = .returned (.string ⟨#[]⟩) ∧ w' = w := Any.strings_Join_none Tryz.lays156 Tryz.Builder_Extra_156 a c sep w
open Go.RowKit in
/-- strings.Join: "Join concatenates the elements of its first argument to create a single string. The separator string sep is placed between elements in the resulting string.": HOWEVER MANY ELEMENTS. Below the heap's end the world is as it was. (LAID: no walk: one application.) -/
theorem Tryz.strings_Join (bk o c : Nat) (xs : List ByteArray) (sep : ByteArray) (w : World) (hcells : ∀ (j : Nat) x, xs[j]? = some x → w.cell? ⟨bk, o + j, none⟩ = some (.string x)) (hbk : bk < w.heap.size) (hN : xs.length ≤ 140737488355328) (hcap : xs.length ≤ c) (hlen : (Lib.join (xs.map (·.data.toList)) sep.data.toList).length ≤ 140737488355328) :
    Calls Tryz.prog 28 #[.slice (some ⟨bk, o, none⟩) xs.length c, .string sep] w fun e w' => e = .returned (.string ⟨(Lib.join (xs.map (·.data.toList)) sep.data.toList).toArray⟩) ∧ Below w.heap.size w w' := Any.strings_Join Tryz.lays156 Tryz.Builder_Extra_156 bk o c xs sep w hcells hbk hN hcap hlen
def Tryz.laysM171_ren : Go.Shelf.Ren := ⟨fun | 171 => 26 | 243 => 65 | 246 => 104 | 283 => 120 | 284 => 121 | 285 => 122 | 286 => 123 | 129 => 145 | 317 => 144 | 318 => 146 | 319 => 147 | 320 => 148 | 337 => 159 | 338 => 160 | n => n, fun | 3 => 3 | 9 => 9 | 2 => 2 | 4 => 4 | 171 => 143 | 0 => 0 | 53 => 144 | 37 => 39 | 5 => 5 | 173 => 147 | 212 => 170 | 51 => 119 | 20 => 20 | 213 => 171 | 46 => 172 | 232 => 216 | 233 => 217 | n => n, fun | 17 => 0 | 18 => 6 | 19 => 7 | n => n⟩
theorem Tryz.laysM171 : Go.Proofs.LaysM.n171 Tryz.prog Tryz.laysM171_ren := {
  mixed := by kernel_rfl
  f129 := Tryz.func145.trans (congrArg some (by kernel_rfl))
  f171 := Tryz.func26.trans (congrArg some (by kernel_rfl))
  f243 := Tryz.func65.trans (congrArg some (by kernel_rfl))
  f246 := Tryz.func104.trans (congrArg some (by kernel_rfl))
  f283 := Tryz.func120.trans (congrArg some (by kernel_rfl))
  f284 := Tryz.func121.trans (congrArg some (by kernel_rfl))
  f285 := Tryz.func122.trans (congrArg some (by kernel_rfl))
  f286 := Tryz.func123.trans (congrArg some (by kernel_rfl))
  f317 := Tryz.func144.trans (congrArg some (by kernel_rfl))
  f318 := Tryz.func146.trans (congrArg some (by kernel_rfl))
  f319 := Tryz.func147.trans (congrArg some (by kernel_rfl))
  f320 := Tryz.func148.trans (congrArg some (by kernel_rfl))
  f337 := Tryz.func159.trans (congrArg some (by kernel_rfl))
  f338 := Tryz.func160.trans (congrArg some (by kernel_rfl))
  t0 := Tryz.underlying0
  a0 := Tryz.isAgg0
  z0 := Tryz.sizeOf0
  v0 := Tryz.zeroValue0
  t2 := Tryz.underlying2
  a2 := Tryz.isAgg2
  z2 := Tryz.sizeOf2
  v2 := Tryz.zeroValue2
  t3 := Tryz.underlying3
  a3 := Tryz.isAgg3
  z3 := Tryz.sizeOf3
  v3 := Tryz.zeroValue3
  t4 := Tryz.underlying4
  a4 := Tryz.isAgg4
  z4 := Tryz.sizeOf4
  v4 := Tryz.zeroValue4
  t5 := Tryz.underlying5
  a5 := Tryz.isAgg5
  z5 := Tryz.sizeOf5
  v5 := Tryz.zeroValue5
  t9 := Tryz.underlying9
  a9 := Tryz.isAgg9
  z9 := Tryz.sizeOf9
  v9 := Tryz.zeroValue9
  t20 := Tryz.underlying20
  a20 := Tryz.isAgg20
  z20 := Tryz.sizeOf20
  v20 := Tryz.zeroValue20
  t37 := Tryz.underlying39
  a37 := Tryz.isAgg39
  z37 := Tryz.sizeOf39
  v37 := Tryz.zeroValue39
  t46 := Tryz.underlying172
  a46 := Tryz.isAgg172
  z46 := Tryz.sizeOf172
  v46 := Tryz.zeroValue172
  t51 := Tryz.underlying119
  a51 := Tryz.isAgg119
  z51 := Tryz.sizeOf119
  v51 := Tryz.zeroValue119
  t53 := Tryz.underlying144
  a53 := Tryz.isAgg144
  z53 := Tryz.sizeOf144
  v53 := Tryz.zeroValue144
  t171 := Tryz.underlying143
  a171 := Tryz.isAgg143
  z171 := Tryz.sizeOf143
  v171 := Tryz.zeroValue143
  t173 := Tryz.underlying147
  a173 := Tryz.isAgg147
  z173 := Tryz.sizeOf147
  v173 := Tryz.zeroValue147
  t212 := Tryz.underlying170
  a212 := Tryz.isAgg170
  z212 := Tryz.sizeOf170
  v212 := Tryz.zeroValue170
  t213 := Tryz.underlying171
  a213 := Tryz.isAgg171
  z213 := Tryz.sizeOf171
  t232 := Tryz.underlying216
  a232 := Tryz.isAgg216
  z232 := Tryz.sizeOf216
  v232 := Tryz.zeroValue216
  t233 := Tryz.underlying217
  a233 := Tryz.isAgg217
  z233 := Tryz.sizeOf217
  v233 := Tryz.zeroValue217
  g17 := by kernel_rfl
  g18 := by kernel_rfl
  g19 := by kernel_rfl
  i0 := by kernel_rfl
  i2 := by kernel_rfl
  i3 := by kernel_rfl
  i4 := by kernel_rfl
  i5 := by kernel_rfl
  i9 := by kernel_rfl
  i20 := by kernel_rfl
  i37 := by kernel_rfl
  i46 := by kernel_rfl
  i51 := by kernel_rfl
  i53 := by kernel_rfl
  i171 := by kernel_rfl
  i173 := by kernel_rfl
  i212 := by kernel_rfl
  i232 := by kernel_rfl
  i233 := by kernel_rfl
  m17 := by kernel_rfl
  m18 := by kernel_rfl
  m19 := by kernel_rfl }
open Go.RowKit Go.Sort Go.Lib in
/-- strconv.Itoa: "Itoa is equivalent to FormatInt(int64(i), 10).": i's DECIMAL NUMERAL ('Lib.itoa': a '-' where i is negative, then the digits), FOR EVERY int. The world behind the call: the world before it, new blocks behind the heap (the library's 'var a [24]byte'), draws. (LAID: no walk: one application.) -/
theorem Tryz.strconv_Itoa (n : Int) (h0 : -9223372036854775808 ≤ n) (h1 : n ≤ 9223372036854775807) (w : World) (htab : Lib.TabIs Tryz.prog w "internal/strconv.uint64pow10" .u64 Lib.pow10Tab) :
    Calls Tryz.prog 26 #[.int .i64 n] w fun e w' => e = .returned (.string ⟨(Lib.itoa n).toArray⟩) ∧ ∃ k os, w' = grow (w.drewN k) os := Any.strconv_Itoa Tryz.laysM171 n h0 h1 w htab
def Tryz.laysC172_ren : Go.Shelf.Ren := ⟨fun | 172 => 77 | 244 => 110 | 245 => 111 | 247 => 129 | 279 => 130 | 280 => 131 | 281 => 132 | 282 => 133 | 287 => 155 | 316 => 156 | 171 => 26 | 205 => 157 | 321 => 167 | 322 => 168 | 243 => 65 | 246 => 104 | 283 => 120 | 284 => 121 | 285 => 122 | 286 => 123 | 129 => 145 | 317 => 144 | 318 => 146 | 319 => 147 | 320 => 148 | 337 => 159 | 338 => 160 | n => n, fun | 9 => 9 | 3 => 3 | 75 => 87 | 76 => 88 | 4 => 4 | 5 => 5 | 167 => 155 | 37 => 39 | 0 => 0 | 85 => 156 | 2 => 2 | 168 => 158 | 53 => 144 | 175 => 189 | 46 => 172 | 210 => 192 | 127 => 133 | 145 => 212 | 143 => 210 | 21 => 21 | 171 => 143 | 173 => 147 | 212 => 170 | 51 => 119 | 20 => 20 | 213 => 171 | 232 => 216 | 233 => 217 | 80 => 90 | n => n, fun | 15 => 2 | 16 => 3 | 17 => 0 | 18 => 6 | 19 => 7 | n => n⟩
theorem Tryz.laysC172 : Go.Proofs.LaysC.n172 Tryz.prog Tryz.laysC172_ren := {
  mixed := by kernel_rfl
  f129 := Tryz.func145.trans (congrArg some (by kernel_rfl))
  f171 := Tryz.func26.trans (congrArg some (by kernel_rfl))
  f172 := Tryz.func77.trans (congrArg some (by kernel_rfl))
  f205 := Tryz.func157.trans (congrArg some (by kernel_rfl))
  f243 := Tryz.func65.trans (congrArg some (by kernel_rfl))
  f244 := Tryz.func110.trans (congrArg some (by kernel_rfl))
  f245 := Tryz.func111.trans (congrArg some (by kernel_rfl))
  f246 := Tryz.func104.trans (congrArg some (by kernel_rfl))
  f247 := Tryz.func129.trans (congrArg some (by kernel_rfl))
  f279 := Tryz.func130.trans (congrArg some (by kernel_rfl))
  f280 := Tryz.func131.trans (congrArg some (by kernel_rfl))
  f281 := Tryz.func132.trans (congrArg some (by kernel_rfl))
  f282 := Tryz.func133.trans (congrArg some (by kernel_rfl))
  f283 := Tryz.func120.trans (congrArg some (by kernel_rfl))
  f284 := Tryz.func121.trans (congrArg some (by kernel_rfl))
  f285 := Tryz.func122.trans (congrArg some (by kernel_rfl))
  f286 := Tryz.func123.trans (congrArg some (by kernel_rfl))
  f287 := Tryz.func155.trans (congrArg some (by kernel_rfl))
  f316 := Tryz.func156.trans (congrArg some (by kernel_rfl))
  f317 := Tryz.func144.trans (congrArg some (by kernel_rfl))
  f318 := Tryz.func146.trans (congrArg some (by kernel_rfl))
  f319 := Tryz.func147.trans (congrArg some (by kernel_rfl))
  f320 := Tryz.func148.trans (congrArg some (by kernel_rfl))
  f321 := Tryz.func167.trans (congrArg some (by kernel_rfl))
  f322 := Tryz.func168.trans (congrArg some (by kernel_rfl))
  f337 := Tryz.func159.trans (congrArg some (by kernel_rfl))
  f338 := Tryz.func160.trans (congrArg some (by kernel_rfl))
  t0 := Tryz.underlying0
  a0 := Tryz.isAgg0
  z0 := Tryz.sizeOf0
  v0 := Tryz.zeroValue0
  t2 := Tryz.underlying2
  a2 := Tryz.isAgg2
  z2 := Tryz.sizeOf2
  v2 := Tryz.zeroValue2
  t3 := Tryz.underlying3
  a3 := Tryz.isAgg3
  z3 := Tryz.sizeOf3
  v3 := Tryz.zeroValue3
  t4 := Tryz.underlying4
  a4 := Tryz.isAgg4
  z4 := Tryz.sizeOf4
  v4 := Tryz.zeroValue4
  t5 := Tryz.underlying5
  a5 := Tryz.isAgg5
  z5 := Tryz.sizeOf5
  v5 := Tryz.zeroValue5
  t9 := Tryz.underlying9
  a9 := Tryz.isAgg9
  z9 := Tryz.sizeOf9
  v9 := Tryz.zeroValue9
  t20 := Tryz.underlying20
  a20 := Tryz.isAgg20
  z20 := Tryz.sizeOf20
  v20 := Tryz.zeroValue20
  t21 := Tryz.underlying21
  a21 := Tryz.isAgg21
  z21 := Tryz.sizeOf21
  v21 := Tryz.zeroValue21
  t37 := Tryz.underlying39
  a37 := Tryz.isAgg39
  z37 := Tryz.sizeOf39
  v37 := Tryz.zeroValue39
  t46 := Tryz.underlying172
  a46 := Tryz.isAgg172
  z46 := Tryz.sizeOf172
  v46 := Tryz.zeroValue172
  t51 := Tryz.underlying119
  a51 := Tryz.isAgg119
  z51 := Tryz.sizeOf119
  v51 := Tryz.zeroValue119
  t53 := Tryz.underlying144
  a53 := Tryz.isAgg144
  z53 := Tryz.sizeOf144
  v53 := Tryz.zeroValue144
  t75 := Tryz.underlying87
  a75 := Tryz.isAgg87
  z75 := Tryz.sizeOf87
  v75 := Tryz.zeroValue87
  t76 := Tryz.underlying88
  a76 := Tryz.isAgg88
  z76 := Tryz.sizeOf88
  v76 := Tryz.zeroValue88
  t85 := Tryz.underlying156
  a85 := Tryz.isAgg156
  z85 := Tryz.sizeOf156
  v85 := Tryz.zeroValue156
  t127 := Tryz.underlying133
  a127 := Tryz.isAgg133
  z127 := Tryz.sizeOf133
  v127 := Tryz.zeroValue133
  t143 := Tryz.underlying210
  a143 := Tryz.isAgg210
  z143 := Tryz.sizeOf210
  v143 := Tryz.zeroValue210
  t145 := Tryz.underlying212
  a145 := Tryz.isAgg212
  z145 := Tryz.sizeOf212
  v145 := Tryz.zeroValue212
  t167 := Tryz.underlying155
  a167 := Tryz.isAgg155
  z167 := Tryz.sizeOf155
  v167 := Tryz.zeroValue155
  t168 := Tryz.underlying158
  a168 := Tryz.isAgg158
  z168 := Tryz.sizeOf158
  v168 := Tryz.zeroValue158
  t171 := Tryz.underlying143
  a171 := Tryz.isAgg143
  z171 := Tryz.sizeOf143
  v171 := Tryz.zeroValue143
  t173 := Tryz.underlying147
  a173 := Tryz.isAgg147
  z173 := Tryz.sizeOf147
  v173 := Tryz.zeroValue147
  t175 := Tryz.underlying189
  a175 := Tryz.isAgg189
  z175 := Tryz.sizeOf189
  v175 := Tryz.zeroValue189
  t210 := Tryz.underlying192
  a210 := Tryz.isAgg192
  z210 := Tryz.sizeOf192
  v210 := Tryz.zeroValue192
  t212 := Tryz.underlying170
  a212 := Tryz.isAgg170
  z212 := Tryz.sizeOf170
  v212 := Tryz.zeroValue170
  t213 := Tryz.underlying171
  a213 := Tryz.isAgg171
  z213 := Tryz.sizeOf171
  t232 := Tryz.underlying216
  a232 := Tryz.isAgg216
  z232 := Tryz.sizeOf216
  v232 := Tryz.zeroValue216
  t233 := Tryz.underlying217
  a233 := Tryz.isAgg217
  z233 := Tryz.sizeOf217
  v233 := Tryz.zeroValue217
  g15 := by kernel_rfl
  g16 := by kernel_rfl
  g17 := by kernel_rfl
  g18 := by kernel_rfl
  g19 := by kernel_rfl
  t80 := Tryz.underlying90
  a80 := Tryz.isAgg90
  z80 := Tryz.sizeOf90
  v80 := Tryz.zeroValue90
  i0 := by kernel_rfl
  i2 := by kernel_rfl
  i3 := by kernel_rfl
  i4 := by kernel_rfl
  i5 := by kernel_rfl
  i9 := by kernel_rfl
  i20 := by kernel_rfl
  i21 := by kernel_rfl
  i37 := by kernel_rfl
  i46 := by kernel_rfl
  i51 := by kernel_rfl
  i53 := by kernel_rfl
  i75 := by kernel_rfl
  i76 := by kernel_rfl
  i80 := by kernel_rfl
  i85 := by kernel_rfl
  i127 := by kernel_rfl
  i143 := by kernel_rfl
  i145 := by kernel_rfl
  i167 := by kernel_rfl
  i168 := by kernel_rfl
  i171 := by kernel_rfl
  i173 := by kernel_rfl
  i175 := by kernel_rfl
  i210 := by kernel_rfl
  i212 := by kernel_rfl
  i232 := by kernel_rfl
  i233 := by kernel_rfl
  m15 := by kernel_rfl
  m16 := by kernel_rfl
  m17 := by kernel_rfl
  m18 := by kernel_rfl
  m19 := by kernel_rfl
  c0 := by kernel_rfl
  c2 := by kernel_rfl
  c3 := by kernel_rfl
  c4 := by kernel_rfl
  c5 := by kernel_rfl
  c9 := by kernel_rfl
  c20 := by kernel_rfl
  c21 := by kernel_rfl
  c37 := by kernel_rfl
  c46 := by kernel_rfl
  c51 := by kernel_rfl
  c53 := by kernel_rfl
  c75 := by kernel_rfl
  c76 := by kernel_rfl
  c80 := by kernel_rfl
  c85 := by kernel_rfl
  c127 := by kernel_rfl
  c143 := by kernel_rfl
  c145 := by kernel_rfl
  c167 := by kernel_rfl
  c168 := by kernel_rfl
  c171 := by kernel_rfl
  c173 := by kernel_rfl
  c175 := by kernel_rfl
  c210 := by kernel_rfl
  c212 := by kernel_rfl
  c213 := by kernel_rfl
  c232 := by kernel_rfl
  c233 := by kernel_rfl }
open Go.RowKit in
/-- strconv.Atoi, AT EVERY STRING THAT SPELLS AN int ('Lib.atoiAll .. = .ok v'; of whatever length: leading zeros count): v, AND NO ERROR. The world: as it was, or with the one new row that '[]byte(..)' lays. (LAID: no walk: one application.) -/
theorem Tryz.strconv_Atoi_ok (s : ByteArray) (hmax : s.size ≤ 9223372036854775806) (v : Int) (h : Lib.atoiAll s.data.toList = .ok v) (w : World) :
    Calls Tryz.prog 77 #[.string s] w fun e w' => e = .returned (.tuple #[.int .i64 v, .nilIface]) ∧ (w' = w ∨ ∃ t, w' = Lib.bytesWorld w 5 t) := Any.strconv_Atoi_ok Tryz.laysC172 s hmax v h w
open Go.RowKit in
/-- strconv.Atoi, AT EVERY STRING THAT IS NO DECIMAL NUMERAL (no numeral): 0, AND AN ERROR THAT IS NOT nil: a *NumError in a new block N: {Func: "Atoi", Num: s's bytes, Err: what the variable ErrSyntax holds}. Of what was there nothing has turned. (LAID: no walk: one application.) -/
theorem Tryz.strconv_Atoi_bad (s : ByteArray) (hlim : s.size ≤ 281474976710656) (h1 : ∀ v, Lib.atoiAll s.data.toList ≠ .ok v) (h2 : Lib.atoiAll s.data.toList ≠ .range) (ev : Value) (w : World) (hv : w.cell? ⟨2, 0, none⟩ = some ev) (hev : ev = .nilIface ∨ ∃ te pe, ev = .iface te pe) :
    Calls Tryz.prog 77 #[.string s] w fun e w' => ∃ N, e = .returned (.tuple #[.int .i64 (0), .iface 158 (.pointer (some ⟨N, 0, none⟩))]) ∧ w.heap.size ≤ N ∧ w'.heap[N]? = some (.cells #[.string ⟨#[65, 116, 111, 105]⟩, .string s, ev] 192 (0, 0)) ∧ Below w.heap.size w w' := Any.strconv_Atoi_syntax Tryz.laysC172 s hlim (by revert h1 h2; cases Lib.atoiAll s.data.toList <;> simp) ev w hv hev
open Go.RowKit in
/-- strconv.Atoi, AT EVERY NUMERAL THAT NO int HOLDS ('.range'): THE GREATEST OR THE LEAST int, BY THE SIGN ('Lib.atoiSat'), AND AN ERROR THAT IS NOT nil: a *NumError in a new block N: {Func: "Atoi", Num: s's bytes, Err: what the variable ErrRange holds}. Of what was there nothing has turned. (LAID: no walk: one application.) -/
theorem Tryz.strconv_Atoi_range (s : ByteArray) (hlim : s.size ≤ 281474976710656) (h : Lib.atoiAll s.data.toList = .range) (ev : Value) (w : World) (hv : w.cell? ⟨3, 0, none⟩ = some ev) (hev : ev = .nilIface ∨ ∃ te pe, ev = .iface te pe) :
    Calls Tryz.prog 77 #[.string s] w fun e w' => ∃ N, e = .returned (.tuple #[.int .i64 (Lib.atoiSat s.data.toList), .iface 158 (.pointer (some ⟨N, 0, none⟩))]) ∧ w.heap.size ≤ N ∧ w'.heap[N]? = some (.cells #[.string ⟨#[65, 116, 111, 105]⟩, .string s, ev] 192 (0, 0)) ∧ Below w.heap.size w w' := Any.strconv_Atoi_range Tryz.laysC172 s hlim h ev w hv hev
def Tryz.lays138_ren : Go.Shelf.Ren := ⟨fun | 138 => 217 | 195 => 218 | 218 => 219 | 143 => 220 | 219 => 221 | 217 => 222 | 225 => 223 | 224 => 224 | 267 => 225 | 266 => 226 | 314 => 227 | n => n, fun | 9 => 9 | 3 => 3 | 4 => 4 | 5 => 5 | 0 => 0 | 46 => 172 | 146 => 261 | 51 => 119 | n => n, fun | 1 => 1 | n => n⟩
theorem Tryz.lays138 : Go.Proofs.Lays.n138 Tryz.prog Tryz.lays138_ren := {
  mixed := by kernel_rfl
  f138 := Tryz.func217.trans (congrArg some (by kernel_rfl))
  f143 := Tryz.func220.trans (congrArg some (by kernel_rfl))
  f195 := Tryz.func218.trans (congrArg some (by kernel_rfl))
  f217 := Tryz.func222.trans (congrArg some (by kernel_rfl))
  f218 := Tryz.func219.trans (congrArg some (by kernel_rfl))
  f219 := Tryz.func221.trans (congrArg some (by kernel_rfl))
  f224 := Tryz.func224.trans (congrArg some (by kernel_rfl))
  f225 := Tryz.func223.trans (congrArg some (by kernel_rfl))
  f266 := Tryz.func226.trans (congrArg some (by kernel_rfl))
  f267 := Tryz.func225.trans (congrArg some (by kernel_rfl))
  f314 := Tryz.func227.trans (congrArg some (by kernel_rfl))
  t0 := Tryz.underlying0
  a0 := Tryz.isAgg0
  z0 := Tryz.sizeOf0
  v0 := Tryz.zeroValue0
  t3 := Tryz.underlying3
  a3 := Tryz.isAgg3
  z3 := Tryz.sizeOf3
  v3 := Tryz.zeroValue3
  t4 := Tryz.underlying4
  a4 := Tryz.isAgg4
  z4 := Tryz.sizeOf4
  v4 := Tryz.zeroValue4
  t5 := Tryz.underlying5
  a5 := Tryz.isAgg5
  z5 := Tryz.sizeOf5
  v5 := Tryz.zeroValue5
  t9 := Tryz.underlying9
  a9 := Tryz.isAgg9
  z9 := Tryz.sizeOf9
  v9 := Tryz.zeroValue9
  t46 := Tryz.underlying172
  a46 := Tryz.isAgg172
  z46 := Tryz.sizeOf172
  v46 := Tryz.zeroValue172
  t51 := Tryz.underlying119
  a51 := Tryz.isAgg119
  z51 := Tryz.sizeOf119
  v51 := Tryz.zeroValue119
  t146 := Tryz.underlying261
  a146 := Tryz.isAgg261
  z146 := Tryz.sizeOf261
  v146 := Tryz.zeroValue261
  g1 := by kernel_rfl }
open Go.RowKit Go.Lib in
/-- strings.Count AT A substr OF ONE BYTE ('hp'): "Count counts the number of non-overlapping instances of substr in s.": IT RETURNS 'Lib.countByte s (that byte)'; the world is as it was. ✋ NO CONTRACT HERE YET at an empty substr (utf8.RuneCountInString) or at a longer one (a loop over strings.Index). (LAID: no walk: one application.) -/
theorem Tryz.strings_Count_one (s : ByteArray) (c : UInt8) (w : World) :
    Calls Tryz.prog 217 #[.string s, .string ⟨#[c]⟩] w fun e w' => e = .returned (.int .i64 (Lib.countByte s.data.toList c)) ∧ w' = w := Any.strings_Count_one Tryz.lays138 s c w
def Tryz.lays197_ren : Go.Shelf.Ren := ⟨fun | 197 => 134 | 260 => 158 | n => n, fun | 9 => 9 | 21 => 21 | 3 => 3 | 4 => 4 | 5 => 5 | 105 => 161 | 119 => 182 | 0 => 0 | 46 => 172 | 139 => 215 | 138 => 214 | n => n, fun | 3 => 4 | 4 => 5 | n => n⟩
theorem Tryz.lays197 : Go.Proofs.Lays.n197 Tryz.prog Tryz.lays197_ren := {
  mixed := by kernel_rfl
  f197 := Tryz.func134.trans (congrArg some (by kernel_rfl))
  f260 := Tryz.func158.trans (congrArg some (by kernel_rfl))
  t0 := Tryz.underlying0
  a0 := Tryz.isAgg0
  z0 := Tryz.sizeOf0
  v0 := Tryz.zeroValue0
  t3 := Tryz.underlying3
  a3 := Tryz.isAgg3
  z3 := Tryz.sizeOf3
  v3 := Tryz.zeroValue3
  t4 := Tryz.underlying4
  a4 := Tryz.isAgg4
  z4 := Tryz.sizeOf4
  v4 := Tryz.zeroValue4
  t5 := Tryz.underlying5
  a5 := Tryz.isAgg5
  z5 := Tryz.sizeOf5
  v5 := Tryz.zeroValue5
  t9 := Tryz.underlying9
  a9 := Tryz.isAgg9
  z9 := Tryz.sizeOf9
  v9 := Tryz.zeroValue9
  t21 := Tryz.underlying21
  a21 := Tryz.isAgg21
  z21 := Tryz.sizeOf21
  v21 := Tryz.zeroValue21
  t46 := Tryz.underlying172
  a46 := Tryz.isAgg172
  z46 := Tryz.sizeOf172
  v46 := Tryz.zeroValue172
  t105 := Tryz.underlying161
  a105 := Tryz.isAgg161
  z105 := Tryz.sizeOf161
  v105 := Tryz.zeroValue161
  t119 := Tryz.underlying182
  a119 := Tryz.isAgg182
  z119 := Tryz.sizeOf182
  t138 := Tryz.underlying214
  a138 := Tryz.isAgg214
  z138 := Tryz.sizeOf214
  v138 := Tryz.zeroValue214
  t139 := Tryz.underlying215
  a139 := Tryz.isAgg215
  z139 := Tryz.sizeOf215
  v139 := Tryz.zeroValue215
  g3 := by kernel_rfl
  g4 := by kernel_rfl }
open Go.RowKit Go.Lib in
/-- **unicode/utf8.DecodeRuneInString AT EVERY STRING.** (LAID: no walk: one application.) -/
theorem Tryz.utf8_DecodeRuneInString (s : ByteArray) (w : World) (hT : Lib.Utf8Tabs 4 5 w) :
    Calls Tryz.prog 134 #[.string s] w fun e w' => e = .returned (.tuple #[.int .i32 (Lib.decodeGo s).1, .int .i64 (Lib.decodeGo s).2]) ∧ Below w.heap.size w w' := Any.utf8_DecodeRuneInString Tryz.lays197 s w hT
end Go.Proofs
set_option linter.unusedVariables false
namespace Go.Proofs
open Go.Shelf Go.RowKit
set_option maxHeartbeats 1000000 in
set_option maxRecDepth 100000 in
theorem Tryz.cc_used (b : Nat) (w : World) (h0 : w.cell? ⟨b, 0, none⟩ = some (.pointer (some ⟨b, 0, none⟩))) :
    Calls Tryz.prog 107 #[.pointer (some ⟨b, 0, none⟩)] w fun e w' => e = .returned (.tuple #[]) ∧ w' = w := by
  obtain ⟨j, hj, _⟩ := Option.map_eq_some_iff.1 (show (Tryz.prog.info? 84).map (·.size) = some 2 by kernel_rfl)
  have mixed : Tryz.prog.follows .mixedOrders = true := by kernel_rfl
  go_enter Tryz.func107, Tryz.ntmps107
  go_wp2
  rw [Lib.run_neq_ptr_same w _ Tryz.underlying82 hj]
  go_wp2
  go_end0
  exact ⟨rfl, rfl⟩
set_option maxHeartbeats 1000000 in
set_option maxRecDepth 100000 in
theorem Tryz.cc_fresh (b : Nat) (w : World) (h0 : w.cell? ⟨b, 0, none⟩ = some (.pointer none)) (hsh : w.shape? b = some (84, 2)) (hfz : w.frozen? ⟨b, 0, none⟩ = false) :
    Calls Tryz.prog 107 #[.pointer (some ⟨b, 0, none⟩)] w fun e w' => e = .returned (.tuple #[]) ∧ w' = w.setCell ⟨b, 0, none⟩ (.pointer (some ⟨b, 0, none⟩)) := by
  obtain ⟨j, hj, hjs⟩ := Option.map_eq_some_iff.1 (show (Tryz.prog.info? 84).map (·.size) = some 2 by kernel_rfl)
  have mixed : Tryz.prog.follows .mixedOrders = true := by kernel_rfl
  go_enter Tryz.func107, Tryz.ntmps107
  go_wp2
  rw [Lib.run_to_unsafe w ⟨b, 0, none⟩ Tryz.underlying82 Tryz.underlying152 hj (by rw [hjs]; decide) hsh (Nat.zero_lt_succ 1)]
  simp only [Result.andThen]
  rw [Oper.upon_value]
  go_wp2
  rw [run_callFunc_extern Tryz.func127 (by kernel_rfl) (by kernel_rfl) (by kernel_rfl) (e := Extern.AbiNoEscape.same) (by kernel_rfl)]
  rw [Lib.run_noEscape]
  simp only [Result.andThen]
  rw [Oper.upon_value]
  go_wp2
  rw [Lib.run_from_unsafe w ⟨b, 0, none⟩ Tryz.underlying152 Tryz.underlying82 hj hsh (by kernel_rfl)]
  simp only [Result.andThen]
  rw [Oper.upon_value]
  go_wp2
  go_end0
  exact ⟨rfl, rfl⟩
end Go.Proofs
set_option linter.unusedVariables false
namespace Go.Abs
open Go.Proofs Go.RowKit
/-! ### the library's functions that are taken as one step, and what is not of the shelf -/
theorem KR_disable (w : World) : (callFunc 169 #[]).run Tryz.prog w = .ok (.value (.tuple #[])) w := run_call_mark0 Tryz.func169 (by kernel_rfl) (by kernel_rfl) (by kernel_rfl) .disable (by kernel_rfl) w
theorem KR_enable (w : World) : (callFunc 171 #[]).run Tryz.prog w = .ok (.value (.tuple #[])) w := run_call_mark0 Tryz.func171 (by kernel_rfl) (by kernel_rfl) (by kernel_rfl) .enable (by kernel_rfl) w
theorem KR_acquire (a : Addr) (w : World) : (callFunc 172 #[.pointer (some a)]).run Tryz.prog w = .ok (.value (.tuple #[])) w := run_call_marked Tryz.func172 (by kernel_rfl) (by kernel_rfl) (by kernel_rfl) .acquire (by kernel_rfl) a w
theorem KR_merge (a : Addr) (w : World) : (callFunc 174 #[.pointer (some a)]).run Tryz.prog w = .ok (.value (.tuple #[])) w := run_call_marked Tryz.func174 (by kernel_rfl) (by kernel_rfl) (by kernel_rfl) .releaseMerge (by kernel_rfl) a w
set_option maxRecDepth 100000 in
set_option maxHeartbeats 1600000 in
theorem KR_store (a : Addr) (x : Value) (u : FrameMode) (w : World) (hc : w.cell? a = some x) (hz : w.frozen? a = false) :
    CallsD Tryz.prog 152 #[.pointer (some a), .bool true] u w fun e u' w' => u' = u ∧ (e = .returned (.tuple #[]) ∧ w' = w.drew.setCell a (.int .u32 1)) := by
  have hc' : w.drew.cell? a = some x := by go_simp
  have hz' : w.drew.frozen? a = false := by go_simp
  have hst := run_call_store (P := Tryz.prog) Tryz.func163 (by kernel_rfl) (by kernel_rfl) (by kernel_rfl) (by kernel_rfl) (k := .u32) (y := 1) hc' hz'
  go_enter_d Tryz.func152, Tryz.ntmps152
  go_wp2
  go_region_calls
  all_goals (go_end0; exact ⟨rfl, rfl⟩)
set_option maxRecDepth 100000 in
set_option maxHeartbeats 1600000 in
theorem KR_unlock (a : Addr) (u : FrameMode) (w : World) (hc : w.cell? a = some (.int .i32 1)) (hz : w.frozen? a = false) :
    CallsD Tryz.prog 151 #[.pointer (some a)] u w fun e u' w' => u' = u ∧ (e = .returned (.tuple #[]) ∧ w' = w.setCell a (.int .i32 0)) := by
  have hd := KR_disable
  have he := KR_enable
  have hr := KR_merge
  have hadd := run_call_add (P := Tryz.prog) Tryz.func175 (by kernel_rfl) (by kernel_rfl) (by kernel_rfl) .i32 (by kernel_rfl) (y := -1) (s := 0) hc hz (by simp [go_sem]; rfl)
  have hcv := run_convert_to_unsafe (P := Tryz.prog) (src := 218) (dst := 152) Tryz.underlying218 Tryz.underlying152 (by kernel_rfl) hc
  go_enter_d Tryz.func151, Tryz.ntmps151
  go_wp2
  go_end0
  go_wp2
  go_end0
  exact ⟨rfl, rfl⟩
set_option maxRecDepth 100000 in
set_option maxHeartbeats 1600000 in
theorem KR_lock (a : Addr) (w : World) (hc : w.cell? a = some (.int .i32 0)) (hz : w.frozen? a = false) :
    Calls Tryz.prog 150 #[.pointer (some a)] w fun e w' => e = .returned (.tuple #[]) ∧ w' = w.setCell a (.int .i32 1) := by
  have hd := KR_disable
  have he := KR_enable
  have ha := KR_acquire
  have hcas := run_call_cas_hit (P := Tryz.prog) Tryz.func170 (by kernel_rfl) (by kernel_rfl) (by kernel_rfl) .i32 (by kernel_rfl) (y := 1) hc hz
  have hc' : (w.setCell a (.int .i32 1)).cell? a = some (.int .i32 1) := World.cell?_setCell_same w a _ hc
  have hcv := run_convert_to_unsafe (P := Tryz.prog) (src := 218) (dst := 152) Tryz.underlying218 Tryz.underlying152 (by kernel_rfl) hc'
  go_enter Tryz.func150, Tryz.ntmps150
  go_wp2
  first | go_end0 | (simp only [Exit.inBlock, Exit.then]; refine bodyPost_ret (results_none rfl _ _ _) rfl ?_) | refine bodyPost_ret (results_none rfl _ _ _) rfl ?_
  go_wp2
  go_end0
  exact ⟨rfl, rfl⟩
/-- (*sync.Once).doSlow, not done and free: the function is called; then it is done and free -/
theorem KR_slow (b o : Nat) (w : World) (M : World → Prop) (h0 : w.cell? ⟨b, o, none⟩ = some (.int .u32 0)) (h1 : w.cell? ⟨b, o + 1, none⟩ = some (.int .i32 0))
    (f0 : w.frozen? ⟨b, o, none⟩ = false) (f1 : w.frozen? ⟨b, o + 1, none⟩ = false)
    (hB : Calls Tryz.prog 106 #[.pointer (some ⟨b, o, none⟩)] (w.setCell ⟨b, o + 1, none⟩ (.int .i32 1)) fun e w2 => e = .returned (.tuple #[]) ∧ M w2)
    (hM : ∀ w2, M w2 → w2.cell? ⟨b, o, none⟩ = some (.int .u32 0) ∧ w2.cell? ⟨b, o + 1, none⟩ = some (.int .i32 1) ∧ w2.frozen? ⟨b, o, none⟩ = false ∧ w2.frozen? ⟨b, o + 1, none⟩ = false) :
    Calls Tryz.prog 125 #[.pointer (some ⟨b, o, none⟩), .func (.func 106) #[.pointer (some ⟨b, o, none⟩)] #[]] w fun e w' => e = .returned (.tuple #[]) ∧
      ∃ w2, M w2 ∧ w' = (w2.drew.setCell ⟨b, o, none⟩ (.int .u32 1)).setCell ⟨b, o + 1, none⟩ (.int .i32 0) := by
  have hl := run_call_load (P := Tryz.prog) Tryz.func149 (by kernel_rfl) (by kernel_rfl) (by kernel_rfl) .u32 (by kernel_rfl) (w := w.setCell ⟨b, o + 1, none⟩ (.int .i32 1)) (a := ⟨b, o, none⟩) (x := 0) ((World.cell?_setCell_other _ ⟨b, o + 1, none⟩ ⟨b, o, none⟩ _ (by simp)).trans h0)
  have hnot : ∀ (x : Bool) (w : World), (Op.unary .not (.bool x)).run Tryz.prog w = .ok (.bool (!x)) w := fun _ _ => rfl
  go_enter_defers Tryz.func125, Tryz.ntmps125
  go_wp2_with (first | (go_at_call 150; refine (KR_lock ⟨b, o + 1, none⟩ _ (by go_simp) (by go_simp)).mono ?_; rintro e w' ⟨rfl, rfl⟩) | (go_at_call 124; go_in) | (go_at_call 106; refine hB.mono ?_; rintro e w2 ⟨rfl, hw2⟩))
  obtain ⟨m0, m1, m2, m3⟩ := hM w2 hw2
  refine leaves_cons (f := 152) (args := #[.pointer (some ⟨b, o, none⟩), .bool true]) (by simp) (by simp [go_sem]) ?_
  refine (KR_store ⟨b, o, none⟩ (.int .u32 0) _ _ m0 m2).mono ?_
  rintro e u' w'' ⟨rfl, rfl, rfl⟩
  refine leaves_cons (f := 151) (args := #[.pointer (some ⟨b, o + 1, none⟩)]) (by simp [settle]) (by simp [go_sem]) ?_
  refine (KR_unlock ⟨b, o + 1, none⟩ _ _ ?_ (by simp [m3])).mono ?_
  · refine (World.cell?_setCell_other _ ⟨b, o, none⟩ ⟨b, o + 1, none⟩ _ (by simp)).trans ?_
    rw [World.cell?_drew]
    exact m1
  rintro e u' w'' ⟨rfl, rfl, rfl⟩
  simp only [Leaves, settle, results, Tryz.results125]
  first
    | exact ⟨_, rfl, rfl, w2, hw2, rfl⟩
    | (refine ⟨w2, ?_⟩; simp [hw2])
    | (simp; exact ⟨w2, hw2, rfl⟩)
set_option maxRecDepth 100000 in
set_option maxHeartbeats 1600000 in
/-- (*sync.Once).Do, not done and free -/
theorem KR_do (b o : Nat) (w : World) (M : World → Prop) (h0 : w.cell? ⟨b, o, none⟩ = some (.int .u32 0)) (h1 : w.cell? ⟨b, o + 1, none⟩ = some (.int .i32 0))
    (f0 : w.frozen? ⟨b, o, none⟩ = false) (f1 : w.frozen? ⟨b, o + 1, none⟩ = false)
    (hB : Calls Tryz.prog 106 #[.pointer (some ⟨b, o, none⟩)] (w.setCell ⟨b, o + 1, none⟩ (.int .i32 1)) fun e w2 => e = .returned (.tuple #[]) ∧ M w2)
    (hM : ∀ w2, M w2 → w2.cell? ⟨b, o, none⟩ = some (.int .u32 0) ∧ w2.cell? ⟨b, o + 1, none⟩ = some (.int .i32 1) ∧ w2.frozen? ⟨b, o, none⟩ = false ∧ w2.frozen? ⟨b, o + 1, none⟩ = false) :
    Calls Tryz.prog 105 #[.pointer (some ⟨b, o, none⟩), .func (.func 106) #[.pointer (some ⟨b, o, none⟩)] #[]] w fun e w' => e = .returned (.tuple #[]) ∧
      ∃ w2, M w2 ∧ w' = (w2.drew.setCell ⟨b, o, none⟩ (.int .u32 1)).setCell ⟨b, o + 1, none⟩ (.int .i32 0) := by
  have hl := run_call_load (P := Tryz.prog) Tryz.func149 (by kernel_rfl) (by kernel_rfl) (by kernel_rfl) .u32 (by kernel_rfl) h0
  have hnot : ∀ (x : Bool) (w : World), (Op.unary .not (.bool x)).run Tryz.prog w = .ok (.bool (!x)) w := fun _ _ => rfl
  go_enter Tryz.func105, Tryz.ntmps105
  go_wp2_with (first | (go_at_call 125; refine (KR_slow b o _ M h0 h1 f0 f1 hB hM).mono ?_; rintro e w' ⟨rfl, w2, hw2, rfl⟩) | (go_at_call 124; go_in))
  go_end0
  exact ⟨rfl, w2, hw2, rfl⟩
set_option maxRecDepth 100000 in
set_option maxHeartbeats 1600000 in
/-- (*strings.Replacer).Replace, of a replacer not yet asked -/
theorem KR_repl (b o : Nat) (s : ByteArray) (w : World) (Q : ByteArray → World → Prop) (M : World → Prop)
    (h0 : w.cell? ⟨b, o, none⟩ = some (.int .u32 0)) (h1 : w.cell? ⟨b, o + 1, none⟩ = some (.int .i32 0)) (f0 : w.frozen? ⟨b, o, none⟩ = false) (f1 : w.frozen? ⟨b, o + 1, none⟩ = false)
    (hB : Calls Tryz.prog 106 #[.pointer (some ⟨b, o, none⟩)] (w.setCell ⟨b, o + 1, none⟩ (.int .i32 1)) (fun e w2 => e = .returned (.tuple #[]) ∧ M w2))
    (hR : ∀ w2, M w2 → w2.cell? ⟨b, o, none⟩ = some (.int .u32 0) ∧ w2.cell? ⟨b, o + 1, none⟩ = some (.int .i32 1) ∧ w2.frozen? ⟨b, o, none⟩ = false ∧ w2.frozen? ⟨b, o + 1, none⟩ = false ∧
        ∃ p, w2.cell? ⟨b, o + 3, none⟩ = some (.iface 188 p) ∧ Calls Tryz.prog 215 #[p, .string s] ((w2.drew.setCell ⟨b, o, none⟩ (.int .u32 1)).setCell ⟨b, o + 1, none⟩ (.int .i32 0)) (fun e w' => ∃ r, e = .returned (.string r) ∧ Q r w')) :
    Calls Tryz.prog 67 #[.pointer (some ⟨b, o, none⟩), .string s] w (fun e w' => ∃ r, e = .returned (.string r) ∧ Q r w') := by
  have hmf : ∀ (fn : Fn) (first cap : Array Value) (w : World), (Instr.makeFunc fn first cap).run Tryz.prog w = .ok (.func fn first cap) w := fun _ _ _ _ => rfl
  go_enter Tryz.func67, Tryz.ntmps67
  go_wp2_with (go_at_call 105; refine (KR_do b o _ M h0 h1 f0 f1 hB (fun w2 h => let ⟨a, b, c, d, _⟩ := hR w2 h; ⟨a, b, c, d⟩)).mono ?_; rintro e w' ⟨rfl, w2, hw2, rfl⟩; obtain ⟨m0, m1, m2, m3, p, m4, m5⟩ := hR w2 hw2)
  have hm : ∀ w, (method 363 188 p "Replace").run Tryz.prog w = .ok (215, p) w := fun _ => by kernel_rfl
  rw [hm]
  simp only [Result.andThen]
  have e215 : ∀ args w, (callFunc 215 args).run Tryz.prog w = .ok (.enter 215 args) w := Go.Proofs.enters_of Tryz.func215 (by kernel_rfl) rfl
  rw [e215, Oper.upon_enter]
  refine (show Calls Tryz.prog _ _ _ _ from m5).mono ?_
  rintro e w' ⟨r, rfl, hq⟩
  go_wp2
  go_ret
  exact ⟨r, rfl, hq⟩

theorem below_grow (w : World) (q : Nat) (os : Array Obj) : Below w.heap.size w (Go.Sort.grow (w.drewN q) os) := by
  have h := below_drewN w q
  have hh : (w.drewN q).heap = w.heap := by
    induction q with
    | zero => rfl
    | succ n ih => exact ih (below_drewN w n)
  refine ⟨h.os, h.tape, h.output, ?_, fun k hk => ?_⟩
  · show w.heap.size ≤ ((w.drewN q).heap ++ os).size
    rw [Array.size_append, hh]; omega
  · show ((w.drewN q).heap ++ os)[k]? = w.heap[k]?
    rw [hh, Array.getElem?_append_left hk]
theorem KR_itoa (n : Int) (w : World) (hw : Glob w) (h0 : -9223372036854775808 ≤ n) (h1 : n ≤ 9223372036854775807) : Calls Tryz.prog 26 #[.int .i64 n] w fun e w' => e = .returned (.string ⟨(Lib.itoa n).toArray⟩) ∧ Below w.heap.size w w' := by
  refine (Tryz.strconv_Itoa n h0 h1 w hw.2.pow).mono ?_
  rintro e w' ⟨rfl, k, os, rfl⟩
  exact ⟨rfl, below_grow _ _ _⟩
theorem KR_decode (s : ByteArray) (w : World) (hw : Glob w) : Calls Tryz.prog 134 #[.string s] w fun e w' => e = .returned (.tuple #[.int .i32 (Lib.decodeGo s).1, .int .i64 (Lib.decodeGo s).2]) ∧ Below w.heap.size w w' :=
  Tryz.utf8_DecodeRuneInString s w hw.2.utf
set_option maxRecDepth 100000 in
set_option maxHeartbeats 1600000 in
theorem KR_num (s : ByteArray) (w : World) (hw : Glob w) (hs : s.size ≤ 281474976710656) : Calls Tryz.prog 33 #[.string s] w fun e w' => e = .returned (.int .i64 (numI s.data.toList)) ∧ Below w.heap.size w w' := by
  by_cases ho : ∃ v, Lib.atoiAll s.data.toList = .ok v
  · obtain ⟨v, hq⟩ := ho
    have hn : numI s.data.toList = v := by unfold numI; rw [hq]
    rw [hn]
    have hne : ∀ w : World, (binOp .neq 87 .nilIface .nilIface).run Tryz.prog w = .ok (.bool false) w := fun _ => by kernel_rfl
    go_enter Tryz.func33, Tryz.ntmps33
    go_wp2_with (go_at_call 77; refine (Tryz.strconv_Atoi_ok s (by omega) v hq w).mono ?_; rintro e w' ⟨rfl, hw'⟩)
    go_ret
    refine ⟨rfl, ?_⟩
    rcases hw' with rfl | ⟨t, rfl⟩
    · exact Below.refl _ _
    · exact Lib.bytesWorld_below _ _ _
  · by_cases hr : Lib.atoiAll s.data.toList = .range
    · have hn : numI s.data.toList = -1 := by unfold numI; rw [hr]
      rw [hn]
      obtain ⟨ev, e1, e2⟩ := hw.2.rng
      go_enter Tryz.func33, Tryz.ntmps33
      go_wp2_with (go_at_call 77; refine (Tryz.strconv_Atoi_range s hs hr ev w e1 e2).mono ?_; rintro e w' ⟨N, rfl, hN, hN2, hb⟩)
      go_ret
      exact ⟨rfl, hb⟩
    · have hn : numI s.data.toList = -1 := by
        unfold numI
        split
        · rename_i v hv; exact absurd ⟨v, hv⟩ ho
        · rfl
      rw [hn]
      obtain ⟨ev, e1, e2⟩ := hw.2.syn
      go_enter Tryz.func33, Tryz.ntmps33
      go_wp2_with (go_at_call 77; refine (Tryz.strconv_Atoi_bad s hs (fun v hv => ho ⟨v, hv⟩) hr ev w e1 e2).mono ?_; rintro e w' ⟨N, rfl, hN, hN2, hb⟩)
      go_ret
      exact ⟨rfl, hb⟩
end Go.Abs
namespace Go.Abs
open Go.Proofs Go.RowKit
set_option maxRecDepth 100000
theorem enters_of (g : Nat) (F : Func) (h : Tryz.prog.funcs[g]? = some F) (hb : F.body.isSome = true) (hn : (F.name == "runtime.NumGoroutine") = false) : Enters V0.P g := ⟨F, h, hb, hn⟩
theorem prims0 : ∀ g p, V0.prim g = some p → PrimSnd V0.P g p := by
  intro g p h
  obtain ⟨e, he, rfl⟩ := Option.map_eq_some_iff.1 (show (primTab.find? fun e => e.1 == g).map (·.2) = some p from h)
  have hm := List.mem_of_find?_eq_some he
  have hg : e.1 = g := by simpa using List.find?_some he
  subst hg
  simp only [primTab, List.mem_cons, List.not_mem_nil, or_false] at hm
  rcases hm with rfl | rfl | rfl | rfl | rfl | rfl | rfl
  · exact fItoa_snd (enters_of 26 _ Tryz.func26 (by kernel_rfl) (by kernel_rfl)) KR_itoa
  · exact pJoin_snd (enters_of 28 _ Tryz.func28 (by kernel_rfl) (by kernel_rfl)) Tryz.strings_Join_none Tryz.strings_Join
  · exact fNum_snd (enters_of 33 _ Tryz.func33 (by kernel_rfl) (by kernel_rfl)) KR_num
  · exact pRepl_snd (enters_of 67 _ Tryz.func67 (by kernel_rfl) (by kernel_rfl)) KR_repl
  · exact pCopyCheck_snd (enters_of 107 _ Tryz.func107 (by kernel_rfl) (by kernel_rfl)) Tryz.cc_fresh Tryz.cc_used
  · exact fDecode_snd (enters_of 134 _ Tryz.func134 (by kernel_rfl) (by kernel_rfl)) KR_decode
  · exact fCount_snd (enters_of 217 _ Tryz.func217 (by kernel_rfl) (by kernel_rfl)) Tryz.strings_Count_one
end Go.Abs
