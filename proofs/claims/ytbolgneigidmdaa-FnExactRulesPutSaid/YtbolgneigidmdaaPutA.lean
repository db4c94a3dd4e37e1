/- What RulesPut computes, in the program and in the reference, and that the law FnExactRulesPut answers true. For every list of rules; no condition. -/
import Derived.Test.YtbolgneigidmdaaFactsA
import Derived.Lib.Join
namespace Go.Abs
open Go.Proofs
set_option maxRecDepth 100000
set_option linter.unusedSimpArgs false
set_option pp.maxSteps 20000

/-! ### values and heaps -/
abbrev Bs := List UInt8
abbrev iV (n : Int) : Value := .int .i64 n
abbrev sV (s : Bs) : Value := .string (B s)
abbrev slV (id g n c : Nat) : Value := .slice (some ⟨id, 0, some g⟩) n c
def Keep (n : Nat) (h h' : AH) : Prop := h.length ≤ h'.length ∧ ∀ j, j < n → h'[j]? = h[j]?
theorem Keep.refl (n : Nat) (h : AH) : Keep n h h := ⟨Nat.le_refl _, fun _ _ => rfl⟩
theorem Keep.trans {n : Nat} {a b c : AH} (x : Keep n a b) (y : Keep n b c) : Keep n a c := ⟨Nat.le_trans x.1 y.1, fun j hj => (y.2 j hj).trans (x.2 j hj)⟩
theorem Keep.le {n m : Nat} {a b : AH} (x : Keep n a b) (hm : m ≤ n) : Keep m a b := ⟨x.1, fun j hj => x.2 j (Nat.lt_of_lt_of_le hj hm)⟩
theorem Keep.app {n : Nat} (h l : AH) (hn : n ≤ h.length) : Keep n h (h ++ l) := ⟨by simp, fun j hj => by rw [List.getElem?_append_left (by omega)]⟩
theorem Keep.set {n : Nat} (h : AH) (i : Nat) (o : AObj) (hn : n ≤ i) : Keep n h (h.set i o) := ⟨by simp, fun j hj => by rw [List.getElem?_set_ne (by omega)]⟩
theorem Keep.get {n : Nat} {h h' : AH} (x : Keep n h h') {j : Nat} {o : AObj} (e : h[j]? = some o) (hj : j < n) : h'[j]? = some o := by rw [x.2 j hj, e]
theorem lt_of_get {h : AH} {j : Nat} {o : AObj} (e : h[j]? = some o) : j < h.length := by
  rcases Nat.lt_or_ge j h.length with q | q
  · exact q
  · rw [List.getElem?_eq_none q] at e; cases e

theorem rowAt_of {h : AH} {id g sz : Nat} {cs : List Value} (e : h[id]? = some (.row g sz cs)) : rowAt h id g = some (sz, cs) := by simp [rowAt, e]

/-! ### bytes -/
theorem strAt_B (s : Bs) (i : Nat) : strAt (B s) i = (s[i]?).map fun b => (b.toNat : Int) := by
  simp only [strAt, B]
  rw [if_pos (by omega)]
  congr 1
  simp only [Int.toNat_natCast]
  by_cases hi : i < s.length
  · rw [List.getElem?_eq_getElem hi, getElem?_pos _ _ (by exact hi)]; rfl
  · rw [List.getElem?_eq_none (by omega), getElem?_neg _ _ (by exact hi)]
theorem size_B (s : Bs) : (B s).size = s.length := rfl
theorem B_inj {a b : Bs} : B a = B b ↔ a = b := ⟨fun h => by cases h; rfl, fun h => by rw [h]⟩
theorem ba_ext {a b : ByteArray} (h : a.data = b.data) : a = b := by cases a; cases b; cases h; rfl
theorem strCut_B (s : Bs) (a b : Nat) (hab : a ≤ b) (hb : b ≤ s.length) : strCut (B s) a b = some (B ((s.take b).drop a)) := by
  have hq : (0 : Int) ≤ (a : Int) ∧ (a : Int) ≤ (b : Int) ∧ (b : Int) ≤ ((B s).size : Int) := by rw [size_B]; omega
  unfold strCut
  rw [if_pos hq]
  refine congrArg some (ba_ext ?_)
  rw [ByteArray.data_extract, Int.toNat_natCast, Int.toNat_natCast]
  show (⟨s⟩ : Array UInt8).extract a b = ⟨(s.take b).drop a⟩
  apply Array.ext'
  simp [List.extract_eq_take_drop, List.drop_take]
theorem catA_B (a b : Bs) (h : a.length + b.length ≤ 2 ^ 62) : catA (B a) (B b) = some (B (a ++ b)) := by
  have hq : (B a).size + (B b).size ≤ 9223372036854775807 := by rw [size_B, size_B]; omega
  unfold catA
  rw [if_pos hq]
  refine congrArg some (ba_ext ?_)
  rw [ByteArray.data_append]
  show (⟨a⟩ : Array UInt8) ++ ⟨b⟩ = ⟨a ++ b⟩
  simp

/-! ### memory -/
abbrev pV (id off g : Nat) : Value := .pointer (some ⟨id, off, some g⟩)
theorem ixAddr_sl {id off g n c i sz : Nat} (hi : i < n) : ixAddr (.slice (some ⟨id, off, some g⟩) n c) (i : Int) sz = some (pV id (off + i * sz) g) := by
  simp only [ixAddr]
  rw [if_pos (by omega)]
  simp
theorem ld_of {h : AH} {id off g sz : Nat} {cs : List Value} {v : Value} (e : h[id]? = some (.row g sz cs)) (hv : cs[off]? = some v) : ld h (pV id off g) = some v := by
  simp only [ld, rowAt_of e, Option.bind_some, hv]
theorem ldN_of {h : AH} {id off g sz n : Nat} {cs : List Value} (e : h[id]? = some (.row g sz cs)) (hv : off + n ≤ cs.length) : ldN h (pV id off g) n = some ((cs.drop off).take n) := by
  simp only [ldN, rowAt_of e, Option.bind_some, cut, if_pos hv]
theorem stN_of {lim : Nat} {h : AH} {id off g sz : Nat} {cs vs : List Value} (hl : lim ≤ id) (e : h[id]? = some (.row g sz cs)) (ho : off + vs.length ≤ cs.length) (hv : vs.all oneCell = true) :
    stN lim h (pV id off g) vs = some (h.set id (.row g sz (setMany cs off vs))) := by
  simp only [stN, rowAt_of e, Option.bind_some, if_pos (And.intro hl (And.intro ho hv))]
theorem st1_of {lim : Nat} {h : AH} {id off g sz : Nat} {cs : List Value} {v : Value} (hl : lim ≤ id) (e : h[id]? = some (.row g sz cs)) (ho : off < cs.length) (hv : oneCell v = true) :
    stN lim h (pV id off g) [v] = some (h.set id (.row g sz (cs.set off v))) :=
  stN_of hl e (by simp only [List.length_cons, List.length_nil]; omega) (by simp [hv])
/-- append of what was just made, where all of the row is taken -/
theorem app_new {lim : Nat} {h : AH} {id g sz tg sz2 n k by' : Nat} {cs ds : List Value} (hl : lim ≤ id) (e : h[id]? = some (.row g tg cs)) (hn : n * sz = cs.length) (hk : k * sz = ds.length) (h0 : 0 < k) (hb : (n + k) * by' ≤ 2 ^ 47) :
    app lim (h ++ [AObj.row 0 sz2 ds]) (slV id g n n) (newS h k k) sz tg by' = some (slV id (g + 1) (n + k) (n + k), (h ++ [AObj.row 0 sz2 ds]).set id (AObj.row (g + 1) tg (cs ++ ds))) := by
  have hid := lt_of_get e
  have e' : (h ++ [AObj.row 0 sz2 ds])[id]? = some (.row g tg cs) := by rw [List.getElem?_append_left hid, e]
  have en : (h ++ [AObj.row 0 sz2 ds])[h.length]? = some (.row 0 sz2 ds) := by simp
  simp only [app, lenOf, newS, Option.bind_some]
  rw [if_neg (by omega)]
  have hs : srcCells (h ++ [AObj.row 0 sz2 ds]) (.slice (some ⟨h.length, 0, some 0⟩) k k) k sz = some ds := by
    simp only [srcCells, rowAt_of en, Option.bind_some, cut]
    rw [if_pos (by omega)]
    simp [hk]
  rw [hs, rowAt_of e']
  simp only [Option.bind_some]
  rw [if_neg (by omega), if_pos ⟨hl, True.intro, True.intro, hn, hb⟩]
/-- append of a text to bytes -/
theorem app_str {lim : Nat} {h : AH} {id g tg n : Nat} {cs : List Value} {t : Bs} (hl : lim ≤ id) (e : h[id]? = some (.row g tg cs)) (hn : n = cs.length) (h0 : 0 < t.length) (hb : n + t.length ≤ 2 ^ 47) :
    app lim h (slV id g n n) (sV t) 1 tg 1 = some (slV id (g + 1) (n + t.length) (n + t.length), h.set id (.row (g + 1) tg (cs ++ t.map fun b => .int .u8 b.toNat))) := by
  have hs : srcCells h (sV t) t.length 1 = some (t.map fun b => .int .u8 b.toNat) := by
    simp only [srcCells, if_true]
    congr 2
    show t.take t.length = t
    simp
  show (lenOf (sV t)).bind _ = _
  have h1 : lenOf (sV t) = some t.length := rfl
  rw [h1]
  simp only [Option.bind_some]
  rw [if_neg (by omega), hs, rowAt_of e]
  simp only [Option.bind_some]
  rw [if_neg (by omega), if_pos ⟨hl, True.intro, True.intro, by omega, by omega⟩]
theorem app_nil {lim : Nat} {h : AH} {tg : Nat} {t : Bs} (h0 : 0 < t.length) (hb : t.length ≤ 2 ^ 47) :
    app lim h (.slice none 0 0) (sV t) 1 tg 1 = some (newS h t.length t.length, h ++ [.row 0 tg (t.map fun b => .int .u8 b.toNat)]) := by
  have hs : srcCells h (sV t) t.length 1 = some (t.map fun b => .int .u8 b.toNat) := by
    simp only [srcCells, if_true]
    congr 2
    show t.take t.length = t
    simp
  show (lenOf (sV t)).bind _ = _
  have h1 : lenOf (sV t) = some t.length := rfl
  rw [h1]
  simp only [Option.bind_some]
  rw [if_neg (by omega), hs]
  simp only [Option.bind_some]
  rw [if_pos (by omega)]
theorem app_none {lim : Nat} {h : AH} {s : Value} {sz tg by' : Nat} (hs : s = .slice none 0 0 ∨ ∃ id off g n c, s = .slice (some ⟨id, off, some g⟩) n c) : app lim h s (sV []) sz tg by' = some (s, h) := by
  rcases hs with rfl | ⟨id, off, g, n, c, rfl⟩ <;> rfl
theorem wrap64 {n : Int} (h : -9223372036854775808 ≤ n ∧ n ≤ 9223372036854775807) : IntKind.i64.wrap n = n := by
  show (let m := n % (2 ^ 64 : Int); if true && m ≥ (2 ^ (64 - 1) : Int) then m - (2 ^ 64 : Int) else m) = n
  simp only [Bool.true_and, ge_iff_le, decide_eq_true_eq]
  show (if (9223372036854775808 : Int) ≤ n % 18446744073709551616 then n % 18446744073709551616 - 18446744073709551616 else n % 18446744073709551616) = n
  omega
theorem wrap8 {n : Int} (h : 0 ≤ n ∧ n ≤ 255) : IntKind.u8.wrap n = n := by
  show (let m := n % (2 ^ 8 : Int); if false && m ≥ (2 ^ (8 - 1) : Int) then m - (2 ^ 8 : Int) else m) = n
  simp only [Bool.false_and]
  show n % 256 = n
  omega
def u8c (s : Bs) : List Value := s.map fun b => .int .u8 b.toNat
theorem u8c_len (s : Bs) : (u8c s).length = s.length := by simp [u8c]
theorem bytesOf_u8c (s : Bs) : bytesOf (u8c s) = some s := by
  induction s with
  | nil => rfl
  | cons a s ih =>
    simp only [u8c, List.map_cons, bytesOf] at ih ⊢
    rw [ih]
    simp
theorem b2s_of {h : AH} {id g n c sz : Nat} {s : Bs} (e : h[id]? = some (.row g sz (u8c s))) (hn : n = s.length) : b2s h (slV id g n c) = some (B s) := by
  subst hn
  simp only [b2s, rowAt_of e, Option.bind_some, cut]
  rw [if_pos (by rw [u8c_len]; omega)]
  simp only [Option.bind_some, List.drop_zero]
  rw [List.take_of_length_le (by rw [u8c_len]; omega), bytesOf_u8c]
  rfl
theorem bytesR_u8c (s : Bs) : bytesR (u8c s) = some s := by
  induction s with
  | nil => rfl
  | cons a s ih =>
    simp only [u8c, List.map_cons, bytesR] at ih ⊢
    have := a.toNat_lt
    rw [if_pos (by omega), ih]
    simp
theorem strRow_of {lim : Nat} {h : AH} {id g e n : Nat} {s : Bs} (hl : lim ≤ id) (he : h[id]? = some (.row g (4294967296 * (e + 1) + 1) (u8c s))) (hn : n = s.length) (h0 : 0 < n) (h63 : n ≤ 9223372036854775807) :
    strRow lim h (pV id 0 g) (n : Int) e = some (B s, h.set id (.row (g + 1) 0 [])) := by
  have hne : ¬ ((n : Int) = 0) := by omega
  simp only [strRow, if_neg hne, rowAt_of he, Option.bind_some]
  rw [if_pos ⟨hl, by omega, by omega, True.intro, True.intro⟩]
  have hc : cut (u8c s) 0 ((n : Int).toNat) = some (u8c s) := by
    unfold cut
    rw [if_pos (by rw [u8c_len]; omega)]
    simp only [List.drop_zero]
    rw [List.take_of_length_le (by rw [u8c_len]; omega)]
  rw [hc]
  simp only [Option.bind_some, bytesR_u8c, Option.map_some]
  rfl
theorem mid_get {α : Type} (a : List α) (x : α) (c : List α) : (a ++ x :: c)[a.length]? = some x := by simp
theorem mid_set {α : Type} (a : List α) (x y : α) (c : List α) : (a ++ x :: c).set a.length y = a ++ y :: c := by simp
theorem set_same {α : Type} {h : List α} {i : Nat} {o : α} (e : h[i]? = some o) : h.set i o = h := by
  apply List.ext_getElem?
  intro j
  rw [List.getElem?_set]
  split
  · rename_i q; subst q
    split
    · exact e.symm
    · rename_i q; rw [List.getElem?_eq_none (by omega)] at e; cases e
  · rfl
theorem get_set {h : AH} {i : Nat} {o : AObj} (o' : AObj) (e : h[i]? = some o) : (h.set i o')[i]? = some o' := by
  have : i < h.length := by
    rcases Nat.lt_or_ge i h.length with q | q
    · exact q
    · rw [List.getElem?_eq_none q] at e; cases e
  simp [this]
theorem u8c_app (a b : Bs) : u8c (a ++ b) = u8c a ++ u8c b := by simp [u8c]
theorem u8c_get (d : Bs) (b : UInt8) (r : Bs) : (u8c (d ++ b :: r))[d.length]? = some (.int .u8 b.toNat) := by simp [u8c]
theorem u8c_set (d : Bs) (b c : UInt8) (r : Bs) : (u8c (d ++ b :: r)).set d.length (.int .u8 c.toNat) = u8c (d ++ c :: r) := by
  simp [u8c]
end Go.Abs
namespace Go.Abs
open Go.Proofs
set_option maxRecDepth 100000
set_option linter.unusedSimpArgs false
set_option pp.maxSteps 20000

/-! ### new objects -/
theorem XH1 : (∀ (h : AH) o, (h ++ [o])[h.length]? = some o) ∧ (∀ (h : AH) o1 o2, (h ++ [o1] ++ [o2])[h.length]? = some o1) ∧ (∀ (h : AH) o1 o2 o3, (h ++ [o1] ++ [o2] ++ [o3])[h.length]? = some o1) ∧ (∀ (h : AH) o1 o2 o3 o4, (h ++ [o1] ++ [o2] ++ [o3] ++ [o4])[h.length]? = some o1) ∧
  (∀ (h : AH) o o', (h ++ [o]).set h.length o' = h ++ [o']) ∧ (∀ (h : AH) o1 o2 o', (h ++ [o1] ++ [o2]).set h.length o' = h ++ [o'] ++ [o2]) ∧ (∀ (h : AH) o1 o2 o3 o', (h ++ [o1] ++ [o2] ++ [o3]).set h.length o' = h ++ [o'] ++ [o2] ++ [o3]) ∧ (∀ (h : AH) o1 o2 o3 o4 o', (h ++ [o1] ++ [o2] ++ [o3] ++ [o4]).set h.length o' = h ++ [o'] ++ [o2] ++ [o3] ++ [o4]) := by
  refine ⟨fun h o => by simp, fun h o1 o2 => by simp, fun h o1 o2 o3 => by simp, fun h o1 o2 o3 o4 => by simp, fun h o o' => by simp, fun h o1 o2 o' => by simp, fun h o1 o2 o3 o' => by simp, fun h o1 o2 o3 o4 o' => by simp⟩
theorem XH2 : (∀ h id off g, ld h (pV id off g) = match h[id]? with | some (.row g' _ cs) => (match decide (g = g') with | true => cs[off]? | false => none) | _ => none) ∧
  (∀ h id off g n, ldN h (pV id off g) n = match h[id]? with | some (.row g' _ cs) => (match decide (g = g') with | true => cut cs off n | false => none) | _ => none) ∧
  (∀ lim h id off g vs, stN lim h (pV id off g) vs = match h[id]? with | some (.row g' sz cs) => (match decide (g = g') with | true => if lim ≤ id ∧ off + vs.length ≤ cs.length ∧ vs.all oneCell = true then some (h.set id (.row g sz (setMany cs off vs))) else none | false => none) | _ => none) ∧
  (∀ id off g n, addOff (pV id off g) n = some (pV id (off + n) g)) ∧ (∀ id off g, nonNil (pV id off g) = some (pV id off g)) ∧ (∀ h, newP h = pV h.length 0 0) ∧
  (∀ (s : ByteArray), oneCell (.string s) = true) ∧ (∀ k n, oneCell (.int k n) = true) ∧ (∀ b, oneCell (.bool b) = true) ∧ (∀ a n c, oneCell (.slice a n c) = true) ∧ (∀ a, oneCell (.pointer a) = true) ∧
  (∀ (l : List Value), aggOf (.agg ⟨l⟩) = some l) ∧
  (∀ cs off n, cut cs off n = match decide (off + n ≤ cs.length) with | true => some ((cs.drop off).take n) | false => none) := by
  refine ⟨fun h id off g => ?_, fun h id off g n => ?_, fun lim h id off g vs => ?_, fun _ _ _ _ => rfl, fun _ _ _ => rfl, fun _ => rfl, fun _ => rfl, fun _ _ => rfl, fun _ => rfl, fun _ _ _ => rfl, fun _ => rfl, fun _ => rfl, fun cs off n => ?_⟩
  · simp only [ld, rowAt]
    rcases h[id]? with _ | o
    · rfl
    · cases o <;> try rfl
      rename_i g' sz cs
      by_cases hq : g = g' <;> simp [hq]
  · simp only [ldN, rowAt]
    rcases h[id]? with _ | o
    · rfl
    · cases o <;> try rfl
      rename_i g' sz cs
      by_cases hq : g = g' <;> simp [hq]
  · simp only [stN, rowAt]
    rcases h[id]? with _ | o
    · rfl
    · cases o <;> try rfl
      rename_i g' sz cs
      by_cases hq : g = g' <;> simp [hq]
  · simp only [cut]
    by_cases hq : off + n ≤ cs.length <;> simp [hq]

def inI (n a b : Int) : Bool := decide (a ≤ n) && decide (n ≤ b)
theorem natCast_succ_wrap {n m : Nat} (h : n ≤ 2 ^ 62) (hm : n + 1 = m) : IntKind.i64.wrap ((n : Int) + 1) = (m : Int) := by rw [wrap64 (by omega)]; omega
theorem neB (a b : Bs) : (!decide (B a = B b)) = !decide (a = b) := by rw [show decide (B a = B b) = decide (a = b) by rw [decide_eq_decide, B_inj]]
theorem eqB (a b : Bs) : decide (B a = B b) = decide (a = b) := by rw [decide_eq_decide, B_inj]
theorem strAt_mid (d : Bs) (b : UInt8) (r : Bs) : strAt (B (d ++ b :: r)) (d.length : Int) = some (b.toNat : Int) := by
  rw [strAt_B]; simp
abbrev fnV (f : Nat) : Value := .func (.func f) #[] #[]
theorem boolNe (b : Bool) : (!(b == b)) = false := by cases b <;> rfl
theorem setMany_mid (a z b : List Value) (x : List Value) (h : x.length = z.length) : setMany (a ++ (z ++ b)) a.length x = a ++ (x ++ b) := by
  induction x generalizing a z with
  | nil =>
    cases z with
    | nil => rfl
    | cons _ _ => simp at h
  | cons v x ih =>
    cases z with
    | nil => simp at h
    | cons w z =>
      simp only [setMany, List.cons_append]
      rw [mid_set]
      have := ih (a ++ [v]) z (by simpa using h)
      simp only [List.append_assoc, List.singleton_append, List.length_append, List.length_cons, List.length_nil, Nat.zero_add, List.cons_append] at this
      exact this
end Go.Abs
namespace Go.Abs
open Go.Proofs
set_option maxRecDepth 100000
set_option linter.unusedSimpArgs false
set_option pp.maxSteps 20000
/-! ### Ru: a struct of plain cells -/
structure Ru where
  mk ::
  (quiet : Bool)
  (room : Bs)
  (user : Bs)
  (kind : Int)
  deriving DecidableEq
abbrev Ru.C (x : Ru) : List Value := [.bool x.quiet, sV x.room, sV x.user, iV x.kind]
abbrev Ru.V (x : Ru) : Value := .agg ⟨[.bool x.quiet, sV x.room, sV x.user, iV x.kind]⟩
def Ru.R (xs : List Ru) : List Value := xs.flatMap Ru.C
theorem Ru.R_len (xs : List Ru) : (Ru.R xs).length = 4 * xs.length := by
  induction xs with
  | nil => rfl
  | cons x xs ih => simp only [Ru.R, List.flatMap_cons, List.length_append, List.length_cons, List.length_nil] at ih ⊢; omega
theorem Ru.R_app (a b : List Ru) : Ru.R (a ++ b) = Ru.R a ++ Ru.R b := by simp [Ru.R]
theorem Ru.R_cons (x : Ru) (r : List Ru) : Ru.R (x :: r) = Ru.C x ++ Ru.R r := by simp [Ru.R]
theorem Ru.get (d : List Ru) (x : Ru) (r : List Ru) : ((Ru.R (d ++ x :: r)).drop (d.length * 4)).take 4 = Ru.C x := by
  rw [Ru.R_app, Ru.R_cons, List.drop_left' (by rw [Ru.R_len]; omega)]
  rfl
theorem Ru.ldN {h : AH} {id g : Nat} {d r : List Ru} {x : Ru} (e : h[id]? = some (.row g 4 (Ru.R (d ++ x :: r)))) : ldN h (pV id (d.length * 4) g) 4 = some (Ru.C x) := by
  rw [ldN_of e (by rw [Ru.R_len]; simp; omega), Ru.get]
/-- a slice that is read -/
def Ru.Rd (h : AH) (v : Value) (xs : List Ru) : Prop :=
  (v = .slice none 0 0 ∧ xs = []) ∨ ∃ id g c, v = slV id g xs.length c ∧ h[id]? = some (.row g 4 (Ru.R xs))
theorem Ru.Rd.len {h : AH} {v : Value} {xs : List Ru} (r : Ru.Rd h v xs) : lenV v = some (xs.length : Int) := by
  rcases r with ⟨rfl, rfl⟩ | ⟨id, g, c, rfl, _⟩ <;> rfl
theorem Ru.Rd.get {h : AH} {v : Value} {d r : List Ru} {x : Ru} (q : Ru.Rd h v (d ++ x :: r)) : ∃ p, ixAddr v (d.length : Int) 4 = some p ∧ Abs.ldN h p 4 = some (Ru.C x) := by
  rcases q with ⟨_, q⟩ | ⟨id, g, c, rfl, e⟩
  · simp at q
  · exact ⟨pV id (d.length * 4) g, by rw [ixAddr_sl (by simp)]; simp, Ru.ldN e⟩
theorem Ru.Rd.keep {h h' : AH} {v : Value} {xs : List Ru} (q : Ru.Rd h v xs) (k : Keep h.length h h') : Ru.Rd h' v xs := by
  rcases q with q | ⟨id, g, c, rfl, e⟩
  · exact .inl q
  · exact .inr ⟨id, g, c, rfl, k.get e (lt_of_get e)⟩
theorem Ru.Rd.own {h : AH} {id g c : Nat} {xs : List Ru} (e : h[id]? = some (.row g 4 (Ru.R xs))) : Ru.Rd h (slV id g xs.length c) xs := .inr ⟨id, g, c, rfl, e⟩
theorem r42 (x y : Ru) (l : Nat) (h : AH) : run V0 (.fn 42) l [S x.V, S y.V] h = some (.ret (.bool (decide (x = y))) (h ++ [.row 0 4 x.C] ++ [.row 0 4 y.C])) := by
  refine run_fn Try.func42 rfl rfl rfl rfl ?_
  obtain ⟨a0, a1, a2, a3⟩ := x
  obtain ⟨b0, b1, b2, b3⟩ := y
  simp only [↓XX, ↓XD, ↓YX, fg0, fs0, fg1, fs1, fg2, fs2, fg3, fs3, fg4, fs4, fg5, fs5, fg6, fs6, fg7, fs7, fg8, fs8, dstOf, padF, List.length_cons, List.length_nil, Nat.reduceAdd, Nat.zero_add, Nat.zero_mul, Nat.mul_one, Nat.reducePow, Nat.le_refl, and_self, ↓reduceIte, Option.bind_some, Option.map_some, cond_true, cond_false, eq_self, decide_true, convNum, Int.reduceEq, Option.getD_none, Option.getD_some, Option.isNone_some, Option.isNone_none, Option.isSome_some, Bool.or_true, Bool.true_or, Bool.false_or, Nat.reduceEqDiff, Nat.reduceMul, Nat.reduceLeDiff, tyL, Try.f42, ↓XH1, ↓XH2, eq_self, decide_true, List.getElem?_cons_zero, List.getElem?_cons_succ, List.all_cons, List.all_nil, Bool.and_self, Nat.reduceLeDiff, List.drop_zero, List.drop_succ_cons, List.take_succ_cons, List.take_zero, neB]
  by_cases h0 : a0 = b0
  · skip
    by_cases h1 : a1 = b1
    · skip
      by_cases h2 : a2 = b2
      · skip
        by_cases h3 : a3 = b3
        · simp [h0, h1, h2, h3]
        · have e3 : (a3 != b3) = true := by simp [h3]
          simp [h0, h1, h2, h3, e3]
      · simp [h0, h1, h2]
    · simp [h0, h1]
  · have e0 : (a0 == b0) = false := by cases a0 <;> cases b0 <;> simp_all
    simp [h0, e0]
theorem L17 (ia ga ca ib gb cb n l : Nat) (hn : n ≤ 2 ^ 40) : ∀ (r r' d d' : List Ru) (h : AH), d.length = d'.length → d.length + r.length = n → r.length = r'.length → h[ia]? = some (.row ga 4 (Ru.R (d ++ r))) → h[ib]? = some (.row gb 4 (Ru.R (d' ++ r'))) →
    ∃ h', L17_0 l (slV ia ga n ca) (slV ib gb n cb) (iV d.length) h = some (.ret (.bool (decide (r = r'))) h') ∧ Keep h.length h h' := by
  intro r
  induction r with
  | nil =>
    intro r' d d' h hd hk hr ea eb
    obtain rfl : r' = [] := by cases r' with | nil => rfl | cons _ _ => simp at hr
    simp only [List.length_nil, Nat.add_zero] at hk
    refine ⟨h, run_code Try.func17 rfl rfl ?_, Keep.refl _ _⟩
    have hlt : decide ((d.length : Int) < (n : Int)) = false := by rw [decide_eq_false_iff_not]; omega
    simp only [↓XX, ↓XD, ↓YX, fg0, fs0, fg1, fs1, fg2, fs2, fg3, fs3, fg4, fs4, fg5, fs5, fg6, fs6, fg7, fs7, fg8, fs8, dstOf, padF, List.length_cons, List.length_nil, Nat.reduceAdd, Nat.zero_add, Nat.zero_mul, Nat.mul_one, Nat.reducePow, Nat.le_refl, and_self, ↓reduceIte, Option.bind_some, Option.map_some, cond_true, cond_false, eq_self, decide_true, convNum, Int.reduceEq, Option.getD_none, Option.getD_some, Option.isNone_some, Option.isNone_none, Option.isSome_some, Bool.or_true, Bool.true_or, Bool.false_or, Nat.reduceEqDiff, Nat.reduceMul, Nat.reduceLeDiff, tyL, Try.f17, lenV, hlt, decide_true]
  | cons x r ih =>
    intro r' d d' h hd hk hr ea eb
    cases r' with
    | nil => simp at hr
    | cons y r' =>
      simp only [List.length_cons] at hk hr
      have hlt : decide ((d.length : Int) < (n : Int)) = true := by rw [decide_eq_true_iff]; omega
      have hia : ixAddr (slV ia ga n ca) (d.length : Int) 4 = some (pV ia (d.length * 4) ga) := by rw [ixAddr_sl (by omega)]; simp
      have hib : ixAddr (slV ib gb n cb) (d.length : Int) 4 = some (pV ib (d.length * 4) gb) := by rw [ixAddr_sl (by omega)]; simp
      have hla : ldN h (pV ia (d.length * 4) ga) 4 = some x.C := Ru.ldN ea
      have hlb : ldN h (pV ib (d.length * 4) gb) 4 = some y.C := by rw [hd]; exact Ru.ldN eb
      have hw : IntKind.i64.wrap ((d.length : Int) + 1) = (((d ++ [x]).length : Nat) : Int) := natCast_succ_wrap (by omega) (by simp)
      have h62 := r42 x y l h
      have kp : Keep h.length h (h ++ [.row 0 4 x.C] ++ [.row 0 4 y.C]) := (Keep.app _ _ (Nat.le_refl _)).trans (Keep.app _ _ (by simp))
      by_cases hq : x = y
      · rw [decide_eq_true hq] at h62
        obtain ⟨h', i1, i2⟩ := ih r' (d ++ [x]) (d' ++ [y]) (h ++ [.row 0 4 x.C] ++ [.row 0 4 y.C]) (by simp [hd]) (by simp; omega) (by omega) (by rw [kp.get ea (lt_of_get ea)]; simp) (by rw [kp.get eb (lt_of_get eb)]; simp)
        refine ⟨h', run_code Try.func17 rfl rfl ?_, kp.trans (i2.le kp.1)⟩
        simp (disch := (refine _root_.id ?_; kernel_rfl)) only [↓XX, ↓XD, ↓YX, fg0, fs0, fg1, fs1, fg2, fs2, fg3, fs3, fg4, fs4, fg5, fs5, fg6, fs6, fg7, fs7, fg8, fs8, dstOf, padF, List.length_cons, List.length_nil, Nat.reduceAdd, Nat.zero_add, Nat.zero_mul, Nat.mul_one, Nat.reducePow, Nat.le_refl, and_self, ↓reduceIte, Option.bind_some, Option.map_some, cond_true, cond_false, eq_self, decide_true, convNum, Int.reduceEq, Option.getD_none, Option.getD_some, Option.isNone_some, Option.isNone_none, Option.isSome_some, Bool.or_true, Bool.true_or, Bool.false_or, Nat.reduceEqDiff, Nat.reduceMul, Nat.reduceLeDiff, tyL, Try.f17, lenV, hlt, hia, hib, hla, hlb, h62, hw, Bool.not_true]
        rw [i1]; simp [hq]
      · rw [decide_eq_false hq] at h62
        refine ⟨_, run_code Try.func17 rfl rfl ?_, kp⟩
        simp (disch := (refine _root_.id ?_; kernel_rfl)) only [↓XX, ↓XD, ↓YX, fg0, fs0, fg1, fs1, fg2, fs2, fg3, fs3, fg4, fs4, fg5, fs5, fg6, fs6, fg7, fs7, fg8, fs8, dstOf, padF, List.length_cons, List.length_nil, Nat.reduceAdd, Nat.zero_add, Nat.zero_mul, Nat.mul_one, Nat.reducePow, Nat.le_refl, and_self, ↓reduceIte, Option.bind_some, Option.map_some, cond_true, cond_false, eq_self, decide_true, convNum, Int.reduceEq, Option.getD_none, Option.getD_some, Option.isNone_some, Option.isNone_none, Option.isSome_some, Bool.or_true, Bool.true_or, Bool.false_or, Nat.reduceEqDiff, Nat.reduceMul, Nat.reduceLeDiff, tyL, Try.f17, lenV, hlt, hia, hib, hla, hlb, h62, hw, Bool.not_false]
        simp [hq]
theorem r17 (ia ga ca ib gb cb l : Nat) (xs ys : List Ru) (h : AH) (hn : xs.length ≤ 2 ^ 40) (ea : h[ia]? = some (.row ga 4 (Ru.R xs))) (eb : h[ib]? = some (.row gb 4 (Ru.R ys))) :
    ∃ h', run V0 (.fn 17) l [S (slV ia ga xs.length ca), S (slV ib gb ys.length cb)] h = some (.ret (.bool (decide (xs = ys))) h') ∧ Keep h.length h h' := by
  by_cases hy : xs.length = ys.length
  · obtain ⟨h', i1, i2⟩ := L17 ia ga ca ib gb cb xs.length l hn xs ys [] [] h rfl (by simp) hy (by simpa using ea) (by simpa using eb)
    refine ⟨h', run_fn Try.func17 rfl rfl rfl rfl ?_, i2⟩
    have hb : ((xs.length : Int) != (ys.length : Int)) = false := by simp [hy]
    simp only [↓XX, ↓XD, ↓YX, fg0, fs0, fg1, fs1, fg2, fs2, fg3, fs3, fg4, fs4, fg5, fs5, fg6, fs6, fg7, fs7, fg8, fs8, dstOf, padF, List.length_cons, List.length_nil, Nat.reduceAdd, Nat.zero_add, Nat.zero_mul, Nat.mul_one, Nat.reducePow, Nat.le_refl, and_self, ↓reduceIte, Option.bind_some, Option.map_some, cond_true, cond_false, eq_self, decide_true, convNum, Int.reduceEq, Option.getD_none, Option.getD_some, Option.isNone_some, Option.isNone_none, Option.isSome_some, Bool.or_true, Bool.true_or, Bool.false_or, Nat.reduceEqDiff, Nat.reduceMul, Nat.reduceLeDiff, tyL, Try.f17, lenV, hb]
    rw [← hy]
    exact i1
  · refine ⟨h, run_fn Try.func17 rfl rfl rfl rfl ?_, Keep.refl _ _⟩
    have hb : ((xs.length : Int) != (ys.length : Int)) = true := by simp; omega
    have : xs ≠ ys := fun e => hy (by rw [e])
    simp only [↓XX, ↓XD, ↓YX, fg0, fs0, fg1, fs1, fg2, fs2, fg3, fs3, fg4, fs4, fg5, fs5, fg6, fs6, fg7, fs7, fg8, fs8, dstOf, padF, List.length_cons, List.length_nil, Nat.reduceAdd, Nat.zero_add, Nat.zero_mul, Nat.mul_one, Nat.reducePow, Nat.le_refl, and_self, ↓reduceIte, Option.bind_some, Option.map_some, cond_true, cond_false, eq_self, decide_true, convNum, Int.reduceEq, Option.getD_none, Option.getD_some, Option.isNone_some, Option.isNone_none, Option.isSome_some, Bool.or_true, Bool.true_or, Bool.false_or, Nat.reduceEqDiff, Nat.reduceMul, Nat.reduceLeDiff, tyL, Try.f17, lenV, hb]
    simp [this]
def Ru.sz (x : Ru) (k : Int) : Int :=
  if k - x.room.length < 0 then -1 else if k - x.room.length - x.user.length < 0 then -1 else k - x.room.length - x.user.length
def Ru.Fit (x : Ru) : Prop := x.room.length ≤ 2 ^ 60 ∧ x.user.length ≤ 2 ^ 60
def Ru.Fit63 (x : Ru) : Prop := x.room.length ≤ 9223372036854775807 ∧ x.user.length ≤ 9223372036854775807
theorem r36 (x : Ru) (hx : x.Fit63) (k : Int) (hk : 0 ≤ k ∧ k ≤ 2 ^ 40) (l : Nat) (h : AH) : run V0 (.fn 36) l [S x.V, S (iV k)] h = some (.ret (iV (x.sz k)) (h ++ [.row 0 4 x.C])) := by
  obtain ⟨x0, x1⟩ := hx
  obtain ⟨quiet, room, user, kind⟩ := x
  refine run_fn Try.func36 rfl rfl rfl rfl ?_
  simp only at x0 x1
  unfold Ru.sz
  simp only
  have w0 : IntKind.i64.wrap (k - ((B room).size : Int)) = k - (room.length : Int) := by rw [size_B, wrap64 (by omega)]
  by_cases h0 : k - (room.length : Int) < 0
  · have d0 : decide (k - (room.length : Int) < 0) = true := decide_eq_true h0
    simp only [↓XX, ↓XD, ↓YX, fg0, fs0, fg1, fs1, fg2, fs2, fg3, fs3, fg4, fs4, fg5, fs5, fg6, fs6, fg7, fs7, fg8, fs8, dstOf, padF, List.length_cons, List.length_nil, Nat.reduceAdd, Nat.zero_add, Nat.zero_mul, Nat.mul_one, Nat.reducePow, Nat.le_refl, and_self, ↓reduceIte, Option.bind_some, Option.map_some, cond_true, cond_false, eq_self, decide_true, convNum, Int.reduceEq, Option.getD_none, Option.getD_some, Option.isNone_some, Option.isNone_none, Option.isSome_some, Bool.or_true, Bool.true_or, Bool.false_or, Nat.reduceEqDiff, Nat.reduceMul, Nat.reduceLeDiff, tyL, Try.f36, ↓XH1, ↓XH2, eq_self, decide_true, List.getElem?_cons_zero, List.getElem?_cons_succ, List.all_cons, List.all_nil, Bool.and_self, Nat.reduceLeDiff, List.drop_zero, List.drop_succ_cons, List.take_succ_cons, List.take_zero, w0, d0]
    simp [h0]
  · have d0 : decide (k - (room.length : Int) < 0) = false := decide_eq_false h0
    have w1 : IntKind.i64.wrap (k - (room.length : Int) - ((B user).size : Int)) = k - (room.length : Int) - (user.length : Int) := by rw [size_B, wrap64 (by omega)]
    by_cases h1 : k - (room.length : Int) - (user.length : Int) < 0
    · have d1 : decide (k - (room.length : Int) - (user.length : Int) < 0) = true := decide_eq_true h1
      simp only [↓XX, ↓XD, ↓YX, fg0, fs0, fg1, fs1, fg2, fs2, fg3, fs3, fg4, fs4, fg5, fs5, fg6, fs6, fg7, fs7, fg8, fs8, dstOf, padF, List.length_cons, List.length_nil, Nat.reduceAdd, Nat.zero_add, Nat.zero_mul, Nat.mul_one, Nat.reducePow, Nat.le_refl, and_self, ↓reduceIte, Option.bind_some, Option.map_some, cond_true, cond_false, eq_self, decide_true, convNum, Int.reduceEq, Option.getD_none, Option.getD_some, Option.isNone_some, Option.isNone_none, Option.isSome_some, Bool.or_true, Bool.true_or, Bool.false_or, Nat.reduceEqDiff, Nat.reduceMul, Nat.reduceLeDiff, tyL, Try.f36, ↓XH1, ↓XH2, eq_self, decide_true, List.getElem?_cons_zero, List.getElem?_cons_succ, List.all_cons, List.all_nil, Bool.and_self, Nat.reduceLeDiff, List.drop_zero, List.drop_succ_cons, List.take_succ_cons, List.take_zero, w0, w1, d0, d1]
      simp [h0, h1]
    · have d1 : decide (k - (room.length : Int) - (user.length : Int) < 0) = false := decide_eq_false h1
      simp only [↓XX, ↓XD, ↓YX, fg0, fs0, fg1, fs1, fg2, fs2, fg3, fs3, fg4, fs4, fg5, fs5, fg6, fs6, fg7, fs7, fg8, fs8, dstOf, padF, List.length_cons, List.length_nil, Nat.reduceAdd, Nat.zero_add, Nat.zero_mul, Nat.mul_one, Nat.reducePow, Nat.le_refl, and_self, ↓reduceIte, Option.bind_some, Option.map_some, cond_true, cond_false, eq_self, decide_true, convNum, Int.reduceEq, Option.getD_none, Option.getD_some, Option.isNone_some, Option.isNone_none, Option.isSome_some, Bool.or_true, Bool.true_or, Bool.false_or, Nat.reduceEqDiff, Nat.reduceMul, Nat.reduceLeDiff, tyL, Try.f36, ↓XH1, ↓XH2, eq_self, decide_true, List.getElem?_cons_zero, List.getElem?_cons_succ, List.all_cons, List.all_nil, Bool.and_self, Nat.reduceLeDiff, List.drop_zero, List.drop_succ_cons, List.take_succ_cons, List.take_zero, w0, w1, d0, d1]
      simp [h0, h1]
theorem Ru.sz_fit (x : Ru) (k : Int) (hk : 0 ≤ x.sz k) : (x.room.length : Int) + (x.user.length : Int) + x.sz k = k := by
  unfold Ru.sz at hk ⊢
  split at hk
  · omega
  split at hk
  · omega
  rw [if_neg ‹_›, if_neg ‹_›]; omega
theorem Ru.sz_le (x : Ru) (k : Int) (hk : 0 ≤ k) : x.sz k ≤ k ∧ -1 ≤ x.sz k := by
  unfold Ru.sz
  split
  · omega
  split
  · omega
  omega
def Ru.szL : List Ru → Int → Int
  | [], k => k
  | x :: r, k => if x.sz k < 0 then -1 else Ru.szL r (x.sz k)
theorem Ru.szL_fit : ∀ (xs : List Ru) (k : Int), 0 ≤ Ru.szL xs k → ∀ x ∈ xs, (x.room.length : Int) ≤ k ∧ (x.user.length : Int) ≤ k
  | [], _, _ => by simp
  | y :: xs, k, h => by
    simp only [Ru.szL] at h
    split at h
    · omega
    · rename_i q
      have e := Ru.sz_fit y k (by omega)
      intro x hx
      rcases List.mem_cons.1 hx with rfl | hx
      · omega
      · have := Ru.szL_fit xs _ h x hx; omega
theorem Ru.szL_le : ∀ (xs : List Ru) (k : Int), 0 ≤ k → Ru.szL xs k ≤ k
  | [], k, _ => Int.le_refl _
  | y :: xs, k, h => by
    simp only [Ru.szL]
    have e := Ru.sz_le y k h
    split
    · omega
    · have := Ru.szL_le xs (y.sz k) (by omega); omega
/-- .. its loop -/
theorem L11 (v : Value) (l : Nat) : ∀ (r d : List Ru) (k : Int) (h : AH), Ru.Rd h v (d ++ r) → (∀ x ∈ r, x.Fit63) → 0 ≤ k ∧ k ≤ 2 ^ 40 → d.length + r.length ≤ 2 ^ 60 →
    ∃ h', L11_0 l v (iV k) (iV d.length) h = some (.ret (iV (Ru.szL r k)) h') ∧ Keep h.length h h' := by
  intro r
  induction r with
  | nil =>
    intro d k h q hf hk hn
    have hlen := q.len
    have hlt : decide ((d.length : Int) < ((d ++ []).length : Int)) = false := by rw [decide_eq_false_iff_not, List.append_nil]; omega
    refine ⟨h, run_code Try.func11 rfl rfl ?_, Keep.refl _ _⟩
    simp only [↓XX, ↓XD, ↓YX, fg0, fs0, fg1, fs1, fg2, fs2, fg3, fs3, fg4, fs4, fg5, fs5, fg6, fs6, fg7, fs7, fg8, fs8, dstOf, padF, List.length_cons, List.length_nil, Nat.reduceAdd, Nat.zero_add, Nat.zero_mul, Nat.mul_one, Nat.reducePow, Nat.le_refl, and_self, ↓reduceIte, Option.bind_some, Option.map_some, cond_true, cond_false, eq_self, decide_true, convNum, Int.reduceEq, Option.getD_none, Option.getD_some, Option.isNone_some, Option.isNone_none, Option.isSome_some, Bool.or_true, Bool.true_or, Bool.false_or, Nat.reduceEqDiff, Nat.reduceMul, Nat.reduceLeDiff, tyL, Try.f11, hlen, hlt, Ru.szL]
  | cons x r ih =>
    intro d k h q hf hk hn
    have hlen := q.len
    obtain ⟨p, hp, hl⟩ := q.get
    simp only [List.length_cons] at hn
    have hlt : decide ((d.length : Int) < ((d ++ x :: r).length : Int)) = true := by rw [decide_eq_true_iff]; simp; omega
    have h55 := r36 x (hf x (by simp)) k (by omega) l h
    have hw : IntKind.i64.wrap ((d.length : Int) + 1) = (((d ++ [x]).length : Nat) : Int) := natCast_succ_wrap (by omega) (by simp)
    have kp : Keep h.length h (h ++ [.row 0 4 x.C]) := Keep.app _ _ (Nat.le_refl _)
    have hsz := Ru.sz_le x k hk.1
    by_cases hq : x.sz k < 0
    · refine ⟨_, run_code Try.func11 rfl rfl ?_, kp⟩
      have hd : decide (x.sz k < 0) = true := decide_eq_true hq
      simp only [↓XX, ↓XD, ↓YX, fg0, fs0, fg1, fs1, fg2, fs2, fg3, fs3, fg4, fs4, fg5, fs5, fg6, fs6, fg7, fs7, fg8, fs8, dstOf, padF, List.length_cons, List.length_nil, Nat.reduceAdd, Nat.zero_add, Nat.zero_mul, Nat.mul_one, Nat.reducePow, Nat.le_refl, and_self, ↓reduceIte, Option.bind_some, Option.map_some, cond_true, cond_false, eq_self, decide_true, convNum, Int.reduceEq, Option.getD_none, Option.getD_some, Option.isNone_some, Option.isNone_none, Option.isSome_some, Bool.or_true, Bool.true_or, Bool.false_or, Nat.reduceEqDiff, Nat.reduceMul, Nat.reduceLeDiff, tyL, Try.f11, hlen, hlt, hp, hl, h55, hd, Ru.szL]
      simp [hq]
    · obtain ⟨h', i1, i2⟩ := ih (d ++ [x]) (x.sz k) _ (by simpa using q.keep kp) (fun y hy => hf y (by simp [hy])) (by omega) (by simp; omega)
      refine ⟨h', run_code Try.func11 rfl rfl ?_, kp.trans (i2.le kp.1)⟩
      have hd : decide (x.sz k < 0) = false := decide_eq_false hq
      simp only [↓XX, ↓XD, ↓YX, fg0, fs0, fg1, fs1, fg2, fs2, fg3, fs3, fg4, fs4, fg5, fs5, fg6, fs6, fg7, fs7, fg8, fs8, dstOf, padF, List.length_cons, List.length_nil, Nat.reduceAdd, Nat.zero_add, Nat.zero_mul, Nat.mul_one, Nat.reducePow, Nat.le_refl, and_self, ↓reduceIte, Option.bind_some, Option.map_some, cond_true, cond_false, eq_self, decide_true, convNum, Int.reduceEq, Option.getD_none, Option.getD_some, Option.isNone_some, Option.isNone_none, Option.isSome_some, Bool.or_true, Bool.true_or, Bool.false_or, Nat.reduceEqDiff, Nat.reduceMul, Nat.reduceLeDiff, tyL, Try.f11, hlen, hlt, hp, hl, h55, hd, Ru.szL, hw]
      rw [i1, if_neg hq]
theorem r11 (v : Value) (l : Nat) (xs : List Ru) (h : AH) (q : Ru.Rd h v xs) (hf : ∀ x ∈ xs, x.Fit63) (hn : xs.length ≤ 9223372036854775807) (k : Int) (hk : 0 ≤ k ∧ k ≤ 2 ^ 40) :
    ∃ h' n, run V0 (.fn 11) l [S v, S (iV k)] h = some (.ret (iV n) h') ∧ Keep h.length h h' ∧ n ≤ k ∧ (0 ≤ n → (xs.length : Int) ≤ k ∧ 0 ≤ Ru.szL xs (k - xs.length)) := by
  have hlen := q.len
  have w1 : IntKind.i64.wrap (k - (xs.length : Int)) = k - xs.length := wrap64 (by omega)
  by_cases h0 : k - xs.length < 0
  · refine ⟨h, -1, run_fn Try.func11 rfl rfl rfl rfl ?_, Keep.refl _ _, by omega, by omega⟩
    have hd : decide (k - (xs.length : Int) < 0) = true := decide_eq_true h0
    simp only [↓XX, ↓XD, ↓YX, fg0, fs0, fg1, fs1, fg2, fs2, fg3, fs3, fg4, fs4, fg5, fs5, fg6, fs6, fg7, fs7, fg8, fs8, dstOf, padF, List.length_cons, List.length_nil, Nat.reduceAdd, Nat.zero_add, Nat.zero_mul, Nat.mul_one, Nat.reducePow, Nat.le_refl, and_self, ↓reduceIte, Option.bind_some, Option.map_some, cond_true, cond_false, eq_self, decide_true, convNum, Int.reduceEq, Option.getD_none, Option.getD_some, Option.isNone_some, Option.isNone_none, Option.isSome_some, Bool.or_true, Bool.true_or, Bool.false_or, Nat.reduceEqDiff, Nat.reduceMul, Nat.reduceLeDiff, tyL, Try.f11, hlen, w1, hd]
  · obtain ⟨h', i1, i2⟩ := L11 v l xs [] (k - xs.length) h (by simpa using q) hf (by omega) (by simp; omega)
    have hle := Ru.szL_le xs (k - xs.length) (by omega)
    refine ⟨h', _, run_fn Try.func11 rfl rfl rfl rfl ?_, i2, by omega, fun hz => ⟨by omega, hz⟩⟩
    have hd : decide (k - (xs.length : Int) < 0) = false := decide_eq_false h0
    simp only [↓XX, ↓XD, ↓YX, fg0, fs0, fg1, fs1, fg2, fs2, fg3, fs3, fg4, fs4, fg5, fs5, fg6, fs6, fg7, fs7, fg8, fs8, dstOf, padF, List.length_cons, List.length_nil, Nat.reduceAdd, Nat.zero_add, Nat.zero_mul, Nat.mul_one, Nat.reducePow, Nat.le_refl, and_self, ↓reduceIte, Option.bind_some, Option.map_some, cond_true, cond_false, eq_self, decide_true, convNum, Int.reduceEq, Option.getD_none, Option.getD_some, Option.isNone_some, Option.isNone_none, Option.isSome_some, Bool.or_true, Bool.true_or, Bool.false_or, Nat.reduceEqDiff, Nat.reduceMul, Nat.reduceLeDiff, tyL, Try.f11, hlen, w1, hd]
    exact i1
theorem r39 (x : Ru) (l : Nat) (h : AH) (hl : l ≤ h.length) : run V0 (.fn 39) l [S x.V] h = some (.ret x.V (h ++ [.row 0 4 x.C] ++ [.row 0 4 x.C] ++ [.row 0 4 x.C])) := by
  obtain ⟨x0, x1, x2, x3⟩ := x
  refine run_fn Try.func39 rfl rfl rfl rfl ?_
  have l1 : (l ≤ (h ++ [AObj.row 0 4 [Value.bool x0, sV x1, sV x2, iV x3]]).length) = True := by simp; omega
  have l2 : ∀ cs, (l ≤ (h ++ [AObj.row 0 4 [Value.bool x0, sV x1, sV x2, iV x3]] ++ [AObj.row 0 4 cs]).length) = True := by intro cs; simp; omega
  simp only [↓XX, ↓XD, ↓YX, fg0, fs0, fg1, fs1, fg2, fs2, fg3, fs3, fg4, fs4, fg5, fs5, fg6, fs6, fg7, fs7, fg8, fs8, dstOf, padF, List.length_cons, List.length_nil, Nat.reduceAdd, Nat.zero_add, Nat.zero_mul, Nat.mul_one, Nat.reducePow, Nat.le_refl, and_self, ↓reduceIte, Option.bind_some, Option.map_some, cond_true, cond_false, eq_self, decide_true, convNum, Int.reduceEq, Option.getD_none, Option.getD_some, Option.isNone_some, Option.isNone_none, Option.isSome_some, Bool.or_true, Bool.true_or, Bool.false_or, Nat.reduceEqDiff, Nat.reduceMul, Nat.reduceLeDiff, tyL, Try.f39, ↓XH1, ↓XH2, eq_self, decide_true, List.getElem?_cons_zero, List.getElem?_cons_succ, List.all_cons, List.all_nil, Bool.and_self, Nat.reduceLeDiff, List.drop_zero, List.drop_succ_cons, List.take_succ_cons, List.take_zero, l1, l2]
/-- the copies: the loop -/
theorem L14 (v : Value) (l id n : Nat) (n0 : Nat) (hl : l ≤ id) (h0 : n0 ≤ id) (hn : n ≤ 2 ^ 40) : ∀ (r d : List Ru) (h : AH), d.length + r.length = n → Ru.Rd h v (d ++ r) → n0 ≤ h.length → (∀ i g c, v = .slice (some ⟨i, 0, some g⟩) n c → i < n0) → l ≤ h.length →
    h[id]? = some (.row 0 4 (Ru.R d ++ repL r.length [.bool false, sV [], sV [], iV 0])) →
    ∃ h', L14_0 l v (slV id 0 n n) (iV d.length) h = some (.ret (slV id 0 n n) h') ∧ h'[id]? = some (.row 0 4 (Ru.R (d ++ r))) ∧ Keep n0 h h' := by
  intro r
  induction r with
  | nil =>
    intro d h hk q hh hv hlh e
    have hlen := q.len
    have hlt : decide ((d.length : Int) < ((d ++ []).length : Int)) = false := by rw [decide_eq_false_iff_not, List.append_nil]; omega
    refine ⟨h, run_code Try.func14 rfl rfl ?_, by rw [e]; simp [repL], Keep.refl _ _⟩
    simp only [↓XX, ↓XD, ↓YX, fg0, fs0, fg1, fs1, fg2, fs2, fg3, fs3, fg4, fs4, fg5, fs5, fg6, fs6, fg7, fs7, fg8, fs8, dstOf, padF, List.length_cons, List.length_nil, Nat.reduceAdd, Nat.zero_add, Nat.zero_mul, Nat.mul_one, Nat.reducePow, Nat.le_refl, and_self, ↓reduceIte, Option.bind_some, Option.map_some, cond_true, cond_false, eq_self, decide_true, convNum, Int.reduceEq, Option.getD_none, Option.getD_some, Option.isNone_some, Option.isNone_none, Option.isSome_some, Bool.or_true, Bool.true_or, Bool.false_or, Nat.reduceEqDiff, Nat.reduceMul, Nat.reduceLeDiff, tyL, Try.f14, hlen, hlt]
  | cons x r ih =>
    intro d h hk q hh hv hlh e
    simp only [List.length_cons] at hk
    have hlen := q.len
    obtain ⟨p, hp, hld⟩ := q.get
    have hlt : decide ((d.length : Int) < ((d ++ x :: r).length : Int)) = true := by rw [decide_eq_true_iff]; simp; omega
    have h57 := r39 x l h hlh
    have hid := lt_of_get e
    have kp : Keep h.length h (h ++ [AObj.row 0 4 x.C] ++ [AObj.row 0 4 x.C] ++ [AObj.row 0 4 x.C]) := by
      rw [List.append_assoc, List.append_assoc]; exact Keep.app _ _ (Nat.le_refl _)
    have hix : ixAddr (slV id 0 n n) (d.length : Int) 4 = some (pV id (d.length * 4) 0) := by rw [ixAddr_sl (by omega)]; simp
    have hw : IntKind.i64.wrap ((d.length : Int) + 1) = (((d ++ [x]).length : Nat) : Int) := natCast_succ_wrap (by omega) (by simp)
    generalize hh1 : h ++ [AObj.row 0 4 x.C] ++ [AObj.row 0 4 x.C] ++ [AObj.row 0 4 x.C] = h1 at *
    have e1 := kp.get e hid
    have hst : stN l h1 (pV id (d.length * 4) 0) x.C = some (h1.set id (.row 0 4 (Ru.R (d ++ [x]) ++ repL r.length [.bool false, sV [], sV [], iV 0]))) := by
      rw [stN_of hl e1 (by rw [List.length_append, Ru.R_len]; simp [repL]; omega) rfl]
      have hrep : repL (r.length + 1) [.bool false, sV [], sV [], iV 0] = [.bool false, sV [], sV [], iV 0] ++ repL r.length [.bool false, sV [], sV [], iV 0] := by simp [repL, List.replicate_succ]
      have := setMany_mid (Ru.R d) [.bool false, sV [], sV [], iV 0] (repL r.length [.bool false, sV [], sV [], iV 0]) x.C rfl
      rw [Ru.R_len] at this
      simp only [List.length_cons]
      rw [hrep, Nat.mul_comm, this, Ru.R_app, Ru.R_cons]
      simp [Ru.R]
    have kp2 : Keep n0 h (h1.set id (.row 0 4 (Ru.R (d ++ [x]) ++ repL r.length [.bool false, sV [], sV [], iV 0]))) := (kp.le hh).trans (Keep.set _ _ _ h0)
    have q2 : Ru.Rd (h1.set id (.row 0 4 (Ru.R (d ++ [x]) ++ repL r.length [.bool false, sV [], sV [], iV 0]))) v ((d ++ [x]) ++ r) := by
      have hxs : (d ++ [x]) ++ r = d ++ x :: r := by simp
      rw [hxs]
      rcases q with q | ⟨i, g, c, hv', e'⟩
      · exact .inl q
      · refine .inr ⟨i, g, c, hv', kp2.get e' (hv i g c ?_)⟩
        rw [hv']
        have : (d ++ x :: r).length = n := by simp; omega
        rw [this]
    obtain ⟨h', i1, i2, i3⟩ := ih (d ++ [x]) _ (by simp; omega) q2 (by have := kp2.1; omega) hv (by have := kp2.1; omega) (get_set _ e1)
    refine ⟨h', run_code Try.func14 rfl rfl ?_, by rw [i2]; simp, kp2.trans i3⟩
    have hag : aggOf x.V = some x.C := rfl
    simp only [↓XX, ↓XD, ↓YX, fg0, fs0, fg1, fs1, fg2, fs2, fg3, fs3, fg4, fs4, fg5, fs5, fg6, fs6, fg7, fs7, fg8, fs8, dstOf, padF, List.length_cons, List.length_nil, Nat.reduceAdd, Nat.zero_add, Nat.zero_mul, Nat.mul_one, Nat.reducePow, Nat.le_refl, and_self, ↓reduceIte, Option.bind_some, Option.map_some, cond_true, cond_false, eq_self, decide_true, convNum, Int.reduceEq, Option.getD_none, Option.getD_some, Option.isNone_some, Option.isNone_none, Option.isSome_some, Bool.or_true, Bool.true_or, Bool.false_or, Nat.reduceEqDiff, Nat.reduceMul, Nat.reduceLeDiff, tyL, Try.f14, hlen, hlt, hp, hld, h57, hix, hag, hst, hw]
    exact i1
theorem r14 (v : Value) (l : Nat) (xs : List Ru) (h : AH) (q : Ru.Rd h v xs) (hn : xs.length ≤ 2 ^ 30) (hl : l ≤ h.length) :
    ∃ id h', run V0 (.fn 14) l [S v] h = some (.ret (slV id 0 xs.length xs.length) h') ∧ h'[id]? = some (.row 0 4 (Ru.R xs)) ∧ h.length ≤ id ∧ Keep h.length h h' := by
  have hlen := q.len
  have kp : Keep h.length h (h ++ [AObj.row 0 4 (repL xs.length [.bool false, sV [], sV [], iV 0])]) := Keep.app _ _ (Nat.le_refl _)
  obtain ⟨h', i1, i2, i3⟩ := L14 v l h.length xs.length h.length hl (Nat.le_refl _) (by omega) xs [] (h ++ [AObj.row 0 4 (repL xs.length [.bool false, sV [], sV [], iV 0])]) (by simp) (q.keep kp) (by simp)
    (fun i g c hv => by
      rcases q with ⟨q, _⟩ | ⟨i', g', c', q, e⟩
      · rw [q] at hv; cases hv
      · rw [q] at hv; cases hv; exact lt_of_get e) (by simp; omega) (by simp [Ru.R])
  refine ⟨h.length, h', run_fn Try.func14 rfl rfl rfl rfl ?_, i2, Nat.le_refl _, kp.trans i3⟩
  have hm : (0 ≤ (xs.length : Int) ∧ (xs.length : Int) ≤ (xs.length : Int) ∧ (xs.length : Int) ≤ 9223372036854775807 ∧ ((48 : Nat) : Int) * (xs.length : Int) ≤ 2 ^ 47) = True := eq_true (by omega)
  simp only [↓XX, ↓XD, ↓YX, fg0, fs0, fg1, fs1, fg2, fs2, fg3, fs3, fg4, fs4, fg5, fs5, fg6, fs6, fg7, fs7, fg8, fs8, dstOf, padF, List.length_cons, List.length_nil, Nat.reduceAdd, Nat.zero_add, Nat.zero_mul, Nat.mul_one, Nat.reducePow, Nat.le_refl, and_self, ↓reduceIte, Option.bind_some, Option.map_some, cond_true, cond_false, eq_self, decide_true, convNum, Int.reduceEq, Option.getD_none, Option.getD_some, Option.isNone_some, Option.isNone_none, Option.isSome_some, Bool.or_true, Bool.true_or, Bool.false_or, Nat.reduceEqDiff, Nat.reduceMul, Nat.reduceLeDiff, tyL, Try.f14, hlen, hm, if_true, Int.toNat_natCast, newS]
  exact i1
/-! ### En: a struct of plain cells -/
structure En where
  mk ::
  (room : Bs)
  (seq : Int)
  (kind : Int)
  (user : Bs)
  (nick : Bs)
  (text : Bs)
  (id : Bs)
  (ref : Bs)
  (num : Int)
  deriving DecidableEq
abbrev En.C (x : En) : List Value := [sV x.room, iV x.seq, iV x.kind, sV x.user, sV x.nick, sV x.text, sV x.id, sV x.ref, iV x.num]
abbrev En.V (x : En) : Value := .agg ⟨[sV x.room, iV x.seq, iV x.kind, sV x.user, sV x.nick, sV x.text, sV x.id, sV x.ref, iV x.num]⟩
def En.R (xs : List En) : List Value := xs.flatMap En.C
theorem En.R_len (xs : List En) : (En.R xs).length = 9 * xs.length := by
  induction xs with
  | nil => rfl
  | cons x xs ih => simp only [En.R, List.flatMap_cons, List.length_append, List.length_cons, List.length_nil] at ih ⊢; omega
theorem En.R_app (a b : List En) : En.R (a ++ b) = En.R a ++ En.R b := by simp [En.R]
theorem En.R_cons (x : En) (r : List En) : En.R (x :: r) = En.C x ++ En.R r := by simp [En.R]
theorem En.get (d : List En) (x : En) (r : List En) : ((En.R (d ++ x :: r)).drop (d.length * 9)).take 9 = En.C x := by
  rw [En.R_app, En.R_cons, List.drop_left' (by rw [En.R_len]; omega)]
  rfl
theorem En.ldN {h : AH} {id g : Nat} {d r : List En} {x : En} (e : h[id]? = some (.row g 9 (En.R (d ++ x :: r)))) : ldN h (pV id (d.length * 9) g) 9 = some (En.C x) := by
  rw [ldN_of e (by rw [En.R_len]; simp; omega), En.get]
/-- a slice that is read -/
def En.Rd (h : AH) (v : Value) (xs : List En) : Prop :=
  (v = .slice none 0 0 ∧ xs = []) ∨ ∃ id g c, v = slV id g xs.length c ∧ h[id]? = some (.row g 9 (En.R xs))
theorem En.Rd.len {h : AH} {v : Value} {xs : List En} (r : En.Rd h v xs) : lenV v = some (xs.length : Int) := by
  rcases r with ⟨rfl, rfl⟩ | ⟨id, g, c, rfl, _⟩ <;> rfl
theorem En.Rd.get {h : AH} {v : Value} {d r : List En} {x : En} (q : En.Rd h v (d ++ x :: r)) : ∃ p, ixAddr v (d.length : Int) 9 = some p ∧ Abs.ldN h p 9 = some (En.C x) := by
  rcases q with ⟨_, q⟩ | ⟨id, g, c, rfl, e⟩
  · simp at q
  · exact ⟨pV id (d.length * 9) g, by rw [ixAddr_sl (by simp)]; simp, En.ldN e⟩
theorem En.Rd.keep {h h' : AH} {v : Value} {xs : List En} (q : En.Rd h v xs) (k : Keep h.length h h') : En.Rd h' v xs := by
  rcases q with q | ⟨id, g, c, rfl, e⟩
  · exact .inl q
  · exact .inr ⟨id, g, c, rfl, k.get e (lt_of_get e)⟩
theorem En.Rd.own {h : AH} {id g c : Nat} {xs : List En} (e : h[id]? = some (.row g 9 (En.R xs))) : En.Rd h (slV id g xs.length c) xs := .inr ⟨id, g, c, rfl, e⟩
def En.sz (x : En) (k : Int) : Int :=
  if k - x.room.length < 0 then -1 else if k - x.room.length - x.user.length < 0 then -1 else if k - x.room.length - x.user.length - x.nick.length < 0 then -1 else if k - x.room.length - x.user.length - x.nick.length - x.text.length < 0 then -1 else if k - x.room.length - x.user.length - x.nick.length - x.text.length - x.id.length < 0 then -1 else if k - x.room.length - x.user.length - x.nick.length - x.text.length - x.id.length - x.ref.length < 0 then -1 else k - x.room.length - x.user.length - x.nick.length - x.text.length - x.id.length - x.ref.length
def En.Fit (x : En) : Prop := x.room.length ≤ 2 ^ 60 ∧ x.user.length ≤ 2 ^ 60 ∧ x.nick.length ≤ 2 ^ 60 ∧ x.text.length ≤ 2 ^ 60 ∧ x.id.length ≤ 2 ^ 60 ∧ x.ref.length ≤ 2 ^ 60
def En.Fit63 (x : En) : Prop := x.room.length ≤ 9223372036854775807 ∧ x.user.length ≤ 9223372036854775807 ∧ x.nick.length ≤ 9223372036854775807 ∧ x.text.length ≤ 9223372036854775807 ∧ x.id.length ≤ 9223372036854775807 ∧ x.ref.length ≤ 9223372036854775807
theorem r12 (x : En) (hx : x.Fit63) (k : Int) (hk : 0 ≤ k ∧ k ≤ 2 ^ 40) (l : Nat) (h : AH) : run V0 (.fn 12) l [S x.V, S (iV k)] h = some (.ret (iV (x.sz k)) (h ++ [.row 0 9 x.C])) := by
  obtain ⟨x0, x1, x2, x3, x4, x5⟩ := hx
  obtain ⟨room, seq, kind, user, nick, text, id, ref, num⟩ := x
  refine run_fn Try.func12 rfl rfl rfl rfl ?_
  simp only at x0 x1 x2 x3 x4 x5
  unfold En.sz
  simp only
  have w0 : IntKind.i64.wrap (k - ((B room).size : Int)) = k - (room.length : Int) := by rw [size_B, wrap64 (by omega)]
  by_cases h0 : k - (room.length : Int) < 0
  · have d0 : decide (k - (room.length : Int) < 0) = true := decide_eq_true h0
    simp only [↓XX, ↓XD, ↓YX, fg0, fs0, fg1, fs1, fg2, fs2, fg3, fs3, fg4, fs4, fg5, fs5, fg6, fs6, fg7, fs7, fg8, fs8, dstOf, padF, List.length_cons, List.length_nil, Nat.reduceAdd, Nat.zero_add, Nat.zero_mul, Nat.mul_one, Nat.reducePow, Nat.le_refl, and_self, ↓reduceIte, Option.bind_some, Option.map_some, cond_true, cond_false, eq_self, decide_true, convNum, Int.reduceEq, Option.getD_none, Option.getD_some, Option.isNone_some, Option.isNone_none, Option.isSome_some, Bool.or_true, Bool.true_or, Bool.false_or, Nat.reduceEqDiff, Nat.reduceMul, Nat.reduceLeDiff, tyL, Try.f12, ↓XH1, ↓XH2, eq_self, decide_true, List.getElem?_cons_zero, List.getElem?_cons_succ, List.all_cons, List.all_nil, Bool.and_self, Nat.reduceLeDiff, List.drop_zero, List.drop_succ_cons, List.take_succ_cons, List.take_zero, w0, d0]
    simp [h0]
  · have d0 : decide (k - (room.length : Int) < 0) = false := decide_eq_false h0
    have w1 : IntKind.i64.wrap (k - (room.length : Int) - ((B user).size : Int)) = k - (room.length : Int) - (user.length : Int) := by rw [size_B, wrap64 (by omega)]
    by_cases h1 : k - (room.length : Int) - (user.length : Int) < 0
    · have d1 : decide (k - (room.length : Int) - (user.length : Int) < 0) = true := decide_eq_true h1
      simp only [↓XX, ↓XD, ↓YX, fg0, fs0, fg1, fs1, fg2, fs2, fg3, fs3, fg4, fs4, fg5, fs5, fg6, fs6, fg7, fs7, fg8, fs8, dstOf, padF, List.length_cons, List.length_nil, Nat.reduceAdd, Nat.zero_add, Nat.zero_mul, Nat.mul_one, Nat.reducePow, Nat.le_refl, and_self, ↓reduceIte, Option.bind_some, Option.map_some, cond_true, cond_false, eq_self, decide_true, convNum, Int.reduceEq, Option.getD_none, Option.getD_some, Option.isNone_some, Option.isNone_none, Option.isSome_some, Bool.or_true, Bool.true_or, Bool.false_or, Nat.reduceEqDiff, Nat.reduceMul, Nat.reduceLeDiff, tyL, Try.f12, ↓XH1, ↓XH2, eq_self, decide_true, List.getElem?_cons_zero, List.getElem?_cons_succ, List.all_cons, List.all_nil, Bool.and_self, Nat.reduceLeDiff, List.drop_zero, List.drop_succ_cons, List.take_succ_cons, List.take_zero, w0, w1, d0, d1]
      simp [h0, h1]
    · have d1 : decide (k - (room.length : Int) - (user.length : Int) < 0) = false := decide_eq_false h1
      have w2 : IntKind.i64.wrap (k - (room.length : Int) - (user.length : Int) - ((B nick).size : Int)) = k - (room.length : Int) - (user.length : Int) - (nick.length : Int) := by rw [size_B, wrap64 (by omega)]
      by_cases h2 : k - (room.length : Int) - (user.length : Int) - (nick.length : Int) < 0
      · have d2 : decide (k - (room.length : Int) - (user.length : Int) - (nick.length : Int) < 0) = true := decide_eq_true h2
        simp only [↓XX, ↓XD, ↓YX, fg0, fs0, fg1, fs1, fg2, fs2, fg3, fs3, fg4, fs4, fg5, fs5, fg6, fs6, fg7, fs7, fg8, fs8, dstOf, padF, List.length_cons, List.length_nil, Nat.reduceAdd, Nat.zero_add, Nat.zero_mul, Nat.mul_one, Nat.reducePow, Nat.le_refl, and_self, ↓reduceIte, Option.bind_some, Option.map_some, cond_true, cond_false, eq_self, decide_true, convNum, Int.reduceEq, Option.getD_none, Option.getD_some, Option.isNone_some, Option.isNone_none, Option.isSome_some, Bool.or_true, Bool.true_or, Bool.false_or, Nat.reduceEqDiff, Nat.reduceMul, Nat.reduceLeDiff, tyL, Try.f12, ↓XH1, ↓XH2, eq_self, decide_true, List.getElem?_cons_zero, List.getElem?_cons_succ, List.all_cons, List.all_nil, Bool.and_self, Nat.reduceLeDiff, List.drop_zero, List.drop_succ_cons, List.take_succ_cons, List.take_zero, w0, w1, w2, d0, d1, d2]
        simp [h0, h1, h2]
      · have d2 : decide (k - (room.length : Int) - (user.length : Int) - (nick.length : Int) < 0) = false := decide_eq_false h2
        have w3 : IntKind.i64.wrap (k - (room.length : Int) - (user.length : Int) - (nick.length : Int) - ((B text).size : Int)) = k - (room.length : Int) - (user.length : Int) - (nick.length : Int) - (text.length : Int) := by rw [size_B, wrap64 (by omega)]
        by_cases h3 : k - (room.length : Int) - (user.length : Int) - (nick.length : Int) - (text.length : Int) < 0
        · have d3 : decide (k - (room.length : Int) - (user.length : Int) - (nick.length : Int) - (text.length : Int) < 0) = true := decide_eq_true h3
          simp only [↓XX, ↓XD, ↓YX, fg0, fs0, fg1, fs1, fg2, fs2, fg3, fs3, fg4, fs4, fg5, fs5, fg6, fs6, fg7, fs7, fg8, fs8, dstOf, padF, List.length_cons, List.length_nil, Nat.reduceAdd, Nat.zero_add, Nat.zero_mul, Nat.mul_one, Nat.reducePow, Nat.le_refl, and_self, ↓reduceIte, Option.bind_some, Option.map_some, cond_true, cond_false, eq_self, decide_true, convNum, Int.reduceEq, Option.getD_none, Option.getD_some, Option.isNone_some, Option.isNone_none, Option.isSome_some, Bool.or_true, Bool.true_or, Bool.false_or, Nat.reduceEqDiff, Nat.reduceMul, Nat.reduceLeDiff, tyL, Try.f12, ↓XH1, ↓XH2, eq_self, decide_true, List.getElem?_cons_zero, List.getElem?_cons_succ, List.all_cons, List.all_nil, Bool.and_self, Nat.reduceLeDiff, List.drop_zero, List.drop_succ_cons, List.take_succ_cons, List.take_zero, w0, w1, w2, w3, d0, d1, d2, d3]
          simp [h0, h1, h2, h3]
        · have d3 : decide (k - (room.length : Int) - (user.length : Int) - (nick.length : Int) - (text.length : Int) < 0) = false := decide_eq_false h3
          have w4 : IntKind.i64.wrap (k - (room.length : Int) - (user.length : Int) - (nick.length : Int) - (text.length : Int) - ((B id).size : Int)) = k - (room.length : Int) - (user.length : Int) - (nick.length : Int) - (text.length : Int) - (id.length : Int) := by rw [size_B, wrap64 (by omega)]
          by_cases h4 : k - (room.length : Int) - (user.length : Int) - (nick.length : Int) - (text.length : Int) - (id.length : Int) < 0
          · have d4 : decide (k - (room.length : Int) - (user.length : Int) - (nick.length : Int) - (text.length : Int) - (id.length : Int) < 0) = true := decide_eq_true h4
            simp only [↓XX, ↓XD, ↓YX, fg0, fs0, fg1, fs1, fg2, fs2, fg3, fs3, fg4, fs4, fg5, fs5, fg6, fs6, fg7, fs7, fg8, fs8, dstOf, padF, List.length_cons, List.length_nil, Nat.reduceAdd, Nat.zero_add, Nat.zero_mul, Nat.mul_one, Nat.reducePow, Nat.le_refl, and_self, ↓reduceIte, Option.bind_some, Option.map_some, cond_true, cond_false, eq_self, decide_true, convNum, Int.reduceEq, Option.getD_none, Option.getD_some, Option.isNone_some, Option.isNone_none, Option.isSome_some, Bool.or_true, Bool.true_or, Bool.false_or, Nat.reduceEqDiff, Nat.reduceMul, Nat.reduceLeDiff, tyL, Try.f12, ↓XH1, ↓XH2, eq_self, decide_true, List.getElem?_cons_zero, List.getElem?_cons_succ, List.all_cons, List.all_nil, Bool.and_self, Nat.reduceLeDiff, List.drop_zero, List.drop_succ_cons, List.take_succ_cons, List.take_zero, w0, w1, w2, w3, w4, d0, d1, d2, d3, d4]
            simp [h0, h1, h2, h3, h4]
          · have d4 : decide (k - (room.length : Int) - (user.length : Int) - (nick.length : Int) - (text.length : Int) - (id.length : Int) < 0) = false := decide_eq_false h4
            have w5 : IntKind.i64.wrap (k - (room.length : Int) - (user.length : Int) - (nick.length : Int) - (text.length : Int) - (id.length : Int) - ((B ref).size : Int)) = k - (room.length : Int) - (user.length : Int) - (nick.length : Int) - (text.length : Int) - (id.length : Int) - (ref.length : Int) := by rw [size_B, wrap64 (by omega)]
            by_cases h5 : k - (room.length : Int) - (user.length : Int) - (nick.length : Int) - (text.length : Int) - (id.length : Int) - (ref.length : Int) < 0
            · have d5 : decide (k - (room.length : Int) - (user.length : Int) - (nick.length : Int) - (text.length : Int) - (id.length : Int) - (ref.length : Int) < 0) = true := decide_eq_true h5
              simp only [↓XX, ↓XD, ↓YX, fg0, fs0, fg1, fs1, fg2, fs2, fg3, fs3, fg4, fs4, fg5, fs5, fg6, fs6, fg7, fs7, fg8, fs8, dstOf, padF, List.length_cons, List.length_nil, Nat.reduceAdd, Nat.zero_add, Nat.zero_mul, Nat.mul_one, Nat.reducePow, Nat.le_refl, and_self, ↓reduceIte, Option.bind_some, Option.map_some, cond_true, cond_false, eq_self, decide_true, convNum, Int.reduceEq, Option.getD_none, Option.getD_some, Option.isNone_some, Option.isNone_none, Option.isSome_some, Bool.or_true, Bool.true_or, Bool.false_or, Nat.reduceEqDiff, Nat.reduceMul, Nat.reduceLeDiff, tyL, Try.f12, ↓XH1, ↓XH2, eq_self, decide_true, List.getElem?_cons_zero, List.getElem?_cons_succ, List.all_cons, List.all_nil, Bool.and_self, Nat.reduceLeDiff, List.drop_zero, List.drop_succ_cons, List.take_succ_cons, List.take_zero, w0, w1, w2, w3, w4, w5, d0, d1, d2, d3, d4, d5]
              simp [h0, h1, h2, h3, h4, h5]
            · have d5 : decide (k - (room.length : Int) - (user.length : Int) - (nick.length : Int) - (text.length : Int) - (id.length : Int) - (ref.length : Int) < 0) = false := decide_eq_false h5
              simp only [↓XX, ↓XD, ↓YX, fg0, fs0, fg1, fs1, fg2, fs2, fg3, fs3, fg4, fs4, fg5, fs5, fg6, fs6, fg7, fs7, fg8, fs8, dstOf, padF, List.length_cons, List.length_nil, Nat.reduceAdd, Nat.zero_add, Nat.zero_mul, Nat.mul_one, Nat.reducePow, Nat.le_refl, and_self, ↓reduceIte, Option.bind_some, Option.map_some, cond_true, cond_false, eq_self, decide_true, convNum, Int.reduceEq, Option.getD_none, Option.getD_some, Option.isNone_some, Option.isNone_none, Option.isSome_some, Bool.or_true, Bool.true_or, Bool.false_or, Nat.reduceEqDiff, Nat.reduceMul, Nat.reduceLeDiff, tyL, Try.f12, ↓XH1, ↓XH2, eq_self, decide_true, List.getElem?_cons_zero, List.getElem?_cons_succ, List.all_cons, List.all_nil, Bool.and_self, Nat.reduceLeDiff, List.drop_zero, List.drop_succ_cons, List.take_succ_cons, List.take_zero, w0, w1, w2, w3, w4, w5, d0, d1, d2, d3, d4, d5]
              simp [h0, h1, h2, h3, h4, h5]
theorem En.sz_fit (x : En) (k : Int) (hk : 0 ≤ x.sz k) : (x.room.length : Int) + (x.user.length : Int) + (x.nick.length : Int) + (x.text.length : Int) + (x.id.length : Int) + (x.ref.length : Int) + x.sz k = k := by
  unfold En.sz at hk ⊢
  split at hk
  · omega
  split at hk
  · omega
  split at hk
  · omega
  split at hk
  · omega
  split at hk
  · omega
  split at hk
  · omega
  rw [if_neg ‹_›, if_neg ‹_›, if_neg ‹_›, if_neg ‹_›, if_neg ‹_›, if_neg ‹_›]; omega
theorem En.sz_le (x : En) (k : Int) (hk : 0 ≤ k) : x.sz k ≤ k ∧ -1 ≤ x.sz k := by
  unfold En.sz
  split
  · omega
  split
  · omega
  split
  · omega
  split
  · omega
  split
  · omega
  split
  · omega
  omega
theorem r15 (x : En) (l : Nat) (h : AH) (hl : l ≤ h.length) : run V0 (.fn 15) l [S x.V] h = some (.ret x.V (h ++ [.row 0 9 x.C] ++ [.row 0 9 x.C] ++ [.row 0 9 x.C])) := by
  obtain ⟨x0, x1, x2, x3, x4, x5, x6, x7, x8⟩ := x
  refine run_fn Try.func15 rfl rfl rfl rfl ?_
  have l1 : (l ≤ (h ++ [AObj.row 0 9 [sV x0, iV x1, iV x2, sV x3, sV x4, sV x5, sV x6, sV x7, iV x8]]).length) = True := by simp; omega
  have l2 : ∀ cs, (l ≤ (h ++ [AObj.row 0 9 [sV x0, iV x1, iV x2, sV x3, sV x4, sV x5, sV x6, sV x7, iV x8]] ++ [AObj.row 0 9 cs]).length) = True := by intro cs; simp; omega
  simp only [↓XX, ↓XD, ↓YX, fg0, fs0, fg1, fs1, fg2, fs2, fg3, fs3, fg4, fs4, fg5, fs5, fg6, fs6, fg7, fs7, fg8, fs8, dstOf, padF, List.length_cons, List.length_nil, Nat.reduceAdd, Nat.zero_add, Nat.zero_mul, Nat.mul_one, Nat.reducePow, Nat.le_refl, and_self, ↓reduceIte, Option.bind_some, Option.map_some, cond_true, cond_false, eq_self, decide_true, convNum, Int.reduceEq, Option.getD_none, Option.getD_some, Option.isNone_some, Option.isNone_none, Option.isSome_some, Bool.or_true, Bool.true_or, Bool.false_or, Nat.reduceEqDiff, Nat.reduceMul, Nat.reduceLeDiff, tyL, Try.f15, ↓XH1, ↓XH2, eq_self, decide_true, List.getElem?_cons_zero, List.getElem?_cons_succ, List.all_cons, List.all_nil, Bool.and_self, Nat.reduceLeDiff, List.drop_zero, List.drop_succ_cons, List.take_succ_cons, List.take_zero, l1, l2]
end Go.Abs
namespace Go.Abs
open Go.Proofs
set_option maxRecDepth 100000
set_option linter.unusedSimpArgs false
set_option pp.maxSteps 20000

def smlI (n : Int) : Bool := decide (97 ≤ n) && decide (n ≤ 122) || decide (48 ≤ n) && decide (n ≤ 57)
theorem r108 (n : Int) (l : Nat) (h : AH) : run V0 (.fn 108) l [S (.int .u8 n)] h = some (.ret (.bool (inI n 48 57)) h) := by
  refine run_fn Try.func108 rfl rfl rfl rfl ?_
  simp only [↓XX, ↓XD, ↓YX, fg0, fs0, fg1, fs1, fg2, fs2, fg3, fs3, fg4, fs4, fg5, fs5, fg6, fs6, fg7, fs7, fg8, fs8, dstOf, padF, List.length_cons, List.length_nil, Nat.reduceAdd, Nat.zero_add, Nat.zero_mul, Nat.mul_one, Nat.reducePow, Nat.le_refl, and_self, ↓reduceIte, Option.bind_some, Option.map_some, cond_true, cond_false, eq_self, decide_true, convNum, Int.reduceEq, Option.getD_none, Option.getD_some, Option.isNone_some, Option.isNone_none, Option.isSome_some, Bool.or_true, Bool.true_or, Bool.false_or, Nat.reduceEqDiff, Nat.reduceMul, Nat.reduceLeDiff, tyL, Try.f108]
  unfold inI
  cases decide (48 ≤ n) <;> rfl
theorem r68 (n a b : Int) (l : Nat) (h : AH) : run V0 (.fn 68) l [S (iV n), S (iV a), S (iV b)] h = some (.ret (.bool (inI n a b)) h) := by
  refine run_fn Try.func68 rfl rfl rfl rfl ?_
  simp only [↓XX, ↓XD, ↓YX, fg0, fs0, fg1, fs1, fg2, fs2, fg3, fs3, fg4, fs4, fg5, fs5, fg6, fs6, fg7, fs7, fg8, fs8, dstOf, padF, List.length_cons, List.length_nil, Nat.reduceAdd, Nat.zero_add, Nat.zero_mul, Nat.mul_one, Nat.reducePow, Nat.le_refl, and_self, ↓reduceIte, Option.bind_some, Option.map_some, cond_true, cond_false, eq_self, decide_true, convNum, Int.reduceEq, Option.getD_none, Option.getD_some, Option.isNone_some, Option.isNone_none, Option.isSome_some, Bool.or_true, Bool.true_or, Bool.false_or, Nat.reduceEqDiff, Nat.reduceMul, Nat.reduceLeDiff, tyL, Try.f68]
  unfold inI
  cases decide (a ≤ n) <;> rfl
theorem r89 (n a b : Int) (l : Nat) (h : AH) : run V0 (.fn 89) l [S (iV n), S (iV a), S (iV b)] h = some (.ret (.bool (inI n a b)) h) := by
  refine run_fn Try.func89 rfl rfl rfl rfl ?_
  simp only [↓XX, ↓XD, ↓YX, fg0, fs0, fg1, fs1, fg2, fs2, fg3, fs3, fg4, fs4, fg5, fs5, fg6, fs6, fg7, fs7, fg8, fs8, dstOf, padF, List.length_cons, List.length_nil, Nat.reduceAdd, Nat.zero_add, Nat.zero_mul, Nat.mul_one, Nat.reducePow, Nat.le_refl, and_self, ↓reduceIte, Option.bind_some, Option.map_some, cond_true, cond_false, eq_self, decide_true, convNum, Int.reduceEq, Option.getD_none, Option.getD_some, Option.isNone_some, Option.isNone_none, Option.isSome_some, Bool.or_true, Bool.true_or, Bool.false_or, Nat.reduceEqDiff, Nat.reduceMul, Nat.reduceLeDiff, tyL, Try.f89]
  unfold inI
  cases decide (a ≤ n) <;> rfl
theorem r90 (n : Int) (l : Nat) (h : AH) : run V0 (.fn 90) l [S (.int .u8 n)] h = some (.ret (.bool (smlI n)) h) := by
  refine run_fn Try.func90 rfl rfl rfl rfl ?_
  simp only [↓XX, ↓XD, ↓YX, fg0, fs0, fg1, fs1, fg2, fs2, fg3, fs3, fg4, fs4, fg5, fs5, fg6, fs6, fg7, fs7, fg8, fs8, dstOf, padF, List.length_cons, List.length_nil, Nat.reduceAdd, Nat.zero_add, Nat.zero_mul, Nat.mul_one, Nat.reducePow, Nat.le_refl, and_self, ↓reduceIte, Option.bind_some, Option.map_some, cond_true, cond_false, eq_self, decide_true, convNum, Int.reduceEq, Option.getD_none, Option.getD_some, Option.isNone_some, Option.isNone_none, Option.isSome_some, Bool.or_true, Bool.true_or, Bool.false_or, Nat.reduceEqDiff, Nat.reduceMul, Nat.reduceLeDiff, tyL, Try.f90]
  unfold smlI
  cases decide (97 ≤ n) <;> cases decide (n ≤ 122) <;> cases decide (48 ≤ n) <;> rfl
theorem r99 (n : Int) (l : Nat) (h : AH) : run V0 (.fn 99) l [S (.int .u8 n)] h = some (.ret (.bool (smlI n)) h) := by
  refine run_fn Try.func99 rfl rfl rfl rfl ?_
  simp only [↓XX, ↓XD, ↓YX, fg0, fs0, fg1, fs1, fg2, fs2, fg3, fs3, fg4, fs4, fg5, fs5, fg6, fs6, fg7, fs7, fg8, fs8, dstOf, padF, List.length_cons, List.length_nil, Nat.reduceAdd, Nat.zero_add, Nat.zero_mul, Nat.mul_one, Nat.reducePow, Nat.le_refl, and_self, ↓reduceIte, Option.bind_some, Option.map_some, cond_true, cond_false, eq_self, decide_true, convNum, Int.reduceEq, Option.getD_none, Option.getD_some, Option.isNone_some, Option.isNone_none, Option.isSome_some, Bool.or_true, Bool.true_or, Bool.false_or, Nat.reduceEqDiff, Nat.reduceMul, Nat.reduceLeDiff, tyL, Try.f99, r108, inI]
  unfold smlI
  cases decide (97 ≤ n) <;> cases decide (n ≤ 122) <;> cases decide (48 ≤ n) <;> cases decide (n ≤ 57) <;> rfl
def usrI (n : Int) : Bool := smlI n || n == 45 || n == 46 || n == 95
def userOkL (s : Bs) : Bool := s.all (fun b => usrI b.toNat) && inI s.length 1 8
/-- impl.userOk: its loop -/
theorem L67 (s : Bs) (hs : s.length ≤ 2 ^ 60) (l id : Nat) (h : AH) (e : h[id]? = some (.row 0 25769803777 (u8c s))) : ∀ (r d : Bs), s = d ++ r →
    L67_0 l (sV s) (slV id 0 s.length s.length) (iV s.length) (iV d.length) h = some (.ret (.bool (r.all (fun b => usrI b.toNat) && inI s.length 1 8)) h) := by
  intro r
  induction r with
  | nil =>
    intro d hk
    rw [List.append_nil] at hk
    have hlt : decide ((d.length : Int) < (s.length : Int)) = false := by rw [decide_eq_false_iff_not, hk]; omega
    refine run_code Try.func67 rfl rfl ?_
    simp only [↓XX, ↓XD, ↓YX, fg0, fs0, fg1, fs1, fg2, fs2, fg3, fs3, fg4, fs4, fg5, fs5, fg6, fs6, fg7, fs7, fg8, fs8, dstOf, padF, List.length_cons, List.length_nil, Nat.reduceAdd, Nat.zero_add, Nat.zero_mul, Nat.mul_one, Nat.reducePow, Nat.le_refl, and_self, ↓reduceIte, Option.bind_some, Option.map_some, cond_true, cond_false, eq_self, decide_true, convNum, Int.reduceEq, Option.getD_none, Option.getD_some, Option.isNone_some, Option.isNone_none, Option.isSome_some, Bool.or_true, Bool.true_or, Bool.false_or, Nat.reduceEqDiff, Nat.reduceMul, Nat.reduceLeDiff, tyL, Try.f67, hlt, r68, size_B]
    rfl
  | cons b r ih =>
    intro d hk
    have hlen : d.length + 1 ≤ s.length := by rw [hk]; simp
    have hlt : decide ((d.length : Int) < (s.length : Int)) = true := by rw [decide_eq_true_iff]; omega
    have hix : ixAddr (slV id 0 s.length s.length) (d.length : Int) 1 = some (pV id d.length 0) := by rw [ixAddr_sl (by omega)]; simp
    have hld : ld h (pV id d.length 0) = some (.int .u8 b.toNat) := ld_of e (by rw [hk]; exact u8c_get d b r)
    have hw : IntKind.i64.wrap ((d.length : Int) + 1) = (((d ++ [b]).length : Nat) : Int) := natCast_succ_wrap (by omega) (by simp)
    have ih' := ih (d ++ [b]) (by rw [hk]; simp)
    refine run_code Try.func67 rfl rfl ?_
    simp only [↓XX, ↓XD, ↓YX, fg0, fs0, fg1, fs1, fg2, fs2, fg3, fs3, fg4, fs4, fg5, fs5, fg6, fs6, fg7, fs7, fg8, fs8, dstOf, padF, List.length_cons, List.length_nil, Nat.reduceAdd, Nat.zero_add, Nat.zero_mul, Nat.mul_one, Nat.reducePow, Nat.le_refl, and_self, ↓reduceIte, Option.bind_some, Option.map_some, cond_true, cond_false, eq_self, decide_true, convNum, Int.reduceEq, Option.getD_none, Option.getD_some, Option.isNone_some, Option.isNone_none, Option.isSome_some, Bool.or_true, Bool.true_or, Bool.false_or, Nat.reduceEqDiff, Nat.reduceMul, Nat.reduceLeDiff, tyL, Try.f67, hlt, hix, hld, r90, hw, bne]
    simp only [List.all_cons, usrI]
    cases smlI (b.toNat : Int) with
    | true => simp only [Bool.not_true, Bool.true_or, Bool.true_and]; exact ih'
    | false =>
      cases ((b.toNat : Int) == 45) with
      | true => simp only [Bool.not_true, Bool.not_false, Bool.true_or, Bool.or_true, Bool.false_or, Bool.true_and]; exact ih'
      | false =>
        cases ((b.toNat : Int) == 46) with
        | true => simp only [Bool.not_true, Bool.not_false, Bool.true_or, Bool.or_true, Bool.false_or, Bool.true_and]; exact ih'
        | false =>
          cases ((b.toNat : Int) == 95) with
          | true => simp only [Bool.not_true, Bool.not_false, Bool.true_or, Bool.or_true, Bool.false_or, Bool.true_and]; exact ih'
          | false => rfl
theorem r67 (s : Bs) (hs : s.length ≤ 2 ^ 60) (l : Nat) (h : AH) : ∃ h', run V0 (.fn 67) l [S (sV s)] h = some (.ret (.bool (userOkL s)) h') ∧ Keep h.length h h' := by
  refine ⟨h ++ [.row 0 25769803777 (u8c s)], run_fn Try.func67 rfl rfl rfl rfl ?_, Keep.app _ _ (Nat.le_refl _)⟩
  simp only [↓XX, ↓XD, ↓YX, fg0, fs0, fg1, fs1, fg2, fs2, fg3, fs3, fg4, fs4, fg5, fs5, fg6, fs6, fg7, fs7, fg8, fs8, dstOf, padF, List.length_cons, List.length_nil, Nat.reduceAdd, Nat.zero_add, Nat.zero_mul, Nat.mul_one, Nat.reducePow, Nat.le_refl, and_self, ↓reduceIte, Option.bind_some, Option.map_some, cond_true, cond_false, eq_self, decide_true, convNum, Int.reduceEq, Option.getD_none, Option.getD_some, Option.isNone_some, Option.isNone_none, Option.isSome_some, Bool.or_true, Bool.true_or, Bool.false_or, Nat.reduceEqDiff, Nat.reduceMul, Nat.reduceLeDiff, tyL, Try.f67, lenV, newS]
  exact L67 s hs l h.length _ (by rw [List.getElem?_append_right (Nat.le_refl _)]; simp [u8c, B]) s [] rfl
/-- spec.l4User: its loop -/
theorem L88 (s : Bs) (hs : s.length ≤ 2 ^ 60) (l : Nat) (h : AH) : ∀ (r d : Bs), s = d ++ r →
    L88_0 l (sV s) (iV d.length) h = some (.ret (.bool (r.all (fun b => usrI b.toNat) && inI s.length 1 8)) h) := by
  intro r
  induction r with
  | nil =>
    intro d hk
    rw [List.append_nil] at hk
    have hlt : decide ((d.length : Int) < ((B s).size : Int)) = false := by rw [decide_eq_false_iff_not, size_B, hk]; omega
    refine run_code Try.func88 rfl rfl ?_
    simp only [↓XX, ↓XD, ↓YX, fg0, fs0, fg1, fs1, fg2, fs2, fg3, fs3, fg4, fs4, fg5, fs5, fg6, fs6, fg7, fs7, fg8, fs8, dstOf, padF, List.length_cons, List.length_nil, Nat.reduceAdd, Nat.zero_add, Nat.zero_mul, Nat.mul_one, Nat.reducePow, Nat.le_refl, and_self, ↓reduceIte, Option.bind_some, Option.map_some, cond_true, cond_false, eq_self, decide_true, convNum, Int.reduceEq, Option.getD_none, Option.getD_some, Option.isNone_some, Option.isNone_none, Option.isSome_some, Bool.or_true, Bool.true_or, Bool.false_or, Nat.reduceEqDiff, Nat.reduceMul, Nat.reduceLeDiff, tyL, Try.f88, hlt, r89]
    rfl
  | cons b r ih =>
    intro d hk
    have hlen : d.length + 1 ≤ s.length := by rw [hk]; simp
    have hlt : decide ((d.length : Int) < ((B s).size : Int)) = true := by rw [decide_eq_true_iff, size_B]; omega
    have hat : strAt (B s) (d.length : Int) = some (b.toNat : Int) := by rw [hk]; exact strAt_mid d b r
    have hw : IntKind.i64.wrap ((d.length : Int) + 1) = (((d ++ [b]).length : Nat) : Int) := natCast_succ_wrap (by omega) (by simp)
    have ih' := ih (d ++ [b]) (by rw [hk]; simp)
    refine run_code Try.func88 rfl rfl ?_
    simp only [↓XX, ↓XD, ↓YX, fg0, fs0, fg1, fs1, fg2, fs2, fg3, fs3, fg4, fs4, fg5, fs5, fg6, fs6, fg7, fs7, fg8, fs8, dstOf, padF, List.length_cons, List.length_nil, Nat.reduceAdd, Nat.zero_add, Nat.zero_mul, Nat.mul_one, Nat.reducePow, Nat.le_refl, and_self, ↓reduceIte, Option.bind_some, Option.map_some, cond_true, cond_false, eq_self, decide_true, convNum, Int.reduceEq, Option.getD_none, Option.getD_some, Option.isNone_some, Option.isNone_none, Option.isSome_some, Bool.or_true, Bool.true_or, Bool.false_or, Nat.reduceEqDiff, Nat.reduceMul, Nat.reduceLeDiff, tyL, Try.f88, hlt, hat, r99, hw, bne]
    simp only [List.all_cons, usrI]
    cases smlI (b.toNat : Int) with
    | true => simp only [Bool.not_true, Bool.true_or, Bool.true_and]; exact ih'
    | false =>
      cases ((b.toNat : Int) == 45) with
      | true => simp only [Bool.not_true, Bool.not_false, Bool.true_or, Bool.or_true, Bool.false_or, Bool.true_and]; exact ih'
      | false =>
        cases ((b.toNat : Int) == 46) with
        | true => simp only [Bool.not_true, Bool.not_false, Bool.true_or, Bool.or_true, Bool.false_or, Bool.true_and]; exact ih'
        | false =>
          cases ((b.toNat : Int) == 95) with
          | true => simp only [Bool.not_true, Bool.not_false, Bool.true_or, Bool.or_true, Bool.false_or, Bool.true_and]; exact ih'
          | false => rfl
theorem r88 (s : Bs) (hs : s.length ≤ 2 ^ 60) (l : Nat) (h : AH) : run V0 (.fn 88) l [S (sV s)] h = some (.ret (.bool (userOkL s)) h) := by
  refine run_fn Try.func88 rfl rfl rfl rfl ?_
  simp only [↓XX, ↓XD, ↓YX, fg0, fs0, fg1, fs1, fg2, fs2, fg3, fs3, fg4, fs4, fg5, fs5, fg6, fs6, fg7, fs7, fg8, fs8, dstOf, padF, List.length_cons, List.length_nil, Nat.reduceAdd, Nat.zero_add, Nat.zero_mul, Nat.mul_one, Nat.reducePow, Nat.le_refl, and_self, ↓reduceIte, Option.bind_some, Option.map_some, cond_true, cond_false, eq_self, decide_true, convNum, Int.reduceEq, Option.getD_none, Option.getD_some, Option.isNone_some, Option.isNone_none, Option.isSome_some, Bool.or_true, Bool.true_or, Bool.false_or, Nat.reduceEqDiff, Nat.reduceMul, Nat.reduceLeDiff, tyL, Try.f88]
  exact L88 s hs l h s [] rfl
/-! ### rules -/
def orEm (s : Bs) : Bool := decide (s = []) || userOkL s
def ruOk (x : Ru) : Bool := orEm x.room && orEm x.user && inI x.kind 0 6
theorem r66 (s : Bs) (hs : s.length ≤ 2 ^ 60) (l : Nat) (h : AH) : ∃ h', run V0 (.fn 66) l [S (sV s), S (fnV 67)] h = some (.ret (.bool (orEm s)) h') ∧ Keep h.length h h' := by
  obtain ⟨h1, a1, k1⟩ := r67 s hs l h
  unfold orEm
  cases q : decide (s = []) with
  | true =>
    refine ⟨h, run_fn Try.func66 rfl rfl rfl rfl ?_, Keep.refl _ _⟩
    simp only [↓XX, ↓XD, ↓YX, fg0, fs0, fg1, fs1, fg2, fs2, fg3, fs3, fg4, fs4, fg5, fs5, fg6, fs6, fg7, fs7, fg8, fs8, dstOf, padF, List.length_cons, List.length_nil, Nat.reduceAdd, Nat.zero_add, Nat.zero_mul, Nat.mul_one, Nat.reducePow, Nat.le_refl, and_self, ↓reduceIte, Option.bind_some, Option.map_some, cond_true, cond_false, eq_self, decide_true, convNum, Int.reduceEq, Option.getD_none, Option.getD_some, Option.isNone_some, Option.isNone_none, Option.isSome_some, Bool.or_true, Bool.true_or, Bool.false_or, Nat.reduceEqDiff, Nat.reduceMul, Nat.reduceLeDiff, tyL, Try.f66, eqB, q]
  | false =>
    refine ⟨h1, run_fn Try.func66 rfl rfl rfl rfl ?_, k1⟩
    simp only [↓XX, ↓XD, ↓YX, fg0, fs0, fg1, fs1, fg2, fs2, fg3, fs3, fg4, fs4, fg5, fs5, fg6, fs6, fg7, fs7, fg8, fs8, dstOf, padF, List.length_cons, List.length_nil, Nat.reduceAdd, Nat.zero_add, Nat.zero_mul, Nat.mul_one, Nat.reducePow, Nat.le_refl, and_self, ↓reduceIte, Option.bind_some, Option.map_some, cond_true, cond_false, eq_self, decide_true, convNum, Int.reduceEq, Option.getD_none, Option.getD_some, Option.isNone_some, Option.isNone_none, Option.isSome_some, Bool.or_true, Bool.true_or, Bool.false_or, Nat.reduceEqDiff, Nat.reduceMul, Nat.reduceLeDiff, tyL, Try.f66, eqB, q, a1]
theorem r65 (x : Ru) (hx : x.Fit) (l : Nat) (h : AH) : ∃ h', run V0 (.fn 65) l [S x.V] h = some (.ret (.bool (!ruOk x)) h') ∧ Keep h.length h h' := by
  obtain ⟨x1, x2⟩ := hx
  have k0 : Keep h.length h (h ++ [.row 0 4 x.C]) := Keep.app _ _ (Nat.le_refl _)
  have e0 : (h ++ [AObj.row 0 4 x.C])[h.length]? = some (.row 0 4 x.C) := by simp
  obtain ⟨h1, a1, k1⟩ := r66 x.room x1 l (h ++ [.row 0 4 x.C])
  have e1 := k1.get e0 (lt_of_get e0)
  obtain ⟨h2, a2, k2⟩ := r66 x.user x2 l h1
  have e2 := k2.get e1 (lt_of_get e1)
  have kk1 := k0.trans (k1.le k0.1)
  have kk2 := kk1.trans (k2.le kk1.1)
  have m1 : ld h1 (pV h.length 2 0) = some (sV x.user) := ld_of e1 rfl
  have m3 : ld h1 (pV h.length 3 0) = some (iV x.kind) := ld_of e1 rfl
  have n3 : ld h2 (pV h.length 3 0) = some (iV x.kind) := ld_of e2 rfl
  have b1 : ld (h ++ [.row 0 4 x.C]) (pV h.length 1 0) = some (sV x.room) := ld_of e0 rfl
  have ha : ∀ k, addOff (pV h.length 0 0) k = some (pV h.length (0 + k) 0) := fun _ => rfl
  have hp : newP h = pV h.length 0 0 := rfl
  unfold ruOk
  cases q1 : orEm x.room with
  | false =>
    rw [q1] at a1
    refine ⟨h1, run_fn Try.func65 rfl rfl rfl rfl ?_, kk1⟩
    simp only [↓XX, ↓XD, ↓YX, fg0, fs0, fg1, fs1, fg2, fs2, fg3, fs3, fg4, fs4, fg5, fs5, fg6, fs6, fg7, fs7, fg8, fs8, dstOf, padF, List.length_cons, List.length_nil, Nat.reduceAdd, Nat.zero_add, Nat.zero_mul, Nat.mul_one, Nat.reducePow, Nat.le_refl, and_self, ↓reduceIte, Option.bind_some, Option.map_some, cond_true, cond_false, eq_self, decide_true, convNum, Int.reduceEq, Option.getD_none, Option.getD_some, Option.isNone_some, Option.isNone_none, Option.isSome_some, Bool.or_true, Bool.true_or, Bool.false_or, Nat.reduceEqDiff, Nat.reduceMul, Nat.reduceLeDiff, tyL, Try.f65, hp, ha, b1, a1, m1, m3, Bool.not_false, Bool.false_and]
  | true =>
    rw [q1] at a1
    cases q2 : orEm x.user with
    | false =>
      rw [q2] at a2
      refine ⟨h2, run_fn Try.func65 rfl rfl rfl rfl ?_, kk2⟩
      simp only [↓XX, ↓XD, ↓YX, fg0, fs0, fg1, fs1, fg2, fs2, fg3, fs3, fg4, fs4, fg5, fs5, fg6, fs6, fg7, fs7, fg8, fs8, dstOf, padF, List.length_cons, List.length_nil, Nat.reduceAdd, Nat.zero_add, Nat.zero_mul, Nat.mul_one, Nat.reducePow, Nat.le_refl, and_self, ↓reduceIte, Option.bind_some, Option.map_some, cond_true, cond_false, eq_self, decide_true, convNum, Int.reduceEq, Option.getD_none, Option.getD_some, Option.isNone_some, Option.isNone_none, Option.isSome_some, Bool.or_true, Bool.true_or, Bool.false_or, Nat.reduceEqDiff, Nat.reduceMul, Nat.reduceLeDiff, tyL, Try.f65, hp, ha, b1, a1, m1, a2, n3, Bool.not_false, Bool.not_true, Bool.false_and, Bool.and_false]
    | true =>
      rw [q2] at a2
      refine ⟨h2, run_fn Try.func65 rfl rfl rfl rfl ?_, kk2⟩
      simp only [↓XX, ↓XD, ↓YX, fg0, fs0, fg1, fs1, fg2, fs2, fg3, fs3, fg4, fs4, fg5, fs5, fg6, fs6, fg7, fs7, fg8, fs8, dstOf, padF, List.length_cons, List.length_nil, Nat.reduceAdd, Nat.zero_add, Nat.zero_mul, Nat.mul_one, Nat.reducePow, Nat.le_refl, and_self, ↓reduceIte, Option.bind_some, Option.map_some, cond_true, cond_false, eq_self, decide_true, convNum, Int.reduceEq, Option.getD_none, Option.getD_some, Option.isNone_some, Option.isNone_none, Option.isSome_some, Bool.or_true, Bool.true_or, Bool.false_or, Nat.reduceEqDiff, Nat.reduceMul, Nat.reduceLeDiff, tyL, Try.f65, hp, ha, b1, a1, m1, a2, n3, r68, Bool.not_true, Bool.and_self, Bool.true_and]
theorem r63 (x : Ru) (hx : x.Fit) (l : Nat) (h : AH) : run V0 (.fn 63) l [S x.V] h = some (.ret (.bool (ruOk x)) (h ++ [.row 0 4 x.C])) := by
  obtain ⟨x1, x2⟩ := hx
  obtain ⟨xq, xr, xu, xk⟩ := x
  simp only at x1 x2
  refine run_fn Try.func63 rfl rfl rfl rfl ?_
  have e1 := fun l h => r88 xr x1 l h
  have e2 := fun l h => r88 xu x2 l h
  simp only [↓XX, ↓XD, ↓YX, fg0, fs0, fg1, fs1, fg2, fs2, fg3, fs3, fg4, fs4, fg5, fs5, fg6, fs6, fg7, fs7, fg8, fs8, dstOf, padF, List.length_cons, List.length_nil, Nat.reduceAdd, Nat.zero_add, Nat.zero_mul, Nat.mul_one, Nat.reducePow, Nat.le_refl, and_self, ↓reduceIte, Option.bind_some, Option.map_some, cond_true, cond_false, eq_self, decide_true, convNum, Int.reduceEq, Option.getD_none, Option.getD_some, Option.isNone_some, Option.isNone_none, Option.isSome_some, Bool.or_true, Bool.true_or, Bool.false_or, Nat.reduceEqDiff, Nat.reduceMul, Nat.reduceLeDiff, tyL, Try.f63, ↓XH1, ↓XH2, eq_self, decide_true, List.getElem?_cons_zero, List.getElem?_cons_succ, List.all_cons, List.all_nil, Bool.and_self, Nat.reduceLeDiff, List.drop_zero, List.drop_succ_cons, List.take_succ_cons, List.take_zero, eqB, e1, e2, r89]
  unfold ruOk orEm
  simp only
  cases decide (xr = []) <;> cases userOkL xr <;> cases decide (xu = []) <;> cases userOkL xu <;> rfl
end Go.Abs
namespace Go.Abs
open Go.Proofs
set_option maxRecDepth 100000
set_option linter.unusedSimpArgs false
set_option pp.maxSteps 20000

/-- spec.l17AllOk: its loop -/
theorem L37 (id g c n l : Nat) (hn : n ≤ 2 ^ 40) : ∀ (r d : List Ru) (h : AH), d.length + r.length = n → (∀ x ∈ r, x.Fit) → h[id]? = some (.row g 4 (Ru.R (d ++ r))) →
    ∃ h', L37_0 l (slV id g n c) (iV d.length) h = some (.ret (.bool (r.all ruOk && decide ((n : Int) ≤ 8))) h') ∧ Keep h.length h h' := by
  intro r
  induction r with
  | nil =>
    intro d h hk hf e
    simp only [List.length_nil, Nat.add_zero] at hk
    have hlt : decide ((d.length : Int) < (n : Int)) = false := by rw [decide_eq_false_iff_not]; omega
    refine ⟨h, run_code Try.func37 rfl rfl ?_, Keep.refl _ _⟩
    simp only [↓XX, ↓XD, ↓YX, fg0, fs0, fg1, fs1, fg2, fs2, fg3, fs3, fg4, fs4, fg5, fs5, fg6, fs6, fg7, fs7, fg8, fs8, dstOf, padF, List.length_cons, List.length_nil, Nat.reduceAdd, Nat.zero_add, Nat.zero_mul, Nat.mul_one, Nat.reducePow, Nat.le_refl, and_self, ↓reduceIte, Option.bind_some, Option.map_some, cond_true, cond_false, eq_self, decide_true, convNum, Int.reduceEq, Option.getD_none, Option.getD_some, Option.isNone_some, Option.isNone_none, Option.isSome_some, Bool.or_true, Bool.true_or, Bool.false_or, Nat.reduceEqDiff, Nat.reduceMul, Nat.reduceLeDiff, tyL, Try.f37, lenV, hlt, List.all_nil, Bool.true_and]
  | cons x r ih =>
    intro d h hk hf e
    simp only [List.length_cons] at hk
    have hlt : decide ((d.length : Int) < (n : Int)) = true := by rw [decide_eq_true_iff]; omega
    have hix : ixAddr (slV id g n c) (d.length : Int) 4 = some (pV id (d.length * 4) g) := by rw [ixAddr_sl (by omega)]; simp
    have hld : ldN h (pV id (d.length * 4) g) 4 = some x.C := Ru.ldN e
    have hw : IntKind.i64.wrap ((d.length : Int) + 1) = (((d ++ [x]).length : Nat) : Int) := natCast_succ_wrap (by omega) (by simp)
    have h88 := r63 x (hf x (by simp)) l h
    have kp : Keep h.length h (h ++ [.row 0 4 x.C]) := Keep.app _ _ (Nat.le_refl _)
    cases hq : ruOk x with
    | false =>
      rw [hq] at h88
      refine ⟨_, run_code Try.func37 rfl rfl ?_, kp⟩
      simp only [↓XX, ↓XD, ↓YX, fg0, fs0, fg1, fs1, fg2, fs2, fg3, fs3, fg4, fs4, fg5, fs5, fg6, fs6, fg7, fs7, fg8, fs8, dstOf, padF, List.length_cons, List.length_nil, Nat.reduceAdd, Nat.zero_add, Nat.zero_mul, Nat.mul_one, Nat.reducePow, Nat.le_refl, and_self, ↓reduceIte, Option.bind_some, Option.map_some, cond_true, cond_false, eq_self, decide_true, convNum, Int.reduceEq, Option.getD_none, Option.getD_some, Option.isNone_some, Option.isNone_none, Option.isSome_some, Bool.or_true, Bool.true_or, Bool.false_or, Nat.reduceEqDiff, Nat.reduceMul, Nat.reduceLeDiff, tyL, Try.f37, lenV, hlt, hix, hld, h88, Bool.not_false, List.all_cons, hq, Bool.false_and]
    | true =>
      rw [hq] at h88
      obtain ⟨h', i1, i2⟩ := ih (d ++ [x]) _ (by simp; omega) (fun y hy => hf y (by simp [hy])) (by rw [kp.get e (lt_of_get e)]; simp)
      refine ⟨h', run_code Try.func37 rfl rfl ?_, kp.trans (i2.le kp.1)⟩
      simp only [↓XX, ↓XD, ↓YX, fg0, fs0, fg1, fs1, fg2, fs2, fg3, fs3, fg4, fs4, fg5, fs5, fg6, fs6, fg7, fs7, fg8, fs8, dstOf, padF, List.length_cons, List.length_nil, Nat.reduceAdd, Nat.zero_add, Nat.zero_mul, Nat.mul_one, Nat.reducePow, Nat.le_refl, and_self, ↓reduceIte, Option.bind_some, Option.map_some, cond_true, cond_false, eq_self, decide_true, convNum, Int.reduceEq, Option.getD_none, Option.getD_some, Option.isNone_some, Option.isNone_none, Option.isSome_some, Bool.or_true, Bool.true_or, Bool.false_or, Nat.reduceEqDiff, Nat.reduceMul, Nat.reduceLeDiff, tyL, Try.f37, lenV, hlt, hix, hld, h88, Bool.not_true, List.all_cons, hq, Bool.true_and, hw]
      exact i1
theorem r37 (id g c l : Nat) (xs : List Ru) (h : AH) (hn : xs.length ≤ 2 ^ 40) (hf : ∀ x ∈ xs, x.Fit) (e : h[id]? = some (.row g 4 (Ru.R xs))) :
    ∃ h', run V0 (.fn 37) l [S (slV id g xs.length c)] h = some (.ret (.bool (xs.all ruOk && decide ((xs.length : Int) ≤ 8))) h') ∧ Keep h.length h h' := by
  obtain ⟨h', i1, i2⟩ := L37 id g c xs.length l hn xs [] h (by simp) hf (by simpa using e)
  refine ⟨h', run_fn Try.func37 rfl rfl rfl rfl ?_, i2⟩
  simp only [↓XX, ↓XD, ↓YX, fg0, fs0, fg1, fs1, fg2, fs2, fg3, fs3, fg4, fs4, fg5, fs5, fg6, fs6, fg7, fs7, fg8, fs8, dstOf, padF, List.length_cons, List.length_nil, Nat.reduceAdd, Nat.zero_add, Nat.zero_mul, Nat.mul_one, Nat.reducePow, Nat.le_refl, and_self, ↓reduceIte, Option.bind_some, Option.map_some, cond_true, cond_false, eq_self, decide_true, convNum, Int.reduceEq, Option.getD_none, Option.getD_some, Option.isNone_some, Option.isNone_none, Option.isSome_some, Bool.or_true, Bool.true_or, Bool.false_or, Nat.reduceEqDiff, Nat.reduceMul, Nat.reduceLeDiff, tyL, Try.f37]
  exact i1
def firstIx (p : Ru → Bool) : List Ru → Nat → Int
  | [], _ => -1
  | x :: r, k => if p x then k else firstIx p r (k + 1)
theorem firstIx_none (p : Ru → Bool) : ∀ (r : List Ru) (k : Nat), decide (0 ≤ firstIx p r k) = r.any p
  | [], k => rfl
  | x :: r, k => by
    by_cases hq : p x = true
    · have e1 : firstIx p (x :: r) k = (k : Int) := by simp only [firstIx, if_pos hq]
      rw [e1, List.any_cons, hq, Bool.true_or]
      exact decide_eq_true (by omega)
    · have e1 : firstIx p (x :: r) k = firstIx p r (k + 1) := by simp only [firstIx, if_neg hq]
      rw [e1, firstIx_none p r (k + 1), List.any_cons, Bool.eq_false_iff.2 hq, Bool.false_or]
/-- slices.IndexFunc over rules: its loop, by a function without captures -/
theorem L69 (id g c n l : Nat) (hn : n ≤ 2 ^ 40) : ∀ (r d : List Ru) (h : AH), d.length + r.length = n → (∀ x ∈ r, x.Fit) → h[id]? = some (.row g 4 (Ru.R (d ++ r))) →
    ∃ h', L69_0 l (slV id g n c) (fnV 65) (iV n) (iV d.length) h = some (.ret (iV (firstIx (fun x => !ruOk x) r d.length)) h') ∧ Keep h.length h h' := by
  intro r
  induction r with
  | nil =>
    intro d h hk hf e
    simp only [List.length_nil, Nat.add_zero] at hk
    have hlt : decide ((d.length : Int) < (n : Int)) = false := by rw [decide_eq_false_iff_not]; omega
    refine ⟨h, run_code Try.func69 rfl rfl ?_, Keep.refl _ _⟩
    simp only [↓XX, ↓XD, ↓YX, fg0, fs0, fg1, fs1, fg2, fs2, fg3, fs3, fg4, fs4, fg5, fs5, fg6, fs6, fg7, fs7, fg8, fs8, dstOf, padF, List.length_cons, List.length_nil, Nat.reduceAdd, Nat.zero_add, Nat.zero_mul, Nat.mul_one, Nat.reducePow, Nat.le_refl, and_self, ↓reduceIte, Option.bind_some, Option.map_some, cond_true, cond_false, eq_self, decide_true, convNum, Int.reduceEq, Option.getD_none, Option.getD_some, Option.isNone_some, Option.isNone_none, Option.isSome_some, Bool.or_true, Bool.true_or, Bool.false_or, Nat.reduceEqDiff, Nat.reduceMul, Nat.reduceLeDiff, tyL, Try.f69, hlt, firstIx]
  | cons x r ih =>
    intro d h hk hf e
    simp only [List.length_cons] at hk
    have hlt : decide ((d.length : Int) < (n : Int)) = true := by rw [decide_eq_true_iff]; omega
    have hix : ixAddr (slV id g n c) (d.length : Int) 4 = some (pV id (d.length * 4) g) := by rw [ixAddr_sl (by omega)]; simp
    have hld : ldN h (pV id (d.length * 4) g) 4 = some x.C := Ru.ldN e
    have hw : IntKind.i64.wrap ((d.length : Int) + 1) = (((d ++ [x]).length : Nat) : Int) := natCast_succ_wrap (by omega) (by simp)
    obtain ⟨h1, a1, k1⟩ := r65 x (hf x (by simp)) l h
    by_cases hq : ruOk x = true
    · rw [hq] at a1
      obtain ⟨h', i1, i2⟩ := ih (d ++ [x]) h1 (by simp; omega) (fun y hy => hf y (by simp [hy])) (by rw [k1.get e (lt_of_get e)]; simp)
      refine ⟨h', run_code Try.func69 rfl rfl ?_, k1.trans (i2.le k1.1)⟩
      simp only [↓XX, ↓XD, ↓YX, fg0, fs0, fg1, fs1, fg2, fs2, fg3, fs3, fg4, fs4, fg5, fs5, fg6, fs6, fg7, fs7, fg8, fs8, dstOf, padF, List.length_cons, List.length_nil, Nat.reduceAdd, Nat.zero_add, Nat.zero_mul, Nat.mul_one, Nat.reducePow, Nat.le_refl, and_self, ↓reduceIte, Option.bind_some, Option.map_some, cond_true, cond_false, eq_self, decide_true, convNum, Int.reduceEq, Option.getD_none, Option.getD_some, Option.isNone_some, Option.isNone_none, Option.isSome_some, Bool.or_true, Bool.true_or, Bool.false_or, Nat.reduceEqDiff, Nat.reduceMul, Nat.reduceLeDiff, tyL, Try.f69, hlt, hix, hld, a1, Bool.not_true, hw]
      rw [i1]; simp [firstIx, hq]
    · rw [Bool.eq_false_iff.2 hq] at a1
      refine ⟨h1, run_code Try.func69 rfl rfl ?_, k1⟩
      simp only [↓XX, ↓XD, ↓YX, fg0, fs0, fg1, fs1, fg2, fs2, fg3, fs3, fg4, fs4, fg5, fs5, fg6, fs6, fg7, fs7, fg8, fs8, dstOf, padF, List.length_cons, List.length_nil, Nat.reduceAdd, Nat.zero_add, Nat.zero_mul, Nat.mul_one, Nat.reducePow, Nat.le_refl, and_self, ↓reduceIte, Option.bind_some, Option.map_some, cond_true, cond_false, eq_self, decide_true, convNum, Int.reduceEq, Option.getD_none, Option.getD_some, Option.isNone_some, Option.isNone_none, Option.isSome_some, Bool.or_true, Bool.true_or, Bool.false_or, Nat.reduceEqDiff, Nat.reduceMul, Nat.reduceLeDiff, tyL, Try.f69, hlt, hix, hld, a1, Bool.not_false]
      simp [firstIx, hq]
theorem r40 (id g c l : Nat) (xs : List Ru) (h : AH) (hn : xs.length ≤ 2 ^ 40) (hf : ∀ x ∈ xs, x.Fit) (e : h[id]? = some (.row g 4 (Ru.R xs))) :
    ∃ h', run V0 (.fn 40) l [S (slV id g xs.length c)] h = some (.ret (.bool (xs.all ruOk && decide ((xs.length : Int) ≤ 8))) h') ∧ Keep h.length h h' := by
  obtain ⟨h', i1, i2⟩ := L69 id g c xs.length l hn xs [] h (by simp) hf (by simpa using e)
  have e69 : run V0 (.fn 69) l [S (slV id g xs.length c), S (fnV 65)] h = some (.ret (iV (firstIx (fun x => !ruOk x) xs 0)) h') := by
    refine run_fn Try.func69 rfl rfl rfl rfl ?_
    simp only [↓XX, ↓XD, ↓YX, fg0, fs0, fg1, fs1, fg2, fs2, fg3, fs3, fg4, fs4, fg5, fs5, fg6, fs6, fg7, fs7, fg8, fs8, dstOf, padF, List.length_cons, List.length_nil, Nat.reduceAdd, Nat.zero_add, Nat.zero_mul, Nat.mul_one, Nat.reducePow, Nat.le_refl, and_self, ↓reduceIte, Option.bind_some, Option.map_some, cond_true, cond_false, eq_self, decide_true, convNum, Int.reduceEq, Option.getD_none, Option.getD_some, Option.isNone_some, Option.isNone_none, Option.isSome_some, Bool.or_true, Bool.true_or, Bool.false_or, Nat.reduceEqDiff, Nat.reduceMul, Nat.reduceLeDiff, tyL, Try.f69, lenV]
    exact i1
  have hnone := firstIx_none (fun x => !ruOk x) xs 0
  have e44 : run V0 (.fn 44) l [S (slV id g xs.length c), S (fnV 65)] h = some (.ret (.bool (xs.any fun x => !ruOk x)) h') := by
    refine run_fn Try.func44 rfl rfl rfl rfl ?_
    simp only [↓XX, ↓XD, ↓YX, fg0, fs0, fg1, fs1, fg2, fs2, fg3, fs3, fg4, fs4, fg5, fs5, fg6, fs6, fg7, fs7, fg8, fs8, dstOf, padF, List.length_cons, List.length_nil, Nat.reduceAdd, Nat.zero_add, Nat.zero_mul, Nat.mul_one, Nat.reducePow, Nat.le_refl, and_self, ↓reduceIte, Option.bind_some, Option.map_some, cond_true, cond_false, eq_self, decide_true, convNum, Int.reduceEq, Option.getD_none, Option.getD_some, Option.isNone_some, Option.isNone_none, Option.isSome_some, Bool.or_true, Bool.true_or, Bool.false_or, Nat.reduceEqDiff, Nat.reduceMul, Nat.reduceLeDiff, tyL, Try.f44, e69, hnone]
  have hall : (!xs.any fun x => !ruOk x) = xs.all ruOk := by rw [List.not_any_eq_all_not]; simp
  cases q : decide ((xs.length : Int) ≤ 8) with
  | true =>
    refine ⟨h', run_fn Try.func40 rfl rfl rfl rfl ?_, i2⟩
    simp only [↓XX, ↓XD, ↓YX, fg0, fs0, fg1, fs1, fg2, fs2, fg3, fs3, fg4, fs4, fg5, fs5, fg6, fs6, fg7, fs7, fg8, fs8, dstOf, padF, List.length_cons, List.length_nil, Nat.reduceAdd, Nat.zero_add, Nat.zero_mul, Nat.mul_one, Nat.reducePow, Nat.le_refl, and_self, ↓reduceIte, Option.bind_some, Option.map_some, cond_true, cond_false, eq_self, decide_true, convNum, Int.reduceEq, Option.getD_none, Option.getD_some, Option.isNone_some, Option.isNone_none, Option.isSome_some, Bool.or_true, Bool.true_or, Bool.false_or, Nat.reduceEqDiff, Nat.reduceMul, Nat.reduceLeDiff, tyL, Try.f40, lenV, q, e44, hall, Bool.and_true]
  | false =>
    refine ⟨h, run_fn Try.func40 rfl rfl rfl rfl ?_, Keep.refl _ _⟩
    simp only [↓XX, ↓XD, ↓YX, fg0, fs0, fg1, fs1, fg2, fs2, fg3, fs3, fg4, fs4, fg5, fs5, fg6, fs6, fg7, fs7, fg8, fs8, dstOf, padF, List.length_cons, List.length_nil, Nat.reduceAdd, Nat.zero_add, Nat.zero_mul, Nat.mul_one, Nat.reducePow, Nat.le_refl, and_self, ↓reduceIte, Option.bind_some, Option.map_some, cond_true, cond_false, eq_self, decide_true, convNum, Int.reduceEq, Option.getD_none, Option.getD_some, Option.isNone_some, Option.isNone_none, Option.isSome_some, Bool.or_true, Bool.true_or, Bool.false_or, Nat.reduceEqDiff, Nat.reduceMul, Nat.reduceLeDiff, tyL, Try.f40, lenV, q, Bool.and_false]
/-! ### what a rule means -/
def meansL (x : Ru) (e : En) : Bool := (decide (x.room = []) || decide (x.room = e.room)) && ((decide (x.user = []) || decide (x.user = e.user)) && (x.kind == 0 || x.kind == e.kind))
theorem r64 (x : Ru) (e : En) (l : Nat) (h : AH) : run V0 (.fn 64) l [S x.V, S e.V] h = some (.ret (.bool (meansL x e)) (h ++ [.row 0 4 x.C] ++ [.row 0 9 e.C])) := by
  obtain ⟨xq, xr, xu, xk⟩ := x
  obtain ⟨e0, e1, e2, e3, e4, e5, e6, e7, e8⟩ := e
  refine run_fn Try.func64 rfl rfl rfl rfl ?_
  simp only [↓XX, ↓XD, ↓YX, fg0, fs0, fg1, fs1, fg2, fs2, fg3, fs3, fg4, fs4, fg5, fs5, fg6, fs6, fg7, fs7, fg8, fs8, dstOf, padF, List.length_cons, List.length_nil, Nat.reduceAdd, Nat.zero_add, Nat.zero_mul, Nat.mul_one, Nat.reducePow, Nat.le_refl, and_self, ↓reduceIte, Option.bind_some, Option.map_some, cond_true, cond_false, eq_self, decide_true, convNum, Int.reduceEq, Option.getD_none, Option.getD_some, Option.isNone_some, Option.isNone_none, Option.isSome_some, Bool.or_true, Bool.true_or, Bool.false_or, Nat.reduceEqDiff, Nat.reduceMul, Nat.reduceLeDiff, tyL, Try.f64, ↓XH1, ↓XH2, eq_self, decide_true, List.getElem?_cons_zero, List.getElem?_cons_succ, List.all_cons, List.all_nil, Bool.and_self, Nat.reduceLeDiff, List.drop_zero, List.drop_succ_cons, List.take_succ_cons, List.take_zero, eqB]
  unfold meansL
  simp only
  cases decide (xr = []) <;> cases decide (xr = e0) <;> cases decide (xu = []) <;> cases decide (xu = e3) <;> cases (xk == 0) <;> rfl
theorem r71 (x : Ru) (e : En) (l : Nat) (h : AH) : run V0 (.fn 71) l [S x.V, S e.V] h = some (.ret (.bool (meansL x e)) (h ++ [.row 0 4 x.C] ++ [.row 0 9 e.C])) := by
  obtain ⟨xq, xr, xu, xk⟩ := x
  obtain ⟨e0, e1, e2, e3, e4, e5, e6, e7, e8⟩ := e
  refine run_fn Try.func71 rfl rfl rfl rfl ?_
  simp only [↓XX, ↓XD, ↓YX, fg0, fs0, fg1, fs1, fg2, fs2, fg3, fs3, fg4, fs4, fg5, fs5, fg6, fs6, fg7, fs7, fg8, fs8, dstOf, padF, List.length_cons, List.length_nil, Nat.reduceAdd, Nat.zero_add, Nat.zero_mul, Nat.mul_one, Nat.reducePow, Nat.le_refl, and_self, ↓reduceIte, Option.bind_some, Option.map_some, cond_true, cond_false, eq_self, decide_true, convNum, Int.reduceEq, Option.getD_none, Option.getD_some, Option.isNone_some, Option.isNone_none, Option.isSome_some, Bool.or_true, Bool.true_or, Bool.false_or, Nat.reduceEqDiff, Nat.reduceMul, Nat.reduceLeDiff, tyL, Try.f71, ↓XH1, ↓XH2, eq_self, decide_true, List.getElem?_cons_zero, List.getElem?_cons_succ, List.all_cons, List.all_nil, Bool.and_self, Nat.reduceLeDiff, List.drop_zero, List.drop_succ_cons, List.take_succ_cons, List.take_zero, eqB]
  unfold meansL
  simp only
  cases decide (xr = []) <;> cases decide (xr = e0) <;> cases decide (xu = []) <;> cases decide (xu = e3) <;> cases (xk == 0) <;> rfl
end Go.Abs
namespace Go.Abs
open Go.Proofs
set_option maxRecDepth 100000
set_option linter.unusedSimpArgs false
set_option pp.maxSteps 20000

/-- a strings.Builder and what was written into it -/
def Bd (h : AH) (ib : Nat) (s : Bs) : Prop :=
  (s = [] ∧ (h[ib]? = some (.row 0 292057776128 [.pointer none, .slice none 0 0]) ∨ h[ib]? = some (.row 0 292057776128 [pV ib 0 0, .slice none 0 0]))) ∨
  ∃ id g, h[ib]? = some (.row 0 292057776128 [pV ib 0 0, slV id g s.length s.length]) ∧ h[id]? = some (.row g 25769803777 (u8c s)) ∧ ib < id ∧ s ≠ []
/-- what writing into a builder leaves -/
structure Wr (ib : Nat) (h h' : AH) : Prop where
  len : h.length ≤ h'.length
  low : ∀ j, j < ib → h'[j]? = h[j]?
  oth : ∀ j g sz cs, h[j]? = some (.row g sz cs) → j ≠ ib → sz ≠ 25769803777 → h'[j]? = some (.row g sz cs)
theorem Wr.refl (ib : Nat) (h : AH) : Wr ib h h := ⟨Nat.le_refl _, fun _ _ => rfl, fun _ _ _ _ e _ _ => e⟩
theorem Wr.trans {ib : Nat} {a b c : AH} (x : Wr ib a b) (y : Wr ib b c) : Wr ib a c :=
  ⟨Nat.le_trans x.len y.len, fun j hj => (y.low j hj).trans (x.low j hj), fun j g sz cs e h1 h2 => y.oth j g sz cs (x.oth j g sz cs e h1 h2) h1 h2⟩
theorem Wr.keep {ib : Nat} {h h' : AH} (x : Wr ib h h') {n : Nat} (hn : n ≤ ib) : Keep n h h' := ⟨x.len, fun j hj => x.low j (by omega)⟩
theorem Wr.of_keep {ib : Nat} {h h' : AH} (k : Keep h.length h h') (hi : ib ≤ h.length) : Wr ib h h' :=
  ⟨k.1, fun j hj => k.2 j (by omega), fun j g sz cs e _ _ => k.get e (lt_of_get e)⟩
theorem Bd.keep {h h' : AH} {ib : Nat} {s : Bs} (b : Bd h ib s) (k : Keep h.length h h') : Bd h' ib s := by
  rcases b with ⟨h0, h1 | h1⟩ | ⟨id, g, h1, h2, h3, h4⟩
  · exact .inl ⟨h0, .inl (k.get h1 (lt_of_get h1))⟩
  · exact .inl ⟨h0, .inr (k.get h1 (lt_of_get h1))⟩
  · exact .inr ⟨id, g, k.get h1 (lt_of_get h1), k.get h2 (lt_of_get h2), h3, h4⟩
theorem Bd.lt {h : AH} {ib : Nat} {s : Bs} (b : Bd h ib s) : ib < h.length := by
  rcases b with ⟨h0, h1 | h1⟩ | ⟨id, g, h1, h2, h3, h4⟩ <;> exact lt_of_get h1
theorem cc_fresh {h : AH} {ib l : Nat} {b : Value} (hl : l ≤ ib) (e : h[ib]? = some (.row 0 292057776128 [.pointer none, b])) :
    run V0 (.fn 74) l [S (pV ib 0 0)] h = some (.ret (.tuple #[]) (h.set ib (.row 0 292057776128 [pV ib 0 0, b]))) := by
  refine run_prim (vs := [pV ib 0 0]) (p := pCopyCheck 67) rfl ?_
  simp only [pCopyCheck, rowAt_of e]
  rw [if_pos ⟨True.intro, by decide, hl⟩]
theorem cc_used {h : AH} {ib l : Nat} {b : Value} (hl : l ≤ ib) (e : h[ib]? = some (.row 0 292057776128 [pV ib 0 0, b])) :
    run V0 (.fn 74) l [S (pV ib 0 0)] h = some (.ret (.tuple #[]) h) := by
  refine run_prim (vs := [pV ib 0 0]) (p := pCopyCheck 67) rfl ?_
  simp only [pCopyCheck, rowAt_of e]
  rw [if_pos ⟨True.intro, by decide, hl⟩]
  simp
theorem getElem?_set_ne' {h : AH} {i j : Nat} {o : AObj} (hne : i ≠ j) : (h.set i o)[j]? = h[j]? := List.getElem?_set_ne hne
/-- what copyCheck leaves -/
theorem cc_run {h : AH} {ib l : Nat} {s : Bs} (hl : l ≤ ib) (b : Bd h ib s) : ∃ h' bv, run V0 (.fn 74) l [S (pV ib 0 0)] h = some (.ret (.tuple #[]) h') ∧ h'[ib]? = some (.row 0 292057776128 [pV ib 0 0, bv]) ∧
    ((bv = .slice none 0 0 ∧ s = []) ∨ ∃ id g, bv = slV id g s.length s.length ∧ h'[id]? = some (.row g 25769803777 (u8c s)) ∧ ib < id ∧ s ≠ []) ∧ Wr ib h h' := by
  rcases b with ⟨h0, h1 | h1⟩ | ⟨id, g, h1, h2, h3, h4⟩
  · refine ⟨_, _, cc_fresh hl h1, get_set _ h1, .inl ⟨rfl, h0⟩, by simp, fun j hj => getElem?_set_ne' (by omega), fun j g sz cs e hj _ => by rw [getElem?_set_ne' (fun q => hj q.symm)]; exact e⟩
  · exact ⟨_, _, cc_used hl h1, h1, .inl ⟨rfl, h0⟩, Wr.refl _ _⟩
  · exact ⟨_, _, cc_used hl h1, h1, .inr ⟨id, g, rfl, h2, h3, h4⟩, Wr.refl _ _⟩
/-- WriteString -/
theorem r_WriteString {h : AH} {ib l : Nat} {s : Bs} (t : Bs) (hl : l ≤ ib) (b : Bd h ib s) (hlen : s.length + t.length ≤ 2 ^ 46) :
    ∃ h', run V0 (.fn 50) l [S (pV ib 0 0), S (sV t)] h = some (.ret (.tuple #[iV t.length, .nilIface]) h') ∧ Bd h' ib (s ++ t) ∧ Wr ib h h' := by
  obtain ⟨h1, bv, a1, b1, c1, w1⟩ := cc_run hl b
  have ha : addOff (pV ib 0 0) 1 = some (pV ib 1 0) := rfl
  have hn : nonNil (pV ib 0 0) = some (pV ib 0 0) := rfl
  have hld : ld h1 (pV ib 1 0) = some bv := ld_of b1 rfl
  have hsz : ((B t).size : Int) = t.length := by rw [size_B]
  have fin : ∀ v h2, app l h1 bv (sV t) 1 25769803777 1 = some (v, h2) → h2[ib]? = some (.row 0 292057776128 [pV ib 0 0, bv]) → oneCell v = true →
      run V0 (.fn 50) l [S (pV ib 0 0), S (sV t)] h = some (.ret (.tuple #[iV t.length, .nilIface]) (h2.set ib (.row 0 292057776128 [pV ib 0 0, v]))) := by
    intro v h2 e1 e2 e3
    have hst : stN l h2 (pV ib 1 0) [v] = some (h2.set ib (.row 0 292057776128 [pV ib 0 0, v])) := st1_of hl e2 (by simp) e3
    refine run_fn Try.func50 rfl rfl rfl rfl ?_
    simp only [↓XX, ↓XD, ↓YX, fg0, fs0, fg1, fs1, fg2, fs2, fg3, fs3, fg4, fs4, fg5, fs5, fg6, fs6, fg7, fs7, fg8, fs8, dstOf, padF, List.length_cons, List.length_nil, Nat.reduceAdd, Nat.zero_add, Nat.zero_mul, Nat.mul_one, Nat.reducePow, Nat.le_refl, and_self, ↓reduceIte, Option.bind_some, Option.map_some, cond_true, cond_false, eq_self, decide_true, convNum, Int.reduceEq, Option.getD_none, Option.getD_some, Option.isNone_some, Option.isNone_none, Option.isSome_some, Bool.or_true, Bool.true_or, Bool.false_or, Nat.reduceEqDiff, Nat.reduceMul, Nat.reduceLeDiff, tyL, Try.f50, a1, ha, hn, hld, e1, hst, hsz]
  rcases c1 with ⟨rfl, rfl⟩ | ⟨id, g, rfl, d1, d2, d3⟩
  · cases t with
    | nil =>
      refine ⟨_, fin _ _ (app_none (.inl rfl)) b1 rfl, .inl ⟨rfl, .inr ?_⟩, ?_⟩
      · exact get_set _ b1
      · rw [set_same b1]; exact w1
    | cons x t =>
      have hb1 := lt_of_get b1
      have e2 : (h1 ++ [AObj.row 0 25769803777 (u8c (x :: t))])[ib]? = some (.row 0 292057776128 [pV ib 0 0, .slice none 0 0]) := by rw [List.getElem?_append_left hb1, b1]
      refine ⟨_, fin _ _ (app_nil (by simp) (by simp at hlen ⊢; omega)) e2 rfl, .inr ⟨h1.length, 0, ?_, ?_, hb1, by simp⟩, ?_⟩
      · exact get_set _ e2
      · rw [getElem?_set_ne' (by omega)]; simp [u8c]
      · refine w1.trans ⟨by simp, fun j hj => ?_, fun j g sz cs e hj _ => ?_⟩
        · rw [getElem?_set_ne' (by omega), List.getElem?_append_left (by omega)]
        · rw [getElem?_set_ne' (fun q => hj q.symm), List.getElem?_append_left (lt_of_get e)]; exact e
  · cases t with
    | nil =>
      refine ⟨_, fin _ _ (app_none (.inr ⟨_, _, _, _, _, rfl⟩)) b1 rfl, .inr ⟨id, g, ?_, ?_, d2, by simpa using d3⟩, ?_⟩
      · rw [List.append_nil]; exact get_set _ b1
      · rw [set_same b1, List.append_nil]; exact d1
      · rw [set_same b1]; exact w1
    | cons x t =>
      have e2 : (h1.set id (AObj.row (g + 1) 25769803777 (u8c s ++ (x :: t).map fun b => .int .u8 b.toNat)))[ib]? = some (.row 0 292057776128 [pV ib 0 0, slV id g s.length s.length]) := by rw [getElem?_set_ne' (by omega), b1]
      have hap := app_str (lim := l) (t := x :: t) (by omega) d1 (n := s.length) (by rw [u8c_len]) (by simp) (by omega)
      refine ⟨_, fin _ _ hap e2 rfl, .inr ⟨id, g + 1, ?_, ?_, d2, by simp⟩, ?_⟩
      · rw [List.length_append]; exact get_set _ e2
      · rw [getElem?_set_ne' (by omega), get_set _ d1]
        simp [u8c]
      · refine w1.trans ⟨by simp, fun j hj => ?_, fun j g2 sz cs e hj hz => ?_⟩
        · rw [getElem?_set_ne' (by omega), getElem?_set_ne' (by omega)]
        · have : id ≠ j := by rintro rfl; rw [d1] at e; cases e; exact hz rfl
          rw [getElem?_set_ne' (fun q => hj q.symm), getElem?_set_ne' this]; exact e
/-- String: what was written; it is not written into again -/
theorem r_String {h : AH} {ib l : Nat} {s : Bs} (hl : l ≤ ib) (b : Bd h ib s) (hlen : s.length ≤ 2 ^ 46) :
    ∃ h', run V0 (.fn 52) l [S (pV ib 0 0)] h = some (.ret (sV s) h') ∧ Wr ib h h' := by
  have ha : addOff (pV ib 0 0) 1 = some (pV ib 1 0) := rfl
  have hn : nonNil (pV ib 0 0) = some (pV ib 0 0) := rfl
  rcases b with ⟨rfl, h1⟩ | ⟨id, g, h1, h2, h3, h4⟩
  · have hld : ld h (pV ib 1 0) = some (.slice none 0 0) := by rcases h1 with h1 | h1 <;> exact ld_of h1 rfl
    have hd : dataP (.slice none 0 0) = some (.pointer none) := rfl
    have hs : strRow l h (.pointer none) 0 5 = some (⟨#[]⟩, h) := rfl
    refine ⟨h, run_fn Try.func52 rfl rfl rfl rfl ?_, Wr.refl _ _⟩
    simp (disch := (refine _root_.id ?_; kernel_rfl)) only [↓XX, ↓XD, ↓YX, fg0, fs0, fg1, fs1, fg2, fs2, fg3, fs3, fg4, fs4, fg5, fs5, fg6, fs6, fg7, fs7, fg8, fs8, dstOf, padF, List.length_cons, List.length_nil, Nat.reduceAdd, Nat.zero_add, Nat.zero_mul, Nat.mul_one, Nat.reducePow, Nat.le_refl, and_self, ↓reduceIte, Option.bind_some, Option.map_some, cond_true, cond_false, eq_self, decide_true, convNum, Int.reduceEq, Option.getD_none, Option.getD_some, Option.isNone_some, Option.isNone_none, Option.isSome_some, Bool.or_true, Bool.true_or, Bool.false_or, Nat.reduceEqDiff, Nat.reduceMul, Nat.reduceLeDiff, tyL, Try.f52, ha, hn, hld, hd, hs, lenV, Int.natCast_zero]
    try rfl
  · have hld : ld h (pV ib 1 0) = some (slV id g s.length s.length) := ld_of h1 rfl
    have h0 : 0 < s.length := List.length_pos_iff.2 h4
    have hd : dataP (slV id g s.length s.length) = some (pV id 0 g) := by simp only [dataP]; rw [if_pos h0]
    have hs : strRow l h (pV id 0 g) (s.length : Int) 5 = some (B s, h.set id (.row (g + 1) 0 [])) := strRow_of (by omega) (e := 5) h2 rfl h0 (by omega)
    refine ⟨h.set id (.row (g + 1) 0 []), run_fn Try.func52 rfl rfl rfl rfl ?_, by simp, fun j hj => getElem?_set_ne' (by omega), fun j g2 sz cs e hj hz => ?_⟩
    · simp (disch := (refine _root_.id ?_; kernel_rfl)) only [↓XX, ↓XD, ↓YX, fg0, fs0, fg1, fs1, fg2, fs2, fg3, fs3, fg4, fs4, fg5, fs5, fg6, fs6, fg7, fs7, fg8, fs8, dstOf, padF, List.length_cons, List.length_nil, Nat.reduceAdd, Nat.zero_add, Nat.zero_mul, Nat.mul_one, Nat.reducePow, Nat.le_refl, and_self, ↓reduceIte, Option.bind_some, Option.map_some, cond_true, cond_false, eq_self, decide_true, convNum, Int.reduceEq, Option.getD_none, Option.getD_some, Option.isNone_some, Option.isNone_none, Option.isSome_some, Bool.or_true, Bool.true_or, Bool.false_or, Nat.reduceEqDiff, Nat.reduceMul, Nat.reduceLeDiff, tyL, Try.f52, ha, hn, hld, hd, hs, lenV]
      try rfl
    · have : id ≠ j := by rintro rfl; rw [h2] at e; cases e; exact hz rfl
      rw [getElem?_set_ne' this]; exact e
end Go.Abs
namespace Go.Abs
open Go.Proofs
set_option maxRecDepth 100000
set_option linter.unusedSimpArgs false
set_option pp.maxSteps 20000

/-! ### the text of a rule -/
def kindsL : List Bs := [[], [106, 111, 105, 110], [108, 101, 97, 118, 101], [116, 97, 108, 107], [115, 117, 98, 106, 101, 99, 116], [114, 111, 108, 101], [114, 97, 110, 107]]
def kindW (k : Int) : Bs := kindsL.getD k.toNat []
def oA (s : Bs) : Bs := if s = [] then [42] else s
def ruHead (x : Ru) : Bs := if x.quiet then [113, 117, 105, 101, 116] else [115, 104, 111, 119]
def ruText (x : Ru) : Bs := ruHead x ++ [32] ++ oA x.room ++ [32] ++ oA x.user ++ [32] ++ oA (kindW x.kind) ++ [10]
def Ru.Fit20 (x : Ru) : Prop := x.room.length ≤ 2 ^ 20 ∧ x.user.length ≤ 2 ^ 20
theorem oA_len (s : Bs) : (oA s).length ≤ s.length + 1 := by unfold oA; split <;> simp
theorem kindW_len (k : Int) : (kindW k).length ≤ 7 := by
  unfold kindW
  rcases h : k.toNat with _ | _ | _ | _ | _ | _ | _ | n <;> simp [kindsL]
theorem ruHead_len (x : Ru) : (ruHead x).length ≤ 5 := by unfold ruHead; split <;> simp
theorem ruText_len (x : Ru) (h : x.Fit20) : (ruText x).length ≤ 2 ^ 22 := by
  obtain ⟨h1, h2⟩ := h
  have a := oA_len x.room
  have b := oA_len x.user
  have c := oA_len (kindW x.kind)
  have d := kindW_len x.kind
  have e := ruHead_len x
  simp only [ruText, List.length_append, List.length_cons, List.length_nil]
  omega
theorem cat_of {a b c : Bs} (e : a ++ b = c) (h : c.length ≤ 2 ^ 62) : catA (B a) (B b) = some (B c) := by
  subst e
  exact catA_B a b (by simpa using h)
theorem r72 (s : Bs) (l : Nat) (h : AH) : run V0 (.fn 72) l [S (sV s)] h = some (.ret (sV (oA s)) h) := by
  refine run_fn Try.func72 rfl rfl rfl rfl ?_
  unfold oA
  cases hq : decide (s = []) with
  | true => rw [if_pos (of_decide_eq_true hq)]; simp only [↓XX, ↓XD, ↓YX, fg0, fs0, fg1, fs1, fg2, fs2, fg3, fs3, fg4, fs4, fg5, fs5, fg6, fs6, fg7, fs7, fg8, fs8, dstOf, padF, List.length_cons, List.length_nil, Nat.reduceAdd, Nat.zero_add, Nat.zero_mul, Nat.mul_one, Nat.reducePow, Nat.le_refl, and_self, ↓reduceIte, Option.bind_some, Option.map_some, cond_true, cond_false, eq_self, decide_true, convNum, Int.reduceEq, Option.getD_none, Option.getD_some, Option.isNone_some, Option.isNone_none, Option.isSome_some, Bool.or_true, Bool.true_or, Bool.false_or, Nat.reduceEqDiff, Nat.reduceMul, Nat.reduceLeDiff, tyL, Try.f72, eqB, hq]
  | false => rw [if_neg (of_decide_eq_false hq)]; simp only [↓XX, ↓XD, ↓YX, fg0, fs0, fg1, fs1, fg2, fs2, fg3, fs3, fg4, fs4, fg5, fs5, fg6, fs6, fg7, fs7, fg8, fs8, dstOf, padF, List.length_cons, List.length_nil, Nat.reduceAdd, Nat.zero_add, Nat.zero_mul, Nat.mul_one, Nat.reducePow, Nat.le_refl, and_self, ↓reduceIte, Option.bind_some, Option.map_some, cond_true, cond_false, eq_self, decide_true, convNum, Int.reduceEq, Option.getD_none, Option.getD_some, Option.isNone_some, Option.isNone_none, Option.isSome_some, Bool.or_true, Bool.true_or, Bool.false_or, Nat.reduceEqDiff, Nat.reduceMul, Nat.reduceLeDiff, tyL, Try.f72, eqB, hq]
theorem r76 (s : Bs) (l : Nat) (h : AH) : run V0 (.fn 76) l [S (sV s)] h = some (.ret (sV (oA s)) h) := by
  refine run_fn Try.func76 rfl rfl rfl rfl ?_
  unfold oA
  cases hq : decide (s = []) with
  | true => rw [if_pos (of_decide_eq_true hq)]; simp only [↓XX, ↓XD, ↓YX, fg0, fs0, fg1, fs1, fg2, fs2, fg3, fs3, fg4, fs4, fg5, fs5, fg6, fs6, fg7, fs7, fg8, fs8, dstOf, padF, List.length_cons, List.length_nil, Nat.reduceAdd, Nat.zero_add, Nat.zero_mul, Nat.mul_one, Nat.reducePow, Nat.le_refl, and_self, ↓reduceIte, Option.bind_some, Option.map_some, cond_true, cond_false, eq_self, decide_true, convNum, Int.reduceEq, Option.getD_none, Option.getD_some, Option.isNone_some, Option.isNone_none, Option.isSome_some, Bool.or_true, Bool.true_or, Bool.false_or, Nat.reduceEqDiff, Nat.reduceMul, Nat.reduceLeDiff, tyL, Try.f76, eqB, hq]
  | false => rw [if_neg (of_decide_eq_false hq)]; simp only [↓XX, ↓XD, ↓YX, fg0, fs0, fg1, fs1, fg2, fs2, fg3, fs3, fg4, fs4, fg5, fs5, fg6, fs6, fg7, fs7, fg8, fs8, dstOf, padF, List.length_cons, List.length_nil, Nat.reduceAdd, Nat.zero_add, Nat.zero_mul, Nat.mul_one, Nat.reducePow, Nat.le_refl, and_self, ↓reduceIte, Option.bind_some, Option.map_some, cond_true, cond_false, eq_self, decide_true, convNum, Int.reduceEq, Option.getD_none, Option.getD_some, Option.isNone_some, Option.isNone_none, Option.isSome_some, Bool.or_true, Bool.true_or, Bool.false_or, Nat.reduceEqDiff, Nat.reduceMul, Nat.reduceLeDiff, tyL, Try.f76, eqB, hq]
def sL (xs : List Bs) : List Value := xs.map sV
theorem r73 (l : Nat) (h : AH) : run V0 (.fn 73) l [] h = some (.ret (newS h 7 7) (h ++ [.row 0 1 (sL kindsL)])) := by
  refine run_fn Try.func73 rfl rfl rfl rfl ?_
  simp only [↓XX, ↓XD, ↓YX, fg0, fs0, fg1, fs1, fg2, fs2, fg3, fs3, fg4, fs4, fg5, fs5, fg6, fs6, fg7, fs7, fg8, fs8, dstOf, padF, List.length_cons, List.length_nil, Nat.reduceAdd, Nat.zero_add, Nat.zero_mul, Nat.mul_one, Nat.reducePow, Nat.le_refl, and_self, ↓reduceIte, Option.bind_some, Option.map_some, cond_true, cond_false, eq_self, decide_true, convNum, Int.reduceEq, Option.getD_none, Option.getD_some, Option.isNone_some, Option.isNone_none, Option.isSome_some, Bool.or_true, Bool.true_or, Bool.false_or, Nat.reduceEqDiff, Nat.reduceMul, Nat.reduceLeDiff, tyL, Try.f73]
  rfl
theorem r77 (l : Nat) (h : AH) : run V0 (.fn 77) l [] h = some (.ret (newS h 7 7) (h ++ [.row 0 1 (sL kindsL)])) := by
  refine run_fn Try.func77 rfl rfl rfl rfl ?_
  simp only [↓XX, ↓XD, ↓YX, fg0, fs0, fg1, fs1, fg2, fs2, fg3, fs3, fg4, fs4, fg5, fs5, fg6, fs6, fg7, fs7, fg8, fs8, dstOf, padF, List.length_cons, List.length_nil, Nat.reduceAdd, Nat.zero_add, Nat.zero_mul, Nat.mul_one, Nat.reducePow, Nat.le_refl, and_self, ↓reduceIte, Option.bind_some, Option.map_some, cond_true, cond_false, eq_self, decide_true, convNum, Int.reduceEq, Option.getD_none, Option.getD_some, Option.isNone_some, Option.isNone_none, Option.isSome_some, Bool.or_true, Bool.true_or, Bool.false_or, Nat.reduceEqDiff, Nat.reduceMul, Nat.reduceLeDiff, tyL, Try.f77]
  rfl
theorem kind_ix (h : AH) {k : Int} (hk : 0 ≤ k ∧ k < 7) : ixAddr (newS h 7 7) k 1 = some (pV h.length k.toNat 0) := by
  simp only [ixAddr, newS]
  rw [if_pos (by omega)]
  simp
theorem kind_ld (h : AH) (l : AH) {k : Int} (hk : 0 ≤ k ∧ k < 7) (e : l[h.length]? = some (.row 0 1 (sL kindsL))) : ld l (pV h.length k.toNat 0) = some (sV (kindW k)) := by
  refine ld_of e ?_
  unfold kindW
  rcases hk' : k.toNat with _ | _ | _ | _ | _ | _ | _ | n <;> first | rfl | omega
/-- l17Put -/
theorem r49 (x : Ru) (hx : x.Fit20) (hk : 0 ≤ x.kind ∧ x.kind < 7) (l : Nat) (h : AH) : run V0 (.fn 49) l [S x.V] h = some (.ret (sV (ruText x)) (h ++ [.row 0 4 x.C] ++ [.row 0 1 (sL kindsL)])) := by
  refine run_fn Try.func49 rfl rfl rfl rfl ?_
  have ht := ruText_len x hx
  obtain ⟨q, rm, us, kd⟩ := x
  simp only at hk
  have hix := kind_ix (h ++ [AObj.row 0 4 [Value.bool q, sV rm, sV us, iV kd]]) hk
  have hld := kind_ld (h ++ [AObj.row 0 4 [Value.bool q, sV rm, sV us, iV kd]]) (h ++ [AObj.row 0 4 [Value.bool q, sV rm, sV us, iV kd]] ++ [AObj.row 0 1 (sL kindsL)]) hk (by simp)
  have tx : ruText ⟨q, rm, us, kd⟩ = ruHead ⟨q, rm, us, kd⟩ ++ [32] ++ oA rm ++ [32] ++ oA us ++ [32] ++ oA (kindW kd) ++ [10] := rfl
  rw [tx] at ht ⊢
  simp only [List.length_append, List.length_cons, List.length_nil] at ht
  cases q with
  | true =>
    have hh : ruHead ⟨true, rm, us, kd⟩ = [113, 117, 105, 101, 116] := rfl
    rw [hh] at ht ⊢
    simp only [List.length_cons, List.length_nil] at ht
    have c1 : catA (B [113, 117, 105, 101, 116]) (B [32]) = some (B ([113, 117, 105, 101, 116] ++ [32])) := cat_of rfl (by simp)
    have c2 : catA (B ([113, 117, 105, 101, 116] ++ [32])) (B (oA rm)) = some (B ([113, 117, 105, 101, 116] ++ [32] ++ oA rm)) := cat_of rfl (by simp; omega)
    have c3 : catA (B ([113, 117, 105, 101, 116] ++ [32] ++ oA rm)) (B [32]) = some (B ([113, 117, 105, 101, 116] ++ [32] ++ oA rm ++ [32])) := cat_of rfl (by simp; omega)
    have c4 : catA (B ([113, 117, 105, 101, 116] ++ [32] ++ oA rm ++ [32])) (B (oA us)) = some (B ([113, 117, 105, 101, 116] ++ [32] ++ oA rm ++ [32] ++ oA us)) := cat_of rfl (by simp; omega)
    have c5 : catA (B ([113, 117, 105, 101, 116] ++ [32] ++ oA rm ++ [32] ++ oA us)) (B [32]) = some (B ([113, 117, 105, 101, 116] ++ [32] ++ oA rm ++ [32] ++ oA us ++ [32])) := cat_of rfl (by simp; omega)
    have c6 : catA (B ([113, 117, 105, 101, 116] ++ [32] ++ oA rm ++ [32] ++ oA us ++ [32])) (B (oA (kindW kd))) = some (B ([113, 117, 105, 101, 116] ++ [32] ++ oA rm ++ [32] ++ oA us ++ [32] ++ oA (kindW kd))) := cat_of rfl (by simp; omega)
    have c7 : catA (B ([113, 117, 105, 101, 116] ++ [32] ++ oA rm ++ [32] ++ oA us ++ [32] ++ oA (kindW kd))) (B [10]) = some (B ([113, 117, 105, 101, 116] ++ [32] ++ oA rm ++ [32] ++ oA us ++ [32] ++ oA (kindW kd) ++ [10])) := cat_of rfl (by simp; omega)
    simp (disch := (refine _root_.id ?_; kernel_rfl)) only [↓hld, ↓XX, ↓XD, ↓YX, fg0, fs0, fg1, fs1, fg2, fs2, fg3, fs3, fg4, fs4, fg5, fs5, fg6, fs6, fg7, fs7, fg8, fs8, dstOf, padF, List.length_cons, List.length_nil, Nat.reduceAdd, Nat.zero_add, Nat.zero_mul, Nat.mul_one, Nat.reducePow, Nat.le_refl, and_self, ↓reduceIte, Option.bind_some, Option.map_some, cond_true, cond_false, eq_self, decide_true, convNum, Int.reduceEq, Option.getD_none, Option.getD_some, Option.isNone_some, Option.isNone_none, Option.isSome_some, Bool.or_true, Bool.true_or, Bool.false_or, Nat.reduceEqDiff, Nat.reduceMul, Nat.reduceLeDiff, tyL, Try.f49, ↓XH1, ↓XH2, eq_self, decide_true, List.getElem?_cons_zero, List.getElem?_cons_succ, List.all_cons, List.all_nil, Bool.and_self, Nat.reduceLeDiff, List.drop_zero, List.drop_succ_cons, List.take_succ_cons, List.take_zero, r72, r73, hix, c1, c2, c3, c4, c5, c6, c7]
  | false =>
    have hh : ruHead ⟨false, rm, us, kd⟩ = [115, 104, 111, 119] := rfl
    rw [hh] at ht ⊢
    simp only [List.length_cons, List.length_nil] at ht
    have c1 : catA (B [115, 104, 111, 119]) (B [32]) = some (B ([115, 104, 111, 119] ++ [32])) := cat_of rfl (by simp)
    have c2 : catA (B ([115, 104, 111, 119] ++ [32])) (B (oA rm)) = some (B ([115, 104, 111, 119] ++ [32] ++ oA rm)) := cat_of rfl (by simp; omega)
    have c3 : catA (B ([115, 104, 111, 119] ++ [32] ++ oA rm)) (B [32]) = some (B ([115, 104, 111, 119] ++ [32] ++ oA rm ++ [32])) := cat_of rfl (by simp; omega)
    have c4 : catA (B ([115, 104, 111, 119] ++ [32] ++ oA rm ++ [32])) (B (oA us)) = some (B ([115, 104, 111, 119] ++ [32] ++ oA rm ++ [32] ++ oA us)) := cat_of rfl (by simp; omega)
    have c5 : catA (B ([115, 104, 111, 119] ++ [32] ++ oA rm ++ [32] ++ oA us)) (B [32]) = some (B ([115, 104, 111, 119] ++ [32] ++ oA rm ++ [32] ++ oA us ++ [32])) := cat_of rfl (by simp; omega)
    have c6 : catA (B ([115, 104, 111, 119] ++ [32] ++ oA rm ++ [32] ++ oA us ++ [32])) (B (oA (kindW kd))) = some (B ([115, 104, 111, 119] ++ [32] ++ oA rm ++ [32] ++ oA us ++ [32] ++ oA (kindW kd))) := cat_of rfl (by simp; omega)
    have c7 : catA (B ([115, 104, 111, 119] ++ [32] ++ oA rm ++ [32] ++ oA us ++ [32] ++ oA (kindW kd))) (B [10]) = some (B ([115, 104, 111, 119] ++ [32] ++ oA rm ++ [32] ++ oA us ++ [32] ++ oA (kindW kd) ++ [10])) := cat_of rfl (by simp; omega)
    simp (disch := (refine _root_.id ?_; kernel_rfl)) only [↓hld, ↓XX, ↓XD, ↓YX, fg0, fs0, fg1, fs1, fg2, fs2, fg3, fs3, fg4, fs4, fg5, fs5, fg6, fs6, fg7, fs7, fg8, fs8, dstOf, padF, List.length_cons, List.length_nil, Nat.reduceAdd, Nat.zero_add, Nat.zero_mul, Nat.mul_one, Nat.reducePow, Nat.le_refl, and_self, ↓reduceIte, Option.bind_some, Option.map_some, cond_true, cond_false, eq_self, decide_true, convNum, Int.reduceEq, Option.getD_none, Option.getD_some, Option.isNone_some, Option.isNone_none, Option.isSome_some, Bool.or_true, Bool.true_or, Bool.false_or, Nat.reduceEqDiff, Nat.reduceMul, Nat.reduceLeDiff, tyL, Try.f49, ↓XH1, ↓XH2, eq_self, decide_true, List.getElem?_cons_zero, List.getElem?_cons_succ, List.all_cons, List.all_nil, Bool.and_self, Nat.reduceLeDiff, List.drop_zero, List.drop_succ_cons, List.take_succ_cons, List.take_zero, r72, r73, hix, c1, c2, c3, c4, c5, c6, c7]
/-- strings.Join of four texts -/
theorem join4 (a b c d t : Bs) (l : Nat) (h : AH) (ht : a ++ [32] ++ b ++ [32] ++ c ++ [32] ++ d = t) (hl : t.length ≤ 2 ^ 40) :
    run V0 (.fn 75) l [S (newS h 4 4), S (sV [32])] (h ++ [.row 0 1 [sV a, sV b, sV c, sV d]]) = some (.ret (sV t) (h ++ [.row 0 1 [sV a, sV b, sV c, sV d]])) := by
  refine run_prim (vs := [.slice (some ⟨h.length, 0, some 0⟩) 4 4, sV [32]]) (p := pJoin) rfl ?_
  have e : (h ++ [AObj.row 0 1 [sV a, sV b, sV c, sV d]])[h.length]? = some (.row 0 1 [sV a, sV b, sV c, sV d]) := by simp
  have hj : Lib.join ([B a, B b, B c, B d].map (·.data.toList)) (B [32]).data.toList = t := by
    subst ht
    show Lib.join [a, b, c, d] [32] = _
    rw [Lib.join_cons]
    simp [Lib.joinTail]
  simp only [pJoin, rowAt_of e, Option.bind_some]
  have hc : cut [sV a, sV b, sV c, sV d] 0 4 = some [sV a, sV b, sV c, sV d] := rfl
  have hs : strsOf [sV a, sV b, sV c, sV d] = some [B a, B b, B c, B d] := rfl
  rw [hc]
  simp only [Option.bind_some, hs]
  rw [hj, if_pos ⟨by omega, by omega⟩]
  rfl
/-- Rule.text -/
theorem r51 (x : Ru) (hx : x.Fit20) (hk : 0 ≤ x.kind ∧ x.kind < 7) (l : Nat) (h : AH) : ∃ h', run V0 (.fn 51) l [S x.V] h = some (.ret (sV (ruText x)) h') ∧ Keep h.length h h' := by
  have ht := ruText_len x hx
  obtain ⟨q, rm, us, kd⟩ := x
  simp only at hk
  have hix := kind_ix (h ++ [AObj.row 0 4 [Value.bool q, sV rm, sV us, iV kd]]) hk
  have hld := kind_ld (h ++ [AObj.row 0 4 [Value.bool q, sV rm, sV us, iV kd]]) (h ++ [AObj.row 0 4 [Value.bool q, sV rm, sV us, iV kd]] ++ [AObj.row 0 1 (sL kindsL)]) hk (by simp)
  have tx : ruText ⟨q, rm, us, kd⟩ = ruHead ⟨q, rm, us, kd⟩ ++ [32] ++ oA rm ++ [32] ++ oA us ++ [32] ++ oA (kindW kd) ++ [10] := rfl
  rw [tx] at ht ⊢
  simp only [List.length_append, List.length_cons, List.length_nil] at ht
  have hj := join4 (ruHead ⟨q, rm, us, kd⟩) (oA rm) (oA us) (oA (kindW kd)) _ l (h ++ [AObj.row 0 4 [Value.bool q, sV rm, sV us, iV kd]] ++ [AObj.row 0 1 (sL kindsL)]) rfl (by simp; omega)
  have c7 : catA (B (ruHead ⟨q, rm, us, kd⟩ ++ [32] ++ oA rm ++ [32] ++ oA us ++ [32] ++ oA (kindW kd))) (B [10]) = some (B (ruHead ⟨q, rm, us, kd⟩ ++ [32] ++ oA rm ++ [32] ++ oA us ++ [32] ++ oA (kindW kd) ++ [10])) := cat_of rfl (by simp; omega)
  refine ⟨h ++ [.row 0 4 [Value.bool q, sV rm, sV us, iV kd]] ++ [.row 0 1 (sL kindsL)] ++ [.row 0 1 [sV (ruHead ⟨q, rm, us, kd⟩), sV (oA rm), sV (oA us), sV (oA (kindW kd))]], run_fn Try.func51 rfl rfl rfl rfl ?_, by rw [List.append_assoc, List.append_assoc]; exact Keep.app _ _ (Nat.le_refl _)⟩
  cases q with
  | true =>
    have hh : ruHead ⟨true, rm, us, kd⟩ = [113, 117, 105, 101, 116] := rfl
    rw [hh] at hj c7 ⊢
    simp (disch := (refine _root_.id ?_; kernel_rfl)) only [↓hld, ↓XX, ↓XD, ↓YX, fg0, fs0, fg1, fs1, fg2, fs2, fg3, fs3, fg4, fs4, fg5, fs5, fg6, fs6, fg7, fs7, fg8, fs8, dstOf, padF, List.length_cons, List.length_nil, Nat.reduceAdd, Nat.zero_add, Nat.zero_mul, Nat.mul_one, Nat.reducePow, Nat.le_refl, and_self, ↓reduceIte, Option.bind_some, Option.map_some, cond_true, cond_false, eq_self, decide_true, convNum, Int.reduceEq, Option.getD_none, Option.getD_some, Option.isNone_some, Option.isNone_none, Option.isSome_some, Bool.or_true, Bool.true_or, Bool.false_or, Nat.reduceEqDiff, Nat.reduceMul, Nat.reduceLeDiff, tyL, Try.f51, ↓XH1, ↓XH2, eq_self, decide_true, List.getElem?_cons_zero, List.getElem?_cons_succ, List.all_cons, List.all_nil, Bool.and_self, Nat.reduceLeDiff, List.drop_zero, List.drop_succ_cons, List.take_succ_cons, List.take_zero, r76, r77, hix, ↓hj, c7]
  | false =>
    have hh : ruHead ⟨false, rm, us, kd⟩ = [115, 104, 111, 119] := rfl
    rw [hh] at hj c7 ⊢
    simp (disch := (refine _root_.id ?_; kernel_rfl)) only [↓hld, ↓XX, ↓XD, ↓YX, fg0, fs0, fg1, fs1, fg2, fs2, fg3, fs3, fg4, fs4, fg5, fs5, fg6, fs6, fg7, fs7, fg8, fs8, dstOf, padF, List.length_cons, List.length_nil, Nat.reduceAdd, Nat.zero_add, Nat.zero_mul, Nat.mul_one, Nat.reducePow, Nat.le_refl, and_self, ↓reduceIte, Option.bind_some, Option.map_some, cond_true, cond_false, eq_self, decide_true, convNum, Int.reduceEq, Option.getD_none, Option.getD_some, Option.isNone_some, Option.isNone_none, Option.isSome_some, Bool.or_true, Bool.true_or, Bool.false_or, Nat.reduceEqDiff, Nat.reduceMul, Nat.reduceLeDiff, tyL, Try.f51, ↓XH1, ↓XH2, eq_self, decide_true, List.getElem?_cons_zero, List.getElem?_cons_succ, List.all_cons, List.all_nil, Bool.and_self, Nat.reduceLeDiff, List.drop_zero, List.drop_succ_cons, List.take_succ_cons, List.take_zero, r76, r77, hix, ↓hj, c7]
end Go.Abs
namespace Go.Abs
open Go.Proofs
set_option maxRecDepth 100000
set_option linter.unusedSimpArgs false
set_option pp.maxSteps 20000

def rulesT (xs : List Ru) : Bs := xs.flatMap ruText
theorem rulesT_len : ∀ (r : List Ru), (∀ x ∈ r, x.Fit20) → (rulesT r).length ≤ r.length * 2 ^ 22
  | [], _ => by simp [rulesT]
  | x :: r, h => by
    have ih := rulesT_len r (fun y hy => h y (by simp [hy]))
    have h1 := ruText_len x (h x (by simp))
    simp only [rulesT, List.flatMap_cons, List.length_append, List.length_cons] at ih ⊢
    rw [Nat.succ_mul]
    omega
def KOk (x : Ru) : Prop := 0 ≤ x.kind ∧ x.kind < 7
theorem KOk_of {x : Ru} (h : ruOk x = true) : KOk x := by
  unfold ruOk inI at h
  simp only [Bool.and_eq_true, decide_eq_true_eq] at h
  exact ⟨h.2.1, by omega⟩
/-- spec.RulesPut: its loop -/
theorem L22 (id g c n l : Nat) (hn : n ≤ 2 ^ 40) : ∀ (r d : List Ru) (acc : Bs) (h : AH), d.length + r.length = n → (∀ x ∈ r, x.Fit20 ∧ KOk x) → h[id]? = some (.row g 4 (Ru.R (d ++ r))) → acc.length + (rulesT r).length ≤ 2 ^ 46 →
    ∃ h', L22_0 l (slV id g n c) (sV acc) (iV d.length) h = some (.ret (sV (acc ++ rulesT r)) h') ∧ Keep h.length h h' := by
  intro r
  induction r with
  | nil =>
    intro d acc h hk hf e hb
    simp only [List.length_nil, Nat.add_zero] at hk
    have hlt : decide ((d.length : Int) < (n : Int)) = false := by rw [decide_eq_false_iff_not]; omega
    refine ⟨h, run_code Try.func22 rfl rfl ?_, Keep.refl _ _⟩
    simp only [↓XX, ↓XD, ↓YX, fg0, fs0, fg1, fs1, fg2, fs2, fg3, fs3, fg4, fs4, fg5, fs5, fg6, fs6, fg7, fs7, fg8, fs8, dstOf, padF, List.length_cons, List.length_nil, Nat.reduceAdd, Nat.zero_add, Nat.zero_mul, Nat.mul_one, Nat.reducePow, Nat.le_refl, and_self, ↓reduceIte, Option.bind_some, Option.map_some, cond_true, cond_false, eq_self, decide_true, convNum, Int.reduceEq, Option.getD_none, Option.getD_some, Option.isNone_some, Option.isNone_none, Option.isSome_some, Bool.or_true, Bool.true_or, Bool.false_or, Nat.reduceEqDiff, Nat.reduceMul, Nat.reduceLeDiff, tyL, Try.f22, lenV, hlt, rulesT, List.flatMap_nil, List.append_nil]
  | cons x r ih =>
    intro d acc h hk hf e hb
    simp only [List.length_cons] at hk
    have hlt : decide ((d.length : Int) < (n : Int)) = true := by rw [decide_eq_true_iff]; omega
    have hix : ixAddr (slV id g n c) (d.length : Int) 4 = some (pV id (d.length * 4) g) := by rw [ixAddr_sl (by omega)]; simp
    have hld : ldN h (pV id (d.length * 4) g) 4 = some x.C := Ru.ldN e
    have hw : IntKind.i64.wrap ((d.length : Int) + 1) = (((d ++ [x]).length : Nat) : Int) := natCast_succ_wrap (by omega) (by simp)
    have hrt : rulesT (x :: r) = ruText x ++ rulesT r := by simp [rulesT]
    rw [hrt] at hb ⊢
    simp only [List.length_append] at hb
    have a1 := r49 x (hf x (by simp)).1 (hf x (by simp)).2 l h
    have kp : Keep h.length h (h ++ [AObj.row 0 4 x.C] ++ [AObj.row 0 1 (sL kindsL)]) := by rw [List.append_assoc]; exact Keep.app _ _ (Nat.le_refl _)
    obtain ⟨h', i1, i2⟩ := ih (d ++ [x]) (acc ++ ruText x) _ (by simp; omega) (fun y hy => hf y (by simp [hy])) (by rw [kp.get e (lt_of_get e)]; simp) (by simp only [List.length_append]; omega)
    have c1 : catA (B acc) (B (ruText x)) = some (B (acc ++ ruText x)) := cat_of rfl (by simp; omega)
    refine ⟨h', run_code Try.func22 rfl rfl ?_, kp.trans (i2.le kp.1)⟩
    simp only [↓XX, ↓XD, ↓YX, fg0, fs0, fg1, fs1, fg2, fs2, fg3, fs3, fg4, fs4, fg5, fs5, fg6, fs6, fg7, fs7, fg8, fs8, dstOf, padF, List.length_cons, List.length_nil, Nat.reduceAdd, Nat.zero_add, Nat.zero_mul, Nat.mul_one, Nat.reducePow, Nat.le_refl, and_self, ↓reduceIte, Option.bind_some, Option.map_some, cond_true, cond_false, eq_self, decide_true, convNum, Int.reduceEq, Option.getD_none, Option.getD_some, Option.isNone_some, Option.isNone_none, Option.isSome_some, Bool.or_true, Bool.true_or, Bool.false_or, Nat.reduceEqDiff, Nat.reduceMul, Nat.reduceLeDiff, tyL, Try.f22, lenV, hlt, hix, hld, hw, a1, c1, i1]
    rw [List.append_assoc]
def rokL (xs : List Ru) : Bool := xs.all ruOk && decide ((xs.length : Int) ≤ 8)
def rputL (xs : List Ru) : Bs := if rokL xs then rulesT xs else []
theorem rokL_k {xs : List Ru} (h : rokL xs = true) : ∀ x ∈ xs, KOk x := by
  unfold rokL at h
  simp only [Bool.and_eq_true, List.all_eq_true] at h
  exact fun x hx => KOk_of (h.1 x hx)
theorem Ru.Fit20.fit {x : Ru} (h : x.Fit20) : x.Fit := ⟨by have := h.1; omega, by have := h.2; omega⟩
theorem r22 (id g c l : Nat) (xs : List Ru) (h : AH) (hn : xs.length ≤ 2 ^ 20) (hf : ∀ x ∈ xs, x.Fit20) (e : h[id]? = some (.row g 4 (Ru.R xs))) :
    ∃ h', run V0 (.fn 22) l [S (slV id g xs.length c)] h = some (.ret (sV (rputL xs)) h') ∧ Keep h.length h h' := by
  obtain ⟨h1, a1, k1⟩ := r37 id g c l xs h (by omega) (fun x hx => Ru.Fit20.fit (hf x hx)) e
  have : (xs.all ruOk && decide ((xs.length : Int) ≤ 8)) = rokL xs := rfl
  rw [this] at a1
  unfold rputL
  cases hq : rokL xs with
  | false =>
    rw [hq] at a1
    refine ⟨h1, run_fn Try.func22 rfl rfl rfl rfl ?_, k1⟩
    simp only [↓XX, ↓XD, ↓YX, fg0, fs0, fg1, fs1, fg2, fs2, fg3, fs3, fg4, fs4, fg5, fs5, fg6, fs6, fg7, fs7, fg8, fs8, dstOf, padF, List.length_cons, List.length_nil, Nat.reduceAdd, Nat.zero_add, Nat.zero_mul, Nat.mul_one, Nat.reducePow, Nat.le_refl, and_self, ↓reduceIte, Option.bind_some, Option.map_some, cond_true, cond_false, eq_self, decide_true, convNum, Int.reduceEq, Option.getD_none, Option.getD_some, Option.isNone_some, Option.isNone_none, Option.isSome_some, Bool.or_true, Bool.true_or, Bool.false_or, Nat.reduceEqDiff, Nat.reduceMul, Nat.reduceLeDiff, tyL, Try.f22, a1, Bool.not_false]
    try rfl
  | true =>
    rw [hq] at a1
    have hb := rulesT_len xs hf
    obtain ⟨h2, a2, k2⟩ := L22 id g c xs.length l (by omega) xs [] [] h1 (by simp) (fun x hx => ⟨hf x hx, rokL_k hq x hx⟩) (by simpa using k1.get e (lt_of_get e)) (by simp; omega)
    refine ⟨h2, run_fn Try.func22 rfl rfl rfl rfl ?_, k1.trans (k2.le k1.1)⟩
    simp only [↓XX, ↓XD, ↓YX, fg0, fs0, fg1, fs1, fg2, fs2, fg3, fs3, fg4, fs4, fg5, fs5, fg6, fs6, fg7, fs7, fg8, fs8, dstOf, padF, List.length_cons, List.length_nil, Nat.reduceAdd, Nat.zero_add, Nat.zero_mul, Nat.mul_one, Nat.reducePow, Nat.le_refl, and_self, ↓reduceIte, Option.bind_some, Option.map_some, cond_true, cond_false, eq_self, decide_true, convNum, Int.reduceEq, Option.getD_none, Option.getD_some, Option.isNone_some, Option.isNone_none, Option.isSome_some, Bool.or_true, Bool.true_or, Bool.false_or, Nat.reduceEqDiff, Nat.reduceMul, Nat.reduceLeDiff, tyL, Try.f22, a1, Bool.not_true]
    exact a2
/-- impl.RulesPut: its loop -/
theorem L23 (id g c n l ib : Nat) (hn : n ≤ 2 ^ 40) (hl : l ≤ ib) (hid : id < ib) : ∀ (r d : List Ru) (acc : Bs) (h : AH), d.length + r.length = n → (∀ x ∈ r, x.Fit20 ∧ KOk x) → Bd h ib acc → h[id]? = some (.row g 4 (Ru.R (d ++ r))) → acc.length + (rulesT r).length ≤ 2 ^ 45 →
    ∃ h', L23_0 l (pV ib 0 0) (slV id g n c) (iV n) (iV d.length) h = some (.ret (sV (acc ++ rulesT r)) h') ∧ Wr ib h h' := by
  intro r
  induction r with
  | nil =>
    intro d acc h hk hf b e hb
    simp only [List.length_nil, Nat.add_zero] at hk
    have hlt : decide ((d.length : Int) < (n : Int)) = false := by rw [decide_eq_false_iff_not]; omega
    obtain ⟨h1, a1, w1⟩ := r_String hl b (by omega)
    refine ⟨h1, run_code Try.func23 rfl rfl ?_, w1⟩
    simp only [↓XX, ↓XD, ↓YX, fg0, fs0, fg1, fs1, fg2, fs2, fg3, fs3, fg4, fs4, fg5, fs5, fg6, fs6, fg7, fs7, fg8, fs8, dstOf, padF, List.length_cons, List.length_nil, Nat.reduceAdd, Nat.zero_add, Nat.zero_mul, Nat.mul_one, Nat.reducePow, Nat.le_refl, and_self, ↓reduceIte, Option.bind_some, Option.map_some, cond_true, cond_false, eq_self, decide_true, convNum, Int.reduceEq, Option.getD_none, Option.getD_some, Option.isNone_some, Option.isNone_none, Option.isSome_some, Bool.or_true, Bool.true_or, Bool.false_or, Nat.reduceEqDiff, Nat.reduceMul, Nat.reduceLeDiff, tyL, Try.f23, hlt, a1, rulesT, List.flatMap_nil, List.append_nil]
  | cons x r ih =>
    intro d acc h hk hf b e hb
    simp only [List.length_cons] at hk
    have hlt : decide ((d.length : Int) < (n : Int)) = true := by rw [decide_eq_true_iff]; omega
    have hix : ixAddr (slV id g n c) (d.length : Int) 4 = some (pV id (d.length * 4) g) := by rw [ixAddr_sl (by omega)]; simp
    have hld : ldN h (pV id (d.length * 4) g) 4 = some x.C := Ru.ldN e
    have hw : IntKind.i64.wrap ((d.length : Int) + 1) = (((d ++ [x]).length : Nat) : Int) := natCast_succ_wrap (by omega) (by simp)
    have hrt : rulesT (x :: r) = ruText x ++ rulesT r := by simp [rulesT]
    rw [hrt] at hb ⊢
    simp only [List.length_append] at hb
    have hib := b.lt
    have hl1 : l ≤ h.length := by omega
    have k0 : Keep h.length h (h ++ [AObj.row 0 4 x.C]) := Keep.app _ _ (Nat.le_refl _)
    obtain ⟨h2, a2, k2⟩ := r51 x (hf x (by simp)).1 (hf x (by simp)).2 l (h ++ [AObj.row 0 4 x.C])
    have k02 := k0.trans (k2.le k0.1)
    obtain ⟨h3, a3, b3, w3⟩ := r_WriteString (ib := ib) (ruText x) hl (b.keep k02) (by omega)
    have w03 := (Wr.of_keep k02 (by omega : ib ≤ h.length)).trans w3
    obtain ⟨h', i1, i2⟩ := ih (d ++ [x]) (acc ++ ruText x) h3 (by simp; omega) (fun y hy => hf y (by simp [hy])) b3 (by rw [w03.oth _ _ _ _ e (by omega) (by decide)]; simp) (by simp only [List.length_append]; omega)
    refine ⟨h', run_code Try.func23 rfl rfl ?_, w03.trans i2⟩
    simp only [↓hld, ↓XX, ↓XD, ↓YX, fg0, fs0, fg1, fs1, fg2, fs2, fg3, fs3, fg4, fs4, fg5, fs5, fg6, fs6, fg7, fs7, fg8, fs8, dstOf, padF, List.length_cons, List.length_nil, Nat.reduceAdd, Nat.zero_add, Nat.zero_mul, Nat.mul_one, Nat.reducePow, Nat.le_refl, and_self, ↓reduceIte, Option.bind_some, Option.map_some, cond_true, cond_false, eq_self, decide_true, convNum, Int.reduceEq, Option.getD_none, Option.getD_some, Option.isNone_some, Option.isNone_none, Option.isSome_some, Bool.or_true, Bool.true_or, Bool.false_or, Nat.reduceEqDiff, Nat.reduceMul, Nat.reduceLeDiff, tyL, Try.f23, ↓XH1, ↓XH2, eq_self, decide_true, List.getElem?_cons_zero, List.getElem?_cons_succ, List.all_cons, List.all_nil, Bool.and_self, Nat.reduceLeDiff, List.drop_zero, List.drop_succ_cons, List.take_succ_cons, List.take_zero, hlt, hix, hw, hl1, a2, a3, i1]
    rw [List.append_assoc]
theorem r23 (id g c l : Nat) (xs : List Ru) (h : AH) (hl : l ≤ h.length) (hn : xs.length ≤ 2 ^ 20) (hf : ∀ x ∈ xs, x.Fit20) (e : h[id]? = some (.row g 4 (Ru.R xs))) :
    ∃ h', run V0 (.fn 23) l [S (slV id g xs.length c)] h = some (.ret (sV (rputL xs)) h') ∧ Keep h.length h h' := by
  obtain ⟨h1, a1, k1⟩ := r40 id g c l xs h (by omega) (fun x hx => Ru.Fit20.fit (hf x hx)) e
  have : (xs.all ruOk && decide ((xs.length : Int) ≤ 8)) = rokL xs := rfl
  rw [this] at a1
  unfold rputL
  cases hq : rokL xs with
  | false =>
    rw [hq] at a1
    refine ⟨h1, run_fn Try.func23 rfl rfl rfl rfl ?_, k1⟩
    simp only [↓XX, ↓XD, ↓YX, fg0, fs0, fg1, fs1, fg2, fs2, fg3, fs3, fg4, fs4, fg5, fs5, fg6, fs6, fg7, fs7, fg8, fs8, dstOf, padF, List.length_cons, List.length_nil, Nat.reduceAdd, Nat.zero_add, Nat.zero_mul, Nat.mul_one, Nat.reducePow, Nat.le_refl, and_self, ↓reduceIte, Option.bind_some, Option.map_some, cond_true, cond_false, eq_self, decide_true, convNum, Int.reduceEq, Option.getD_none, Option.getD_some, Option.isNone_some, Option.isNone_none, Option.isSome_some, Bool.or_true, Bool.true_or, Bool.false_or, Nat.reduceEqDiff, Nat.reduceMul, Nat.reduceLeDiff, tyL, Try.f23, a1, Bool.not_false]
    try rfl
  | true =>
    rw [hq] at a1
    have hb := rulesT_len xs hf
    have hid := lt_of_get (k1.get e (lt_of_get e))
    have k0 : Keep h1.length h1 (h1 ++ [AObj.row 0 292057776128 [.pointer none, .slice none 0 0]]) := Keep.app _ _ (Nat.le_refl _)
    obtain ⟨h2, a2, w2⟩ := L23 id g c xs.length l h1.length (by omega) (by have := k1.1; omega) hid xs [] [] (h1 ++ [AObj.row 0 292057776128 [.pointer none, .slice none 0 0]]) (by simp) (fun x hx => ⟨hf x hx, rokL_k hq x hx⟩) (.inl ⟨rfl, .inl (by simp)⟩) (by rw [k0.get (k1.get e (lt_of_get e)) hid]; simp) (by simp; omega)
    refine ⟨h2, run_fn Try.func23 rfl rfl rfl rfl ?_, (k1.trans (k0.le k1.1)).trans ((w2.keep (Nat.le_refl _)).le k1.1)⟩
    simp only [↓XX, ↓XD, ↓YX, fg0, fs0, fg1, fs1, fg2, fs2, fg3, fs3, fg4, fs4, fg5, fs5, fg6, fs6, fg7, fs7, fg8, fs8, dstOf, padF, List.length_cons, List.length_nil, Nat.reduceAdd, Nat.zero_add, Nat.zero_mul, Nat.mul_one, Nat.reducePow, Nat.le_refl, and_self, ↓reduceIte, Option.bind_some, Option.map_some, cond_true, cond_false, eq_self, decide_true, convNum, Int.reduceEq, Option.getD_none, Option.getD_some, Option.isNone_some, Option.isNone_none, Option.isSome_some, Bool.or_true, Bool.true_or, Bool.false_or, Nat.reduceEqDiff, Nat.reduceMul, Nat.reduceLeDiff, tyL, Try.f23, a1, Bool.not_true, lenV]
    exact a2
/-- FnExactRulesPut, run -/
theorem r5 (v : Value) (xs : List Ru) (l : Nat) (h : AH) (hl : l ≤ h.length) (q : Ru.Rd h v xs) (hf0 : ∀ x ∈ xs, x.Fit63) (hn : xs.length ≤ 9223372036854775807) : ∃ h', run V0 (.fn 5) l [S v] h = some (.ret (.bool true) h') := by
  obtain ⟨h1, n, a1, k1, hnk, hz⟩ := r11 v l xs h q hf0 hn 1048576 (by omega)
  by_cases h0 : n < 0
  · refine ⟨h1, run_fn Try.func5 rfl rfl rfl rfl ?_⟩
    have hd : decide (n < 0) = true := decide_eq_true h0
    simp only [↓XX, ↓XD, ↓YX, fg0, fs0, fg1, fs1, fg2, fs2, fg3, fs3, fg4, fs4, fg5, fs5, fg6, fs6, fg7, fs7, fg8, fs8, dstOf, padF, List.length_cons, List.length_nil, Nat.reduceAdd, Nat.zero_add, Nat.zero_mul, Nat.mul_one, Nat.reducePow, Nat.le_refl, and_self, ↓reduceIte, Option.bind_some, Option.map_some, cond_true, cond_false, eq_self, decide_true, convNum, Int.reduceEq, Option.getD_none, Option.getD_some, Option.isNone_some, Option.isNone_none, Option.isSome_some, Bool.or_true, Bool.true_or, Bool.false_or, Nat.reduceEqDiff, Nat.reduceMul, Nat.reduceLeDiff, tyL, Try.f5, a1, hd]
  · obtain ⟨hn2, hz2⟩ := hz (by omega)
    have hf : ∀ x ∈ xs, x.Fit20 := fun x hx => by have := Ru.szL_fit xs _ hz2 x hx; exact ⟨by omega, by omega⟩
    have hd : decide (n < 0) = false := decide_eq_false h0
    have q1 := q.keep k1
    obtain ⟨i2, h2, a2, b2, c2, k2⟩ := r14 v l xs h1 q1 (by omega) (by have := k1.1; omega)
    have q2 := q1.keep k2
    obtain ⟨h3, a3, k3⟩ := r22 i2 0 xs.length l xs h2 (by omega) hf b2
    have q3 := q2.keep k3
    have hh3 : l ≤ h3.length := by have := k1.1; have := k2.1; have := k3.1; omega
    obtain ⟨i4, h4, a4, b4, c4, k4⟩ := r14 v l xs h3 q3 (by omega) hh3
    have q4 := q3.keep k4
    obtain ⟨h5, a5, k5⟩ := r23 i4 0 xs.length l xs h4 (by have := k4.1; omega) (by omega) hf b4
    have q5 := q4.keep k5
    have b5 := k5.get b4 (lt_of_get b4)
    have hh5 : l ≤ h5.length := by have := k4.1; have := k5.1; omega
    obtain ⟨i6, h6, a6, b6, c6, k6⟩ := r14 v l xs h5 q5 (by omega) hh5
    have b7 := k6.get b5 (lt_of_get b5)
    obtain ⟨h7, a7, k7⟩ := r17 i4 0 xs.length i6 0 xs.length l xs xs h6 (by omega) b7 b6
    rw [decide_eq_true rfl] at a7
    refine ⟨h7, run_fn Try.func5 rfl rfl rfl rfl ?_⟩
    simp only [↓XX, ↓XD, ↓YX, fg0, fs0, fg1, fs1, fg2, fs2, fg3, fs3, fg4, fs4, fg5, fs5, fg6, fs6, fg7, fs7, fg8, fs8, dstOf, padF, List.length_cons, List.length_nil, Nat.reduceAdd, Nat.zero_add, Nat.zero_mul, Nat.mul_one, Nat.reducePow, Nat.le_refl, and_self, ↓reduceIte, Option.bind_some, Option.map_some, cond_true, cond_false, eq_self, decide_true, convNum, Int.reduceEq, Option.getD_none, Option.getD_some, Option.isNone_some, Option.isNone_none, Option.isSome_some, Bool.or_true, Bool.true_or, Bool.false_or, Nat.reduceEqDiff, Nat.reduceMul, Nat.reduceLeDiff, tyL, Try.f5, a1, hd, a2, a3, a4, a5, neB, decide_true, a6, a7, Bool.not_true]
end Go.Abs
