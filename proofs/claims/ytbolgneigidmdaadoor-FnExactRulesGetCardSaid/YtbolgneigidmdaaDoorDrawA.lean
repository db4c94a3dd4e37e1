/- What RulesPut computes, in the program and in the reference, and how a law draws its rules. No statement of the program is proved here; no condition. -/
import Derived.Test.YtbolgneigidmdaaDoorFactsA
import Derived.Lib.Join
namespace Go.Abs
open Go.Proofs
set_option maxRecDepth 100000
set_option linter.unusedSimpArgs false
set_option pp.maxSteps 20000

/-! ### values and heaps -/
abbrev Bs := List UInt8
abbrev iV (n : Int) : Value := .int .i64 n
abbrev sV (s : Bs) : Value := .string (B s)
abbrev slV (id g n c : Nat) : Value := .slice (some ⟨id, 0, some g⟩) n c
def Keep (n : Nat) (h h' : AH) : Prop := h.length ≤ h'.length ∧ ∀ j, j < n → h'[j]? = h[j]?
theorem Keep.refl (n : Nat) (h : AH) : Keep n h h := ⟨Nat.le_refl _, fun _ _ => rfl⟩
theorem Keep.trans {n : Nat} {a b c : AH} (x : Keep n a b) (y : Keep n b c) : Keep n a c := ⟨Nat.le_trans x.1 y.1, fun j hj => (y.2 j hj).trans (x.2 j hj)⟩
theorem Keep.le {n m : Nat} {a b : AH} (x : Keep n a b) (hm : m ≤ n) : Keep m a b := ⟨x.1, fun j hj => x.2 j (Nat.lt_of_lt_of_le hj hm)⟩
theorem Keep.app {n : Nat} (h l : AH) (hn : n ≤ h.length) : Keep n h (h ++ l) := ⟨by simp, fun j hj => by rw [List.getElem?_append_left (by omega)]⟩
theorem Keep.set {n : Nat} (h : AH) (i : Nat) (o : AObj) (hn : n ≤ i) : Keep n h (h.set i o) := ⟨by simp, fun j hj => by rw [List.getElem?_set_ne (by omega)]⟩
theorem Keep.get {n : Nat} {h h' : AH} (x : Keep n h h') {j : Nat} {o : AObj} (e : h[j]? = some o) (hj : j < n) : h'[j]? = some o := by rw [x.2 j hj, e]
theorem lt_of_get {h : AH} {j : Nat} {o : AObj} (e : h[j]? = some o) : j < h.length := by
  rcases Nat.lt_or_ge j h.length with q | q
  · exact q
  · rw [List.getElem?_eq_none q] at e; cases e

theorem rowAt_of {h : AH} {id g sz : Nat} {cs : List Value} (e : h[id]? = some (.row g sz cs)) : rowAt h id g = some (sz, cs) := by simp [rowAt, e]

/-! ### bytes -/
theorem strAt_B (s : Bs) (i : Nat) : strAt (B s) i = (s[i]?).map fun b => (b.toNat : Int) := by
  simp only [strAt, B]
  rw [if_pos (by omega)]
  congr 1
  simp only [Int.toNat_natCast]
  by_cases hi : i < s.length
  · rw [List.getElem?_eq_getElem hi, getElem?_pos _ _ (by exact hi)]; rfl
  · rw [List.getElem?_eq_none (by omega), getElem?_neg _ _ (by exact hi)]
theorem size_B (s : Bs) : (B s).size = s.length := rfl
theorem B_inj {a b : Bs} : B a = B b ↔ a = b := ⟨fun h => by cases h; rfl, fun h => by rw [h]⟩
theorem ba_ext {a b : ByteArray} (h : a.data = b.data) : a = b := by cases a; cases b; cases h; rfl
theorem strCut_B (s : Bs) (a b : Nat) (hab : a ≤ b) (hb : b ≤ s.length) : strCut (B s) a b = some (B ((s.take b).drop a)) := by
  have hq : (0 : Int) ≤ (a : Int) ∧ (a : Int) ≤ (b : Int) ∧ (b : Int) ≤ ((B s).size : Int) := by rw [size_B]; omega
  unfold strCut
  rw [if_pos hq]
  refine congrArg some (ba_ext ?_)
  rw [ByteArray.data_extract, Int.toNat_natCast, Int.toNat_natCast]
  show (⟨s⟩ : Array UInt8).extract a b = ⟨(s.take b).drop a⟩
  apply Array.ext'
  simp [List.extract_eq_take_drop, List.drop_take]
theorem catA_B (a b : Bs) (h : a.length + b.length ≤ 2 ^ 62) : catA (B a) (B b) = some (B (a ++ b)) := by
  have hq : (B a).size + (B b).size ≤ 9223372036854775807 := by rw [size_B, size_B]; omega
  unfold catA
  rw [if_pos hq]
  refine congrArg some (ba_ext ?_)
  rw [ByteArray.data_append]
  show (⟨a⟩ : Array UInt8) ++ ⟨b⟩ = ⟨a ++ b⟩
  simp

/-! ### memory -/
abbrev pV (id off g : Nat) : Value := .pointer (some ⟨id, off, some g⟩)
theorem ixAddr_sl {id off g n c i sz : Nat} (hi : i < n) : ixAddr (.slice (some ⟨id, off, some g⟩) n c) (i : Int) sz = some (pV id (off + i * sz) g) := by
  simp only [ixAddr]
  rw [if_pos (by omega)]
  simp
theorem ld_of {h : AH} {id off g sz : Nat} {cs : List Value} {v : Value} (e : h[id]? = some (.row g sz cs)) (hv : cs[off]? = some v) : ld h (pV id off g) = some v := by
  simp only [ld, rowAt_of e, Option.bind_some, hv]
theorem ldN_of {h : AH} {id off g sz n : Nat} {cs : List Value} (e : h[id]? = some (.row g sz cs)) (hv : off + n ≤ cs.length) : ldN h (pV id off g) n = some ((cs.drop off).take n) := by
  simp only [ldN, rowAt_of e, Option.bind_some, cut, if_pos hv]
theorem stN_of {lim : Nat} {h : AH} {id off g sz : Nat} {cs vs : List Value} (hl : lim ≤ id) (e : h[id]? = some (.row g sz cs)) (ho : off + vs.length ≤ cs.length) (hv : vs.all oneCell = true) :
    stN lim h (pV id off g) vs = some (h.set id (.row g sz (setMany cs off vs))) := by
  simp only [stN, rowAt_of e, Option.bind_some, if_pos (And.intro hl (And.intro ho hv))]
theorem st1_of {lim : Nat} {h : AH} {id off g sz : Nat} {cs : List Value} {v : Value} (hl : lim ≤ id) (e : h[id]? = some (.row g sz cs)) (ho : off < cs.length) (hv : oneCell v = true) :
    stN lim h (pV id off g) [v] = some (h.set id (.row g sz (cs.set off v))) :=
  stN_of hl e (by simp only [List.length_cons, List.length_nil]; omega) (by simp [hv])
/-- append of what was just made, where all of the row is taken -/
theorem app_new {lim : Nat} {h : AH} {id g sz tg sz2 n k by' : Nat} {cs ds : List Value} (hl : lim ≤ id) (e : h[id]? = some (.row g tg cs)) (hn : n * sz = cs.length) (hk : k * sz = ds.length) (h0 : 0 < k) (hb : (n + k) * by' ≤ 2 ^ 47) :
    app lim (h ++ [AObj.row 0 sz2 ds]) (slV id g n n) (newS h k k) sz tg by' = some (slV id (g + 1) (n + k) (n + k), (h ++ [AObj.row 0 sz2 ds]).set id (AObj.row (g + 1) tg (cs ++ ds))) := by
  have hid := lt_of_get e
  have e' : (h ++ [AObj.row 0 sz2 ds])[id]? = some (.row g tg cs) := by rw [List.getElem?_append_left hid, e]
  have en : (h ++ [AObj.row 0 sz2 ds])[h.length]? = some (.row 0 sz2 ds) := by simp
  simp only [app, lenOf, newS, Option.bind_some]
  rw [if_neg (by omega)]
  have hs : srcCells (h ++ [AObj.row 0 sz2 ds]) (.slice (some ⟨h.length, 0, some 0⟩) k k) k sz = some ds := by
    simp only [srcCells, rowAt_of en, Option.bind_some, cut]
    rw [if_pos (by omega)]
    simp [hk]
  rw [hs, rowAt_of e']
  simp only [Option.bind_some]
  rw [if_neg (by omega), if_pos ⟨hl, True.intro, True.intro, hn, hb⟩]
/-- append of a text to bytes -/
theorem app_str {lim : Nat} {h : AH} {id g tg n : Nat} {cs : List Value} {t : Bs} (hl : lim ≤ id) (e : h[id]? = some (.row g tg cs)) (hn : n = cs.length) (h0 : 0 < t.length) (hb : n + t.length ≤ 2 ^ 47) :
    app lim h (slV id g n n) (sV t) 1 tg 1 = some (slV id (g + 1) (n + t.length) (n + t.length), h.set id (.row (g + 1) tg (cs ++ t.map fun b => .int .u8 b.toNat))) := by
  have hs : srcCells h (sV t) t.length 1 = some (t.map fun b => .int .u8 b.toNat) := by
    simp only [srcCells, if_true]
    congr 2
    show t.take t.length = t
    simp
  show (lenOf (sV t)).bind _ = _
  have h1 : lenOf (sV t) = some t.length := rfl
  rw [h1]
  simp only [Option.bind_some]
  rw [if_neg (by omega), hs, rowAt_of e]
  simp only [Option.bind_some]
  rw [if_neg (by omega), if_pos ⟨hl, True.intro, True.intro, by omega, by omega⟩]
theorem app_nil {lim : Nat} {h : AH} {tg : Nat} {t : Bs} (h0 : 0 < t.length) (hb : t.length ≤ 2 ^ 47) :
    app lim h (.slice none 0 0) (sV t) 1 tg 1 = some (newS h t.length t.length, h ++ [.row 0 tg (t.map fun b => .int .u8 b.toNat)]) := by
  have hs : srcCells h (sV t) t.length 1 = some (t.map fun b => .int .u8 b.toNat) := by
    simp only [srcCells, if_true]
    congr 2
    show t.take t.length = t
    simp
  show (lenOf (sV t)).bind _ = _
  have h1 : lenOf (sV t) = some t.length := rfl
  rw [h1]
  simp only [Option.bind_some]
  rw [if_neg (by omega), hs]
  simp only [Option.bind_some]
  rw [if_pos (by omega)]
theorem app_none {lim : Nat} {h : AH} {s : Value} {sz tg by' : Nat} (hs : s = .slice none 0 0 ∨ ∃ id off g n c, s = .slice (some ⟨id, off, some g⟩) n c) : app lim h s (sV []) sz tg by' = some (s, h) := by
  rcases hs with rfl | ⟨id, off, g, n, c, rfl⟩ <;> rfl
theorem wrap64 {n : Int} (h : -9223372036854775808 ≤ n ∧ n ≤ 9223372036854775807) : IntKind.i64.wrap n = n := by
  show (let m := n % (2 ^ 64 : Int); if true && m ≥ (2 ^ (64 - 1) : Int) then m - (2 ^ 64 : Int) else m) = n
  simp only [Bool.true_and, ge_iff_le, decide_eq_true_eq]
  show (if (9223372036854775808 : Int) ≤ n % 18446744073709551616 then n % 18446744073709551616 - 18446744073709551616 else n % 18446744073709551616) = n
  omega
theorem wrap8 {n : Int} (h : 0 ≤ n ∧ n ≤ 255) : IntKind.u8.wrap n = n := by
  show (let m := n % (2 ^ 8 : Int); if false && m ≥ (2 ^ (8 - 1) : Int) then m - (2 ^ 8 : Int) else m) = n
  simp only [Bool.false_and]
  show n % 256 = n
  omega
def u8c (s : Bs) : List Value := s.map fun b => .int .u8 b.toNat
theorem u8c_len (s : Bs) : (u8c s).length = s.length := by simp [u8c]
theorem bytesOf_u8c (s : Bs) : bytesOf (u8c s) = some s := by
  induction s with
  | nil => rfl
  | cons a s ih =>
    simp only [u8c, List.map_cons, bytesOf] at ih ⊢
    rw [ih]
    simp
theorem b2s_of {h : AH} {id g n c sz : Nat} {s : Bs} (e : h[id]? = some (.row g sz (u8c s))) (hn : n = s.length) : b2s h (slV id g n c) = some (B s) := by
  subst hn
  simp only [b2s, rowAt_of e, Option.bind_some, cut]
  rw [if_pos (by rw [u8c_len]; omega)]
  simp only [Option.bind_some, List.drop_zero]
  rw [List.take_of_length_le (by rw [u8c_len]; omega), bytesOf_u8c]
  rfl
theorem bytesR_u8c (s : Bs) : bytesR (u8c s) = some s := by
  induction s with
  | nil => rfl
  | cons a s ih =>
    simp only [u8c, List.map_cons, bytesR] at ih ⊢
    have := a.toNat_lt
    rw [if_pos (by omega), ih]
    simp
theorem strRow_of {lim : Nat} {h : AH} {id g e n : Nat} {s : Bs} (hl : lim ≤ id) (he : h[id]? = some (.row g (4294967296 * (e + 1) + 1) (u8c s))) (hn : n = s.length) (h0 : 0 < n) (h63 : n ≤ 9223372036854775807) :
    strRow lim h (pV id 0 g) (n : Int) e = some (B s, h.set id (.row (g + 1) 0 [])) := by
  have hne : ¬ ((n : Int) = 0) := by omega
  simp only [strRow, if_neg hne, rowAt_of he, Option.bind_some]
  rw [if_pos ⟨hl, by omega, by omega, True.intro, True.intro⟩]
  have hc : cut (u8c s) 0 ((n : Int).toNat) = some (u8c s) := by
    unfold cut
    rw [if_pos (by rw [u8c_len]; omega)]
    simp only [List.drop_zero]
    rw [List.take_of_length_le (by rw [u8c_len]; omega)]
  rw [hc]
  simp only [Option.bind_some, bytesR_u8c, Option.map_some]
  rfl
theorem mid_get {α : Type} (a : List α) (x : α) (c : List α) : (a ++ x :: c)[a.length]? = some x := by simp
theorem mid_set {α : Type} (a : List α) (x y : α) (c : List α) : (a ++ x :: c).set a.length y = a ++ y :: c := by simp
theorem set_same {α : Type} {h : List α} {i : Nat} {o : α} (e : h[i]? = some o) : h.set i o = h := by
  apply List.ext_getElem?
  intro j
  rw [List.getElem?_set]
  split
  · rename_i q; subst q
    split
    · exact e.symm
    · rename_i q; rw [List.getElem?_eq_none (by omega)] at e; cases e
  · rfl
theorem get_set {h : AH} {i : Nat} {o : AObj} (o' : AObj) (e : h[i]? = some o) : (h.set i o')[i]? = some o' := by
  have : i < h.length := by
    rcases Nat.lt_or_ge i h.length with q | q
    · exact q
    · rw [List.getElem?_eq_none q] at e; cases e
  simp [this]
theorem u8c_app (a b : Bs) : u8c (a ++ b) = u8c a ++ u8c b := by simp [u8c]
theorem u8c_get (d : Bs) (b : UInt8) (r : Bs) : (u8c (d ++ b :: r))[d.length]? = some (.int .u8 b.toNat) := by simp [u8c]
theorem u8c_set (d : Bs) (b c : UInt8) (r : Bs) : (u8c (d ++ b :: r)).set d.length (.int .u8 c.toNat) = u8c (d ++ c :: r) := by
  simp [u8c]
end Go.Abs
namespace Go.Abs
open Go.Proofs
set_option maxRecDepth 100000
set_option linter.unusedSimpArgs false
set_option pp.maxSteps 20000

/-! ### new objects -/
theorem XH1 : (∀ (h : AH) o, (h ++ [o])[h.length]? = some o) ∧ (∀ (h : AH) o1 o2, (h ++ [o1] ++ [o2])[h.length]? = some o1) ∧ (∀ (h : AH) o1 o2 o3, (h ++ [o1] ++ [o2] ++ [o3])[h.length]? = some o1) ∧ (∀ (h : AH) o1 o2 o3 o4, (h ++ [o1] ++ [o2] ++ [o3] ++ [o4])[h.length]? = some o1) ∧
  (∀ (h : AH) o o', (h ++ [o]).set h.length o' = h ++ [o']) ∧ (∀ (h : AH) o1 o2 o', (h ++ [o1] ++ [o2]).set h.length o' = h ++ [o'] ++ [o2]) ∧ (∀ (h : AH) o1 o2 o3 o', (h ++ [o1] ++ [o2] ++ [o3]).set h.length o' = h ++ [o'] ++ [o2] ++ [o3]) ∧ (∀ (h : AH) o1 o2 o3 o4 o', (h ++ [o1] ++ [o2] ++ [o3] ++ [o4]).set h.length o' = h ++ [o'] ++ [o2] ++ [o3] ++ [o4]) := by
  refine ⟨fun h o => by simp, fun h o1 o2 => by simp, fun h o1 o2 o3 => by simp, fun h o1 o2 o3 o4 => by simp, fun h o o' => by simp, fun h o1 o2 o' => by simp, fun h o1 o2 o3 o' => by simp, fun h o1 o2 o3 o4 o' => by simp⟩
theorem XH2 : (∀ h id off g, ld h (pV id off g) = match h[id]? with | some (.row g' _ cs) => (match decide (g = g') with | true => cs[off]? | false => none) | _ => none) ∧
  (∀ h id off g n, ldN h (pV id off g) n = match h[id]? with | some (.row g' _ cs) => (match decide (g = g') with | true => cut cs off n | false => none) | _ => none) ∧
  (∀ lim h id off g vs, stN lim h (pV id off g) vs = match h[id]? with | some (.row g' sz cs) => (match decide (g = g') with | true => if lim ≤ id ∧ off + vs.length ≤ cs.length ∧ vs.all oneCell = true then some (h.set id (.row g sz (setMany cs off vs))) else none | false => none) | _ => none) ∧
  (∀ id off g n, addOff (pV id off g) n = some (pV id (off + n) g)) ∧ (∀ id off g, nonNil (pV id off g) = some (pV id off g)) ∧ (∀ h, newP h = pV h.length 0 0) ∧
  (∀ (s : ByteArray), oneCell (.string s) = true) ∧ (∀ k n, oneCell (.int k n) = true) ∧ (∀ b, oneCell (.bool b) = true) ∧ (∀ a n c, oneCell (.slice a n c) = true) ∧ (∀ a, oneCell (.pointer a) = true) ∧
  (∀ (l : List Value), aggOf (.agg ⟨l⟩) = some l) ∧
  (∀ cs off n, cut cs off n = match decide (off + n ≤ cs.length) with | true => some ((cs.drop off).take n) | false => none) := by
  refine ⟨fun h id off g => ?_, fun h id off g n => ?_, fun lim h id off g vs => ?_, fun _ _ _ _ => rfl, fun _ _ _ => rfl, fun _ => rfl, fun _ => rfl, fun _ _ => rfl, fun _ => rfl, fun _ _ _ => rfl, fun _ => rfl, fun _ => rfl, fun cs off n => ?_⟩
  · simp only [ld, rowAt]
    rcases h[id]? with _ | o
    · rfl
    · cases o <;> try rfl
      rename_i g' sz cs
      by_cases hq : g = g' <;> simp [hq]
  · simp only [ldN, rowAt]
    rcases h[id]? with _ | o
    · rfl
    · cases o <;> try rfl
      rename_i g' sz cs
      by_cases hq : g = g' <;> simp [hq]
  · simp only [stN, rowAt]
    rcases h[id]? with _ | o
    · rfl
    · cases o <;> try rfl
      rename_i g' sz cs
      by_cases hq : g = g' <;> simp [hq]
  · simp only [cut]
    by_cases hq : off + n ≤ cs.length <;> simp [hq]

def inI (n a b : Int) : Bool := decide (a ≤ n) && decide (n ≤ b)
theorem natCast_succ_wrap {n m : Nat} (h : n ≤ 2 ^ 62) (hm : n + 1 = m) : IntKind.i64.wrap ((n : Int) + 1) = (m : Int) := by rw [wrap64 (by omega)]; omega
theorem neB (a b : Bs) : (!decide (B a = B b)) = !decide (a = b) := by rw [show decide (B a = B b) = decide (a = b) by rw [decide_eq_decide, B_inj]]
theorem eqB (a b : Bs) : decide (B a = B b) = decide (a = b) := by rw [decide_eq_decide, B_inj]
theorem strAt_mid (d : Bs) (b : UInt8) (r : Bs) : strAt (B (d ++ b :: r)) (d.length : Int) = some (b.toNat : Int) := by
  rw [strAt_B]; simp
abbrev fnV (f : Nat) : Value := .func (.func f) #[] #[]
theorem boolNe (b : Bool) : (!(b == b)) = false := by cases b <;> rfl
theorem setMany_mid (a z b : List Value) (x : List Value) (h : x.length = z.length) : setMany (a ++ (z ++ b)) a.length x = a ++ (x ++ b) := by
  induction x generalizing a z with
  | nil =>
    cases z with
    | nil => rfl
    | cons _ _ => simp at h
  | cons v x ih =>
    cases z with
    | nil => simp at h
    | cons w z =>
      simp only [setMany, List.cons_append]
      rw [mid_set]
      have := ih (a ++ [v]) z (by simpa using h)
      simp only [List.append_assoc, List.singleton_append, List.length_append, List.length_cons, List.length_nil, Nat.zero_add, List.cons_append] at this
      exact this
theorem set_in (A c D : List Value) (j : Nat) (v : Value) (hj : j < c.length) : (A ++ (c ++ D)).set (A.length + j) v = A ++ (c.set j v ++ D) := by
  rw [List.set_append_right _ _ (by omega), show A.length + j - A.length = j by omega, List.set_append_left _ _ hj]
def KX (n id : Nat) (h h' : AH) : Prop := h.length ≤ h'.length ∧ ∀ j, j < n → j ≠ id → h'[j]? = h[j]?
theorem KX.refl (n id : Nat) (h : AH) : KX n id h h := ⟨Nat.le_refl _, fun _ _ _ => rfl⟩
theorem KX.trans {n id : Nat} {a b c : AH} (x : KX n id a b) (y : KX n id b c) : KX n id a c := ⟨Nat.le_trans x.1 y.1, fun j hj hi => (y.2 j hj hi).trans (x.2 j hj hi)⟩
theorem Keep.kx {n m id : Nat} {a b : AH} (x : Keep n a b) (hm : m ≤ n) : KX m id a b := ⟨x.1, fun j hj _ => x.2 j (by omega)⟩
theorem KX.set (n id : Nat) (h : AH) (o : AObj) : KX n id h (h.set id o) := ⟨by simp, fun j hj hi => by rw [List.getElem?_set_ne (by omega)]⟩
theorem KX.get {n id : Nat} {h h' : AH} (x : KX n id h h') {j : Nat} {o : AObj} (e : h[j]? = some o) (hj : j < n) (hi : j ≠ id) : h'[j]? = some o := by rw [x.2 j hj hi, e]
theorem Keep.ofKX {n id : Nat} {a b : AH} (x : KX n id a b) {m : Nat} (hm : m ≤ n) (hi : m ≤ id) : Keep m a b := ⟨x.1, fun j hj => x.2 j (by omega) (by omega)⟩
def sL (xs : List Bs) : List Value := xs.map sV
theorem sL_len (xs : List Bs) : (sL xs).length = xs.length := by simp [sL]
theorem sL_get (d : List Bs) (x : Bs) (r : List Bs) : (sL (d ++ x :: r))[d.length]? = some (sV x) := by simp [sL]
theorem sL_app (a b : List Bs) : sL (a ++ b) = sL a ++ sL b := by simp [sL]
theorem XRN : (∀ P fr o, bq false P fr o = none) ∧ (∀ P fr o, bq true P fr o = baseOf P fr o) ∧
  (∀ P fr d t x ty pos aft g, baseOf P fr ⟨d, .load t x, ty, pos, aft, g⟩ = match slotO fr x with | some ⟨_, _, v⟩ => baseId v | none => none) ∧
  (∀ P fr d t x a b c ty pos aft g, baseOf P fr ⟨d, .slice t x a b c, ty, pos, aft, g⟩ = match P.underlying t with | some u => (match u with | .slice _ => (match slotO fr x with | some ⟨_, _, v⟩ => baseId v | none => none) | _ => none) | none => none) ∧
  (∀ a, baseId (.pointer (some a)) = some a.block) ∧ (∀ a n c, baseId (.slice (some a) n c) = some a.block) ∧ (∀ n c, baseId (.slice none n c) = none) ∧
  (∀ l, sel l [] = []) ∧ (∀ l i n m b ds, sel l (⟨i, n, m, b⟩ :: ds) = match l.contains i with | true => ⟨i, n, m, b⟩ :: sel l ds | false => sel l ds) ∧
  (∀ b X, freshAt b X [] = X) ∧ (∀ b X i n m o ds, freshAt b X (⟨i, n, m, o⟩ :: ds) = match decide (m ≤ b) with | true => freshAt b X ds | false => none) ∧
  (∀ b X, otherAt b X [] = X) ∧ (∀ b X i n m o ds, otherAt b X (⟨i, n, m, o⟩ :: ds) = match decide (b = n) with | true => none | false => otherAt b X ds) ∧
  (∀ h h' X, sameAt h h' X [] = X) ∧ (∀ h h' X i n m ds, sameAt h h' X (⟨i, n, m, none⟩ :: ds) = sameAt h h' X ds) ∧ (∀ h h' X i n m b ds, h'[b]? = h[b]? → sameAt h h' X (⟨i, n, m, some b⟩ :: ds) = sameAt h h' X ds) ∧
  (∀ (d : Did) l, [] ++ (d :: l) = d :: l) ∧ (∀ (a : Did) l m, (a :: l) ++ m = a :: (l ++ m)) :=
  ⟨fun _ _ _ => rfl, fun _ _ _ => rfl, fun _ _ _ _ _ _ _ _ _ => rfl, fun P _ _ t _ _ _ _ _ _ _ _ => by simp only [baseOf, isL]; cases P.underlying t with | none => rfl | some u => cases u <;> simp [Op.operands, slotO],
    fun _ => rfl, fun _ _ _ => rfl, fun _ _ => rfl, fun _ => rfl, fun l i _ _ _ _ => by unfold sel; rw [List.filter_cons]; cases l.contains i <;> rfl,
    fun _ _ => rfl, fun b _ _ _ m _ _ => by by_cases q : m ≤ b <;> simp [freshAt, q], fun _ _ => rfl, fun b _ _ n _ _ _ => by by_cases q : b = n <;> simp [otherAt, q],
    fun _ _ _ => rfl, fun _ _ _ _ _ _ _ => rfl, fun _ _ _ _ _ _ _ _ q => if_pos q, fun _ _ => rfl, fun _ _ _ => rfl⟩
end Go.Abs
namespace Go.Abs
open Go.Proofs
set_option maxRecDepth 100000
set_option linter.unusedSimpArgs false
set_option pp.maxSteps 20000

/-- a strings.Builder and what was written into it -/
def Bd (h : AH) (ib : Nat) (s : Bs) : Prop :=
  (s = [] ∧ (h[ib]? = some (.row 0 171798691840 [.pointer none, .slice none 0 0]) ∨ h[ib]? = some (.row 0 171798691840 [pV ib 0 0, .slice none 0 0]))) ∨
  ∃ id g, h[ib]? = some (.row 0 171798691840 [pV ib 0 0, slV id g s.length s.length]) ∧ h[id]? = some (.row g 25769803777 (u8c s)) ∧ ib < id ∧ s ≠ []
/-- what writing into a builder leaves -/
structure Wr (ib : Nat) (h h' : AH) : Prop where
  len : h.length ≤ h'.length
  low : ∀ j, j < ib → h'[j]? = h[j]?
  oth : ∀ j g sz cs, h[j]? = some (.row g sz cs) → j ≠ ib → sz ≠ 25769803777 → h'[j]? = some (.row g sz cs)
theorem Wr.refl (ib : Nat) (h : AH) : Wr ib h h := ⟨Nat.le_refl _, fun _ _ => rfl, fun _ _ _ _ e _ _ => e⟩
theorem Wr.trans {ib : Nat} {a b c : AH} (x : Wr ib a b) (y : Wr ib b c) : Wr ib a c :=
  ⟨Nat.le_trans x.len y.len, fun j hj => (y.low j hj).trans (x.low j hj), fun j g sz cs e h1 h2 => y.oth j g sz cs (x.oth j g sz cs e h1 h2) h1 h2⟩
theorem Wr.keep {ib : Nat} {h h' : AH} (x : Wr ib h h') {n : Nat} (hn : n ≤ ib) : Keep n h h' := ⟨x.len, fun j hj => x.low j (by omega)⟩
theorem Wr.of_keep {ib : Nat} {h h' : AH} (k : Keep h.length h h') (hi : ib ≤ h.length) : Wr ib h h' :=
  ⟨k.1, fun j hj => k.2 j (by omega), fun j g sz cs e _ _ => k.get e (lt_of_get e)⟩
theorem Bd.keep {h h' : AH} {ib : Nat} {s : Bs} (b : Bd h ib s) (k : Keep h.length h h') : Bd h' ib s := by
  rcases b with ⟨h0, h1 | h1⟩ | ⟨id, g, h1, h2, h3, h4⟩
  · exact .inl ⟨h0, .inl (k.get h1 (lt_of_get h1))⟩
  · exact .inl ⟨h0, .inr (k.get h1 (lt_of_get h1))⟩
  · exact .inr ⟨id, g, k.get h1 (lt_of_get h1), k.get h2 (lt_of_get h2), h3, h4⟩
theorem Bd.lt {h : AH} {ib : Nat} {s : Bs} (b : Bd h ib s) : ib < h.length := by
  rcases b with ⟨h0, h1 | h1⟩ | ⟨id, g, h1, h2, h3, h4⟩ <;> exact lt_of_get h1
theorem cc_fresh {h : AH} {ib l : Nat} {b : Value} (hl : l ≤ ib) (e : h[ib]? = some (.row 0 171798691840 [.pointer none, b])) :
    run V0 (.fn 43) l [S (pV ib 0 0)] h = some (.ret (.tuple #[]) (h.set ib (.row 0 171798691840 [pV ib 0 0, b]))) := by
  refine run_prim (vs := [pV ib 0 0]) (p := pCopyCheck 39) rfl ?_
  simp only [pCopyCheck, rowAt_of e]
  rw [if_pos ⟨True.intro, by decide, hl⟩]
theorem cc_used {h : AH} {ib l : Nat} {b : Value} (hl : l ≤ ib) (e : h[ib]? = some (.row 0 171798691840 [pV ib 0 0, b])) :
    run V0 (.fn 43) l [S (pV ib 0 0)] h = some (.ret (.tuple #[]) h) := by
  refine run_prim (vs := [pV ib 0 0]) (p := pCopyCheck 39) rfl ?_
  simp only [pCopyCheck, rowAt_of e]
  rw [if_pos ⟨True.intro, by decide, hl⟩]
  simp
theorem getElem?_set_ne' {h : AH} {i j : Nat} {o : AObj} (hne : i ≠ j) : (h.set i o)[j]? = h[j]? := List.getElem?_set_ne hne
/-- what copyCheck leaves -/
theorem cc_run {h : AH} {ib l : Nat} {s : Bs} (hl : l ≤ ib) (b : Bd h ib s) : ∃ h' bv, run V0 (.fn 43) l [S (pV ib 0 0)] h = some (.ret (.tuple #[]) h') ∧ h'[ib]? = some (.row 0 171798691840 [pV ib 0 0, bv]) ∧
    ((bv = .slice none 0 0 ∧ s = []) ∨ ∃ id g, bv = slV id g s.length s.length ∧ h'[id]? = some (.row g 25769803777 (u8c s)) ∧ ib < id ∧ s ≠ []) ∧ Wr ib h h' := by
  rcases b with ⟨h0, h1 | h1⟩ | ⟨id, g, h1, h2, h3, h4⟩
  · refine ⟨_, _, cc_fresh hl h1, get_set _ h1, .inl ⟨rfl, h0⟩, by simp, fun j hj => getElem?_set_ne' (by omega), fun j g sz cs e hj _ => by rw [getElem?_set_ne' (fun q => hj q.symm)]; exact e⟩
  · exact ⟨_, _, cc_used hl h1, h1, .inl ⟨rfl, h0⟩, Wr.refl _ _⟩
  · exact ⟨_, _, cc_used hl h1, h1, .inr ⟨id, g, rfl, h2, h3, h4⟩, Wr.refl _ _⟩
/-- WriteString -/
theorem r_WriteString {h : AH} {ib l : Nat} {s : Bs} (t : Bs) (hl : l ≤ ib) (b : Bd h ib s) (hlen : s.length + t.length ≤ 2 ^ 46) :
    ∃ h', run V0 (.fn 19) l [S (pV ib 0 0), S (sV t)] h = some (.ret (.tuple #[iV t.length, .nilIface]) h') ∧ Bd h' ib (s ++ t) ∧ Wr ib h h' := by
  obtain ⟨h1, bv, a1, b1, c1, w1⟩ := cc_run hl b
  have ha : addOff (pV ib 0 0) 1 = some (pV ib 1 0) := rfl
  have hn : nonNil (pV ib 0 0) = some (pV ib 0 0) := rfl
  have hld : ld h1 (pV ib 1 0) = some bv := ld_of b1 rfl
  have hsz : ((B t).size : Int) = t.length := by rw [size_B]
  have fin : ∀ v h2, app l h1 bv (sV t) 1 25769803777 1 = some (v, h2) → h2[ib]? = some (.row 0 171798691840 [pV ib 0 0, bv]) → oneCell v = true →
      run V0 (.fn 19) l [S (pV ib 0 0), S (sV t)] h = some (.ret (.tuple #[iV t.length, .nilIface]) (h2.set ib (.row 0 171798691840 [pV ib 0 0, v]))) := by
    intro v h2 e1 e2 e3
    have hst : stN l h2 (pV ib 1 0) [v] = some (h2.set ib (.row 0 171798691840 [pV ib 0 0, v])) := st1_of hl e2 (by simp) e3
    refine run_fn Tryd.func19 rfl rfl rfl rfl ?_
    simp only [↓XX, ↓XD, ↓YX, ZB, Nat.reduceAdd, Nat.reducePow, ↓reduceIte, eq_self, Int.reduceEq, Nat.reduceEqDiff, Nat.reduceMul, Nat.reduceLeDiff, Tryd.f19, a1, ha, hn, hld, e1, hst, hsz]
  rcases c1 with ⟨rfl, rfl⟩ | ⟨id, g, rfl, d1, d2, d3⟩
  · cases t with
    | nil =>
      refine ⟨_, fin _ _ (app_none (.inl rfl)) b1 rfl, .inl ⟨rfl, .inr ?_⟩, ?_⟩
      · exact get_set _ b1
      · rw [set_same b1]; exact w1
    | cons x t =>
      have hb1 := lt_of_get b1
      have e2 : (h1 ++ [AObj.row 0 25769803777 (u8c (x :: t))])[ib]? = some (.row 0 171798691840 [pV ib 0 0, .slice none 0 0]) := by rw [List.getElem?_append_left hb1, b1]
      refine ⟨_, fin _ _ (app_nil (by simp) (by simp at hlen ⊢; omega)) e2 rfl, .inr ⟨h1.length, 0, ?_, ?_, hb1, by simp⟩, ?_⟩
      · exact get_set _ e2
      · rw [getElem?_set_ne' (by omega)]; simp [u8c]
      · refine w1.trans ⟨by simp, fun j hj => ?_, fun j g sz cs e hj _ => ?_⟩
        · rw [getElem?_set_ne' (by omega), List.getElem?_append_left (by omega)]
        · rw [getElem?_set_ne' (fun q => hj q.symm), List.getElem?_append_left (lt_of_get e)]; exact e
  · cases t with
    | nil =>
      refine ⟨_, fin _ _ (app_none (.inr ⟨_, _, _, _, _, rfl⟩)) b1 rfl, .inr ⟨id, g, ?_, ?_, d2, by simpa using d3⟩, ?_⟩
      · rw [List.append_nil]; exact get_set _ b1
      · rw [set_same b1, List.append_nil]; exact d1
      · rw [set_same b1]; exact w1
    | cons x t =>
      have e2 : (h1.set id (AObj.row (g + 1) 25769803777 (u8c s ++ (x :: t).map fun b => .int .u8 b.toNat)))[ib]? = some (.row 0 171798691840 [pV ib 0 0, slV id g s.length s.length]) := by rw [getElem?_set_ne' (by omega), b1]
      have hap := app_str (lim := l) (t := x :: t) (by omega) d1 (n := s.length) (by rw [u8c_len]) (by simp) (by omega)
      refine ⟨_, fin _ _ hap e2 rfl, .inr ⟨id, g + 1, ?_, ?_, d2, by simp⟩, ?_⟩
      · rw [List.length_append]; exact get_set _ e2
      · rw [getElem?_set_ne' (by omega), get_set _ d1]
        simp [u8c]
      · refine w1.trans ⟨by simp, fun j hj => ?_, fun j g2 sz cs e hj hz => ?_⟩
        · rw [getElem?_set_ne' (by omega), getElem?_set_ne' (by omega)]
        · have : id ≠ j := by rintro rfl; rw [d1] at e; cases e; exact hz rfl
          rw [getElem?_set_ne' (fun q => hj q.symm), getElem?_set_ne' this]; exact e
/-- String: what was written; it is not written into again -/
theorem r_String {h : AH} {ib l : Nat} {s : Bs} (hl : l ≤ ib) (b : Bd h ib s) (hlen : s.length ≤ 2 ^ 46) :
    ∃ h', run V0 (.fn 21) l [S (pV ib 0 0)] h = some (.ret (sV s) h') ∧ Wr ib h h' := by
  have ha : addOff (pV ib 0 0) 1 = some (pV ib 1 0) := rfl
  have hn : nonNil (pV ib 0 0) = some (pV ib 0 0) := rfl
  rcases b with ⟨rfl, h1⟩ | ⟨id, g, h1, h2, h3, h4⟩
  · have hld : ld h (pV ib 1 0) = some (.slice none 0 0) := by rcases h1 with h1 | h1 <;> exact ld_of h1 rfl
    have hd : dataP (.slice none 0 0) = some (.pointer none) := rfl
    have hs : strRow l h (.pointer none) 0 5 = some (⟨#[]⟩, h) := rfl
    refine ⟨h, run_fn Tryd.func21 rfl rfl rfl rfl ?_, Wr.refl _ _⟩
    simp (disch := (refine _root_.id ?_; kernel_rfl)) only [↓XX, ↓XD, ↓YX, ZB, Nat.reduceAdd, Nat.reducePow, ↓reduceIte, eq_self, Int.reduceEq, Nat.reduceEqDiff, Nat.reduceMul, Nat.reduceLeDiff, Tryd.f21, ha, hn, hld, hd, hs, lenV, Int.natCast_zero]
    try rfl
  · have hld : ld h (pV ib 1 0) = some (slV id g s.length s.length) := ld_of h1 rfl
    have h0 : 0 < s.length := List.length_pos_iff.2 h4
    have hd : dataP (slV id g s.length s.length) = some (pV id 0 g) := by simp only [dataP]; rw [if_pos h0]
    have hs : strRow l h (pV id 0 g) (s.length : Int) 5 = some (B s, h.set id (.row (g + 1) 0 [])) := strRow_of (by omega) (e := 5) h2 rfl h0 (by omega)
    refine ⟨h.set id (.row (g + 1) 0 []), run_fn Tryd.func21 rfl rfl rfl rfl ?_, by simp, fun j hj => getElem?_set_ne' (by omega), fun j g2 sz cs e hj hz => ?_⟩
    · simp (disch := (refine _root_.id ?_; kernel_rfl)) only [↓XX, ↓XD, ↓YX, ZB, Nat.reduceAdd, Nat.reducePow, ↓reduceIte, eq_self, Int.reduceEq, Nat.reduceEqDiff, Nat.reduceMul, Nat.reduceLeDiff, Tryd.f21, ha, hn, hld, hd, hs, lenV]
      try rfl
    · have : id ≠ j := by rintro rfl; rw [h2] at e; cases e; exact hz rfl
      rw [getElem?_set_ne' this]; exact e
end Go.Abs
namespace Go.Abs
open Go.Proofs
set_option maxRecDepth 100000
set_option linter.unusedSimpArgs false
set_option linter.unusedVariables false
structure En where
  mk ::
  (room : Bs)
  (seq : Int)
  (kind : Int)
  (user : Bs)
  (nick : Bs)
  (text : Bs)
  (id : Bs)
  (ref : Bs)
  (num : Int)
  deriving DecidableEq
abbrev En.C (x : En) : List Value := [sV x.room, iV x.seq, iV x.kind, sV x.user, sV x.nick, sV x.text, sV x.id, sV x.ref, iV x.num]
abbrev En.V (x : En) : Value := .agg ⟨[sV x.room, iV x.seq, iV x.kind, sV x.user, sV x.nick, sV x.text, sV x.id, sV x.ref, iV x.num]⟩
def En.R (xs : List En) : List Value := xs.flatMap En.C
theorem En.R_len (xs : List En) : (En.R xs).length = 9 * xs.length := by
  induction xs with
  | nil => rfl
  | cons x xs ih => simp only [En.R, List.flatMap_cons, List.length_append, List.length_cons, List.length_nil] at ih ⊢; omega
theorem En.R_app (a b : List En) : En.R (a ++ b) = En.R a ++ En.R b := by simp [En.R]
theorem En.R_cons (x : En) (r : List En) : En.R (x :: r) = En.C x ++ En.R r := by simp [En.R]
theorem En.R_one (x : En) : En.R [x] = En.C x := by simp [En.R]
theorem En.get (d : List En) (x : En) (r : List En) : ((En.R (d ++ x :: r)).drop (d.length * 9)).take 9 = En.C x := by
  rw [En.R_app, En.R_cons, List.drop_left' (by rw [En.R_len]; omega)]
  rfl
theorem En.cell (d : List En) (x : En) (r : List En) (j : Nat) (hj : j < 9) : (En.R (d ++ x :: r))[d.length * 9 + j]? = (En.C x)[j]? := by
  rw [En.R_app, En.R_cons, List.getElem?_append_right (by rw [En.R_len]; omega), En.R_len, show d.length * 9 + j - 9 * d.length = j by omega, List.getElem?_append_left (by simpa using hj)]
theorem En.ldN {h : AH} {id g : Nat} {d r : List En} {x : En} (e : h[id]? = some (.row g 9 (En.R (d ++ x :: r)))) : ldN h (pV id (d.length * 9) g) 9 = some (En.C x) := by
  rw [ldN_of e (by rw [En.R_len]; simp; omega), En.get]
theorem En.ld1 {h : AH} {id g : Nat} {d r : List En} {x : En} (j : Nat) (hj : j < 9) (e : h[id]? = some (.row g 9 (En.R (d ++ x :: r)))) : ld h (pV id (d.length * 9 + j) g) = (En.C x)[j]? := by
  rw [← En.cell d x r j hj]
  simp only [ld, rowAt_of e, Option.bind_some]
/-- a slice that is read -/
def En.Rd (h : AH) (v : Value) (xs : List En) : Prop :=
  (v = .slice none 0 0 ∧ xs = []) ∨ ∃ id g c, v = slV id g xs.length c ∧ h[id]? = some (.row g 9 (En.R xs))
theorem En.Rd.len {h : AH} {v : Value} {xs : List En} (r : En.Rd h v xs) : lenV v = some (xs.length : Int) := by
  rcases r with ⟨rfl, rfl⟩ | ⟨id, g, c, rfl, _⟩ <;> rfl
theorem En.Rd.get {h : AH} {v : Value} {d r : List En} {x : En} (q : En.Rd h v (d ++ x :: r)) : ∃ p, ixAddr v (d.length : Int) 9 = some p ∧ Abs.ldN h p 9 = some (En.C x) := by
  rcases q with ⟨_, q⟩ | ⟨id, g, c, rfl, e⟩
  · simp at q
  · exact ⟨pV id (d.length * 9) g, by rw [ixAddr_sl (by simp)]; simp, En.ldN e⟩
theorem En.Rd.keep {h h' : AH} {v : Value} {xs : List En} (q : En.Rd h v xs) (k : Keep h.length h h') : En.Rd h' v xs := by
  rcases q with q | ⟨id, g, c, rfl, e⟩
  · exact .inl q
  · exact .inr ⟨id, g, c, rfl, k.get e (lt_of_get e)⟩
theorem En.Rd.own {h : AH} {id g c : Nat} {xs : List En} (e : h[id]? = some (.row g 9 (En.R xs))) : En.Rd h (slV id g xs.length c) xs := .inr ⟨id, g, c, rfl, e⟩
/-- a slice of the call's own, all of whose room is taken -/
def En.Ow (h : AH) (v : Value) (xs : List En) : Prop :=
  (v = .slice none 0 0 ∧ xs = []) ∨ ∃ id g, v = slV id g xs.length xs.length ∧ h[id]? = some (.row g 9 (En.R xs))
theorem En.Ow.rd {h : AH} {v : Value} {xs : List En} (q : En.Ow h v xs) : En.Rd h v xs := by
  rcases q with q | ⟨id, g, rfl, e⟩
  · exact .inl q
  · exact .inr ⟨id, g, _, rfl, e⟩
theorem En.Ow.keep {h h' : AH} {v : Value} {xs : List En} (q : En.Ow h v xs) (k : Keep h.length h h') : En.Ow h' v xs := by
  rcases q with q | ⟨id, g, rfl, e⟩
  · exact .inl q
  · exact .inr ⟨id, g, rfl, k.get e (lt_of_get e)⟩
theorem En.Ow.kx {h h' : AH} {v : Value} {xs : List En} {ix : Nat} {cs : List Value} (q : En.Ow h v xs) (k : KX h.length ix h h') (e2 : h[ix]? = some (.row 0 2 cs)) : En.Ow h' v xs := by
  rcases q with q | ⟨id, g, rfl, e⟩
  · exact .inl q
  · refine .inr ⟨id, g, rfl, k.get e (lt_of_get e) ?_⟩
    rintro rfl
    rw [e] at e2
    injection e2 with e2; injection e2 with a b c
    exact absurd b (by decide)
theorem En.Rd.src {h : AH} {v : Value} {xs : List En} (q : En.Rd h v xs) : lenOf v = some xs.length ∧ srcCells h v xs.length 9 = some (En.R xs) := by
  rcases q with ⟨rfl, rfl⟩ | ⟨id, g, c, rfl, e⟩
  · exact ⟨rfl, rfl⟩
  · refine ⟨rfl, ?_⟩
    simp only [srcCells, rowAt_of e, Option.bind_some, cut]
    rw [if_pos (by rw [En.R_len]; omega)]
    simp only [List.drop_zero]
    rw [List.take_of_length_le (by rw [En.R_len]; omega)]
/-- append of whatever is read to a slice all of whose room is taken -/
theorem app_any {lim : Nat} {h : AH} {id g sz tg n k by' : Nat} {cs ds : List Value} {x : Value} (hl : lim ≤ id) (e : h[id]? = some (.row g tg cs)) (hn : n * sz = cs.length) (hx : lenOf x = some k ∧ srcCells h x k sz = some ds) (hb : (n + k) * by' ≤ 2 ^ 47) :
    ∃ g', app lim h (slV id g n n) x sz tg by' = some (slV id g' (n + k) (n + k), h.set id (.row g' tg (cs ++ ds))) := by
  obtain ⟨hx, hs⟩ := hx
  by_cases h0 : k = 0
  · subst h0
    have hds : ds = [] := by
      have := srcCells_len hs hx (Nat.le_refl _)
      rw [Nat.zero_mul] at this
      exact List.eq_nil_of_length_eq_zero this
    subst hds
    refine ⟨g, ?_⟩
    rw [List.append_nil, set_same e]
    simp only [app, hx, Option.bind_some, if_true, Nat.add_zero]
  · refine ⟨g + 1, ?_⟩
    simp only [app, hx, Option.bind_some]
    rw [if_neg h0, hs, rowAt_of e]
    simp only [Option.bind_some]
    rw [if_neg (by omega), if_pos ⟨hl, True.intro, True.intro, hn, hb⟩]
end Go.Abs
namespace Go.Abs
open Go.Proofs
set_option maxRecDepth 100000
set_option linter.unusedSimpArgs false
set_option pp.maxSteps 20000

/-! ### draws -/
def RdB (h : AH) (va : Value) (n id : Nat) : Prop := (va = .slice none 0 0 ∧ n = 0) ∨ ∃ i g c bs, va = slV i g n c ∧ h[i]? = some (.row g 1 (u8c bs)) ∧ n ≤ bs.length ∧ i < id
def Rd (h : AH) (id : Nat) (va : Value) (n p : Nat) : Prop := h[id]? = some (.row 0 2 [va, iV p]) ∧ RdB h va n id
theorem RdB.len {h : AH} {va : Value} {n id : Nat} (r : RdB h va n id) : lenV va = some (n : Int) := by
  rcases r with ⟨rfl, rfl⟩ | ⟨i, g, c, bs, rfl, _⟩ <;> rfl
theorem RdB.get {h : AH} {va : Value} {n id : Nat} (r : RdB h va n id) (j : Nat) (hj : j < n) : ∃ p b, ixAddr va (j : Int) 1 = some p ∧ ld h p = some (.int .u8 ((b : Nat) : Int)) ∧ b < 256 := by
  rcases r with ⟨_, q⟩ | ⟨i, g, c, bs, rfl, e, hn, _⟩
  · omega
  · have hjb : j < bs.length := by omega
    refine ⟨pV i j g, (bs[j]).toNat, by rw [ixAddr_sl hj]; simp, ld_of e ?_, UInt8.toNat_lt _⟩
    simp [u8c, hjb]
theorem RdB.keep {h h' : AH} {va : Value} {n id : Nat} (r : RdB h va n id) (k : ∀ j, j < id → h'[j]? = h[j]?) : RdB h' va n id := by
  rcases r with q | ⟨i, g, c, bs, hv, e, hn, hi⟩
  · exact .inl q
  · exact .inr ⟨i, g, c, bs, hv, by rw [k i hi, e], hn, hi⟩
theorem Rd.keep {h h' : AH} {id : Nat} {va : Value} {n p : Nat} (r : Rd h id va n p) (k : Keep (id + 1) h h') : Rd h' id va n p :=
  ⟨by rw [k.2 id (by omega), r.1], r.2.keep fun j hj => k.2 j (by omega)⟩
theorem xor_nn (a b : Int) (ha : 0 ≤ a ∧ a < 2 ^ 62) (hb : 0 ≤ b ∧ b < 2 ^ 62) : 0 ≤ xorI .i64 a b := by
  unfold xorI
  have h1 : (BitVec.ofInt 64 a).toNat = a.toNat := by rw [BitVec.toNat_ofInt]; omega
  have h2 : (BitVec.ofInt 64 b).toNat = b.toNat := by rw [BitVec.toNat_ofInt]; omega
  have h3 : (BitVec.ofInt 64 a ^^^ BitVec.ofInt 64 b).toNat < 2 ^ 62 := by
    rw [BitVec.toNat_xor, h1, h2]
    exact Nat.xor_lt_two_pow (by omega) (by omega)
  have e : ((BitVec.ofInt IntKind.i64.bits a ^^^ BitVec.ofInt IntKind.i64.bits b).toNat : Int) = ((BitVec.ofInt 64 a ^^^ BitVec.ofInt 64 b).toNat : Int) := rfl
  rw [e, wrap64 (by omega)]
  omega
theorem tmod_nat (a b : Nat) : (a : Int).tmod (b : Int) = ((a % b : Nat) : Int) := by rw [Int.tmod_eq_emod_of_nonneg (by omega)]; rfl
theorem tdiv_nat (a b : Nat) : (a : Int).tdiv (b : Int) = ((a / b : Nat) : Int) := by rw [Int.tdiv_eq_ediv_of_nonneg (by omega)]; rfl
theorem tmod_range (a : Int) (k : Nat) (ha : 0 ≤ a) (hk : 0 < k) : ∃ m : Nat, a.tmod (k : Int) = (m : Int) ∧ m < k := by
  obtain ⟨n, rfl⟩ : ∃ n : Nat, a = n := ⟨a.toNat, by omega⟩
  exact ⟨n % k, tmod_nat n k, Nat.mod_lt _ hk⟩
/-- spec.l16Rd.pick -/
theorem r34 (id : Nat) (va : Value) (n p K : Nat) (l : Nat) (h : AH) (r : Rd h id va n p) (hl : l ≤ id) (hK : 0 < K) (hK2 : K ≤ 2 ^ 20) (hn : n ≤ 2 ^ 62) (hp : p ≤ 2 ^ 40) :
    ∃ m h', run V0 (.fn 34) l [S (pV id 0 0), S (iV K)] h = some (.ret (iV (m : Nat)) h') ∧ m < K ∧ h' = h.set id (.row 0 2 [va, iV (p + 1 : Nat)]) := by
  obtain ⟨e, rb⟩ := r
  have hlen := rb.len
  have l1 : ld h (pV id 1 0) = some (iV p) := ld_of e rfl
  have w1 : IntKind.i64.wrap ((p : Int) + 1) = ((p + 1 : Nat) : Int) := by rw [wrap64 (by omega)]; omega
  have w2 : IntKind.i64.wrap (((p + 1 : Nat) : Int) - 1) = (p : Int) := by rw [wrap64 (by omega)]; omega
  have hst : stN l h (pV id 1 0) [iV (p + 1 : Nat)] = some (h.set id (.row 0 2 [va, iV (p + 1 : Nat)])) := by
    rw [st1_of hl e (by simp) rfl]; rfl
  have e1 := get_set (.row 0 2 [va, iV (p + 1 : Nat)]) e
  have rb1 : RdB (h.set id (.row 0 2 [va, iV (p + 1 : Nat)])) va n id := rb.keep fun j hj => by rw [List.getElem?_set_ne (by omega)]
  generalize hh1 : h.set id (.row 0 2 [va, iV (p + 1 : Nat)]) = h1 at *
  have m1 : ld h1 (pV id 1 0) = some (iV (p + 1 : Nat)) := ld_of e1 rfl
  have m0 : ld h1 (pV id 0 0) = some va := ld_of e1 rfl
  have ha : ∀ k, addOff (pV id 0 0) k = some (pV id (0 + k) 0) := fun _ => rfl
  have hnn : nonNil (pV id 0 0) = some (pV id 0 0) := rfl
  have hK1 : decide ((K : Int) < 1) = false := decide_eq_false (by omega)
  have hK0 : ((K : Int) = 0) = False := eq_false (by omega)
  by_cases h0 : n = 0
  · subst h0
    refine ⟨0, h1, run_fn Tryd.func34 rfl rfl rfl rfl ?_, hK, rfl⟩
    have hz : ((((0 : Nat) : Int)) == 0) = true := rfl
    simp (disch := (refine _root_.id ?_; kernel_rfl)) only [↓XX, ↓XD, ↓YX, ZB, Nat.reduceAdd, Nat.reducePow, ↓reduceIte, eq_self, Int.reduceEq, Nat.reduceEqDiff, Nat.reduceMul, Nat.reduceLeDiff, Tryd.f34, ha, hnn, l1, w1, hst, m1, m0, hlen, hK1, hz]
    rfl
  · have hz : ((n : Int) == 0) = false := by simp; omega
    have hn0 : ((n : Int) = 0) = False := eq_false (by omega)
    by_cases h2 : p < n
    · obtain ⟨q, b, hq1, hq2, hb⟩ := rb1.get p h2
      have hlt : decide ((p : Int) < (n : Int)) = true := decide_eq_true (by omega)
      have wb : IntKind.i64.wrap ((b : Nat) : Int) = (b : Int) := wrap64 (by omega)
      refine ⟨b % K, h1, run_fn Tryd.func34 rfl rfl rfl rfl ?_, Nat.mod_lt _ hK, rfl⟩
      simp (disch := (refine _root_.id ?_; kernel_rfl)) only [↓XX, ↓XD, ↓YX, ZB, Nat.reduceAdd, Nat.reducePow, ↓reduceIte, eq_self, Int.reduceEq, Nat.reduceEqDiff, Nat.reduceMul, Nat.reduceLeDiff, Tryd.f34, ha, hnn, l1, w1, hst, m1, m0, hlen, hK1, hz, w2, hlt, hq1, hq2, wb, hK0, tmod_nat]
    · have hlt : decide ((p : Int) < (n : Int)) = false := decide_eq_false (by omega)
      have hnp : 0 < n := by omega
      obtain ⟨q1, b1, a1, c1, d1⟩ := rb1.get (p % n) (Nat.mod_lt _ hnp)
      obtain ⟨q2, b2, a2, c2, d2⟩ := rb1.get ((p * 7 + 3) % n) (Nat.mod_lt _ hnp)
      have x1 : IntKind.i64.wrap ((b1 : Nat) : Int) = (b1 : Int) := wrap64 (by omega)
      have x2 : IntKind.i64.wrap ((b2 : Nat) : Int) = (b2 : Int) := wrap64 (by omega)
      have x3 : IntKind.i64.wrap ((b1 : Int) * 131) = (b1 : Int) * 131 := wrap64 (by omega)
      have x4 : IntKind.i64.wrap ((b2 : Int) * 1117) = (b2 : Int) * 1117 := wrap64 (by omega)
      have x5 : IntKind.i64.wrap ((p : Int) * 7) = (p : Int) * 7 := wrap64 (by omega)
      have x6 : IntKind.i64.wrap ((p : Int) * 7 + 3) = ((p * 7 + 3 : Nat) : Int) := by rw [wrap64 (by omega)]; omega
      have x7 : IntKind.i64.wrap ((b1 : Int) * 131 + (b2 : Int) * 1117) = (b1 : Int) * 131 + (b2 : Int) * 1117 := wrap64 (by omega)
      have x8 : IntKind.i64.wrap ((p : Int) * 29) = (p : Int) * 29 := wrap64 (by omega)
      have x9 : IntKind.i64.wrap ((b1 : Int) * 131 + (b2 : Int) * 1117 + (p : Int) * 29) = (b1 : Int) * 131 + (b2 : Int) * 1117 + (p : Int) * 29 := wrap64 (by omega)
      have hdiv : p / n ≤ p := Nat.div_le_self _ _
      have hdv := tdiv_nat p n
      generalize p / n = pd at *
      have y1 : IntKind.i64.wrap (pd : Int) = (pd : Int) := wrap64 (by omega)
      have y2 : IntKind.i64.wrap ((pd : Int) * 53) = (pd : Int) * 53 := wrap64 (by omega)
      have y3 : IntKind.i64.wrap ((b1 : Int) * 131 + (b2 : Int) * 1117 + (p : Int) * 29 + (pd : Int) * 53) = ((b1 * 131 + b2 * 1117 + p * 29 + pd * 53 : Nat) : Int) := by rw [wrap64 (by omega)]; omega
      have hx : b1 * 131 + b2 * 1117 + p * 29 + pd * 53 ≤ 2 ^ 50 := by omega
      generalize b1 * 131 + b2 * 1117 + p * 29 + pd * 53 = x at *
      have hxd : x / 64 ≤ x := Nat.div_le_self _ _
      have z0 : IntKind.i64.wrap ((x : Int).tdiv 64) = ((x / 64 : Nat) : Int) := by
        have := tdiv_nat x 64
        rw [show ((64 : Nat) : Int) = 64 from rfl] at this
        rw [this, wrap64 (by omega)]
      have hxn := xor_nn (x : Int) ((x / 64 : Nat) : Int) (by omega) (by omega)
      obtain ⟨m, hm1, hm2⟩ := tmod_range _ K hxn hK
      refine ⟨m, h1, run_fn Tryd.func34 rfl rfl rfl rfl ?_, hm2, rfl⟩
      simp (disch := (refine _root_.id ?_; kernel_rfl)) only [↓XX, ↓XD, ↓YX, ZB, Nat.reduceAdd, Nat.reducePow, ↓reduceIte, eq_self, Int.reduceEq, Nat.reduceEqDiff, Nat.reduceMul, Nat.reduceLeDiff, Tryd.f34, ha, hnn, l1, w1, hst, m1, m0, hlen, hK1, hz, w2, hlt, hn0, tmod_nat, hdv, a1, c1, x1, x3, x5, x6, a2, c2, x2, x4, x7, x8, x9, y1, y2, y3, z0, hK0, hm1]
/-- spec.l16Rd.of -/
theorem r37 (id : Nat) (va : Value) (n p : Nat) (l : Nat) (h : AH) (i2 : Nat) (xs : List Bs) (r : Rd h id va n p) (hl : l ≤ id) (e : h[i2]? = some (.row 0 1 (sL xs))) (hi : i2 ≠ id) (h0 : 0 < xs.length) (hx : xs.length ≤ 2 ^ 20) (hn : n ≤ 2 ^ 62) (hp : p ≤ 2 ^ 40) :
    ∃ x h', x ∈ xs ∧ run V0 (.fn 37) l [S (pV id 0 0), S (slV i2 0 xs.length xs.length)] h = some (.ret (sV x) h') ∧ h' = h.set id (.row 0 2 [va, iV (p + 1 : Nat)]) := by
  obtain ⟨m, h', a1, a2, a3⟩ := r34 id va n p xs.length l h r hl h0 hx hn hp
  refine ⟨xs[m], h', List.getElem_mem a2, run_fn Tryd.func37 rfl rfl rfl rfl ?_, a3⟩
  have hix : ixAddr (slV i2 0 xs.length xs.length) (m : Int) 1 = some (pV i2 m 0) := by rw [ixAddr_sl a2]; simp
  have hld : ld h' (pV i2 m 0) = some (sV xs[m]) := ld_of (by rw [a3, List.getElem?_set_ne (Ne.symm hi), e]) (by simp [sL, a2])
  simp only [↓XX, ↓XD, ↓YX, ZB, Nat.reduceAdd, Nat.reducePow, ↓reduceIte, eq_self, Int.reduceEq, Nat.reduceEqDiff, Nat.reduceMul, Nat.reduceLeDiff, Tryd.f37, lenV, a1, hix, hld]
theorem Rd.step {h : AH} {id : Nat} {va : Value} {n p : Nat} (r : Rd h id va n p) (p' : Nat) : Rd (h.set id (.row 0 2 [va, iV p'])) id va n p' :=
  ⟨get_set _ r.1, r.2.keep fun j hj => by rw [List.getElem?_set_ne (by omega)]⟩
/-- one of a list that is laid for it -/
theorem r37n (id : Nat) (va : Value) (n p : Nat) (l : Nat) (h : AH) (xs : List Bs) (r : Rd h id va n p) (hl : l ≤ id) (h0 : 0 < xs.length) (hx : xs.length ≤ 2 ^ 20) (hb : ∀ x ∈ xs, x.length ≤ 64) (hn : n ≤ 2 ^ 62) (hp : p ≤ 2 ^ 40) :
    ∃ x h', run V0 (.fn 37) l [S (pV id 0 0), S (newS h xs.length xs.length)] (h ++ [.row 0 1 (sL xs)]) = some (.ret (sV x) h') ∧ x.length ≤ 64 ∧ Rd h' id va n (p + 1) ∧ Keep id h h' := by
  have hid := lt_of_get r.1
  have r' : Rd (h ++ [.row 0 1 (sL xs)]) id va n p := r.keep (Keep.app _ _ (by omega))
  obtain ⟨x, h', a1, a2, a3⟩ := r37 id va n p l (h ++ [.row 0 1 (sL xs)]) h.length xs r' hl (by simp) (by omega) h0 hx hn hp
  refine ⟨x, h', a2, hb x a1, ?_, ?_⟩
  · rw [a3]; exact r'.step (p + 1)
  · rw [a3]; exact (Keep.app _ _ (by omega)).trans (Keep.set _ _ _ (Nat.le_refl _))
/-- the code that is drawn from: an argument -/
def Cd (h : AH) (va : Value) (n : Nat) : Prop := (va = .slice none 0 0 ∧ n = 0) ∨ ∃ i bs, va = slV i 0 n n ∧ h[i]? = some (.row 0 1 (u8c bs)) ∧ n = bs.length
theorem Cd.len {h : AH} {va : Value} {n : Nat} (r : Cd h va n) : lenV va = some (n : Int) := by
  rcases r with ⟨rfl, rfl⟩ | ⟨i, bs, rfl, _⟩ <;> rfl
theorem Cd.keep {h h' : AH} {va : Value} {n : Nat} (r : Cd h va n) (k : Keep h.length h h') : Cd h' va n := by
  rcases r with q | ⟨i, bs, hv, e, hn⟩
  · exact .inl q
  · exact .inr ⟨i, bs, hv, k.get e (lt_of_get e), hn⟩
theorem Cd.rdb {h : AH} {va : Value} {n : Nat} (r : Cd h va n) (o : AObj) : RdB (h ++ [o]) va n h.length := by
  rcases r with q | ⟨i, bs, hv, e, hn⟩
  · exact .inl q
  · exact .inr ⟨i, 0, n, bs, hv, by rw [List.getElem?_append_left (lt_of_get e), e], by omega, lt_of_get e⟩
/-- spec.l16Open -/
theorem r17 (va : Value) (n l : Nat) (h : AH) (r : Cd h va n) (hn : n ≤ 2 ^ 62) :
    ∃ vb m h', run V0 (.fn 17) l [S va] h = some (.ret (pV h.length 0 0) h') ∧ Rd h' h.length vb m 0 ∧ m ≤ n ∧ Keep h.length h h' := by
  have hlen := r.len
  by_cases h2 : 2000 < n
  · have hgt : decide ((2000 : Int) < (n : Int)) = true := decide_eq_true (by omega)
    rcases r with ⟨rfl, rfl⟩ | ⟨i, bs, rfl, e, hb⟩
    · omega
    · have hcut : slCut h (slV i 0 n n) none (some (2000 : Int)) none 1 = some (slV i 0 2000 n) := by
        simp only [slCut, rowAt_of e, Option.bind_some, Option.getD_none, Option.getD_some]
        rw [if_pos ⟨by omega, by omega, by decide, by omega, Nat.le_refl _⟩]
        simp
      refine ⟨slV i 0 2000 n, 2000, h ++ [.row 0 2 [slV i 0 2000 n, iV 0]], run_fn Tryd.func17 rfl rfl rfl rfl ?_, ⟨by simp, ?_⟩, by omega, Keep.app _ _ (Nat.le_refl _)⟩
      · simp only [↓XX, ↓XD, ↓YX, ZB, Nat.reduceAdd, Nat.reducePow, ↓reduceIte, eq_self, Int.reduceEq, Nat.reduceEqDiff, Nat.reduceMul, Nat.reduceLeDiff, Tryd.f17, lenV, hgt, hcut]
        rfl
      · exact .inr ⟨i, 0, n, bs, rfl, by rw [List.getElem?_append_left (lt_of_get e), e], by omega, lt_of_get e⟩
  · have hgt : decide ((2000 : Int) < (n : Int)) = false := decide_eq_false (by omega)
    refine ⟨va, n, h ++ [.row 0 2 [va, iV 0]], run_fn Tryd.func17 rfl rfl rfl rfl ?_, ⟨by simp, r.rdb _⟩, Nat.le_refl _, Keep.app _ _ (Nat.le_refl _)⟩
    rcases r with ⟨rfl, rfl⟩ | ⟨i, bs, rfl, e, hb⟩
    · simp only [↓XX, ↓XD, ↓YX, ZB, Nat.reduceAdd, Nat.reducePow, ↓reduceIte, eq_self, Int.reduceEq, Nat.reduceEqDiff, Nat.reduceMul, Nat.reduceLeDiff, Tryd.f17, lenV, hgt]
      rfl
    · simp only [↓XX, ↓XD, ↓YX, ZB, Nat.reduceAdd, Nat.reducePow, ↓reduceIte, eq_self, Int.reduceEq, Nat.reduceEqDiff, Nat.reduceMul, Nat.reduceLeDiff, Tryd.f17, lenV, hgt]
      rfl
/-! ### draws, of which it is not told how many there were -/
def Rq (h : AH) (id : Nat) (va : Value) (n P : Nat) : Prop := ∃ p, p ≤ P ∧ Rd h id va n p
theorem Rq.lt {h : AH} {id : Nat} {va : Value} {n P : Nat} (q : Rq h id va n P) : id < h.length := let ⟨_, _, r⟩ := q; lt_of_get r.1
theorem Rq.keep {h h' : AH} {id : Nat} {va : Value} {n P : Nat} (q : Rq h id va n P) (k : Keep h.length h h') : Rq h' id va n P :=
  let ⟨p, hp, r⟩ := q; ⟨p, hp, r.keep (k.le (by have := lt_of_get r.1; omega))⟩
theorem Rq.kx {h h' : AH} {id ix : Nat} {va : Value} {n P : Nat} (q : Rq h id va n P) (k : KX h.length ix h h') (hi : id < ix) : Rq h' id va n P :=
  let ⟨p, hp, r⟩ := q; ⟨p, hp, r.keep (Keep.ofKX k (by have := lt_of_get r.1; omega) (by omega))⟩
theorem Rq.le {h : AH} {id : Nat} {va : Value} {n P Q : Nat} (q : Rq h id va n P) (hq : P ≤ Q) : Rq h id va n Q := let ⟨p, hp, r⟩ := q; ⟨p, by omega, r⟩
theorem r_pick {h : AH} {id : Nat} {va : Value} {n P : Nat} {l : Nat} (K : Nat) (q : Rq h id va n P) (hl : l ≤ id) (hK : 0 < K) (hK2 : K ≤ 2 ^ 20) (hn : n ≤ 2 ^ 62) (hp : P ≤ 2 ^ 40) :
    ∃ (m : Nat) (h' : AH), run V0 (.fn 34) l [S (pV id 0 0), S (iV K)] h = some (.ret (iV m) h') ∧ m < K ∧ Rq h' id va n (P + 1) ∧ KX h.length id h h' ∧ h'.length = h.length := by
  obtain ⟨p, hpP, r⟩ := q
  obtain ⟨m, h', a1, a2, a3⟩ := r34 id va n p K l h r hl hK hK2 hn (by omega)
  subst a3
  exact ⟨m, _, a1, a2, ⟨p + 1, by omega, r.step (p + 1)⟩, KX.set _ _ _ _, by simp⟩
/-- one of a list of texts that is laid for it -/
theorem r_of {h : AH} {id : Nat} {va : Value} {n P : Nat} {l : Nat} (xs : List Bs) (cs : List Value) (k : Nat) (hcs : cs = sL xs) (hk : xs.length = k) (h0 : 0 < k) (q : Rq h id va n P) (hl : l ≤ id) (hK2 : k ≤ 2 ^ 20) (hn : n ≤ 2 ^ 62) (hp : P ≤ 2 ^ 40) :
    ∃ (x : Bs) (h' : AH), run V0 (.fn 37) l [S (pV id 0 0), S (newS h k k)] (h ++ [.row 0 1 cs]) = some (.ret (sV x) h') ∧ x ∈ xs ∧ Rq h' id va n (P + 1) ∧ KX h.length id h h' ∧ h'.length = h.length + 1 := by
  subst hcs hk
  have hid := q.lt
  obtain ⟨p, hpP, r⟩ := q
  have r' : Rd (h ++ [.row 0 1 (sL xs)]) id va n p := r.keep (Keep.app _ _ (by omega))
  obtain ⟨x, h', a1, a2, a3⟩ := r37 id va n p l (h ++ [.row 0 1 (sL xs)]) h.length xs r' hl (by simp) (by omega) h0 hK2 hn (by omega)
  subst a3
  refine ⟨x, _, a2, a1, ⟨p + 1, by omega, r'.step (p + 1)⟩, ((Keep.app h [AObj.row 0 1 (sL xs)] (Nat.le_refl _)).kx (Nat.le_refl _)).trans (KX.set _ _ _ _), by simp⟩
def iL (xs : List Int) : List Value := xs.map iV
theorem r_one {h : AH} {id : Nat} {va : Value} {n P : Nat} {l : Nat} (xs : List Int) (cs : List Value) (k : Nat) (hcs : cs = iL xs) (hk : xs.length = k) (h0 : 0 < k) (q : Rq h id va n P) (hl : l ≤ id) (hK2 : k ≤ 2 ^ 20) (hn : n ≤ 2 ^ 62) (hp : P ≤ 2 ^ 40) :
    ∃ (x : Int) (h' : AH), run V0 (.fn 36) l [S (pV id 0 0), S (newS h k k)] (h ++ [.row 0 1 cs]) = some (.ret (iV x) h') ∧ x ∈ xs ∧ Rq h' id va n (P + 1) ∧ KX h.length id h h' ∧ h'.length = h.length + 1 := by
  subst hcs hk
  have hid := q.lt
  have q' : Rq (h ++ [.row 0 1 (iL xs)]) id va n P := q.keep (Keep.app _ _ (Nat.le_refl _))
  obtain ⟨m, h', a1, a2, a3, a4, a5⟩ := r_pick xs.length q' hl h0 hK2 hn hp
  have kk : KX h.length id h h' := ((Keep.app h [AObj.row 0 1 (iL xs)] (Nat.le_refl _)).kx (Nat.le_refl _)).trans ⟨a4.1, fun j hj hi => a4.2 j (by simp; omega) hi⟩
  refine ⟨xs[m], h', run_fn Tryd.func36 rfl rfl rfl rfl ?_, List.getElem_mem a2, a3, kk, by rw [a5]; simp⟩
  have hix : ixAddr (newS h xs.length xs.length) (m : Int) 1 = some (pV h.length m 0) := by unfold newS; rw [ixAddr_sl a2]; simp
  have e : h'[h.length]? = some (.row 0 1 (iL xs)) := a4.get (by simp) (by simp) (by omega)
  have hld : ld h' (pV h.length m 0) = some (iV xs[m]) := ld_of e (by simp [iL, a2])
  have hln : lenV (newS h xs.length xs.length) = some (xs.length : Int) := rfl
  simp only [↓XX, ↓XD, ↓YX, ZB, Nat.reduceAdd, Nat.reducePow, ↓reduceIte, eq_self, Int.reduceEq, Nat.reduceEqDiff, Nat.reduceMul, Nat.reduceLeDiff, Tryd.f36, hln, a1, hix, hld]
end Go.Abs
namespace Go.Abs
open Go.Proofs
set_option maxRecDepth 100000
set_option linter.unusedSimpArgs false
set_option linter.unusedVariables false
structure Me where
  mk ::
  (user : Bs)
  (nick : Bs)
  (role : Int)
  deriving DecidableEq
abbrev Me.C (x : Me) : List Value := [sV x.user, sV x.nick, iV x.role]
abbrev Me.V (x : Me) : Value := .agg ⟨[sV x.user, sV x.nick, iV x.role]⟩
def Me.R (xs : List Me) : List Value := xs.flatMap Me.C
theorem Me.R_len (xs : List Me) : (Me.R xs).length = 3 * xs.length := by
  induction xs with
  | nil => rfl
  | cons x xs ih => simp only [Me.R, List.flatMap_cons, List.length_append, List.length_cons, List.length_nil] at ih ⊢; omega
theorem Me.R_app (a b : List Me) : Me.R (a ++ b) = Me.R a ++ Me.R b := by simp [Me.R]
theorem Me.R_cons (x : Me) (r : List Me) : Me.R (x :: r) = Me.C x ++ Me.R r := by simp [Me.R]
theorem Me.R_one (x : Me) : Me.R [x] = Me.C x := by simp [Me.R]
theorem Me.get (d : List Me) (x : Me) (r : List Me) : ((Me.R (d ++ x :: r)).drop (d.length * 3)).take 3 = Me.C x := by
  rw [Me.R_app, Me.R_cons, List.drop_left' (by rw [Me.R_len]; omega)]
  rfl
theorem Me.cell (d : List Me) (x : Me) (r : List Me) (j : Nat) (hj : j < 3) : (Me.R (d ++ x :: r))[d.length * 3 + j]? = (Me.C x)[j]? := by
  rw [Me.R_app, Me.R_cons, List.getElem?_append_right (by rw [Me.R_len]; omega), Me.R_len, show d.length * 3 + j - 3 * d.length = j by omega, List.getElem?_append_left (by simpa using hj)]
theorem Me.ldN {h : AH} {id g : Nat} {d r : List Me} {x : Me} (e : h[id]? = some (.row g 3 (Me.R (d ++ x :: r)))) : ldN h (pV id (d.length * 3) g) 3 = some (Me.C x) := by
  rw [ldN_of e (by rw [Me.R_len]; simp; omega), Me.get]
theorem Me.ld1 {h : AH} {id g : Nat} {d r : List Me} {x : Me} (j : Nat) (hj : j < 3) (e : h[id]? = some (.row g 3 (Me.R (d ++ x :: r)))) : ld h (pV id (d.length * 3 + j) g) = (Me.C x)[j]? := by
  rw [← Me.cell d x r j hj]
  simp only [ld, rowAt_of e, Option.bind_some]
/-- a slice that is read -/
def Me.Rd (h : AH) (v : Value) (xs : List Me) : Prop :=
  (v = .slice none 0 0 ∧ xs = []) ∨ ∃ id g c, v = slV id g xs.length c ∧ h[id]? = some (.row g 3 (Me.R xs))
theorem Me.Rd.len {h : AH} {v : Value} {xs : List Me} (r : Me.Rd h v xs) : lenV v = some (xs.length : Int) := by
  rcases r with ⟨rfl, rfl⟩ | ⟨id, g, c, rfl, _⟩ <;> rfl
theorem Me.Rd.get {h : AH} {v : Value} {d r : List Me} {x : Me} (q : Me.Rd h v (d ++ x :: r)) : ∃ p, ixAddr v (d.length : Int) 3 = some p ∧ Abs.ldN h p 3 = some (Me.C x) := by
  rcases q with ⟨_, q⟩ | ⟨id, g, c, rfl, e⟩
  · simp at q
  · exact ⟨pV id (d.length * 3) g, by rw [ixAddr_sl (by simp)]; simp, Me.ldN e⟩
theorem Me.Rd.keep {h h' : AH} {v : Value} {xs : List Me} (q : Me.Rd h v xs) (k : Keep h.length h h') : Me.Rd h' v xs := by
  rcases q with q | ⟨id, g, c, rfl, e⟩
  · exact .inl q
  · exact .inr ⟨id, g, c, rfl, k.get e (lt_of_get e)⟩
theorem Me.Rd.own {h : AH} {id g c : Nat} {xs : List Me} (e : h[id]? = some (.row g 3 (Me.R xs))) : Me.Rd h (slV id g xs.length c) xs := .inr ⟨id, g, c, rfl, e⟩
/-- a slice of the call's own, all of whose room is taken -/
def Me.Ow (h : AH) (v : Value) (xs : List Me) : Prop :=
  (v = .slice none 0 0 ∧ xs = []) ∨ ∃ id g, v = slV id g xs.length xs.length ∧ h[id]? = some (.row g 3 (Me.R xs))
theorem Me.Ow.one {h : AH} {v : Value} {xs : List Me} (q : Me.Ow h v xs) : oneCell v = true := by
  rcases q with ⟨rfl, _⟩ | ⟨id, g, rfl, e⟩ <;> rfl
theorem Me.Ow.rd {h : AH} {v : Value} {xs : List Me} (q : Me.Ow h v xs) : Me.Rd h v xs := by
  rcases q with q | ⟨id, g, rfl, e⟩
  · exact .inl q
  · exact .inr ⟨id, g, _, rfl, e⟩
theorem Me.Ow.keep {h h' : AH} {v : Value} {xs : List Me} (q : Me.Ow h v xs) (k : Keep h.length h h') : Me.Ow h' v xs := by
  rcases q with q | ⟨id, g, rfl, e⟩
  · exact .inl q
  · exact .inr ⟨id, g, rfl, k.get e (lt_of_get e)⟩
theorem Me.Ow.kx {h h' : AH} {v : Value} {xs : List Me} {ix : Nat} {cs : List Value} (q : Me.Ow h v xs) (k : KX h.length ix h h') (e2 : h[ix]? = some (.row 0 2 cs)) : Me.Ow h' v xs := by
  rcases q with q | ⟨id, g, rfl, e⟩
  · exact .inl q
  · refine .inr ⟨id, g, rfl, k.get e (lt_of_get e) ?_⟩
    rintro rfl
    rw [e] at e2
    injection e2 with e2; injection e2 with a b c
    exact absurd b (by decide)
theorem Me.Rd.src {h : AH} {v : Value} {xs : List Me} (q : Me.Rd h v xs) : lenOf v = some xs.length ∧ srcCells h v xs.length 3 = some (Me.R xs) := by
  rcases q with ⟨rfl, rfl⟩ | ⟨id, g, c, rfl, e⟩
  · exact ⟨rfl, rfl⟩
  · refine ⟨rfl, ?_⟩
    simp only [srcCells, rowAt_of e, Option.bind_some, cut]
    rw [if_pos (by rw [Me.R_len]; omega)]
    simp only [List.drop_zero]
    rw [List.take_of_length_le (by rw [Me.R_len]; omega)]
structure Rk where
  mk ::
  (user : Bs)
  (num : Int)
  deriving DecidableEq
abbrev Rk.C (x : Rk) : List Value := [sV x.user, iV x.num]
abbrev Rk.V (x : Rk) : Value := .agg ⟨[sV x.user, iV x.num]⟩
def Rk.R (xs : List Rk) : List Value := xs.flatMap Rk.C
theorem Rk.R_len (xs : List Rk) : (Rk.R xs).length = 2 * xs.length := by
  induction xs with
  | nil => rfl
  | cons x xs ih => simp only [Rk.R, List.flatMap_cons, List.length_append, List.length_cons, List.length_nil] at ih ⊢; omega
theorem Rk.R_app (a b : List Rk) : Rk.R (a ++ b) = Rk.R a ++ Rk.R b := by simp [Rk.R]
theorem Rk.R_cons (x : Rk) (r : List Rk) : Rk.R (x :: r) = Rk.C x ++ Rk.R r := by simp [Rk.R]
theorem Rk.R_one (x : Rk) : Rk.R [x] = Rk.C x := by simp [Rk.R]
theorem Rk.get (d : List Rk) (x : Rk) (r : List Rk) : ((Rk.R (d ++ x :: r)).drop (d.length * 2)).take 2 = Rk.C x := by
  rw [Rk.R_app, Rk.R_cons, List.drop_left' (by rw [Rk.R_len]; omega)]
  rfl
theorem Rk.cell (d : List Rk) (x : Rk) (r : List Rk) (j : Nat) (hj : j < 2) : (Rk.R (d ++ x :: r))[d.length * 2 + j]? = (Rk.C x)[j]? := by
  rw [Rk.R_app, Rk.R_cons, List.getElem?_append_right (by rw [Rk.R_len]; omega), Rk.R_len, show d.length * 2 + j - 2 * d.length = j by omega, List.getElem?_append_left (by simpa using hj)]
theorem Rk.ldN {h : AH} {id g : Nat} {d r : List Rk} {x : Rk} (e : h[id]? = some (.row g 2 (Rk.R (d ++ x :: r)))) : ldN h (pV id (d.length * 2) g) 2 = some (Rk.C x) := by
  rw [ldN_of e (by rw [Rk.R_len]; simp; omega), Rk.get]
theorem Rk.ld1 {h : AH} {id g : Nat} {d r : List Rk} {x : Rk} (j : Nat) (hj : j < 2) (e : h[id]? = some (.row g 2 (Rk.R (d ++ x :: r)))) : ld h (pV id (d.length * 2 + j) g) = (Rk.C x)[j]? := by
  rw [← Rk.cell d x r j hj]
  simp only [ld, rowAt_of e, Option.bind_some]
/-- a slice that is read -/
def Rk.Rd (h : AH) (v : Value) (xs : List Rk) : Prop :=
  (v = .slice none 0 0 ∧ xs = []) ∨ ∃ id g c, v = slV id g xs.length c ∧ h[id]? = some (.row g 2 (Rk.R xs))
theorem Rk.Rd.len {h : AH} {v : Value} {xs : List Rk} (r : Rk.Rd h v xs) : lenV v = some (xs.length : Int) := by
  rcases r with ⟨rfl, rfl⟩ | ⟨id, g, c, rfl, _⟩ <;> rfl
theorem Rk.Rd.get {h : AH} {v : Value} {d r : List Rk} {x : Rk} (q : Rk.Rd h v (d ++ x :: r)) : ∃ p, ixAddr v (d.length : Int) 2 = some p ∧ Abs.ldN h p 2 = some (Rk.C x) := by
  rcases q with ⟨_, q⟩ | ⟨id, g, c, rfl, e⟩
  · simp at q
  · exact ⟨pV id (d.length * 2) g, by rw [ixAddr_sl (by simp)]; simp, Rk.ldN e⟩
theorem Rk.Rd.keep {h h' : AH} {v : Value} {xs : List Rk} (q : Rk.Rd h v xs) (k : Keep h.length h h') : Rk.Rd h' v xs := by
  rcases q with q | ⟨id, g, c, rfl, e⟩
  · exact .inl q
  · exact .inr ⟨id, g, c, rfl, k.get e (lt_of_get e)⟩
theorem Rk.Rd.own {h : AH} {id g c : Nat} {xs : List Rk} (e : h[id]? = some (.row g 2 (Rk.R xs))) : Rk.Rd h (slV id g xs.length c) xs := .inr ⟨id, g, c, rfl, e⟩
/-- a slice of the call's own, all of whose room is taken -/
def Rk.Ow (h : AH) (v : Value) (xs : List Rk) : Prop :=
  (v = .slice none 0 0 ∧ xs = []) ∨ ∃ id g, v = slV id g xs.length xs.length ∧ h[id]? = some (.row g 2 (Rk.R xs))
theorem Rk.Ow.one {h : AH} {v : Value} {xs : List Rk} (q : Rk.Ow h v xs) : oneCell v = true := by
  rcases q with ⟨rfl, _⟩ | ⟨id, g, rfl, e⟩ <;> rfl
theorem Rk.Ow.rd {h : AH} {v : Value} {xs : List Rk} (q : Rk.Ow h v xs) : Rk.Rd h v xs := by
  rcases q with q | ⟨id, g, rfl, e⟩
  · exact .inl q
  · exact .inr ⟨id, g, _, rfl, e⟩
theorem Rk.Ow.keep {h h' : AH} {v : Value} {xs : List Rk} (q : Rk.Ow h v xs) (k : Keep h.length h h') : Rk.Ow h' v xs := by
  rcases q with q | ⟨id, g, rfl, e⟩
  · exact .inl q
  · exact .inr ⟨id, g, rfl, k.get e (lt_of_get e)⟩
theorem Rk.Rd.src {h : AH} {v : Value} {xs : List Rk} (q : Rk.Rd h v xs) : lenOf v = some xs.length ∧ srcCells h v xs.length 2 = some (Rk.R xs) := by
  rcases q with ⟨rfl, rfl⟩ | ⟨id, g, c, rfl, e⟩
  · exact ⟨rfl, rfl⟩
  · refine ⟨rfl, ?_⟩
    simp only [srcCells, rowAt_of e, Option.bind_some, cut]
    rw [if_pos (by rw [Rk.R_len]; omega)]
    simp only [List.drop_zero]
    rw [List.take_of_length_le (by rw [Rk.R_len]; omega)]
structure Ro where
  mk ::
  (name : Bs)
  (next : Int)
  (ms : Value)
  (rs : Value)
  (subj : Bs)
abbrev Ro.C (x : Ro) : List Value := [sV x.name, iV x.next, x.ms, x.rs, sV x.subj]
abbrev Ro.V (x : Ro) : Value := .agg ⟨[sV x.name, iV x.next, x.ms, x.rs, sV x.subj]⟩
structure Sa where
  mk ::
  (kind : Int)
  (room : Bs)
  (nick : Bs)
  (name : Bs)
  (id : Bs)
  (ref : Bs)
  (text : Bs)
  (num : Int)
  (frm : Int)
  (back : Int)
  deriving DecidableEq
abbrev Sa.C (x : Sa) : List Value := [iV x.kind, sV x.room, sV x.nick, sV x.name, sV x.id, sV x.ref, sV x.text, iV x.num, iV x.frm, iV x.back]
abbrev Sa.V (x : Sa) : Value := .agg ⟨[iV x.kind, sV x.room, sV x.nick, sV x.name, sV x.id, sV x.ref, sV x.text, iV x.num, iV x.frm, iV x.back]⟩
theorem Me.c0 (d : List Me) (x : Me) (r : List Me) : (Me.R (d ++ x :: r))[d.length * 3 + 0]? = some (sV x.user) := Me.cell d x r 0 (by decide)
theorem Me.c1 (d : List Me) (x : Me) (r : List Me) : (Me.R (d ++ x :: r))[d.length * 3 + 1]? = some (sV x.nick) := Me.cell d x r 1 (by decide)
theorem Me.c2 (d : List Me) (x : Me) (r : List Me) : (Me.R (d ++ x :: r))[d.length * 3 + 2]? = some (iV x.role) := Me.cell d x r 2 (by decide)
theorem Me.Rd.at {h : AH} {v : Value} {d r : List Me} {x : Me} (q : Me.Rd h v (d ++ x :: r)) : ∃ id g, ixAddr v (d.length : Int) 3 = some (pV id (d.length * 3) g) ∧ h[id]? = some (.row g 3 (Me.R (d ++ x :: r))) ∧ id < h.length := by
  rcases q with ⟨_, q⟩ | ⟨id, g, c, rfl, e⟩
  · simp at q
  · exact ⟨id, g, by rw [ixAddr_sl (by simp)]; simp, e, lt_of_get e⟩
theorem Rk.c0 (d : List Rk) (x : Rk) (r : List Rk) : (Rk.R (d ++ x :: r))[d.length * 2 + 0]? = some (sV x.user) := Rk.cell d x r 0 (by decide)
theorem Rk.c1 (d : List Rk) (x : Rk) (r : List Rk) : (Rk.R (d ++ x :: r))[d.length * 2 + 1]? = some (iV x.num) := Rk.cell d x r 1 (by decide)
theorem Rk.Rd.at {h : AH} {v : Value} {d r : List Rk} {x : Rk} (q : Rk.Rd h v (d ++ x :: r)) : ∃ id g, ixAddr v (d.length : Int) 2 = some (pV id (d.length * 2) g) ∧ h[id]? = some (.row g 2 (Rk.R (d ++ x :: r))) ∧ id < h.length := by
  rcases q with ⟨_, q⟩ | ⟨id, g, c, rfl, e⟩
  · simp at q
  · exact ⟨id, g, by rw [ixAddr_sl (by simp)]; simp, e, lt_of_get e⟩
theorem En.c0 (d : List En) (x : En) (r : List En) : (En.R (d ++ x :: r))[d.length * 9 + 0]? = some (sV x.room) := En.cell d x r 0 (by decide)
theorem En.c1 (d : List En) (x : En) (r : List En) : (En.R (d ++ x :: r))[d.length * 9 + 1]? = some (iV x.seq) := En.cell d x r 1 (by decide)
theorem En.c2 (d : List En) (x : En) (r : List En) : (En.R (d ++ x :: r))[d.length * 9 + 2]? = some (iV x.kind) := En.cell d x r 2 (by decide)
theorem En.c3 (d : List En) (x : En) (r : List En) : (En.R (d ++ x :: r))[d.length * 9 + 3]? = some (sV x.user) := En.cell d x r 3 (by decide)
theorem En.c4 (d : List En) (x : En) (r : List En) : (En.R (d ++ x :: r))[d.length * 9 + 4]? = some (sV x.nick) := En.cell d x r 4 (by decide)
theorem En.c5 (d : List En) (x : En) (r : List En) : (En.R (d ++ x :: r))[d.length * 9 + 5]? = some (sV x.text) := En.cell d x r 5 (by decide)
theorem En.c6 (d : List En) (x : En) (r : List En) : (En.R (d ++ x :: r))[d.length * 9 + 6]? = some (sV x.id) := En.cell d x r 6 (by decide)
theorem En.c7 (d : List En) (x : En) (r : List En) : (En.R (d ++ x :: r))[d.length * 9 + 7]? = some (sV x.ref) := En.cell d x r 7 (by decide)
theorem En.c8 (d : List En) (x : En) (r : List En) : (En.R (d ++ x :: r))[d.length * 9 + 8]? = some (iV x.num) := En.cell d x r 8 (by decide)
theorem En.Rd.at {h : AH} {v : Value} {d r : List En} {x : En} (q : En.Rd h v (d ++ x :: r)) : ∃ id g, ixAddr v (d.length : Int) 9 = some (pV id (d.length * 9) g) ∧ h[id]? = some (.row g 9 (En.R (d ++ x :: r))) ∧ id < h.length := by
  rcases q with ⟨_, q⟩ | ⟨id, g, c, rfl, e⟩
  · simp at q
  · exact ⟨id, g, by rw [ixAddr_sl (by simp)]; simp, e, lt_of_get e⟩
end Go.Abs
namespace Go.Abs
open Go.Proofs
set_option linter.unusedVariables false

/-! ### runs of which only something is known -/
/-- a run that answers something of which P is known -/
def Okr (P : Value → AH → Prop) (x : R) : Prop := ∃ v h, x = some (.ret v h) ∧ P v h
theorem Okr.ret {P : Value → AH → Prop} {v : Value} {h : AH} (p : P v h) : Okr P (some (.ret v h)) := ⟨v, h, rfl, p⟩
theorem Okr.mono {P Q : Value → AH → Prop} {x : R} (e : Okr P x) (hq : ∀ v h, P v h → Q v h) : Okr Q x := let ⟨v, h, e1, p⟩ := e; ⟨v, h, e1, hq v h p⟩
theorem okr_fn {P : Value → AH → Prop} {f : Nat} {F : Func} {c : Code} {rs : List ResultVar} {n : Nat} {l : Nat} {fr fr' : Frm} {h : AH} (hF : Tryd.prog.funcs[f]? = some F) (hb : F.body = some c) (hr : F.results.toList = rs) (hn : F.ntmps = n) (hf : padF n fr = fr')
    (e : Okr P (exec V0 (run V0) f l (retQ V0.P rs) panK c [] ⟨retQ V0.P rs, fun _ _ _ => none⟩ fr' h)) (hp : V0.prim f = none := by rfl) : Okr P (run V0 (.fn f) l fr h) :=
  let ⟨v, h', e1, p⟩ := e; ⟨v, h', run_fn hF hb hr hn hf e1 hp, p⟩
theorem okr_code {P : Value → AH → Prop} {f : Nat} {F : Func} {c : Code} {rs : List ResultVar} {l : Nat} {p : List Nat} {fr : Frm} {h : AH} (hF : Tryd.prog.funcs[f]? = some F) (hb : F.body = some c) (hr : F.results.toList = rs)
    (e : Okr P (goAt (run V0) f l (retQ V0.P rs) panK p c [] (retQ V0.P rs) (fun _ _ _ => none) fr h)) : Okr P (run V0 (.code f p) l fr h) :=
  let ⟨v, h', e1, p⟩ := e; ⟨v, h', run_code hF hb hr e1, p⟩
/-- a call whose answer is known in part -/
theorem okr_call {P Q : Value → AH → Prop} {x : R} {K Kp : Value → AH → R} (e : Okr Q x) (hk : ∀ v h, Q v h → Okr P (K v h)) :
    Okr P (match (generalizing := false) x with | some o => (match o with | .ret v h => K v h | .pan v h => Kp v h) | none => none) := by
  obtain ⟨v, h, rfl, q⟩ := e
  exact hk v h q
theorem okr_opt {α : Type} {P : Value → AH → Prop} {x : Option α} {K : α → R} {Q : α → Prop} (e : ∃ y, x = some y ∧ Q y) (hk : ∀ y, Q y → Okr P (K y)) : Okr P (match (generalizing := false) x with | some y => K y | none => none) := by
  obtain ⟨y, rfl, q⟩ := e
  exact hk y q
theorem okr_bool {P : Value → AH → Prop} {b : Bool} {X Y : R} (h1 : b = true → Okr P X) (h2 : b = false → Okr P Y) : Okr P (match (generalizing := false) b with | true => X | false => Y) := by
  cases b with
  | true => exact h1 rfl
  | false => exact h2 rfl
theorem HC1 {h : AH} {o : AObj} {j : Nat} (hj : j < h.length) : (h ++ [o])[j]? = h[j]? := List.getElem?_append_left hj
theorem HC2 {h : AH} {o : AObj} {j : Nat} (hj : j = h.length) : (h ++ [o])[j]? = some o := by subst hj; simp
theorem HC3 {h : AH} {o : AObj} {i j : Nat} (hij : i ≠ j) : (h.set i o)[j]? = h[j]? := List.getElem?_set_ne hij
theorem HC4 {h : AH} {o : AObj} {i j : Nat} (hij : i = j) (hi : i < h.length) : (h.set i o)[j]? = some o := by subst hij; exact List.getElem?_set_self hi
theorem LEo {a b : Nat} (q : a ≤ b) : (a ≤ b) = True := eq_true q
theorem Keep.ap {a h : AH} {o : AObj} (k : Keep a.length a h) : Keep a.length a (h ++ [o]) := k.trans (Keep.app _ _ k.1)
theorem Keep.st {n i : Nat} {a h : AH} {o : AObj} (hi : n ≤ i) (k : Keep n a h) : Keep n a (h.set i o) := k.trans (Keep.set _ _ _ hi)
theorem slV_new (h : AH) (n : Nat) : newS h n n = slV h.length 0 n n := rfl
/-- append, of which only the outcome is told -/
theorem app_ok {lim : Nat} {h : AH} {id g sz tg n k by' : Nat} {cs ds : List Value} {x : Value} (hl : lim ≤ id) (e : h[id]? = some (.row g tg cs)) (hn : n * sz = cs.length) (hx : lenOf x = some k ∧ srcCells h x k sz = some ds) (hb : (n + k) * by' ≤ 2 ^ 47)
    {Q : Value × AH → Prop} (hq : ∀ g', Q (slV id g' (n + k) (n + k), h.set id (.row g' tg (cs ++ ds)))) : ∃ y, app lim h (slV id g n n) x sz tg by' = some y ∧ Q y := by
  obtain ⟨hx, hs⟩ := hx
  by_cases h0 : k = 0
  · subst h0
    have hds : ds = [] := by
      have := srcCells_len hs hx (Nat.le_refl _)
      rw [Nat.zero_mul] at this
      exact List.eq_nil_of_length_eq_zero this
    subst hds
    refine ⟨_, ?_, hq g⟩
    rw [List.append_nil, set_same e]
    simp only [app, hx, Option.bind_some, if_true, Nat.add_zero]
  · refine ⟨_, ?_, hq (g + 1)⟩
    simp only [app, hx, Option.bind_some]
    rw [if_neg h0, hs, rowAt_of e]
    simp only [Option.bind_some]
    rw [if_neg (by omega), if_pos ⟨hl, True.intro, True.intro, hn, hb⟩]
def AppQ (h : AH) (id n k tg : Nat) (cs ds : List Value) (y : Value × AH) : Prop := ∃ g', y = (slV id g' (n + k) (n + k), h.set id (.row g' tg (cs ++ ds)))
theorem okr_app {lim : Nat} {h : AH} {id g sz tg n k by' : Nat} {cs ds : List Value} {x : Value} (hx : lenOf x = some k ∧ srcCells h x k sz = some ds) (e : h[id]? = some (.row g tg cs)) (hn : n * sz = cs.length) (hl : lim ≤ id) (hb : (n + k) * by' ≤ 2 ^ 47) :
    ∃ y, app lim h (slV id g n n) x sz tg by' = some y ∧ AppQ h id n k tg cs ds y :=
  app_ok hl e hn hx hb fun g' => ⟨g', rfl⟩
theorem src_new {h : AH} {i g n c sz tg : Nat} {ds : List Value} (e : h[i]? = some (.row g tg ds)) (hn : n * sz = ds.length) : lenOf (slV i g n c) = some n ∧ srcCells h (slV i g n c) n sz = some ds := by
  refine ⟨rfl, ?_⟩
  simp only [srcCells, rowAt_of e, Option.bind_some, cut]
  rw [if_pos (by omega), List.drop_zero, List.take_of_length_le (by omega)]
theorem src_keep {h h' : AH} {x : Value} {k sz : Nat} {ds : List Value} (q : lenOf x = some k ∧ srcCells h x k sz = some ds) (hk : Keep h.length h h') : lenOf x = some k ∧ srcCells h' x k sz = some ds := by
  refine ⟨q.1, ?_⟩
  have q2 := q.2
  have key : ∀ (id g : Nat) (r : Nat × List Value), rowAt h id g = some r → rowAt h' id g = some r := by
    intro id g r e
    have hl : id < h.length := by
      rcases Nat.lt_or_ge id h.length with hl | hl
      · exact hl
      · simp only [rowAt, List.getElem?_eq_none hl] at e; exact absurd e (by simp)
    rw [← e]
    simp only [rowAt, hk.2 id hl]
  cases x <;> try exact q2
  rename_i p n c
  cases p with
  | none => exact q2
  | some p =>
    rcases p with ⟨id, off, g⟩
    cases g with
    | none => exact q2
    | some g =>
      simp only [srcCells] at q2 ⊢
      cases hr : rowAt h id g with
      | none => rw [hr] at q2; simp at q2
      | some r => rw [hr] at q2; rw [key id g r hr]; exact q2
theorem Me.app1 {lim : Nat} {h : AH} {id g : Nat} {os : List Me} (y : Me) (e : h[id]? = some (.row g 3 (Me.R os))) (hl : lim ≤ id) (hb : os.length ≤ 2 ^ 30) :
    ∃ z, app lim (h ++ [AObj.row 0 3 (Me.C y)]) (slV id g os.length os.length) (slV h.length 0 1 1) 3 3 40 = some z ∧ ∃ g', z = (slV id g' (os.length + 1) (os.length + 1), (h ++ [AObj.row 0 3 (Me.C y)]).set id (.row g' 3 (Me.R (os ++ [y])))) := by
  have hi := lt_of_get e
  obtain ⟨z, e1, g', rfl⟩ := okr_app (lim := lim) (h := h ++ [AObj.row 0 3 (Me.C y)]) (id := id) (g := g) (tg := 3) (n := os.length) (k := 1) (by' := 40) (cs := Me.R os) (x := slV h.length 0 1 1) (ds := Me.C y) (src_new (i := h.length) (g := 0) (c := 1) (sz := 3) (tg := 3) (HC2 rfl) rfl) (by rw [HC1 hi, e]) (by rw [Me.R_len]; omega) hl (by omega)
  exact ⟨_, e1, g', by rw [Me.R_app, Me.R_one]⟩
theorem Rk.app1 {lim : Nat} {h : AH} {id g : Nat} {os : List Rk} (y : Rk) (e : h[id]? = some (.row g 2 (Rk.R os))) (hl : lim ≤ id) (hb : os.length ≤ 2 ^ 30) :
    ∃ z, app lim (h ++ [AObj.row 0 2 (Rk.C y)]) (slV id g os.length os.length) (slV h.length 0 1 1) 2 2 24 = some z ∧ ∃ g', z = (slV id g' (os.length + 1) (os.length + 1), (h ++ [AObj.row 0 2 (Rk.C y)]).set id (.row g' 2 (Rk.R (os ++ [y])))) := by
  have hi := lt_of_get e
  obtain ⟨z, e1, g', rfl⟩ := okr_app (lim := lim) (h := h ++ [AObj.row 0 2 (Rk.C y)]) (id := id) (g := g) (tg := 2) (n := os.length) (k := 1) (by' := 24) (cs := Rk.R os) (x := slV h.length 0 1 1) (ds := Rk.C y) (src_new (i := h.length) (g := 0) (c := 1) (sz := 2) (tg := 2) (HC2 rfl) rfl) (by rw [HC1 hi, e]) (by rw [Rk.R_len]; omega) hl (by omega)
  exact ⟨_, e1, g', by rw [Rk.R_app, Rk.R_one]⟩
theorem En.app1 {lim : Nat} {h : AH} {id g : Nat} {os : List En} (y : En) (e : h[id]? = some (.row g 9 (En.R os))) (hl : lim ≤ id) (hb : os.length ≤ 2 ^ 30) :
    ∃ z, app lim (h ++ [AObj.row 0 9 (En.C y)]) (slV id g os.length os.length) (slV h.length 0 1 1) 9 9 120 = some z ∧ ∃ g', z = (slV id g' (os.length + 1) (os.length + 1), (h ++ [AObj.row 0 9 (En.C y)]).set id (.row g' 9 (En.R (os ++ [y])))) := by
  have hi := lt_of_get e
  obtain ⟨z, e1, g', rfl⟩ := okr_app (lim := lim) (h := h ++ [AObj.row 0 9 (En.C y)]) (id := id) (g := g) (tg := 9) (n := os.length) (k := 1) (by' := 120) (cs := En.R os) (x := slV h.length 0 1 1) (ds := En.C y) (src_new (i := h.length) (g := 0) (c := 1) (sz := 9) (tg := 9) (HC2 rfl) rfl) (by rw [HC1 hi, e]) (by rw [En.R_len]; omega) hl (by omega)
  exact ⟨_, e1, g', by rw [En.R_app, En.R_one]⟩
theorem lenV_sl {i g n c : Nat} : lenV (slV i g n c) = some (n : Int) := rfl
theorem Me.app2 {lim : Nat} {h : AH} {id g no nh : Nat} {os : List Me} {cs ys : List Value} (y : Me) (e : h[id]? = some (.row g 3 cs)) (hc : cs = Me.R os) (hno : no = os.length) (hnh : nh = h.length) (hl : lim ≤ id) (hb : os.length ≤ 2 ^ 30) (hy : ys = Me.C y) :
    ∃ z, app lim (h ++ [AObj.row 0 3 ys]) (slV id g no no) (slV nh 0 1 1) 3 3 40 = some z ∧ ∃ g', z = (slV id g' (no + 1) (no + 1), (h ++ [AObj.row 0 3 ys]).set id (.row g' 3 (Me.R (os ++ [y])))) := by
  subst hc hno hnh hy
  exact Me.app1 y e hl hb
theorem Rk.app2 {lim : Nat} {h : AH} {id g no nh : Nat} {os : List Rk} {cs ys : List Value} (y : Rk) (e : h[id]? = some (.row g 2 cs)) (hc : cs = Rk.R os) (hno : no = os.length) (hnh : nh = h.length) (hl : lim ≤ id) (hb : os.length ≤ 2 ^ 30) (hy : ys = Rk.C y) :
    ∃ z, app lim (h ++ [AObj.row 0 2 ys]) (slV id g no no) (slV nh 0 1 1) 2 2 24 = some z ∧ ∃ g', z = (slV id g' (no + 1) (no + 1), (h ++ [AObj.row 0 2 ys]).set id (.row g' 2 (Rk.R (os ++ [y])))) := by
  subst hc hno hnh hy
  exact Rk.app1 y e hl hb
theorem En.app2 {lim : Nat} {h : AH} {id g no nh : Nat} {os : List En} {cs ys : List Value} (y : En) (e : h[id]? = some (.row g 9 cs)) (hc : cs = En.R os) (hno : no = os.length) (hnh : nh = h.length) (hl : lim ≤ id) (hb : os.length ≤ 2 ^ 30) (hy : ys = En.C y) :
    ∃ z, app lim (h ++ [AObj.row 0 9 ys]) (slV id g no no) (slV nh 0 1 1) 9 9 120 = some z ∧ ∃ g', z = (slV id g' (no + 1) (no + 1), (h ++ [AObj.row 0 9 ys]).set id (.row g' 9 (En.R (os ++ [y])))) := by
  subst hc hno hnh hy
  exact En.app1 y e hl hb
theorem HA0 (h L : AH) : (h ++ L)[h.length]? = L[0]? := by rw [List.getElem?_append_right (Nat.le_refl _), Nat.sub_self]
theorem HA1 (h L : AH) (k : Nat) : (h ++ L)[h.length + k]? = L[k]? := by rw [List.getElem?_append_right (by omega), Nat.add_sub_cancel_left]
theorem HS0 (h L : AH) (o : AObj) : (h ++ L).set h.length o = h ++ L.set 0 o := by rw [List.set_append_right _ _ (Nat.le_refl _), Nat.sub_self]
theorem HS1 (h L : AH) (k : Nat) (o : AObj) : (h ++ L).set (h.length + k) o = h ++ L.set k o := by rw [List.set_append_right _ _ (by omega), Nat.add_sub_cancel_left]
theorem HAn {h L : AH} {j : Nat} (q : j < h.length) : (h ++ L)[j]? = h[j]? := List.getElem?_append_left q
theorem HSn {h L : AH} {j : Nat} {o : AObj} (q : j < h.length) : (h ++ L).set j o = h.set j o ++ L := List.set_append_left _ _ q
theorem HB0 (h L : AH) (j : Nat) (o : AObj) : (h.set j o ++ L)[h.length]? = L[0]? := by rw [List.getElem?_append_right (by simp), List.length_set, Nat.sub_self]
theorem HB1 (h L : AH) (k j : Nat) (o : AObj) : (h.set j o ++ L)[h.length + k]? = L[k]? := by rw [List.getElem?_append_right (by simp), List.length_set, Nat.add_sub_cancel_left]
theorem HT0 (h L : AH) (j : Nat) (o o2 : AObj) : (h.set j o ++ L).set h.length o2 = h.set j o ++ L.set 0 o2 := by rw [List.set_append_right _ _ (by simp), List.length_set, Nat.sub_self]
theorem HT1 (h L : AH) (k j : Nat) (o o2 : AObj) : (h.set j o ++ L).set (h.length + k) o2 = h.set j o ++ L.set k o2 := by rw [List.set_append_right _ _ (by simp), List.length_set, Nat.add_sub_cancel_left]
theorem Me.app3 {lim : Nat} {h : AH} {id g g2 no nh : Nat} {os : List Me} {cs ys : List Value} (y : Me) (e : h[id]? = some (.row g 3 cs)) (e2 : h[nh]? = some (.row g2 3 ys)) (hc : cs = Me.R os) (hno : no = os.length) (hl : lim ≤ id) (hb : os.length ≤ 2 ^ 30) (hy : ys = Me.C y) :
    ∃ z, app lim h (slV id g no no) (slV nh g2 1 1) 3 3 40 = some z ∧ ∃ g', z = (slV id g' (no + 1) (no + 1), h.set id (.row g' 3 (Me.R (os ++ [y])))) := by
  subst hc hno hy
  obtain ⟨z, e1, g', rfl⟩ := okr_app (lim := lim) (id := id) (g := g) (tg := 3) (n := os.length) (k := 1) (by' := 40) (cs := Me.R os) (x := slV nh g2 1 1) (ds := Me.C y) (src_new (sz := 3) (tg := 3) e2 rfl) e (by rw [Me.R_len]; omega) hl (by omega)
  exact ⟨_, e1, g', by rw [Me.R_app, Me.R_one]⟩
theorem Rk.app3 {lim : Nat} {h : AH} {id g g2 no nh : Nat} {os : List Rk} {cs ys : List Value} (y : Rk) (e : h[id]? = some (.row g 2 cs)) (e2 : h[nh]? = some (.row g2 2 ys)) (hc : cs = Rk.R os) (hno : no = os.length) (hl : lim ≤ id) (hb : os.length ≤ 2 ^ 30) (hy : ys = Rk.C y) :
    ∃ z, app lim h (slV id g no no) (slV nh g2 1 1) 2 2 24 = some z ∧ ∃ g', z = (slV id g' (no + 1) (no + 1), h.set id (.row g' 2 (Rk.R (os ++ [y])))) := by
  subst hc hno hy
  obtain ⟨z, e1, g', rfl⟩ := okr_app (lim := lim) (id := id) (g := g) (tg := 2) (n := os.length) (k := 1) (by' := 24) (cs := Rk.R os) (x := slV nh g2 1 1) (ds := Rk.C y) (src_new (sz := 2) (tg := 2) e2 rfl) e (by rw [Rk.R_len]; omega) hl (by omega)
  exact ⟨_, e1, g', by rw [Rk.R_app, Rk.R_one]⟩
theorem En.app3 {lim : Nat} {h : AH} {id g g2 no nh : Nat} {os : List En} {cs ys : List Value} (y : En) (e : h[id]? = some (.row g 9 cs)) (e2 : h[nh]? = some (.row g2 9 ys)) (hc : cs = En.R os) (hno : no = os.length) (hl : lim ≤ id) (hb : os.length ≤ 2 ^ 30) (hy : ys = En.C y) :
    ∃ z, app lim h (slV id g no no) (slV nh g2 1 1) 9 9 120 = some z ∧ ∃ g', z = (slV id g' (no + 1) (no + 1), h.set id (.row g' 9 (En.R (os ++ [y])))) := by
  subst hc hno hy
  obtain ⟨z, e1, g', rfl⟩ := okr_app (lim := lim) (id := id) (g := g) (tg := 9) (n := os.length) (k := 1) (by' := 120) (cs := En.R os) (x := slV nh g2 1 1) (ds := En.C y) (src_new (sz := 9) (tg := 9) e2 rfl) e (by rw [En.R_len]; omega) hl (by omega)
  exact ⟨_, e1, g', by rw [En.R_app, En.R_one]⟩
theorem okr_stop {P : Value → AH → Prop} {x : R} {w : Fx x} (e : Okr P x) : Okr P (Stop x w) := e
theorem okr_if {P : Value → AH → Prop} {b : Bool} {X Y : R} {w : Fx X} {u : Fx Y} (h1 : b = true → Okr P X) (h2 : b = false → Okr P Y) : Okr P (onB b (Stop X w) (Stop Y u)) := by
  cases b with
  | true => exact h1 rfl
  | false => exact h2 rfl
theorem op_extract {V : Env} {C : Hnd} {lim : Nat} {pan : Value → AH → R} {fr : Frm} {h : AH} {act : Option Bool} {K : Slot → AH → R} (s : TypeId) (x : Operand) (i : Nat) : op1 V C lim pan fr h (.extract x i) s act K = use act (slot fr x) fun v => oE act (tupAt v i) undef fun v => K (mkS act v) h := rfl
theorem tupAt_mk (l : List Value) (i : Nat) : tupAt (.tuple ⟨l⟩) i = l[i]? := rfl
/-! ### bundles of rules about heaps and structures -/
theorem ZK : type_of% @HC1 ∧ type_of% @HC2 ∧ type_of% @HC3 ∧ type_of% @HC4 ∧ type_of% @LEo :=
  ⟨@HC1, @HC2, @HC3, @HC4, @LEo⟩
theorem ZH : type_of% @HA0 ∧ type_of% @HA1 ∧ type_of% @HS0 ∧ type_of% @HS1 ∧ type_of% @HB0 ∧ type_of% @HB1 ∧ type_of% @HT0 ∧ type_of% @HT1 ∧ type_of% @HAn ∧ type_of% @HSn ∧ type_of% @HC3 ∧ type_of% @HC4 ∧ type_of% @LEo ∧ type_of% @Nat.add_assoc ∧ type_of% @List.append_assoc.{0} :=
  ⟨@HA0, @HA1, @HS0, @HS1, @HB0, @HB1, @HT0, @HT1, @HAn, @HSn, @HC3, @HC4, @LEo, @Nat.add_assoc, @List.append_assoc⟩
theorem ZS : type_of% @Me.c0 ∧ type_of% @Me.c1 ∧ type_of% @Me.c2 ∧ type_of% @Me.get ∧ type_of% @Me.R_len ∧ type_of% @Rk.c0 ∧ type_of% @Rk.c1 ∧ type_of% @Rk.get ∧ type_of% @Rk.R_len ∧ type_of% @En.c0 ∧ type_of% @En.c1 ∧ type_of% @En.c2 ∧ type_of% @En.c3 ∧ type_of% @En.c4 ∧ type_of% @En.c5 ∧ type_of% @En.c6 ∧ type_of% @En.c7 ∧ type_of% @En.c8 ∧ type_of% @En.get ∧ type_of% @En.R_len ∧ type_of% @Bool.not_true ∧ type_of% @Bool.not_false ∧ type_of% @lenV_sl ∧ type_of% @tupAt_mk :=
  ⟨@Me.c0, @Me.c1, @Me.c2, @Me.get, @Me.R_len, @Rk.c0, @Rk.c1, @Rk.get, @Rk.R_len, @En.c0, @En.c1, @En.c2, @En.c3, @En.c4, @En.c5, @En.c6, @En.c7, @En.c8, @En.get, @En.R_len, @Bool.not_true, @Bool.not_false, @lenV_sl, @tupAt_mk⟩
theorem ZR : type_of% @Me.R_len ∧ type_of% @Rk.R_len ∧ type_of% @En.R_len :=
  ⟨@Me.R_len, @Rk.R_len, @En.R_len⟩
theorem dS {a b c} (h : drawS a b = some c) : drawS a b = some c := h
theorem dM {a b d c} (h : drawM a b d = some c) : drawM a b d = some c := h
theorem dO {a b : Option AObj} (h : a = b) : a = b := h
theorem dK {n : Nat} {a b : AH} (h : Keep n a b) : Keep n a b := h
end Go.Abs
namespace Go.Abs
open Go.Proofs
set_option maxRecDepth 100000
set_option linter.unusedSimpArgs false
set_option linter.unusedVariables false
set_option pp.maxSteps 20000
set_option pp.deepTerms true
/-! ### draws, with the heap told -/
abbrev rdO (va : Value) (p : Nat) : AObj := .row 0 2 [va, iV p]
structure OfQ (xs : List Bs) (H : AH) (id : Nat) (va : Value) (p : Nat) (v : Value) (h' : AH) : Prop where
  ex : ∃ x, v = sV x ∧ x ∈ xs
  k : h' = H.set id (rdO va (p + 1))
theorem okr_of {id : Nat} {va : Value} {n p l k i2 : Nat} {H : AH} {cs : List Value} (xs : List Bs) (r : Rd H id va n p) (hl : l ≤ id) (e : H[i2]? = some (.row 0 1 cs)) (hc : cs = sL xs) (hk : k = xs.length) (hi : i2 ≠ id) (h0 : 0 < xs.length) (hx : xs.length ≤ 2 ^ 20) (hn : n ≤ 2 ^ 62) (hp : p ≤ 2 ^ 40) :
    Okr (OfQ xs H id va p) (run V0 (.fn 37) l [S (pV id 0 0), S (slV i2 0 k k)] H) := by
  subst hc hk
  obtain ⟨x, h', a1, a2, a3⟩ := r37 id va n p l H i2 xs r hl e hi h0 hx hn hp
  exact ⟨_, _, a2, ⟨x, rfl, a1⟩, a3⟩
structure PickQ (K : Nat) (H : AH) (id : Nat) (va : Value) (p : Nat) (v : Value) (h' : AH) : Prop where
  ex : ∃ m : Nat, v = iV m ∧ m < K
  k : h' = H.set id (rdO va (p + 1))
theorem okr_pick {id : Nat} {va : Value} {n p l : Nat} {H : AH} (K : Nat) {k : Int} (r : Rd H id va n p) (hl : l ≤ id) (hk : k = K) (h0 : 0 < K) (hx : K ≤ 2 ^ 20) (hn : n ≤ 2 ^ 62) (hp : p ≤ 2 ^ 40) :
    Okr (PickQ K H id va p) (run V0 (.fn 34) l [S (pV id 0 0), S (iV k)] H) := by
  subst hk
  obtain ⟨m, h', a1, a2, a3⟩ := r34 id va n p K l H r hl h0 hx hn hp
  exact ⟨_, _, a1, ⟨m, rfl, a2⟩, a3⟩
structure OneQ (xs : List Int) (H : AH) (id : Nat) (va : Value) (p : Nat) (v : Value) (h' : AH) : Prop where
  ex : ∃ x, v = iV x ∧ x ∈ xs
  k : h' = H.set id (rdO va (p + 1))
theorem Rd.kp {h L : AH} {id : Nat} {va : Value} {n p : Nat} (r : Rd h id va n p) (p' : Nat) : Rd (h.set id (rdO va p') ++ L) id va n p' := by
  have hid := lt_of_get r.1
  exact (r.step p').keep (Keep.app _ _ (by rw [List.length_set]; omega))
theorem Rd.ap {h L : AH} {id : Nat} {va : Value} {n p : Nat} (r : Rd h id va n p) : Rd (h ++ L) id va n p := by
  have hid := lt_of_get r.1
  exact r.keep (Keep.app _ _ (by omega))
theorem okr_one {id : Nat} {va : Value} {n p l k i2 : Nat} {H : AH} {cs : List Value} (xs : List Int) (r : Rd H id va n p) (hl : l ≤ id) (e : H[i2]? = some (.row 0 1 cs)) (hc : cs = iL xs) (hk : k = xs.length) (hi : i2 ≠ id) (h0 : 0 < xs.length) (hx : xs.length ≤ 2 ^ 20) (hn : n ≤ 2 ^ 62) (hp : p ≤ 2 ^ 40) :
    Okr (OneQ xs H id va p) (run V0 (.fn 36) l [S (pV id 0 0), S (slV i2 0 k k)] H) := by
  subst hc hk
  obtain ⟨m, h', a1, a2, a3⟩ := r34 id va n p xs.length l H r hl h0 hx hn hp
  refine ⟨iV xs[m], h', run_fn Tryd.func36 rfl rfl rfl rfl ?_, ⟨xs[m], rfl, List.getElem_mem a2⟩, a3⟩
  have hix : ixAddr (slV i2 0 xs.length xs.length) (m : Int) 1 = some (pV i2 m 0) := by rw [ixAddr_sl a2]; simp
  have hld : ld h' (pV i2 m 0) = some (iV xs[m]) := ld_of (by rw [a3, List.getElem?_set_ne (Ne.symm hi), e]) (by simp [iL, a2])
  simp only [↓XX, ↓XD, ↓YX, ZB, Nat.reduceAdd, Nat.reducePow, ↓reduceIte, eq_self, Int.reduceEq, Nat.reduceEqDiff, Nat.reduceMul, Nat.reduceLeDiff, Tryd.f36, lenV, a1, hix, hld]
end Go.Abs
namespace Go.Abs
open Go.Proofs
set_option maxRecDepth 100000
set_option linter.unusedSimpArgs false
set_option pp.maxSteps 20000
/-! ### Ru: a struct of plain cells -/
structure Ru where
  mk ::
  (quiet : Bool)
  (room : Bs)
  (user : Bs)
  (kind : Int)
  deriving DecidableEq
abbrev Ru.C (x : Ru) : List Value := [.bool x.quiet, sV x.room, sV x.user, iV x.kind]
abbrev Ru.V (x : Ru) : Value := .agg ⟨[.bool x.quiet, sV x.room, sV x.user, iV x.kind]⟩
def Ru.R (xs : List Ru) : List Value := xs.flatMap Ru.C
theorem Ru.R_len (xs : List Ru) : (Ru.R xs).length = 4 * xs.length := by
  induction xs with
  | nil => rfl
  | cons x xs ih => simp only [Ru.R, List.flatMap_cons, List.length_append, List.length_cons, List.length_nil] at ih ⊢; omega
theorem Ru.R_app (a b : List Ru) : Ru.R (a ++ b) = Ru.R a ++ Ru.R b := by simp [Ru.R]
theorem Ru.R_cons (x : Ru) (r : List Ru) : Ru.R (x :: r) = Ru.C x ++ Ru.R r := by simp [Ru.R]
theorem Ru.get (d : List Ru) (x : Ru) (r : List Ru) : ((Ru.R (d ++ x :: r)).drop (d.length * 4)).take 4 = Ru.C x := by
  rw [Ru.R_app, Ru.R_cons, List.drop_left' (by rw [Ru.R_len]; omega)]
  rfl
theorem Ru.ldN {h : AH} {id g : Nat} {d r : List Ru} {x : Ru} (e : h[id]? = some (.row g 4 (Ru.R (d ++ x :: r)))) : ldN h (pV id (d.length * 4) g) 4 = some (Ru.C x) := by
  rw [ldN_of e (by rw [Ru.R_len]; simp; omega), Ru.get]
/-- a slice that is read -/
def Ru.Rd (h : AH) (v : Value) (xs : List Ru) : Prop :=
  (v = .slice none 0 0 ∧ xs = []) ∨ ∃ id g c, v = slV id g xs.length c ∧ h[id]? = some (.row g 4 (Ru.R xs))
theorem Ru.Rd.len {h : AH} {v : Value} {xs : List Ru} (r : Ru.Rd h v xs) : lenV v = some (xs.length : Int) := by
  rcases r with ⟨rfl, rfl⟩ | ⟨id, g, c, rfl, _⟩ <;> rfl
theorem Ru.Rd.get {h : AH} {v : Value} {d r : List Ru} {x : Ru} (q : Ru.Rd h v (d ++ x :: r)) : ∃ p, ixAddr v (d.length : Int) 4 = some p ∧ Abs.ldN h p 4 = some (Ru.C x) := by
  rcases q with ⟨_, q⟩ | ⟨id, g, c, rfl, e⟩
  · simp at q
  · exact ⟨pV id (d.length * 4) g, by rw [ixAddr_sl (by simp)]; simp, Ru.ldN e⟩
theorem Ru.Rd.keep {h h' : AH} {v : Value} {xs : List Ru} (q : Ru.Rd h v xs) (k : Keep h.length h h') : Ru.Rd h' v xs := by
  rcases q with q | ⟨id, g, c, rfl, e⟩
  · exact .inl q
  · exact .inr ⟨id, g, c, rfl, k.get e (lt_of_get e)⟩
theorem Ru.Rd.own {h : AH} {id g c : Nat} {xs : List Ru} (e : h[id]? = some (.row g 4 (Ru.R xs))) : Ru.Rd h (slV id g xs.length c) xs := .inr ⟨id, g, c, rfl, e⟩
theorem r32 (x y : Ru) (l : Nat) (h : AH) : run V0 (.fn 32) l [S x.V, S y.V] h = some (.ret (.bool (decide (x = y))) (h ++ [.row 0 4 x.C] ++ [.row 0 4 y.C])) := by
  refine run_fn Tryd.func32 rfl rfl rfl rfl ?_
  obtain ⟨a0, a1, a2, a3⟩ := x
  obtain ⟨b0, b1, b2, b3⟩ := y
  simp only [↓XX, ↓XD, ↓YX, ZB, Nat.reduceAdd, Nat.reducePow, ↓reduceIte, eq_self, Int.reduceEq, Nat.reduceEqDiff, Nat.reduceMul, Nat.reduceLeDiff, Tryd.f32, ↓XH1, ↓XH2, ZC, eq_self, Nat.reduceLeDiff, neB]
  by_cases h0 : a0 = b0
  · skip
    by_cases h1 : a1 = b1
    · skip
      by_cases h2 : a2 = b2
      · skip
        by_cases h3 : a3 = b3
        · simp [h0, h1, h2, h3]
        · have e3 : (a3 != b3) = true := by simp [h3]
          simp [h0, h1, h2, h3, e3]
      · simp [h0, h1, h2]
    · simp [h0, h1]
  · have e0 : (a0 == b0) = false := by cases a0 <;> cases b0 <;> simp_all
    simp [h0, e0]
theorem L12 (ia ga ca ib gb cb n l : Nat) (hn : n ≤ 2 ^ 40) : ∀ (r r' d d' : List Ru) (h : AH), d.length = d'.length → d.length + r.length = n → r.length = r'.length → h[ia]? = some (.row ga 4 (Ru.R (d ++ r))) → h[ib]? = some (.row gb 4 (Ru.R (d' ++ r'))) →
    ∃ h', L12_0 l (slV ia ga n ca) (slV ib gb n cb) (iV d.length) h = some (.ret (.bool (decide (r = r'))) h') ∧ Keep h.length h h' := by
  intro r
  induction r with
  | nil =>
    intro r' d d' h hd hk hr ea eb
    obtain rfl : r' = [] := by cases r' with | nil => rfl | cons _ _ => simp at hr
    simp only [List.length_nil, Nat.add_zero] at hk
    refine ⟨h, run_code Tryd.func12 rfl rfl ?_, Keep.refl _ _⟩
    have hlt : decide ((d.length : Int) < (n : Int)) = false := by rw [decide_eq_false_iff_not]; omega
    simp only [↓XX, ↓XD, ↓YX, ZB, Nat.reduceAdd, Nat.reducePow, ↓reduceIte, eq_self, Int.reduceEq, Nat.reduceEqDiff, Nat.reduceMul, Nat.reduceLeDiff, Tryd.f12, lenV, hlt, decide_true]
  | cons x r ih =>
    intro r' d d' h hd hk hr ea eb
    cases r' with
    | nil => simp at hr
    | cons y r' =>
      simp only [List.length_cons] at hk hr
      have hlt : decide ((d.length : Int) < (n : Int)) = true := by rw [decide_eq_true_iff]; omega
      have hia : ixAddr (slV ia ga n ca) (d.length : Int) 4 = some (pV ia (d.length * 4) ga) := by rw [ixAddr_sl (by omega)]; simp
      have hib : ixAddr (slV ib gb n cb) (d.length : Int) 4 = some (pV ib (d.length * 4) gb) := by rw [ixAddr_sl (by omega)]; simp
      have hla : ldN h (pV ia (d.length * 4) ga) 4 = some x.C := Ru.ldN ea
      have hlb : ldN h (pV ib (d.length * 4) gb) 4 = some y.C := by rw [hd]; exact Ru.ldN eb
      have hw : IntKind.i64.wrap ((d.length : Int) + 1) = (((d ++ [x]).length : Nat) : Int) := natCast_succ_wrap (by omega) (by simp)
      have h62 := r32 x y l h
      have kp : Keep h.length h (h ++ [.row 0 4 x.C] ++ [.row 0 4 y.C]) := (Keep.app _ _ (Nat.le_refl _)).trans (Keep.app _ _ (by simp))
      by_cases hq : x = y
      · rw [decide_eq_true hq] at h62
        obtain ⟨h', i1, i2⟩ := ih r' (d ++ [x]) (d' ++ [y]) (h ++ [.row 0 4 x.C] ++ [.row 0 4 y.C]) (by simp [hd]) (by simp; omega) (by omega) (by rw [kp.get ea (lt_of_get ea)]; simp) (by rw [kp.get eb (lt_of_get eb)]; simp)
        refine ⟨h', run_code Tryd.func12 rfl rfl ?_, kp.trans (i2.le kp.1)⟩
        simp (disch := (refine _root_.id ?_; kernel_rfl)) only [↓XX, ↓XD, ↓YX, ZB, Nat.reduceAdd, Nat.reducePow, ↓reduceIte, eq_self, Int.reduceEq, Nat.reduceEqDiff, Nat.reduceMul, Nat.reduceLeDiff, Tryd.f12, lenV, hlt, hia, hib, hla, hlb, h62, hw, Bool.not_true]
        rw [i1]; simp [hq]
      · rw [decide_eq_false hq] at h62
        refine ⟨_, run_code Tryd.func12 rfl rfl ?_, kp⟩
        simp (disch := (refine _root_.id ?_; kernel_rfl)) only [↓XX, ↓XD, ↓YX, ZB, Nat.reduceAdd, Nat.reducePow, ↓reduceIte, eq_self, Int.reduceEq, Nat.reduceEqDiff, Nat.reduceMul, Nat.reduceLeDiff, Tryd.f12, lenV, hlt, hia, hib, hla, hlb, h62, hw, Bool.not_false]
        simp [hq]
theorem r12 (ia ga ca ib gb cb l : Nat) (xs ys : List Ru) (h : AH) (hn : xs.length ≤ 2 ^ 40) (ea : h[ia]? = some (.row ga 4 (Ru.R xs))) (eb : h[ib]? = some (.row gb 4 (Ru.R ys))) :
    ∃ h', run V0 (.fn 12) l [S (slV ia ga xs.length ca), S (slV ib gb ys.length cb)] h = some (.ret (.bool (decide (xs = ys))) h') ∧ Keep h.length h h' := by
  by_cases hy : xs.length = ys.length
  · obtain ⟨h', i1, i2⟩ := L12 ia ga ca ib gb cb xs.length l hn xs ys [] [] h rfl (by simp) hy (by simpa using ea) (by simpa using eb)
    refine ⟨h', run_fn Tryd.func12 rfl rfl rfl rfl ?_, i2⟩
    have hb : ((xs.length : Int) != (ys.length : Int)) = false := by simp [hy]
    simp only [↓XX, ↓XD, ↓YX, ZB, Nat.reduceAdd, Nat.reducePow, ↓reduceIte, eq_self, Int.reduceEq, Nat.reduceEqDiff, Nat.reduceMul, Nat.reduceLeDiff, Tryd.f12, lenV, hb]
    rw [← hy]
    exact i1
  · refine ⟨h, run_fn Tryd.func12 rfl rfl rfl rfl ?_, Keep.refl _ _⟩
    have hb : ((xs.length : Int) != (ys.length : Int)) = true := by simp; omega
    have : xs ≠ ys := fun e => hy (by rw [e])
    simp only [↓XX, ↓XD, ↓YX, ZB, Nat.reduceAdd, Nat.reducePow, ↓reduceIte, eq_self, Int.reduceEq, Nat.reduceEqDiff, Nat.reduceMul, Nat.reduceLeDiff, Tryd.f12, lenV, hb]
    simp [this]
def Ru.sz (x : Ru) (k : Int) : Int :=
  if k - x.room.length < 0 then -1 else if k - x.room.length - x.user.length < 0 then -1 else k - x.room.length - x.user.length
def Ru.Fit (x : Ru) : Prop := x.room.length ≤ 2 ^ 60 ∧ x.user.length ≤ 2 ^ 60
def Ru.Fit63 (x : Ru) : Prop := x.room.length ≤ 9223372036854775807 ∧ x.user.length ≤ 9223372036854775807
theorem Ru.sz_fit (x : Ru) (k : Int) (hk : 0 ≤ x.sz k) : (x.room.length : Int) + (x.user.length : Int) + x.sz k = k := by
  unfold Ru.sz at hk ⊢
  split at hk
  · omega
  split at hk
  · omega
  rw [if_neg ‹_›, if_neg ‹_›]; omega
theorem Ru.sz_le (x : Ru) (k : Int) (hk : 0 ≤ k) : x.sz k ≤ k ∧ -1 ≤ x.sz k := by
  unfold Ru.sz
  split
  · omega
  split
  · omega
  omega
def Ru.szL : List Ru → Int → Int
  | [], k => k
  | x :: r, k => if x.sz k < 0 then -1 else Ru.szL r (x.sz k)
theorem Ru.szL_fit : ∀ (xs : List Ru) (k : Int), 0 ≤ Ru.szL xs k → ∀ x ∈ xs, (x.room.length : Int) ≤ k ∧ (x.user.length : Int) ≤ k
  | [], _, _ => by simp
  | y :: xs, k, h => by
    simp only [Ru.szL] at h
    split at h
    · omega
    · rename_i q
      have e := Ru.sz_fit y k (by omega)
      intro x hx
      rcases List.mem_cons.1 hx with rfl | hx
      · omega
      · have := Ru.szL_fit xs _ h x hx; omega
theorem Ru.szL_le : ∀ (xs : List Ru) (k : Int), 0 ≤ k → Ru.szL xs k ≤ k
  | [], k, _ => Int.le_refl _
  | y :: xs, k, h => by
    simp only [Ru.szL]
    have e := Ru.sz_le y k h
    split
    · omega
    · have := Ru.szL_le xs (y.sz k) (by omega); omega
/-! ### En: a struct of plain cells -/
def En.sz (x : En) (k : Int) : Int :=
  if k - x.room.length < 0 then -1 else if k - x.room.length - x.user.length < 0 then -1 else if k - x.room.length - x.user.length - x.nick.length < 0 then -1 else if k - x.room.length - x.user.length - x.nick.length - x.text.length < 0 then -1 else if k - x.room.length - x.user.length - x.nick.length - x.text.length - x.id.length < 0 then -1 else if k - x.room.length - x.user.length - x.nick.length - x.text.length - x.id.length - x.ref.length < 0 then -1 else k - x.room.length - x.user.length - x.nick.length - x.text.length - x.id.length - x.ref.length
def En.Fit (x : En) : Prop := x.room.length ≤ 2 ^ 60 ∧ x.user.length ≤ 2 ^ 60 ∧ x.nick.length ≤ 2 ^ 60 ∧ x.text.length ≤ 2 ^ 60 ∧ x.id.length ≤ 2 ^ 60 ∧ x.ref.length ≤ 2 ^ 60
def En.Fit63 (x : En) : Prop := x.room.length ≤ 9223372036854775807 ∧ x.user.length ≤ 9223372036854775807 ∧ x.nick.length ≤ 9223372036854775807 ∧ x.text.length ≤ 9223372036854775807 ∧ x.id.length ≤ 9223372036854775807 ∧ x.ref.length ≤ 9223372036854775807
theorem En.sz_fit (x : En) (k : Int) (hk : 0 ≤ x.sz k) : (x.room.length : Int) + (x.user.length : Int) + (x.nick.length : Int) + (x.text.length : Int) + (x.id.length : Int) + (x.ref.length : Int) + x.sz k = k := by
  unfold En.sz at hk ⊢
  split at hk
  · omega
  split at hk
  · omega
  split at hk
  · omega
  split at hk
  · omega
  split at hk
  · omega
  split at hk
  · omega
  rw [if_neg ‹_›, if_neg ‹_›, if_neg ‹_›, if_neg ‹_›, if_neg ‹_›, if_neg ‹_›]; omega
theorem En.sz_le (x : En) (k : Int) (hk : 0 ≤ k) : x.sz k ≤ k ∧ -1 ≤ x.sz k := by
  unfold En.sz
  split
  · omega
  split
  · omega
  split
  · omega
  split
  · omega
  split
  · omega
  split
  · omega
  omega
end Go.Abs
namespace Go.Abs
open Go.Proofs
set_option maxRecDepth 100000
set_option linter.unusedSimpArgs false
set_option pp.maxSteps 20000

def smlI (n : Int) : Bool := decide (97 ≤ n) && decide (n ≤ 122) || decide (48 ≤ n) && decide (n ≤ 57)
theorem r75 (n : Int) (l : Nat) (h : AH) : run V0 (.fn 75) l [S (.int .u8 n)] h = some (.ret (.bool (inI n 48 57)) h) := by
  refine run_fn Tryd.func75 rfl rfl rfl rfl ?_
  simp only [↓XX, ↓XD, ↓YX, ZB, Nat.reduceAdd, Nat.reducePow, ↓reduceIte, eq_self, Int.reduceEq, Nat.reduceEqDiff, Nat.reduceMul, Nat.reduceLeDiff, Tryd.f75]
  unfold inI
  cases decide (48 ≤ n) <;> rfl
theorem r42 (n a b : Int) (l : Nat) (h : AH) : run V0 (.fn 42) l [S (iV n), S (iV a), S (iV b)] h = some (.ret (.bool (inI n a b)) h) := by
  refine run_fn Tryd.func42 rfl rfl rfl rfl ?_
  simp only [↓XX, ↓XD, ↓YX, ZB, Nat.reduceAdd, Nat.reducePow, ↓reduceIte, eq_self, Int.reduceEq, Nat.reduceEqDiff, Nat.reduceMul, Nat.reduceLeDiff, Tryd.f42]
  unfold inI
  cases decide (a ≤ n) <;> rfl
theorem r59 (n a b : Int) (l : Nat) (h : AH) : run V0 (.fn 59) l [S (iV n), S (iV a), S (iV b)] h = some (.ret (.bool (inI n a b)) h) := by
  refine run_fn Tryd.func59 rfl rfl rfl rfl ?_
  simp only [↓XX, ↓XD, ↓YX, ZB, Nat.reduceAdd, Nat.reducePow, ↓reduceIte, eq_self, Int.reduceEq, Nat.reduceEqDiff, Nat.reduceMul, Nat.reduceLeDiff, Tryd.f59]
  unfold inI
  cases decide (a ≤ n) <;> rfl
theorem r55 (n : Int) (l : Nat) (h : AH) : run V0 (.fn 55) l [S (.int .u8 n)] h = some (.ret (.bool (smlI n)) h) := by
  refine run_fn Tryd.func55 rfl rfl rfl rfl ?_
  simp only [↓XX, ↓XD, ↓YX, ZB, Nat.reduceAdd, Nat.reducePow, ↓reduceIte, eq_self, Int.reduceEq, Nat.reduceEqDiff, Nat.reduceMul, Nat.reduceLeDiff, Tryd.f55]
  unfold smlI
  cases decide (97 ≤ n) <;> cases decide (n ≤ 122) <;> cases decide (48 ≤ n) <;> rfl
theorem r66 (n : Int) (l : Nat) (h : AH) : run V0 (.fn 66) l [S (.int .u8 n)] h = some (.ret (.bool (smlI n)) h) := by
  refine run_fn Tryd.func66 rfl rfl rfl rfl ?_
  simp only [↓XX, ↓XD, ↓YX, ZB, Nat.reduceAdd, Nat.reducePow, ↓reduceIte, eq_self, Int.reduceEq, Nat.reduceEqDiff, Nat.reduceMul, Nat.reduceLeDiff, Tryd.f66, r75, inI]
  unfold smlI
  cases decide (97 ≤ n) <;> cases decide (n ≤ 122) <;> cases decide (48 ≤ n) <;> cases decide (n ≤ 57) <;> rfl
def usrI (n : Int) : Bool := smlI n || n == 45 || n == 46 || n == 95
def userOkL (s : Bs) : Bool := s.all (fun b => usrI b.toNat) && inI s.length 1 8
/-- impl.userOk: its loop -/
theorem L41 (s : Bs) (hs : s.length ≤ 2 ^ 60) (l id : Nat) (h : AH) (e : h[id]? = some (.row 0 25769803777 (u8c s))) : ∀ (r d : Bs), s = d ++ r →
    L41_0 l (sV s) (slV id 0 s.length s.length) (iV s.length) (iV d.length) h = some (.ret (.bool (r.all (fun b => usrI b.toNat) && inI s.length 1 8)) h) := by
  intro r
  induction r with
  | nil =>
    intro d hk
    rw [List.append_nil] at hk
    have hlt : decide ((d.length : Int) < (s.length : Int)) = false := by rw [decide_eq_false_iff_not, hk]; omega
    refine run_code Tryd.func41 rfl rfl ?_
    simp only [↓XX, ↓XD, ↓YX, ZB, Nat.reduceAdd, Nat.reducePow, ↓reduceIte, eq_self, Int.reduceEq, Nat.reduceEqDiff, Nat.reduceMul, Nat.reduceLeDiff, Tryd.f41, hlt, r42, size_B]
    rfl
  | cons b r ih =>
    intro d hk
    have hlen : d.length + 1 ≤ s.length := by rw [hk]; simp
    have hlt : decide ((d.length : Int) < (s.length : Int)) = true := by rw [decide_eq_true_iff]; omega
    have hix : ixAddr (slV id 0 s.length s.length) (d.length : Int) 1 = some (pV id d.length 0) := by rw [ixAddr_sl (by omega)]; simp
    have hld : ld h (pV id d.length 0) = some (.int .u8 b.toNat) := ld_of e (by rw [hk]; exact u8c_get d b r)
    have hw : IntKind.i64.wrap ((d.length : Int) + 1) = (((d ++ [b]).length : Nat) : Int) := natCast_succ_wrap (by omega) (by simp)
    have ih' := ih (d ++ [b]) (by rw [hk]; simp)
    refine run_code Tryd.func41 rfl rfl ?_
    simp only [↓XX, ↓XD, ↓YX, ZB, Nat.reduceAdd, Nat.reducePow, ↓reduceIte, eq_self, Int.reduceEq, Nat.reduceEqDiff, Nat.reduceMul, Nat.reduceLeDiff, Tryd.f41, hlt, hix, hld, r55, hw, bne]
    simp only [List.all_cons, usrI]
    cases smlI (b.toNat : Int) with
    | true => simp only [Bool.not_true, Bool.true_or, Bool.true_and]; exact ih'
    | false =>
      cases ((b.toNat : Int) == 45) with
      | true => simp only [Bool.not_true, Bool.not_false, Bool.true_or, Bool.or_true, Bool.false_or, Bool.true_and]; exact ih'
      | false =>
        cases ((b.toNat : Int) == 46) with
        | true => simp only [Bool.not_true, Bool.not_false, Bool.true_or, Bool.or_true, Bool.false_or, Bool.true_and]; exact ih'
        | false =>
          cases ((b.toNat : Int) == 95) with
          | true => simp only [Bool.not_true, Bool.not_false, Bool.true_or, Bool.or_true, Bool.false_or, Bool.true_and]; exact ih'
          | false => rfl
theorem r41 (s : Bs) (hs : s.length ≤ 2 ^ 60) (l : Nat) (h : AH) : ∃ h', run V0 (.fn 41) l [S (sV s)] h = some (.ret (.bool (userOkL s)) h') ∧ Keep h.length h h' := by
  refine ⟨h ++ [.row 0 25769803777 (u8c s)], run_fn Tryd.func41 rfl rfl rfl rfl ?_, Keep.app _ _ (Nat.le_refl _)⟩
  simp only [↓XX, ↓XD, ↓YX, ZB, Nat.reduceAdd, Nat.reducePow, ↓reduceIte, eq_self, Int.reduceEq, Nat.reduceEqDiff, Nat.reduceMul, Nat.reduceLeDiff, Tryd.f41, lenV, newS]
  exact L41 s hs l h.length _ (by rw [List.getElem?_append_right (Nat.le_refl _)]; simp [u8c, B]) s [] rfl
/-- spec.l4User: its loop -/
theorem L58 (s : Bs) (hs : s.length ≤ 2 ^ 60) (l : Nat) (h : AH) : ∀ (r d : Bs), s = d ++ r →
    L58_0 l (sV s) (iV d.length) h = some (.ret (.bool (r.all (fun b => usrI b.toNat) && inI s.length 1 8)) h) := by
  intro r
  induction r with
  | nil =>
    intro d hk
    rw [List.append_nil] at hk
    have hlt : decide ((d.length : Int) < ((B s).size : Int)) = false := by rw [decide_eq_false_iff_not, size_B, hk]; omega
    refine run_code Tryd.func58 rfl rfl ?_
    simp only [↓XX, ↓XD, ↓YX, ZB, Nat.reduceAdd, Nat.reducePow, ↓reduceIte, eq_self, Int.reduceEq, Nat.reduceEqDiff, Nat.reduceMul, Nat.reduceLeDiff, Tryd.f58, hlt, r59]
    rfl
  | cons b r ih =>
    intro d hk
    have hlen : d.length + 1 ≤ s.length := by rw [hk]; simp
    have hlt : decide ((d.length : Int) < ((B s).size : Int)) = true := by rw [decide_eq_true_iff, size_B]; omega
    have hat : strAt (B s) (d.length : Int) = some (b.toNat : Int) := by rw [hk]; exact strAt_mid d b r
    have hw : IntKind.i64.wrap ((d.length : Int) + 1) = (((d ++ [b]).length : Nat) : Int) := natCast_succ_wrap (by omega) (by simp)
    have ih' := ih (d ++ [b]) (by rw [hk]; simp)
    refine run_code Tryd.func58 rfl rfl ?_
    simp only [↓XX, ↓XD, ↓YX, ZB, Nat.reduceAdd, Nat.reducePow, ↓reduceIte, eq_self, Int.reduceEq, Nat.reduceEqDiff, Nat.reduceMul, Nat.reduceLeDiff, Tryd.f58, hlt, hat, r66, hw, bne]
    simp only [List.all_cons, usrI]
    cases smlI (b.toNat : Int) with
    | true => simp only [Bool.not_true, Bool.true_or, Bool.true_and]; exact ih'
    | false =>
      cases ((b.toNat : Int) == 45) with
      | true => simp only [Bool.not_true, Bool.not_false, Bool.true_or, Bool.or_true, Bool.false_or, Bool.true_and]; exact ih'
      | false =>
        cases ((b.toNat : Int) == 46) with
        | true => simp only [Bool.not_true, Bool.not_false, Bool.true_or, Bool.or_true, Bool.false_or, Bool.true_and]; exact ih'
        | false =>
          cases ((b.toNat : Int) == 95) with
          | true => simp only [Bool.not_true, Bool.not_false, Bool.true_or, Bool.or_true, Bool.false_or, Bool.true_and]; exact ih'
          | false => rfl
theorem r58 (s : Bs) (hs : s.length ≤ 2 ^ 60) (l : Nat) (h : AH) : run V0 (.fn 58) l [S (sV s)] h = some (.ret (.bool (userOkL s)) h) := by
  refine run_fn Tryd.func58 rfl rfl rfl rfl ?_
  simp only [↓XX, ↓XD, ↓YX, ZB, Nat.reduceAdd, Nat.reducePow, ↓reduceIte, eq_self, Int.reduceEq, Nat.reduceEqDiff, Nat.reduceMul, Nat.reduceLeDiff, Tryd.f58]
  exact L58 s hs l h s [] rfl
/-! ### rules -/
def orEm (s : Bs) : Bool := decide (s = []) || userOkL s
def ruOk (x : Ru) : Bool := orEm x.room && orEm x.user && inI x.kind 0 6
theorem r40 (s : Bs) (hs : s.length ≤ 2 ^ 60) (l : Nat) (h : AH) : ∃ h', run V0 (.fn 40) l [S (sV s), S (fnV 41)] h = some (.ret (.bool (orEm s)) h') ∧ Keep h.length h h' := by
  obtain ⟨h1, a1, k1⟩ := r41 s hs l h
  unfold orEm
  cases q : decide (s = []) with
  | true =>
    refine ⟨h, run_fn Tryd.func40 rfl rfl rfl rfl ?_, Keep.refl _ _⟩
    simp only [↓XX, ↓XD, ↓YX, ZB, Nat.reduceAdd, Nat.reducePow, ↓reduceIte, eq_self, Int.reduceEq, Nat.reduceEqDiff, Nat.reduceMul, Nat.reduceLeDiff, Tryd.f40, eqB, q]
  | false =>
    refine ⟨h1, run_fn Tryd.func40 rfl rfl rfl rfl ?_, k1⟩
    simp only [↓XX, ↓XD, ↓YX, ZB, Nat.reduceAdd, Nat.reducePow, ↓reduceIte, eq_self, Int.reduceEq, Nat.reduceEqDiff, Nat.reduceMul, Nat.reduceLeDiff, Tryd.f40, eqB, q, a1]
theorem r39 (x : Ru) (hx : x.Fit) (l : Nat) (h : AH) : ∃ h', run V0 (.fn 39) l [S x.V] h = some (.ret (.bool (!ruOk x)) h') ∧ Keep h.length h h' := by
  obtain ⟨x1, x2⟩ := hx
  have k0 : Keep h.length h (h ++ [.row 0 4 x.C]) := Keep.app _ _ (Nat.le_refl _)
  have e0 : (h ++ [AObj.row 0 4 x.C])[h.length]? = some (.row 0 4 x.C) := by simp
  obtain ⟨h1, a1, k1⟩ := r40 x.room x1 l (h ++ [.row 0 4 x.C])
  have e1 := k1.get e0 (lt_of_get e0)
  obtain ⟨h2, a2, k2⟩ := r40 x.user x2 l h1
  have e2 := k2.get e1 (lt_of_get e1)
  have kk1 := k0.trans (k1.le k0.1)
  have kk2 := kk1.trans (k2.le kk1.1)
  have m1 : ld h1 (pV h.length 2 0) = some (sV x.user) := ld_of e1 rfl
  have m3 : ld h1 (pV h.length 3 0) = some (iV x.kind) := ld_of e1 rfl
  have n3 : ld h2 (pV h.length 3 0) = some (iV x.kind) := ld_of e2 rfl
  have b1 : ld (h ++ [.row 0 4 x.C]) (pV h.length 1 0) = some (sV x.room) := ld_of e0 rfl
  have ha : ∀ k, addOff (pV h.length 0 0) k = some (pV h.length (0 + k) 0) := fun _ => rfl
  have hp : newP h = pV h.length 0 0 := rfl
  unfold ruOk
  cases q1 : orEm x.room with
  | false =>
    rw [q1] at a1
    refine ⟨h1, run_fn Tryd.func39 rfl rfl rfl rfl ?_, kk1⟩
    simp only [↓XX, ↓XD, ↓YX, ZB, Nat.reduceAdd, Nat.reducePow, ↓reduceIte, eq_self, Int.reduceEq, Nat.reduceEqDiff, Nat.reduceMul, Nat.reduceLeDiff, Tryd.f39, hp, ha, b1, a1, m1, m3, Bool.not_false, Bool.false_and]
  | true =>
    rw [q1] at a1
    cases q2 : orEm x.user with
    | false =>
      rw [q2] at a2
      refine ⟨h2, run_fn Tryd.func39 rfl rfl rfl rfl ?_, kk2⟩
      simp only [↓XX, ↓XD, ↓YX, ZB, Nat.reduceAdd, Nat.reducePow, ↓reduceIte, eq_self, Int.reduceEq, Nat.reduceEqDiff, Nat.reduceMul, Nat.reduceLeDiff, Tryd.f39, hp, ha, b1, a1, m1, a2, n3, Bool.not_false, Bool.not_true, Bool.false_and, Bool.and_false]
    | true =>
      rw [q2] at a2
      refine ⟨h2, run_fn Tryd.func39 rfl rfl rfl rfl ?_, kk2⟩
      simp only [↓XX, ↓XD, ↓YX, ZB, Nat.reduceAdd, Nat.reducePow, ↓reduceIte, eq_self, Int.reduceEq, Nat.reduceEqDiff, Nat.reduceMul, Nat.reduceLeDiff, Tryd.f39, hp, ha, b1, a1, m1, a2, n3, r42, Bool.not_true, Bool.and_self, Bool.true_and]
theorem r46 (x : Ru) (hx : x.Fit) (l : Nat) (h : AH) : run V0 (.fn 46) l [S x.V] h = some (.ret (.bool (ruOk x)) (h ++ [.row 0 4 x.C])) := by
  obtain ⟨x1, x2⟩ := hx
  obtain ⟨xq, xr, xu, xk⟩ := x
  simp only at x1 x2
  refine run_fn Tryd.func46 rfl rfl rfl rfl ?_
  have e1 := fun l h => r58 xr x1 l h
  have e2 := fun l h => r58 xu x2 l h
  simp only [↓XX, ↓XD, ↓YX, ZB, Nat.reduceAdd, Nat.reducePow, ↓reduceIte, eq_self, Int.reduceEq, Nat.reduceEqDiff, Nat.reduceMul, Nat.reduceLeDiff, Tryd.f46, ↓XH1, ↓XH2, ZC, eq_self, Nat.reduceLeDiff, eqB, e1, e2, r59]
  unfold ruOk orEm
  simp only
  cases decide (xr = []) <;> cases userOkL xr <;> cases decide (xu = []) <;> cases userOkL xu <;> rfl
end Go.Abs
namespace Go.Abs
open Go.Proofs
set_option maxRecDepth 100000
set_option linter.unusedSimpArgs false
set_option pp.maxSteps 20000

/-- spec.l17AllOk: its loop -/
theorem L22 (id g c n l : Nat) (hn : n ≤ 2 ^ 40) : ∀ (r d : List Ru) (h : AH), d.length + r.length = n → (∀ x ∈ r, x.Fit) → h[id]? = some (.row g 4 (Ru.R (d ++ r))) →
    ∃ h', L22_0 l (slV id g n c) (iV d.length) h = some (.ret (.bool (r.all ruOk && decide ((n : Int) ≤ 8))) h') ∧ Keep h.length h h' := by
  intro r
  induction r with
  | nil =>
    intro d h hk hf e
    simp only [List.length_nil, Nat.add_zero] at hk
    have hlt : decide ((d.length : Int) < (n : Int)) = false := by rw [decide_eq_false_iff_not]; omega
    refine ⟨h, run_code Tryd.func22 rfl rfl ?_, Keep.refl _ _⟩
    simp only [↓XX, ↓XD, ↓YX, ZB, Nat.reduceAdd, Nat.reducePow, ↓reduceIte, eq_self, Int.reduceEq, Nat.reduceEqDiff, Nat.reduceMul, Nat.reduceLeDiff, Tryd.f22, lenV, hlt, List.all_nil, Bool.true_and]
  | cons x r ih =>
    intro d h hk hf e
    simp only [List.length_cons] at hk
    have hlt : decide ((d.length : Int) < (n : Int)) = true := by rw [decide_eq_true_iff]; omega
    have hix : ixAddr (slV id g n c) (d.length : Int) 4 = some (pV id (d.length * 4) g) := by rw [ixAddr_sl (by omega)]; simp
    have hld : ldN h (pV id (d.length * 4) g) 4 = some x.C := Ru.ldN e
    have hw : IntKind.i64.wrap ((d.length : Int) + 1) = (((d ++ [x]).length : Nat) : Int) := natCast_succ_wrap (by omega) (by simp)
    have h88 := r46 x (hf x (by simp)) l h
    have kp : Keep h.length h (h ++ [.row 0 4 x.C]) := Keep.app _ _ (Nat.le_refl _)
    cases hq : ruOk x with
    | false =>
      rw [hq] at h88
      refine ⟨_, run_code Tryd.func22 rfl rfl ?_, kp⟩
      simp only [↓XX, ↓XD, ↓YX, ZB, Nat.reduceAdd, Nat.reducePow, ↓reduceIte, eq_self, Int.reduceEq, Nat.reduceEqDiff, Nat.reduceMul, Nat.reduceLeDiff, Tryd.f22, lenV, hlt, hix, hld, h88, Bool.not_false, List.all_cons, hq, Bool.false_and]
    | true =>
      rw [hq] at h88
      obtain ⟨h', i1, i2⟩ := ih (d ++ [x]) _ (by simp; omega) (fun y hy => hf y (by simp [hy])) (by rw [kp.get e (lt_of_get e)]; simp)
      refine ⟨h', run_code Tryd.func22 rfl rfl ?_, kp.trans (i2.le kp.1)⟩
      simp only [↓XX, ↓XD, ↓YX, ZB, Nat.reduceAdd, Nat.reducePow, ↓reduceIte, eq_self, Int.reduceEq, Nat.reduceEqDiff, Nat.reduceMul, Nat.reduceLeDiff, Tryd.f22, lenV, hlt, hix, hld, h88, Bool.not_true, List.all_cons, hq, Bool.true_and, hw]
      exact i1
theorem r22 (id g c l : Nat) (xs : List Ru) (h : AH) (hn : xs.length ≤ 2 ^ 40) (hf : ∀ x ∈ xs, x.Fit) (e : h[id]? = some (.row g 4 (Ru.R xs))) :
    ∃ h', run V0 (.fn 22) l [S (slV id g xs.length c)] h = some (.ret (.bool (xs.all ruOk && decide ((xs.length : Int) ≤ 8))) h') ∧ Keep h.length h h' := by
  obtain ⟨h', i1, i2⟩ := L22 id g c xs.length l hn xs [] h (by simp) hf (by simpa using e)
  refine ⟨h', run_fn Tryd.func22 rfl rfl rfl rfl ?_, i2⟩
  simp only [↓XX, ↓XD, ↓YX, ZB, Nat.reduceAdd, Nat.reducePow, ↓reduceIte, eq_self, Int.reduceEq, Nat.reduceEqDiff, Nat.reduceMul, Nat.reduceLeDiff, Tryd.f22]
  exact i1
def firstIx (p : Ru → Bool) : List Ru → Nat → Int
  | [], _ => -1
  | x :: r, k => if p x then k else firstIx p r (k + 1)
theorem firstIx_none (p : Ru → Bool) : ∀ (r : List Ru) (k : Nat), decide (0 ≤ firstIx p r k) = r.any p
  | [], k => rfl
  | x :: r, k => by
    by_cases hq : p x = true
    · have e1 : firstIx p (x :: r) k = (k : Int) := by simp only [firstIx, if_pos hq]
      rw [e1, List.any_cons, hq, Bool.true_or]
      exact decide_eq_true (by omega)
    · have e1 : firstIx p (x :: r) k = firstIx p r (k + 1) := by simp only [firstIx, if_neg hq]
      rw [e1, firstIx_none p r (k + 1), List.any_cons, Bool.eq_false_iff.2 hq, Bool.false_or]
/-- slices.IndexFunc over rules: its loop, by a function without captures -/
theorem L54 (id g c n l : Nat) (hn : n ≤ 2 ^ 40) {mr : List Ru} : ∀ (r d : List Ru) (h : AH), d.length + r.length = n → (∀ x ∈ r, x.Fit) → h[id]? = some (.row g 4 (Ru.R (d ++ (r ++ mr)))) →
    ∃ h', L54_0 l (slV id g n c) (fnV 39) (iV n) (iV d.length) h = some (.ret (iV (firstIx (fun x => !ruOk x) r d.length)) h') ∧ Keep h.length h h' := by
  intro r
  induction r with
  | nil =>
    intro d h hk hf e
    simp only [List.length_nil, Nat.add_zero] at hk
    have hlt : decide ((d.length : Int) < (n : Int)) = false := by rw [decide_eq_false_iff_not]; omega
    refine ⟨h, run_code Tryd.func54 rfl rfl ?_, Keep.refl _ _⟩
    simp only [↓XX, ↓XD, ↓YX, ZB, Nat.reduceAdd, Nat.reducePow, ↓reduceIte, eq_self, Int.reduceEq, Nat.reduceEqDiff, Nat.reduceMul, Nat.reduceLeDiff, Tryd.f54, hlt, firstIx]
  | cons x r ih =>
    intro d h hk hf e
    simp only [List.length_cons] at hk
    have hlt : decide ((d.length : Int) < (n : Int)) = true := by rw [decide_eq_true_iff]; omega
    have hix : ixAddr (slV id g n c) (d.length : Int) 4 = some (pV id (d.length * 4) g) := by rw [ixAddr_sl (by omega)]; simp
    have hld : ldN h (pV id (d.length * 4) g) 4 = some x.C := Ru.ldN e
    have hw : IntKind.i64.wrap ((d.length : Int) + 1) = (((d ++ [x]).length : Nat) : Int) := natCast_succ_wrap (by omega) (by simp)
    obtain ⟨h1, a1, k1⟩ := r39 x (hf x (by simp)) l h
    by_cases hq : ruOk x = true
    · rw [hq] at a1
      obtain ⟨h', i1, i2⟩ := ih (d ++ [x]) h1 (by simp; omega) (fun y hy => hf y (by simp [hy])) (by rw [k1.get e (lt_of_get e)]; simp)
      refine ⟨h', run_code Tryd.func54 rfl rfl ?_, k1.trans (i2.le k1.1)⟩
      simp only [↓XX, ↓XD, ↓YX, ZB, Nat.reduceAdd, Nat.reducePow, ↓reduceIte, eq_self, Int.reduceEq, Nat.reduceEqDiff, Nat.reduceMul, Nat.reduceLeDiff, Tryd.f54, hlt, hix, hld, a1, Bool.not_true, hw]
      rw [i1]; simp [firstIx, hq]
    · rw [Bool.eq_false_iff.2 hq] at a1
      refine ⟨h1, run_code Tryd.func54 rfl rfl ?_, k1⟩
      simp only [↓XX, ↓XD, ↓YX, ZB, Nat.reduceAdd, Nat.reducePow, ↓reduceIte, eq_self, Int.reduceEq, Nat.reduceEqDiff, Nat.reduceMul, Nat.reduceLeDiff, Tryd.f54, hlt, hix, hld, a1, Bool.not_false]
      simp [firstIx, hq]
theorem r18m {mr : List Ru} (id g c l : Nat) (xs : List Ru) (h : AH) (hn : xs.length ≤ 2 ^ 40) (hf : ∀ x ∈ xs, x.Fit) (e : h[id]? = some (.row g 4 (Ru.R (xs ++ mr)))) :
    ∃ h', run V0 (.fn 18) l [S (slV id g xs.length c)] h = some (.ret (.bool (xs.all ruOk && decide ((xs.length : Int) ≤ 8))) h') ∧ Keep h.length h h' := by
  obtain ⟨h', i1, i2⟩ := L54 (mr := mr) id g c xs.length l hn xs [] h (by simp) hf (by simpa using e)
  have e69 : run V0 (.fn 54) l [S (slV id g xs.length c), S (fnV 39)] h = some (.ret (iV (firstIx (fun x => !ruOk x) xs 0)) h') := by
    refine run_fn Tryd.func54 rfl rfl rfl rfl ?_
    simp only [↓XX, ↓XD, ↓YX, ZB, Nat.reduceAdd, Nat.reducePow, ↓reduceIte, eq_self, Int.reduceEq, Nat.reduceEqDiff, Nat.reduceMul, Nat.reduceLeDiff, Tryd.f54, lenV]
    exact i1
  have hnone := firstIx_none (fun x => !ruOk x) xs 0
  have e44 : run V0 (.fn 38) l [S (slV id g xs.length c), S (fnV 39)] h = some (.ret (.bool (xs.any fun x => !ruOk x)) h') := by
    refine run_fn Tryd.func38 rfl rfl rfl rfl ?_
    simp only [↓XX, ↓XD, ↓YX, ZB, Nat.reduceAdd, Nat.reducePow, ↓reduceIte, eq_self, Int.reduceEq, Nat.reduceEqDiff, Nat.reduceMul, Nat.reduceLeDiff, Tryd.f38, e69, hnone]
  have hall : (!xs.any fun x => !ruOk x) = xs.all ruOk := by rw [List.not_any_eq_all_not]; simp
  cases q : decide ((xs.length : Int) ≤ 8) with
  | true =>
    refine ⟨h', run_fn Tryd.func18 rfl rfl rfl rfl ?_, i2⟩
    simp only [↓XX, ↓XD, ↓YX, ZB, Nat.reduceAdd, Nat.reducePow, ↓reduceIte, eq_self, Int.reduceEq, Nat.reduceEqDiff, Nat.reduceMul, Nat.reduceLeDiff, Tryd.f18, lenV, q, e44, hall, Bool.and_true]
  | false =>
    refine ⟨h, run_fn Tryd.func18 rfl rfl rfl rfl ?_, Keep.refl _ _⟩
    simp only [↓XX, ↓XD, ↓YX, ZB, Nat.reduceAdd, Nat.reducePow, ↓reduceIte, eq_self, Int.reduceEq, Nat.reduceEqDiff, Nat.reduceMul, Nat.reduceLeDiff, Tryd.f18, lenV, q, Bool.and_false]
/-! ### what a rule means -/
theorem r18 (id g c l : Nat) (xs : List Ru) (h : AH) (hn : xs.length ≤ 2 ^ 40) (hf : ∀ x ∈ xs, x.Fit) (e : h[id]? = some (.row g 4 (Ru.R xs))) :
    ∃ h', run V0 (.fn 18) l [S (slV id g xs.length c)] h = some (.ret (.bool (xs.all ruOk && decide ((xs.length : Int) ≤ 8))) h') ∧ Keep h.length h h' := r18m (mr := []) id g c l xs h hn hf (by simpa using e)
def meansL (x : Ru) (e : En) : Bool := (decide (x.room = []) || decide (x.room = e.room)) && ((decide (x.user = []) || decide (x.user = e.user)) && (x.kind == 0 || x.kind == e.kind))
end Go.Abs
namespace Go.Abs
open Go.Proofs
set_option maxRecDepth 100000
set_option linter.unusedSimpArgs false
set_option linter.unusedVariables false
set_option pp.maxSteps 20000
set_option pp.deepTerms true
def Ru.F (x : Ru) : Prop := x.room.length ≤ 64 ∧ x.user.length ≤ 64
theorem Ru.R_one (x : Ru) : Ru.R [x] = Ru.C x := by simp [Ru.R]
theorem Ru.app3 {lim : Nat} {h : AH} {id g g2 no nh : Nat} {os : List Ru} {cs ys : List Value} (y : Ru) (e : h[id]? = some (.row g 4 cs)) (e2 : h[nh]? = some (.row g2 4 ys)) (hc : cs = Ru.R os) (hno : no = os.length) (hl : lim ≤ id) (hb : os.length ≤ 2 ^ 30) (hy : ys = Ru.C y) :
    ∃ z, app lim h (slV id g no no) (slV nh g2 1 1) 4 4 48 = some z ∧ ∃ g', z = (slV id g' (no + 1) (no + 1), h.set id (.row g' 4 (Ru.R (os ++ [y])))) := by
  subst hc hno hy
  obtain ⟨z, e1, g', rfl⟩ := okr_app (lim := lim) (id := id) (g := g) (tg := 4) (n := os.length) (k := 1) (by' := 48) (cs := Ru.R os) (x := slV nh g2 1 1) (ds := Ru.C y) (src_new (sz := 4) (tg := 4) e2 rfl) e (by rw [Ru.R_len]; omega) hl (by omega)
  exact ⟨_, e1, g', by rw [Ru.R_app, Ru.R_one]⟩
structure RuAt (H0 h : AH) (id : Nat) (va : Value) (n P : Nat) (il g : Nat) (rs : List Ru) : Prop where
  e : h[il]? = some (.row g 4 (Ru.R rs))
  hi : H0.length ≤ il
  f : ∀ x ∈ rs, x.F
  r : ∃ p, p ≤ P ∧ Rd h id va n p
  hid : id < H0.length
  k : KX H0.length id H0 h
theorem RuAt.dr {H0 h : AH} {id : Nat} {va : Value} {n P Q p il g : Nat} {rs : List Ru} (q : RuAt H0 h id va n P il g rs) (L : AH) (hr : Rd h id va n p) (p' : Nat) (hp : p' ≤ Q) : RuAt H0 (h.set id (rdO va p') ++ L) id va n Q il g rs := by
  have h1 := lt_of_get hr.1
  have h2 := q.hi
  have h3 := q.hid
  have h4 := lt_of_get q.e
  refine ⟨by rw [HAn (by rw [List.length_set]; exact h4), HC3 (by omega), q.e], q.hi, q.f, ⟨p', hp, hr.kp p'⟩, q.hid, q.k.trans ?_⟩
  have c1 : KX H0.length id h (h.set id (rdO va p')) := KX.set _ _ _ _
  exact c1.trans ((Keep.app _ _ (by rw [List.length_set]; exact q.k.1)).kx (Nat.le_refl _))
theorem RuAt.st {H0 h : AH} {id : Nat} {va : Value} {n P il g g' : Nat} {rs rs' : List Ru} (q : RuAt H0 h id va n P il g rs) (f : ∀ x ∈ rs', x.F) : RuAt H0 (h.set il (.row g' 4 (Ru.R rs'))) id va n P il g' rs' := by
  have h1 := q.k.1
  have h2 := q.hid
  have h3 := q.hi
  have h4 := lt_of_get q.e
  obtain ⟨p, hp, r⟩ := q.r
  exact ⟨HC4 rfl h4, q.hi, f, ⟨p, hp, r.keep ⟨by simp, fun j hj => HC3 (by omega)⟩⟩, q.hid, q.k.trans ⟨by simp, fun j hj _ => HC3 (by omega)⟩⟩
theorem RuAt.keep {H0 h h' : AH} {id : Nat} {va : Value} {n P il g : Nat} {rs : List Ru} (q : RuAt H0 h id va n P il g rs) (k : Keep h.length h h') : RuAt H0 h' id va n P il g rs := by
  have h1 := q.k.1
  have h2 := q.hid
  obtain ⟨p, hp, r⟩ := q.r
  exact ⟨k.get q.e (lt_of_get q.e), q.hi, q.f, ⟨p, hp, r.keep (k.le (by omega))⟩, q.hid, q.k.trans (k.kx (by omega))⟩
theorem RuAt.dr0 {H0 h : AH} {id : Nat} {va : Value} {n P Q p il g : Nat} {rs : List Ru} (q : RuAt H0 h id va n P il g rs) (hr : Rd h id va n p) (p' : Nat) (hp : p' ≤ Q) : RuAt H0 (h.set id (rdO va p')) id va n Q il g rs := by
  have := q.dr [] hr p' hp
  rwa [List.append_nil] at this
theorem Ru.setRoom (d : List Ru) (x : Ru) (t : List Ru) (m : Bs) : (Ru.R (d ++ x :: t)).set (d.length * 4 + 1) (sV m) = Ru.R (d ++ ⟨x.quiet, m, x.user, x.kind⟩ :: t) := by
  rw [Ru.R_app, Ru.R_cons, Ru.R_app, Ru.R_cons, List.set_append_right _ _ (by rw [Ru.R_len]; omega), Ru.R_len, show d.length * 4 + 1 - 4 * d.length = 1 by omega]
  rfl
theorem Ru.setKind (d : List Ru) (x : Ru) (t : List Ru) (m : Int) : (Ru.R (d ++ x :: t)).set (d.length * 4 + 3) (iV m) = Ru.R (d ++ ⟨x.quiet, x.room, x.user, m⟩ :: t) := by
  rw [Ru.R_app, Ru.R_cons, Ru.R_app, Ru.R_cons, List.set_append_right _ _ (by rw [Ru.R_len]; omega), Ru.R_len, show d.length * 4 + 3 - 4 * d.length = 3 by omega]
  rfl
theorem Ru.F_set {d t : List Ru} {x y : Ru} (f : ∀ z ∈ d ++ x :: t, z.F) (fy : y.F) : ∀ z ∈ d ++ y :: t, z.F := by
  intro z hz
  rcases List.mem_append.mp hz with q | q
  · exact f z (List.mem_append_left _ q)
  · rcases List.mem_cons.mp q with q | q
    · rw [q]; exact fy
    · exact f z (List.mem_append_right _ (List.mem_cons_of_mem _ q))
theorem Ru.F_app {d : List Ru} {y : Ru} (f : ∀ z ∈ d, z.F) (fy : y.F) : ∀ z ∈ d ++ [y], z.F := by
  intro z hz
  rcases List.mem_append.mp hz with q | q
  · exact f z q
  · rw [List.mem_singleton.mp q]; exact fy
structure RulesQ (H0 : AH) (id : Nat) (va : Value) (n P : Nat) (v : Value) (h' : AH) : Prop where
  ex : ∃ il g rs, v = slV il g rs.length rs.length ∧ RuAt H0 h' id va n P il g rs ∧ rs.length ≤ 9
set_option maxHeartbeats 4000000 in
theorem L16 {H0 : AH} {id : Nat} {va : Value} {n l : Nat} (hl : l ≤ id) (hn : n ≤ 2 ^ 62) :
    ∀ (k P il g no : Nat) (i : Int) (rs : List Ru) (h : AH), RuAt H0 h id va n P il g rs → rs.length + k ≤ 9 → no = rs.length → i = k → P + 20 * k ≤ 2 ^ 39 →
      Okr (RulesQ H0 id va n (P + 20 * k + 20)) (L16_0 l (pV id 0 0) (slV il g no no) (iV i) h) := by
  intro k
  induction k with
  | zero =>
    rintro P il g no i rs h q h9 rfl rfl hP
    have hlt : decide ((0 : Int) < ((0 : Nat) : Int)) = false := rfl
    refine okr_code Tryd.func16 rfl rfl ?_
    simp (dsimp := false) (disch := (first | (refine dS ?_; kernel_rfl) | (refine dM ?_; kernel_rfl) | (refine dO ?_; simp (disch := ((try simp only [ZL]) <;> omega)) only [ZK, ZL]; done) | (refine dK ?_; (repeat first | exact Keep.refl _ _ | exact Keep.app _ _ (Nat.le_refl _) | assumption | refine Keep.ap ?_ | refine Keep.st (by first | omega | (simp only [ZL]; omega)) ?_); done) | ((try simp only [ZL]) <;> omega) | fail)) only [XOB, ↓XXs, ↓XD, ↓YX, ZB, Nat.reduceAdd, Nat.reducePow, ↓reduceIte, eq_self, Int.reduceEq, Nat.reduceEqDiff, Nat.reduceMul, Nat.reduceLeDiff, Int.reduceBEq, Int.reduceLT, Tryd.f16, ↓XH2, XRN, ZC, ZE, ZH, eq_self, Nat.reduceLeDiff, Nat.reduceBEq, slV_new, ZS, reduceIte, ↓op_extract, Ru.R_len, hlt]
    obtain ⟨p, hp, r⟩ := q.r
    have ide := q.hid
    have hi := q.hi
    have hil := lt_of_get q.e
    have hidl := lt_of_get r.1
    have qe := q.e
    have q0 : RuAt H0 h id va n (P + 20) il g rs := ⟨q.e, q.hi, q.f, ⟨p, by omega, r⟩, q.hid, q.k⟩
    refine okr_if (fun hpos => ?_) (fun _ => ?_)
    · have hpos : 0 < rs.length := by have := of_decide_eq_true hpos; omega
      simp (dsimp := false) (disch := (first | (refine dS ?_; kernel_rfl) | (refine dM ?_; kernel_rfl) | (refine dO ?_; simp (disch := ((try simp only [ZL]) <;> omega)) only [ZK, ZL]; done) | (refine dK ?_; (repeat first | exact Keep.refl _ _ | exact Keep.app _ _ (Nat.le_refl _) | assumption | refine Keep.ap ?_ | refine Keep.st (by first | omega | (simp only [ZL]; omega)) ?_); done) | ((try simp only [ZL]) <;> omega) | fail)) only [XOB, ↓XXs, ↓XD, ↓YX, ZB, Nat.reduceAdd, Nat.reducePow, ↓reduceIte, eq_self, Int.reduceEq, Nat.reduceEqDiff, Nat.reduceMul, Nat.reduceLeDiff, Int.reduceBEq, Int.reduceLT, Tryd.f16, ↓XH2, XRN, ZC, ZE, ZH, eq_self, Nat.reduceLeDiff, Nat.reduceBEq, slV_new, ZS, reduceIte, ↓op_extract, Ru.R_len, hlt]
      refine okr_call (okr_pick 12 r hl rfl (by simp) (by simp) hn (by omega)) ?_
      rintro _ _ ⟨⟨m, rfl, hm⟩, rfl⟩
      have q1 : RuAt H0 (h.set id (rdO va (p + 1))) id va n (P + 20) il g rs := by simpa using q.dr (Q := P + 20) [] r (p + 1) (by omega)
      simp (dsimp := false) (disch := (first | (refine dS ?_; kernel_rfl) | (refine dM ?_; kernel_rfl) | (refine dO ?_; simp (disch := ((try simp only [ZL]) <;> omega)) only [ZK, ZL]; done) | (refine dK ?_; (repeat first | exact Keep.refl _ _ | exact Keep.app _ _ (Nat.le_refl _) | assumption | refine Keep.ap ?_ | refine Keep.st (by first | omega | (simp only [ZL]; omega)) ?_); done) | ((try simp only [ZL]) <;> omega) | fail)) only [XOB, ↓XXs, ↓XD, ↓YX, ZB, Nat.reduceAdd, Nat.reducePow, ↓reduceIte, eq_self, Int.reduceEq, Nat.reduceEqDiff, Nat.reduceMul, Nat.reduceLeDiff, Int.reduceBEq, Int.reduceLT, Tryd.f16, ↓XH2, XRN, ZC, ZE, ZH, eq_self, Nat.reduceLeDiff, Nat.reduceBEq, slV_new, ZS, reduceIte, ↓op_extract, Ru.R_len, hlt]
      refine okr_if (fun _ => ?_) (fun _ => ?_)
      · simp (dsimp := false) (disch := (first | (refine dS ?_; kernel_rfl) | (refine dM ?_; kernel_rfl) | (refine dO ?_; simp (disch := ((try simp only [ZL]) <;> omega)) only [ZK, ZL]; done) | (refine dK ?_; (repeat first | exact Keep.refl _ _ | exact Keep.app _ _ (Nat.le_refl _) | assumption | refine Keep.ap ?_ | refine Keep.st (by first | omega | (simp only [ZL]; omega)) ?_); done) | ((try simp only [ZL]) <;> omega) | fail)) only [XOB, ↓XXs, ↓XD, ↓YX, ZB, Nat.reduceAdd, Nat.reducePow, ↓reduceIte, eq_self, Int.reduceEq, Nat.reduceEqDiff, Nat.reduceMul, Nat.reduceLeDiff, Int.reduceBEq, Int.reduceLT, Tryd.f16, ↓XH2, XRN, ZC, ZE, ZH, eq_self, Nat.reduceLeDiff, Nat.reduceBEq, slV_new, ZS, reduceIte, ↓op_extract, Ru.R_len, hlt]
        refine okr_call (okr_pick rs.length (r.step (p + 1)) hl rfl (by omega) (by omega) hn (by omega)) ?_
        rintro _ _ ⟨⟨m2, rfl, hm2⟩, rfl⟩
        obtain ⟨d, x, t, hd, hdl⟩ : ∃ d x t, rs = d ++ x :: t ∧ d.length = m2 := ⟨rs.take m2, rs[m2], rs.drop (m2 + 1), by rw [← List.drop_eq_getElem_cons hm2, List.take_append_drop], by simp; omega⟩
        have hix : ixAddr (slV il g rs.length rs.length) (m2 : Int) 4 = some (pV il (m2 * 4) g) := by rw [ixAddr_sl hm2]; simp
        simp (dsimp := false) (disch := (first | (refine dS ?_; kernel_rfl) | (refine dM ?_; kernel_rfl) | (refine dO ?_; simp (disch := ((try simp only [ZL]) <;> omega)) only [ZK, ZL]; done) | (refine dK ?_; (repeat first | exact Keep.refl _ _ | exact Keep.app _ _ (Nat.le_refl _) | assumption | refine Keep.ap ?_ | refine Keep.st (by first | omega | (simp only [ZL]; omega)) ?_); done) | ((try simp only [ZL]) <;> omega) | fail)) only [XOB, ↓XXs, ↓XD, ↓YX, ZB, Nat.reduceAdd, Nat.reducePow, ↓reduceIte, eq_self, Int.reduceEq, Nat.reduceEqDiff, Nat.reduceMul, Nat.reduceLeDiff, Int.reduceBEq, Int.reduceLT, Tryd.f16, ↓XH2, XRN, ZC, ZE, ZH, eq_self, Nat.reduceLeDiff, Nat.reduceBEq, slV_new, ZS, reduceIte, ↓op_extract, Ru.R_len, hlt, hix, qe]
        subst hd hdl
        have fx := q.f x (by simp)
        refine okr_call (okr_of [_, _, _] (r.kp (p + 2)) hl (by simp (disch := (first | (refine dS ?_; kernel_rfl) | (refine dM ?_; kernel_rfl) | (refine dO ?_; simp (disch := ((try simp only [ZL]) <;> omega)) only [ZK, ZL]; done) | (refine dK ?_; (repeat first | exact Keep.refl _ _ | exact Keep.app _ _ (Nat.le_refl _) | assumption | refine Keep.ap ?_ | refine Keep.st (by first | omega | (simp only [ZL]; omega)) ?_); done) | ((try simp only [ZL]) <;> omega) | fail)) only [↓XH2, XRN, ZC, ZE, ZH, eq_self, Nat.reduceLeDiff, Nat.reduceBEq] <;> rfl) rfl rfl (by omega) (by simp) (by simp) hn (by omega)) ?_
        rintro _ _ ⟨⟨rm, rfl, hrm⟩, rfl⟩
        have frm : rm.length ≤ 64 := by revert rm; decide
        have q2 := (q.dr0 (Q := P + 20) r (p + 3) (by omega)).st (g' := g) (Ru.F_set q.f (y := ⟨x.quiet, rm, x.user, x.kind⟩) ⟨frm, fx.2⟩)
        have q2r : Rd ((h.set id (rdO va (p + 3))).set il (.row g 4 (Ru.R (d ++ ⟨x.quiet, rm, x.user, x.kind⟩ :: t)))) id va n (p + 3) := (r.step (p + 3)).keep ⟨by simp, fun j hj => HC3 (by omega)⟩
        simp (dsimp := false) (disch := (first | (refine dS ?_; kernel_rfl) | (refine dM ?_; kernel_rfl) | (refine dO ?_; simp (disch := ((try simp only [ZL]) <;> omega)) only [ZK, ZL]; done) | (refine dK ?_; (repeat first | exact Keep.refl _ _ | exact Keep.app _ _ (Nat.le_refl _) | assumption | refine Keep.ap ?_ | refine Keep.st (by first | omega | (simp only [ZL]; omega)) ?_); done) | ((try simp only [ZL]) <;> omega) | fail)) only [XOB, ↓XXs, ↓XD, ↓YX, ZB, Nat.reduceAdd, Nat.reducePow, ↓reduceIte, eq_self, Int.reduceEq, Nat.reduceEqDiff, Nat.reduceMul, Nat.reduceLeDiff, Int.reduceBEq, Int.reduceLT, Tryd.f16, ↓XH2, XRN, ZC, ZE, ZH, eq_self, Nat.reduceLeDiff, Nat.reduceBEq, slV_new, ZS, reduceIte, ↓op_extract, Ru.R_len, hlt, hix, qe, Ru.setRoom, Ru.setKind]
        refine okr_call (okr_one [_, _, _] q2r.ap hl (by rw [List.getElem?_append_right (by simp)]; simp; rfl) rfl rfl (by omega) (by simp) (by simp) hn (by omega)) ?_
        rintro _ _ ⟨⟨kd, rfl, hkd⟩, rfl⟩
        have q3 := (q2.dr0 (Q := P + 20) q2r (p + 4) (by omega)).st (g' := g) (Ru.F_set q2.f (y := ⟨x.quiet, rm, x.user, kd⟩) ⟨frm, fx.2⟩)
        simp (dsimp := false) (disch := (first | (refine dS ?_; kernel_rfl) | (refine dM ?_; kernel_rfl) | (refine dO ?_; simp (disch := ((try simp only [ZL]) <;> omega)) only [ZK, ZL]; done) | (refine dK ?_; (repeat first | exact Keep.refl _ _ | exact Keep.app _ _ (Nat.le_refl _) | assumption | refine Keep.ap ?_ | refine Keep.st (by first | omega | (simp only [ZL]; omega)) ?_); done) | ((try simp only [ZL]) <;> omega) | fail)) only [XOB, ↓XXs, ↓XD, ↓YX, ZB, Nat.reduceAdd, Nat.reducePow, ↓reduceIte, eq_self, Int.reduceEq, Nat.reduceEqDiff, Nat.reduceMul, Nat.reduceLeDiff, Int.reduceBEq, Int.reduceLT, Tryd.f16, ↓XH2, XRN, ZC, ZE, ZH, eq_self, Nat.reduceLeDiff, Nat.reduceBEq, slV_new, ZS, reduceIte, ↓op_extract, Ru.R_len, hlt, hix, qe, Ru.setRoom, Ru.setKind]
        with_reducible refine Okr.ret ?_
        refine ⟨⟨il, g, d ++ ⟨x.quiet, rm, x.user, kd⟩ :: t, ?_, q3.keep (Keep.app _ _ (Nat.le_refl _)), ?_⟩⟩
        · simp
        · simp at h9 ⊢; omega
      · simp (dsimp := false) (disch := (first | (refine dS ?_; kernel_rfl) | (refine dM ?_; kernel_rfl) | (refine dO ?_; simp (disch := ((try simp only [ZL]) <;> omega)) only [ZK, ZL]; done) | (refine dK ?_; (repeat first | exact Keep.refl _ _ | exact Keep.app _ _ (Nat.le_refl _) | assumption | refine Keep.ap ?_ | refine Keep.st (by first | omega | (simp only [ZL]; omega)) ?_); done) | ((try simp only [ZL]) <;> omega) | fail)) only [XOB, ↓XXs, ↓XD, ↓YX, ZB, Nat.reduceAdd, Nat.reducePow, ↓reduceIte, eq_self, Int.reduceEq, Nat.reduceEqDiff, Nat.reduceMul, Nat.reduceLeDiff, Int.reduceBEq, Int.reduceLT, Tryd.f16, ↓XH2, XRN, ZC, ZE, ZH, eq_self, Nat.reduceLeDiff, Nat.reduceBEq, slV_new, ZS, reduceIte, ↓op_extract, Ru.R_len, hlt]
        with_reducible refine Okr.ret ?_
        exact ⟨⟨il, g, rs, rfl, q1, by omega⟩⟩
    · simp (dsimp := false) (disch := (first | (refine dS ?_; kernel_rfl) | (refine dM ?_; kernel_rfl) | (refine dO ?_; simp (disch := ((try simp only [ZL]) <;> omega)) only [ZK, ZL]; done) | (refine dK ?_; (repeat first | exact Keep.refl _ _ | exact Keep.app _ _ (Nat.le_refl _) | assumption | refine Keep.ap ?_ | refine Keep.st (by first | omega | (simp only [ZL]; omega)) ?_); done) | ((try simp only [ZL]) <;> omega) | fail)) only [XOB, ↓XXs, ↓XD, ↓YX, ZB, Nat.reduceAdd, Nat.reducePow, ↓reduceIte, eq_self, Int.reduceEq, Nat.reduceEqDiff, Nat.reduceMul, Nat.reduceLeDiff, Int.reduceBEq, Int.reduceLT, Tryd.f16, ↓XH2, XRN, ZC, ZE, ZH, eq_self, Nat.reduceLeDiff, Nat.reduceBEq, slV_new, ZS, reduceIte, ↓op_extract, Ru.R_len, hlt]
      with_reducible refine Okr.ret ?_
      exact ⟨⟨il, g, rs, rfl, q0, by omega⟩⟩
  | succ k ih =>
    rintro P il g no i rs h q h9 rfl rfl hP
    have hlt : decide ((0 : Int) < ((k + 1 : Nat) : Int)) = true := decide_eq_true (by omega)
    have hw : IntKind.i64.wrap (((k + 1 : Nat) : Int) - 1) = (k : Int) := by rw [wrap64 (by omega)]; omega
    refine okr_code Tryd.func16 rfl rfl ?_
    simp (dsimp := false) (disch := (first | (refine dS ?_; kernel_rfl) | (refine dM ?_; kernel_rfl) | (refine dO ?_; simp (disch := ((try simp only [ZL]) <;> omega)) only [ZK, ZL]; done) | (refine dK ?_; (repeat first | exact Keep.refl _ _ | exact Keep.app _ _ (Nat.le_refl _) | assumption | refine Keep.ap ?_ | refine Keep.st (by first | omega | (simp only [ZL]; omega)) ?_); done) | ((try simp only [ZL]) <;> omega) | fail)) only [XOB, ↓XXs, ↓XD, ↓YX, ZB, Nat.reduceAdd, Nat.reducePow, ↓reduceIte, eq_self, Int.reduceEq, Nat.reduceEqDiff, Nat.reduceMul, Nat.reduceLeDiff, Int.reduceBEq, Int.reduceLT, Tryd.f16, ↓XH2, XRN, ZC, ZE, ZH, eq_self, Nat.reduceLeDiff, Nat.reduceBEq, slV_new, ZS, reduceIte, ↓op_extract, Ru.R_len, hlt, hw]
    obtain ⟨p, hp, r⟩ := q.r
    have ide := q.hid
    have hi := q.hi
    have hil := lt_of_get q.e
    have hidl := lt_of_get r.1
    have qe := q.e
    refine okr_call (okr_pick 3 r hl rfl (by simp) (by simp) hn (by omega)) ?_
    rintro _ _ ⟨⟨m, rfl, hm⟩, rfl⟩
    simp (dsimp := false) (disch := (first | (refine dS ?_; kernel_rfl) | (refine dM ?_; kernel_rfl) | (refine dO ?_; simp (disch := ((try simp only [ZL]) <;> omega)) only [ZK, ZL]; done) | (refine dK ?_; (repeat first | exact Keep.refl _ _ | exact Keep.app _ _ (Nat.le_refl _) | assumption | refine Keep.ap ?_ | refine Keep.st (by first | omega | (simp only [ZL]; omega)) ?_); done) | ((try simp only [ZL]) <;> omega) | fail)) only [XOB, ↓XXs, ↓XD, ↓YX, ZB, Nat.reduceAdd, Nat.reducePow, ↓reduceIte, eq_self, Int.reduceEq, Nat.reduceEqDiff, Nat.reduceMul, Nat.reduceLeDiff, Int.reduceBEq, Int.reduceLT, Tryd.f16, ↓XH2, XRN, ZC, ZE, ZH, eq_self, Nat.reduceLeDiff, Nat.reduceBEq, slV_new, ZS, reduceIte, ↓op_extract, Ru.R_len, hlt, hw]
    refine okr_call (okr_of [_, _, _] (r.kp (p + 1)) hl (by simp (disch := (first | (refine dS ?_; kernel_rfl) | (refine dM ?_; kernel_rfl) | (refine dO ?_; simp (disch := ((try simp only [ZL]) <;> omega)) only [ZK, ZL]; done) | (refine dK ?_; (repeat first | exact Keep.refl _ _ | exact Keep.app _ _ (Nat.le_refl _) | assumption | refine Keep.ap ?_ | refine Keep.st (by first | omega | (simp only [ZL]; omega)) ?_); done) | ((try simp only [ZL]) <;> omega) | fail)) only [↓XH2, XRN, ZC, ZE, ZH, eq_self, Nat.reduceLeDiff, Nat.reduceBEq] <;> rfl) rfl rfl (by omega) (by simp) (by simp) hn (by omega)) ?_
    rintro _ _ ⟨⟨rm, rfl, hrm⟩, rfl⟩
    have frm : rm.length ≤ 64 := by revert rm; decide
    simp (dsimp := false) (disch := (first | (refine dS ?_; kernel_rfl) | (refine dM ?_; kernel_rfl) | (refine dO ?_; simp (disch := ((try simp only [ZL]) <;> omega)) only [ZK, ZL]; done) | (refine dK ?_; (repeat first | exact Keep.refl _ _ | exact Keep.app _ _ (Nat.le_refl _) | assumption | refine Keep.ap ?_ | refine Keep.st (by first | omega | (simp only [ZL]; omega)) ?_); done) | ((try simp only [ZL]) <;> omega) | fail)) only [XOB, ↓XXs, ↓XD, ↓YX, ZB, Nat.reduceAdd, Nat.reducePow, ↓reduceIte, eq_self, Int.reduceEq, Nat.reduceEqDiff, Nat.reduceMul, Nat.reduceLeDiff, Int.reduceBEq, Int.reduceLT, Tryd.f16, ↓XH2, XRN, ZC, ZE, ZH, eq_self, Nat.reduceLeDiff, Nat.reduceBEq, slV_new, ZS, reduceIte, ↓op_extract, Ru.R_len, hlt, hw]
    refine okr_call (okr_of [_, _, _, _] (r.kp (p + 2)) hl (by simp (disch := (first | (refine dS ?_; kernel_rfl) | (refine dM ?_; kernel_rfl) | (refine dO ?_; simp (disch := ((try simp only [ZL]) <;> omega)) only [ZK, ZL]; done) | (refine dK ?_; (repeat first | exact Keep.refl _ _ | exact Keep.app _ _ (Nat.le_refl _) | assumption | refine Keep.ap ?_ | refine Keep.st (by first | omega | (simp only [ZL]; omega)) ?_); done) | ((try simp only [ZL]) <;> omega) | fail)) only [↓XH2, XRN, ZC, ZE, ZH, eq_self, Nat.reduceLeDiff, Nat.reduceBEq] <;> rfl) rfl rfl (by omega) (by simp) (by simp) hn (by omega)) ?_
    rintro _ _ ⟨⟨us, rfl, hus⟩, rfl⟩
    have fus : us.length ≤ 64 := by revert us; decide
    simp (dsimp := false) (disch := (first | (refine dS ?_; kernel_rfl) | (refine dM ?_; kernel_rfl) | (refine dO ?_; simp (disch := ((try simp only [ZL]) <;> omega)) only [ZK, ZL]; done) | (refine dK ?_; (repeat first | exact Keep.refl _ _ | exact Keep.app _ _ (Nat.le_refl _) | assumption | refine Keep.ap ?_ | refine Keep.st (by first | omega | (simp only [ZL]; omega)) ?_); done) | ((try simp only [ZL]) <;> omega) | fail)) only [XOB, ↓XXs, ↓XD, ↓YX, ZB, Nat.reduceAdd, Nat.reducePow, ↓reduceIte, eq_self, Int.reduceEq, Nat.reduceEqDiff, Nat.reduceMul, Nat.reduceLeDiff, Int.reduceBEq, Int.reduceLT, Tryd.f16, ↓XH2, XRN, ZC, ZE, ZH, eq_self, Nat.reduceLeDiff, Nat.reduceBEq, slV_new, ZS, reduceIte, ↓op_extract, Ru.R_len, hlt, hw]
    refine okr_call (okr_one [_, _, _, _, _] (r.kp (p + 3)) hl (by simp (disch := (first | (refine dS ?_; kernel_rfl) | (refine dM ?_; kernel_rfl) | (refine dO ?_; simp (disch := ((try simp only [ZL]) <;> omega)) only [ZK, ZL]; done) | (refine dK ?_; (repeat first | exact Keep.refl _ _ | exact Keep.app _ _ (Nat.le_refl _) | assumption | refine Keep.ap ?_ | refine Keep.st (by first | omega | (simp only [ZL]; omega)) ?_); done) | ((try simp only [ZL]) <;> omega) | fail)) only [↓XH2, XRN, ZC, ZE, ZH, eq_self, Nat.reduceLeDiff, Nat.reduceBEq] <;> rfl) rfl rfl (by omega) (by simp) (by simp) hn (by omega)) ?_
    rintro _ _ ⟨⟨kd, rfl, hkd⟩, rfl⟩
    simp (dsimp := false) (disch := (first | (refine dS ?_; kernel_rfl) | (refine dM ?_; kernel_rfl) | (refine dO ?_; simp (disch := ((try simp only [ZL]) <;> omega)) only [ZK, ZL]; done) | (refine dK ?_; (repeat first | exact Keep.refl _ _ | exact Keep.app _ _ (Nat.le_refl _) | assumption | refine Keep.ap ?_ | refine Keep.st (by first | omega | (simp only [ZL]; omega)) ?_); done) | ((try simp only [ZL]) <;> omega) | fail)) only [XOB, ↓XXs, ↓XD, ↓YX, ZB, Nat.reduceAdd, Nat.reducePow, ↓reduceIte, eq_self, Int.reduceEq, Nat.reduceEqDiff, Nat.reduceMul, Nat.reduceLeDiff, Int.reduceBEq, Int.reduceLT, Tryd.f16, ↓XH2, XRN, ZC, ZE, ZH, eq_self, Nat.reduceLeDiff, Nat.reduceBEq, slV_new, ZS, reduceIte, ↓op_extract, Ru.R_len, hlt, hw]
    refine okr_opt (Ru.app3 (os := rs) ⟨decide ((0 : Int) < m), rm, us, kd⟩ (by simp (disch := (first | (refine dS ?_; kernel_rfl) | (refine dM ?_; kernel_rfl) | (refine dO ?_; simp (disch := ((try simp only [ZL]) <;> omega)) only [ZK, ZL]; done) | (refine dK ?_; (repeat first | exact Keep.refl _ _ | exact Keep.app _ _ (Nat.le_refl _) | assumption | refine Keep.ap ?_ | refine Keep.st (by first | omega | (simp only [ZL]; omega)) ?_); done) | ((try simp only [ZL]) <;> omega) | fail)) only [↓XH2, XRN, ZC, ZE, ZH, eq_self, Nat.reduceLeDiff, Nat.reduceBEq, qe]) (by simp (disch := (first | (refine dS ?_; kernel_rfl) | (refine dM ?_; kernel_rfl) | (refine dO ?_; simp (disch := ((try simp only [ZL]) <;> omega)) only [ZK, ZL]; done) | (refine dK ?_; (repeat first | exact Keep.refl _ _ | exact Keep.app _ _ (Nat.le_refl _) | assumption | refine Keep.ap ?_ | refine Keep.st (by first | omega | (simp only [ZL]; omega)) ?_); done) | ((try simp only [ZL]) <;> omega) | fail)) only [↓XH2, XRN, ZC, ZE, ZH, eq_self, Nat.reduceLeDiff, Nat.reduceBEq] <;> rfl) rfl rfl (by first | rfl | omega | (simp (disch := (first | (refine dS ?_; kernel_rfl) | (refine dM ?_; kernel_rfl) | (refine dO ?_; simp (disch := ((try simp only [ZL]) <;> omega)) only [ZK, ZL]; done) | (refine dK ?_; (repeat first | exact Keep.refl _ _ | exact Keep.app _ _ (Nat.le_refl _) | assumption | refine Keep.ap ?_ | refine Keep.st (by first | omega | (simp only [ZL]; omega)) ?_); done) | ((try simp only [ZL]) <;> omega) | fail)) only [ZK, ZL, ZR] <;> omega) | fail) (by omega) rfl) ?_
    rintro _ ⟨g2, rfl⟩
    simp (dsimp := false) (disch := (first | (refine dS ?_; kernel_rfl) | (refine dM ?_; kernel_rfl) | (refine dO ?_; simp (disch := ((try simp only [ZL]) <;> omega)) only [ZK, ZL]; done) | (refine dK ?_; (repeat first | exact Keep.refl _ _ | exact Keep.app _ _ (Nat.le_refl _) | assumption | refine Keep.ap ?_ | refine Keep.st (by first | omega | (simp only [ZL]; omega)) ?_); done) | ((try simp only [ZL]) <;> omega) | fail)) only [XOB, ↓XXs, ↓XD, ↓YX, ZB, Nat.reduceAdd, Nat.reducePow, ↓reduceIte, eq_self, Int.reduceEq, Nat.reduceEqDiff, Nat.reduceMul, Nat.reduceLeDiff, Int.reduceBEq, Int.reduceLT, Tryd.f16, ↓XH2, XRN, ZC, ZE, ZH, eq_self, Nat.reduceLeDiff, Nat.reduceBEq, slV_new, ZS, reduceIte, ↓op_extract, Ru.R_len, hlt, hw]
    have q4 := (q.dr0 (Q := P + 20) r (p + 4) (by omega)).st (g' := g2) (Ru.F_app (y := ⟨decide ((0 : Int) < m), rm, us, kd⟩) q.f ⟨frm, fus⟩)
    rw [show P + (20 * (k + 1) + 20) = P + 20 + 20 * k + 20 by omega]
    exact ih (P + 20) il g2 (rs.length + 1) _ _ _ (q4.keep (Keep.app _ _ (Nat.le_refl _))) (by simp; omega) (by simp) rfl (by omega)
end Go.Abs
namespace Go.Abs
open Go.Proofs
set_option maxRecDepth 100000
set_option linter.unusedSimpArgs false
set_option linter.unusedVariables false
set_option pp.maxSteps 20000
set_option pp.deepTerms true
theorem r16 {H : AH} {id : Nat} {va : Value} {n l p : Nat} (r : Rd H id va n p) (hl : l ≤ id) (hn : n ≤ 2 ^ 62) (hp : p ≤ 2 ^ 38) :
    Okr (RulesQ H id va n (p + 1000)) (run V0 (.fn 16) l [S (pV id 0 0)] H) := by
  have hid := lt_of_get r.1
  refine okr_fn Tryd.func16 rfl rfl rfl rfl ?_
  simp (dsimp := false) (disch := (first | (refine dS ?_; kernel_rfl) | (refine dM ?_; kernel_rfl) | (refine dO ?_; simp (disch := ((try simp only [ZL]) <;> omega)) only [ZK, ZL]; done) | (refine dK ?_; (repeat first | exact Keep.refl _ _ | exact Keep.app _ _ (Nat.le_refl _) | assumption | refine Keep.ap ?_ | refine Keep.st (by first | omega | (simp only [ZL]; omega)) ?_); done) | ((try simp only [ZL]) <;> omega) | fail)) only [XOB, ↓XXs, ↓XD, ↓YX, ZB, Nat.reduceAdd, Nat.reducePow, ↓reduceIte, eq_self, Int.reduceEq, Nat.reduceEqDiff, Nat.reduceMul, Nat.reduceLeDiff, Int.reduceBEq, Int.reduceLT, Tryd.f16, ↓XH2, XRN, ZC, ZE, ZH, eq_self, Nat.reduceLeDiff, Nat.reduceBEq, slV_new, ZS, reduceIte, ↓op_extract]
  refine okr_call (okr_one [_, _, _, _, _, _, _] r.ap hl (by simp (disch := (first | (refine dS ?_; kernel_rfl) | (refine dM ?_; kernel_rfl) | (refine dO ?_; simp (disch := ((try simp only [ZL]) <;> omega)) only [ZK, ZL]; done) | (refine dK ?_; (repeat first | exact Keep.refl _ _ | exact Keep.app _ _ (Nat.le_refl _) | assumption | refine Keep.ap ?_ | refine Keep.st (by first | omega | (simp only [ZL]; omega)) ?_); done) | ((try simp only [ZL]) <;> omega) | fail)) only [↓XH2, XRN, ZC, ZE, ZH, eq_self, Nat.reduceLeDiff, Nat.reduceBEq] <;> rfl) rfl rfl (by omega) (by simp) (by simp) hn (by omega)) ?_
  rintro _ _ ⟨⟨x, rfl, hx⟩, rfl⟩
  obtain ⟨mn, rfl, hmn⟩ : ∃ mn : Nat, x = mn ∧ mn ≤ 9 := ⟨x.toNat, by revert x; decide, by revert x; decide⟩
  simp (dsimp := false) (disch := (first | (refine dS ?_; kernel_rfl) | (refine dM ?_; kernel_rfl) | (refine dO ?_; simp (disch := ((try simp only [ZL]) <;> omega)) only [ZK, ZL]; done) | (refine dK ?_; (repeat first | exact Keep.refl _ _ | exact Keep.app _ _ (Nat.le_refl _) | assumption | refine Keep.ap ?_ | refine Keep.st (by first | omega | (simp only [ZL]; omega)) ?_); done) | ((try simp only [ZL]) <;> omega) | fail)) only [XOB, ↓XXs, ↓XD, ↓YX, ZB, Nat.reduceAdd, Nat.reducePow, ↓reduceIte, eq_self, Int.reduceEq, Nat.reduceEqDiff, Nat.reduceMul, Nat.reduceLeDiff, Int.reduceBEq, Int.reduceLT, Tryd.f16, ↓XH2, XRN, ZC, ZE, ZH, eq_self, Nat.reduceLeDiff, Nat.reduceBEq, slV_new, ZS, reduceIte, ↓op_extract]
  have q : RuAt H (H.set id (rdO va (p + 1)) ++ [AObj.row 0 4 [], AObj.row 0 1 [iV 0, iV 1, iV 2, iV 3, iV 5, iV 8, iV 9]]) id va n (p + 1) H.length 0 [] :=
    ⟨by simp (disch := (first | (refine dS ?_; kernel_rfl) | (refine dM ?_; kernel_rfl) | (refine dO ?_; simp (disch := ((try simp only [ZL]) <;> omega)) only [ZK, ZL]; done) | (refine dK ?_; (repeat first | exact Keep.refl _ _ | exact Keep.app _ _ (Nat.le_refl _) | assumption | refine Keep.ap ?_ | refine Keep.st (by first | omega | (simp only [ZL]; omega)) ?_); done) | ((try simp only [ZL]) <;> omega) | fail)) only [↓XH2, XRN, ZC, ZE, ZH, eq_self, Nat.reduceLeDiff, Nat.reduceBEq]; rfl, Nat.le_refl _, by simp, ⟨p + 1, Nat.le_refl _, r.kp (p + 1)⟩, hid, (KX.set H.length id H _).trans ((Keep.app _ _ (by simp)).kx (Nat.le_refl _))⟩
  refine Okr.mono (L16 hl hn mn (p + 1) H.length 0 0 _ [] _ q (by simpa using hmn) rfl rfl (by omega)) fun v h' e => ?_
  obtain ⟨⟨il, g, rs, e1, e2, e3⟩⟩ := e
  obtain ⟨p', hp', r'⟩ := e2.r
  exact ⟨il, g, rs, e1, ⟨e2.e, e2.hi, e2.f, ⟨p', by omega, r'⟩, e2.hid, e2.k⟩, e3⟩
structure DrawR (H : AH) (v : Value) (h' : AH) : Prop where
  ex : ∃ i1 g1 rs, v = slV i1 g1 rs.length rs.length ∧ h'[i1]? = some (.row g1 4 (Ru.R rs)) ∧ H.length ≤ i1 ∧ (∀ x ∈ rs, x.F) ∧ rs.length ≤ 9
  k : Keep H.length H h'
end Go.Abs
namespace Go.Abs
open Go.Proofs
set_option maxRecDepth 100000
set_option linter.unusedSimpArgs false
set_option pp.maxSteps 20000

/-! ### the text of a rule -/
def kindsL : List Bs := [[], [106, 111, 105, 110], [108, 101, 97, 118, 101], [116, 97, 108, 107], [115, 117, 98, 106, 101, 99, 116], [114, 111, 108, 101], [114, 97, 110, 107]]
def kindW (k : Int) : Bs := kindsL.getD k.toNat []
def oA (s : Bs) : Bs := if s = [] then [42] else s
def ruHead (x : Ru) : Bs := if x.quiet then [113, 117, 105, 101, 116] else [115, 104, 111, 119]
def ruText (x : Ru) : Bs := ruHead x ++ [32] ++ oA x.room ++ [32] ++ oA x.user ++ [32] ++ oA (kindW x.kind) ++ [10]
def Ru.Fit20 (x : Ru) : Prop := x.room.length ≤ 2 ^ 20 ∧ x.user.length ≤ 2 ^ 20
theorem oA_len (s : Bs) : (oA s).length ≤ s.length + 1 := by unfold oA; split <;> simp
theorem kindW_len (k : Int) : (kindW k).length ≤ 7 := by
  unfold kindW
  rcases h : k.toNat with _ | _ | _ | _ | _ | _ | _ | n <;> simp [kindsL]
theorem ruHead_len (x : Ru) : (ruHead x).length ≤ 5 := by unfold ruHead; split <;> simp
theorem ruText_len (x : Ru) (h : x.Fit20) : (ruText x).length ≤ 2 ^ 22 := by
  obtain ⟨h1, h2⟩ := h
  have a := oA_len x.room
  have b := oA_len x.user
  have c := oA_len (kindW x.kind)
  have d := kindW_len x.kind
  have e := ruHead_len x
  simp only [ruText, List.length_append, List.length_cons, List.length_nil]
  omega
theorem cat_of {a b c : Bs} (e : a ++ b = c) (h : c.length ≤ 2 ^ 62) : catA (B a) (B b) = some (B c) := by
  subst e
  exact catA_B a b (by simpa using h)
theorem r47 (s : Bs) (l : Nat) (h : AH) : run V0 (.fn 47) l [S (sV s)] h = some (.ret (sV (oA s)) h) := by
  refine run_fn Tryd.func47 rfl rfl rfl rfl ?_
  unfold oA
  cases hq : decide (s = []) with
  | true => rw [if_pos (of_decide_eq_true hq)]; simp only [↓XX, ↓XD, ↓YX, ZB, Nat.reduceAdd, Nat.reducePow, ↓reduceIte, eq_self, Int.reduceEq, Nat.reduceEqDiff, Nat.reduceMul, Nat.reduceLeDiff, Tryd.f47, eqB, hq]
  | false => rw [if_neg (of_decide_eq_false hq)]; simp only [↓XX, ↓XD, ↓YX, ZB, Nat.reduceAdd, Nat.reducePow, ↓reduceIte, eq_self, Int.reduceEq, Nat.reduceEqDiff, Nat.reduceMul, Nat.reduceLeDiff, Tryd.f47, eqB, hq]
theorem r45 (s : Bs) (l : Nat) (h : AH) : run V0 (.fn 45) l [S (sV s)] h = some (.ret (sV (oA s)) h) := by
  refine run_fn Tryd.func45 rfl rfl rfl rfl ?_
  unfold oA
  cases hq : decide (s = []) with
  | true => rw [if_pos (of_decide_eq_true hq)]; simp only [↓XX, ↓XD, ↓YX, ZB, Nat.reduceAdd, Nat.reducePow, ↓reduceIte, eq_self, Int.reduceEq, Nat.reduceEqDiff, Nat.reduceMul, Nat.reduceLeDiff, Tryd.f45, eqB, hq]
  | false => rw [if_neg (of_decide_eq_false hq)]; simp only [↓XX, ↓XD, ↓YX, ZB, Nat.reduceAdd, Nat.reducePow, ↓reduceIte, eq_self, Int.reduceEq, Nat.reduceEqDiff, Nat.reduceMul, Nat.reduceLeDiff, Tryd.f45, eqB, hq]
theorem r48 (l : Nat) (h : AH) : run V0 (.fn 48) l [] h = some (.ret (newS h 7 7) (h ++ [.row 0 1 (sL kindsL)])) := by
  refine run_fn Tryd.func48 rfl rfl rfl rfl ?_
  simp only [↓XX, ↓XD, ↓YX, ZB, Nat.reduceAdd, Nat.reducePow, ↓reduceIte, eq_self, Int.reduceEq, Nat.reduceEqDiff, Nat.reduceMul, Nat.reduceLeDiff, Tryd.f48]
  rfl
theorem r28 (l : Nat) (h : AH) : run V0 (.fn 28) l [] h = some (.ret (newS h 7 7) (h ++ [.row 0 1 (sL kindsL)])) := by
  refine run_fn Tryd.func28 rfl rfl rfl rfl ?_
  simp only [↓XX, ↓XD, ↓YX, ZB, Nat.reduceAdd, Nat.reducePow, ↓reduceIte, eq_self, Int.reduceEq, Nat.reduceEqDiff, Nat.reduceMul, Nat.reduceLeDiff, Tryd.f28]
  rfl
theorem kind_ix (h : AH) {k : Int} (hk : 0 ≤ k ∧ k < 7) : ixAddr (newS h 7 7) k 1 = some (pV h.length k.toNat 0) := by
  simp only [ixAddr, newS]
  rw [if_pos (by omega)]
  simp
theorem kind_ld (h : AH) (l : AH) {k : Int} (hk : 0 ≤ k ∧ k < 7) (e : l[h.length]? = some (.row 0 1 (sL kindsL))) : ld l (pV h.length k.toNat 0) = some (sV (kindW k)) := by
  refine ld_of e ?_
  unfold kindW
  rcases hk' : k.toNat with _ | _ | _ | _ | _ | _ | _ | n <;> first | rfl | omega
/-- l17Put -/
theorem r23 (x : Ru) (hx : x.Fit20) (hk : 0 ≤ x.kind ∧ x.kind < 7) (l : Nat) (h : AH) : run V0 (.fn 23) l [S x.V] h = some (.ret (sV (ruText x)) (h ++ [.row 0 4 x.C] ++ [.row 0 1 (sL kindsL)])) := by
  refine run_fn Tryd.func23 rfl rfl rfl rfl ?_
  have ht := ruText_len x hx
  obtain ⟨q, rm, us, kd⟩ := x
  simp only at hk
  have hix := kind_ix (h ++ [AObj.row 0 4 [Value.bool q, sV rm, sV us, iV kd]]) hk
  have hld := kind_ld (h ++ [AObj.row 0 4 [Value.bool q, sV rm, sV us, iV kd]]) (h ++ [AObj.row 0 4 [Value.bool q, sV rm, sV us, iV kd]] ++ [AObj.row 0 1 (sL kindsL)]) hk (by simp)
  have tx : ruText ⟨q, rm, us, kd⟩ = ruHead ⟨q, rm, us, kd⟩ ++ [32] ++ oA rm ++ [32] ++ oA us ++ [32] ++ oA (kindW kd) ++ [10] := rfl
  rw [tx] at ht ⊢
  simp only [List.length_append, List.length_cons, List.length_nil] at ht
  cases q with
  | true =>
    have hh : ruHead ⟨true, rm, us, kd⟩ = [113, 117, 105, 101, 116] := rfl
    rw [hh] at ht ⊢
    simp only [List.length_cons, List.length_nil] at ht
    have c1 : catA (B [113, 117, 105, 101, 116]) (B [32]) = some (B ([113, 117, 105, 101, 116] ++ [32])) := cat_of rfl (by simp)
    have c2 : catA (B ([113, 117, 105, 101, 116] ++ [32])) (B (oA rm)) = some (B ([113, 117, 105, 101, 116] ++ [32] ++ oA rm)) := cat_of rfl (by simp; omega)
    have c3 : catA (B ([113, 117, 105, 101, 116] ++ [32] ++ oA rm)) (B [32]) = some (B ([113, 117, 105, 101, 116] ++ [32] ++ oA rm ++ [32])) := cat_of rfl (by simp; omega)
    have c4 : catA (B ([113, 117, 105, 101, 116] ++ [32] ++ oA rm ++ [32])) (B (oA us)) = some (B ([113, 117, 105, 101, 116] ++ [32] ++ oA rm ++ [32] ++ oA us)) := cat_of rfl (by simp; omega)
    have c5 : catA (B ([113, 117, 105, 101, 116] ++ [32] ++ oA rm ++ [32] ++ oA us)) (B [32]) = some (B ([113, 117, 105, 101, 116] ++ [32] ++ oA rm ++ [32] ++ oA us ++ [32])) := cat_of rfl (by simp; omega)
    have c6 : catA (B ([113, 117, 105, 101, 116] ++ [32] ++ oA rm ++ [32] ++ oA us ++ [32])) (B (oA (kindW kd))) = some (B ([113, 117, 105, 101, 116] ++ [32] ++ oA rm ++ [32] ++ oA us ++ [32] ++ oA (kindW kd))) := cat_of rfl (by simp; omega)
    have c7 : catA (B ([113, 117, 105, 101, 116] ++ [32] ++ oA rm ++ [32] ++ oA us ++ [32] ++ oA (kindW kd))) (B [10]) = some (B ([113, 117, 105, 101, 116] ++ [32] ++ oA rm ++ [32] ++ oA us ++ [32] ++ oA (kindW kd) ++ [10])) := cat_of rfl (by simp; omega)
    simp (disch := (refine _root_.id ?_; kernel_rfl)) only [↓hld, ↓XX, ↓XD, ↓YX, ZB, Nat.reduceAdd, Nat.reducePow, ↓reduceIte, eq_self, Int.reduceEq, Nat.reduceEqDiff, Nat.reduceMul, Nat.reduceLeDiff, Tryd.f23, ↓XH1, ↓XH2, ZC, eq_self, Nat.reduceLeDiff, r47, r48, hix, c1, c2, c3, c4, c5, c6, c7]
  | false =>
    have hh : ruHead ⟨false, rm, us, kd⟩ = [115, 104, 111, 119] := rfl
    rw [hh] at ht ⊢
    simp only [List.length_cons, List.length_nil] at ht
    have c1 : catA (B [115, 104, 111, 119]) (B [32]) = some (B ([115, 104, 111, 119] ++ [32])) := cat_of rfl (by simp)
    have c2 : catA (B ([115, 104, 111, 119] ++ [32])) (B (oA rm)) = some (B ([115, 104, 111, 119] ++ [32] ++ oA rm)) := cat_of rfl (by simp; omega)
    have c3 : catA (B ([115, 104, 111, 119] ++ [32] ++ oA rm)) (B [32]) = some (B ([115, 104, 111, 119] ++ [32] ++ oA rm ++ [32])) := cat_of rfl (by simp; omega)
    have c4 : catA (B ([115, 104, 111, 119] ++ [32] ++ oA rm ++ [32])) (B (oA us)) = some (B ([115, 104, 111, 119] ++ [32] ++ oA rm ++ [32] ++ oA us)) := cat_of rfl (by simp; omega)
    have c5 : catA (B ([115, 104, 111, 119] ++ [32] ++ oA rm ++ [32] ++ oA us)) (B [32]) = some (B ([115, 104, 111, 119] ++ [32] ++ oA rm ++ [32] ++ oA us ++ [32])) := cat_of rfl (by simp; omega)
    have c6 : catA (B ([115, 104, 111, 119] ++ [32] ++ oA rm ++ [32] ++ oA us ++ [32])) (B (oA (kindW kd))) = some (B ([115, 104, 111, 119] ++ [32] ++ oA rm ++ [32] ++ oA us ++ [32] ++ oA (kindW kd))) := cat_of rfl (by simp; omega)
    have c7 : catA (B ([115, 104, 111, 119] ++ [32] ++ oA rm ++ [32] ++ oA us ++ [32] ++ oA (kindW kd))) (B [10]) = some (B ([115, 104, 111, 119] ++ [32] ++ oA rm ++ [32] ++ oA us ++ [32] ++ oA (kindW kd) ++ [10])) := cat_of rfl (by simp; omega)
    simp (disch := (refine _root_.id ?_; kernel_rfl)) only [↓hld, ↓XX, ↓XD, ↓YX, ZB, Nat.reduceAdd, Nat.reducePow, ↓reduceIte, eq_self, Int.reduceEq, Nat.reduceEqDiff, Nat.reduceMul, Nat.reduceLeDiff, Tryd.f23, ↓XH1, ↓XH2, ZC, eq_self, Nat.reduceLeDiff, r47, r48, hix, c1, c2, c3, c4, c5, c6, c7]
/-- strings.Join of four texts -/
theorem join4 (a b c d t : Bs) (l : Nat) (h : AH) (ht : a ++ [32] ++ b ++ [32] ++ c ++ [32] ++ d = t) (hl : t.length ≤ 2 ^ 40) :
    run V0 (.fn 44) l [S (newS h 4 4), S (sV [32])] (h ++ [.row 0 1 [sV a, sV b, sV c, sV d]]) = some (.ret (sV t) (h ++ [.row 0 1 [sV a, sV b, sV c, sV d]])) := by
  refine run_prim (vs := [.slice (some ⟨h.length, 0, some 0⟩) 4 4, sV [32]]) (p := pJoin) rfl ?_
  have e : (h ++ [AObj.row 0 1 [sV a, sV b, sV c, sV d]])[h.length]? = some (.row 0 1 [sV a, sV b, sV c, sV d]) := by simp
  have hj : Lib.join ([B a, B b, B c, B d].map (·.data.toList)) (B [32]).data.toList = t := by
    subst ht
    show Lib.join [a, b, c, d] [32] = _
    rw [Lib.join_cons]
    simp [Lib.joinTail]
  simp only [pJoin, rowAt_of e, Option.bind_some]
  have hc : cut [sV a, sV b, sV c, sV d] 0 4 = some [sV a, sV b, sV c, sV d] := rfl
  have hs : strsOf [sV a, sV b, sV c, sV d] = some [B a, B b, B c, B d] := rfl
  rw [hc]
  simp only [Option.bind_some, hs]
  rw [hj, if_pos ⟨by omega, by omega⟩]
  rfl
/-- Rule.text -/
theorem r20 (x : Ru) (hx : x.Fit20) (hk : 0 ≤ x.kind ∧ x.kind < 7) (l : Nat) (h : AH) : ∃ h', run V0 (.fn 20) l [S x.V] h = some (.ret (sV (ruText x)) h') ∧ Keep h.length h h' := by
  have ht := ruText_len x hx
  obtain ⟨q, rm, us, kd⟩ := x
  simp only at hk
  have hix := kind_ix (h ++ [AObj.row 0 4 [Value.bool q, sV rm, sV us, iV kd]]) hk
  have hld := kind_ld (h ++ [AObj.row 0 4 [Value.bool q, sV rm, sV us, iV kd]]) (h ++ [AObj.row 0 4 [Value.bool q, sV rm, sV us, iV kd]] ++ [AObj.row 0 1 (sL kindsL)]) hk (by simp)
  have tx : ruText ⟨q, rm, us, kd⟩ = ruHead ⟨q, rm, us, kd⟩ ++ [32] ++ oA rm ++ [32] ++ oA us ++ [32] ++ oA (kindW kd) ++ [10] := rfl
  rw [tx] at ht ⊢
  simp only [List.length_append, List.length_cons, List.length_nil] at ht
  have hj := join4 (ruHead ⟨q, rm, us, kd⟩) (oA rm) (oA us) (oA (kindW kd)) _ l (h ++ [AObj.row 0 4 [Value.bool q, sV rm, sV us, iV kd]] ++ [AObj.row 0 1 (sL kindsL)]) rfl (by simp; omega)
  have c7 : catA (B (ruHead ⟨q, rm, us, kd⟩ ++ [32] ++ oA rm ++ [32] ++ oA us ++ [32] ++ oA (kindW kd))) (B [10]) = some (B (ruHead ⟨q, rm, us, kd⟩ ++ [32] ++ oA rm ++ [32] ++ oA us ++ [32] ++ oA (kindW kd) ++ [10])) := cat_of rfl (by simp; omega)
  refine ⟨h ++ [.row 0 4 [Value.bool q, sV rm, sV us, iV kd]] ++ [.row 0 1 (sL kindsL)] ++ [.row 0 1 [sV (ruHead ⟨q, rm, us, kd⟩), sV (oA rm), sV (oA us), sV (oA (kindW kd))]], run_fn Tryd.func20 rfl rfl rfl rfl ?_, by rw [List.append_assoc, List.append_assoc]; exact Keep.app _ _ (Nat.le_refl _)⟩
  cases q with
  | true =>
    have hh : ruHead ⟨true, rm, us, kd⟩ = [113, 117, 105, 101, 116] := rfl
    rw [hh] at hj c7 ⊢
    simp (disch := (refine _root_.id ?_; kernel_rfl)) only [↓hld, ↓XX, ↓XD, ↓YX, ZB, Nat.reduceAdd, Nat.reducePow, ↓reduceIte, eq_self, Int.reduceEq, Nat.reduceEqDiff, Nat.reduceMul, Nat.reduceLeDiff, Tryd.f20, ↓XH1, ↓XH2, ZC, eq_self, Nat.reduceLeDiff, r45, r28, hix, ↓hj, c7]
  | false =>
    have hh : ruHead ⟨false, rm, us, kd⟩ = [115, 104, 111, 119] := rfl
    rw [hh] at hj c7 ⊢
    simp (disch := (refine _root_.id ?_; kernel_rfl)) only [↓hld, ↓XX, ↓XD, ↓YX, ZB, Nat.reduceAdd, Nat.reducePow, ↓reduceIte, eq_self, Int.reduceEq, Nat.reduceEqDiff, Nat.reduceMul, Nat.reduceLeDiff, Tryd.f20, ↓XH1, ↓XH2, ZC, eq_self, Nat.reduceLeDiff, r45, r28, hix, ↓hj, c7]
end Go.Abs
namespace Go.Abs
open Go.Proofs
set_option maxRecDepth 100000
set_option linter.unusedSimpArgs false
set_option pp.maxSteps 20000

def rulesT (xs : List Ru) : Bs := xs.flatMap ruText
theorem rulesT_len : ∀ (r : List Ru), (∀ x ∈ r, x.Fit20) → (rulesT r).length ≤ r.length * 2 ^ 22
  | [], _ => by simp [rulesT]
  | x :: r, h => by
    have ih := rulesT_len r (fun y hy => h y (by simp [hy]))
    have h1 := ruText_len x (h x (by simp))
    simp only [rulesT, List.flatMap_cons, List.length_append, List.length_cons] at ih ⊢
    rw [Nat.succ_mul]
    omega
def KOk (x : Ru) : Prop := 0 ≤ x.kind ∧ x.kind < 7
theorem KOk_of {x : Ru} (h : ruOk x = true) : KOk x := by
  unfold ruOk inI at h
  simp only [Bool.and_eq_true, decide_eq_true_eq] at h
  exact ⟨h.2.1, by omega⟩
/-- spec.RulesPut: its loop -/
theorem L8 (id g c n l : Nat) (hn : n ≤ 2 ^ 40) : ∀ (r d : List Ru) (acc : Bs) (h : AH), d.length + r.length = n → (∀ x ∈ r, x.Fit20 ∧ KOk x) → h[id]? = some (.row g 4 (Ru.R (d ++ r))) → acc.length + (rulesT r).length ≤ 2 ^ 46 →
    ∃ h', L8_0 l (slV id g n c) (sV acc) (iV d.length) h = some (.ret (sV (acc ++ rulesT r)) h') ∧ Keep h.length h h' := by
  intro r
  induction r with
  | nil =>
    intro d acc h hk hf e hb
    simp only [List.length_nil, Nat.add_zero] at hk
    have hlt : decide ((d.length : Int) < (n : Int)) = false := by rw [decide_eq_false_iff_not]; omega
    refine ⟨h, run_code Tryd.func8 rfl rfl ?_, Keep.refl _ _⟩
    simp only [↓XX, ↓XD, ↓YX, ZB, Nat.reduceAdd, Nat.reducePow, ↓reduceIte, eq_self, Int.reduceEq, Nat.reduceEqDiff, Nat.reduceMul, Nat.reduceLeDiff, Tryd.f8, lenV, hlt, rulesT, List.flatMap_nil, List.append_nil]
  | cons x r ih =>
    intro d acc h hk hf e hb
    simp only [List.length_cons] at hk
    have hlt : decide ((d.length : Int) < (n : Int)) = true := by rw [decide_eq_true_iff]; omega
    have hix : ixAddr (slV id g n c) (d.length : Int) 4 = some (pV id (d.length * 4) g) := by rw [ixAddr_sl (by omega)]; simp
    have hld : ldN h (pV id (d.length * 4) g) 4 = some x.C := Ru.ldN e
    have hw : IntKind.i64.wrap ((d.length : Int) + 1) = (((d ++ [x]).length : Nat) : Int) := natCast_succ_wrap (by omega) (by simp)
    have hrt : rulesT (x :: r) = ruText x ++ rulesT r := by simp [rulesT]
    rw [hrt] at hb ⊢
    simp only [List.length_append] at hb
    have a1 := r23 x (hf x (by simp)).1 (hf x (by simp)).2 l h
    have kp : Keep h.length h (h ++ [AObj.row 0 4 x.C] ++ [AObj.row 0 1 (sL kindsL)]) := by rw [List.append_assoc]; exact Keep.app _ _ (Nat.le_refl _)
    obtain ⟨h', i1, i2⟩ := ih (d ++ [x]) (acc ++ ruText x) _ (by simp; omega) (fun y hy => hf y (by simp [hy])) (by rw [kp.get e (lt_of_get e)]; simp) (by simp only [List.length_append]; omega)
    have c1 : catA (B acc) (B (ruText x)) = some (B (acc ++ ruText x)) := cat_of rfl (by simp; omega)
    refine ⟨h', run_code Tryd.func8 rfl rfl ?_, kp.trans (i2.le kp.1)⟩
    simp only [↓XX, ↓XD, ↓YX, ZB, Nat.reduceAdd, Nat.reducePow, ↓reduceIte, eq_self, Int.reduceEq, Nat.reduceEqDiff, Nat.reduceMul, Nat.reduceLeDiff, Tryd.f8, lenV, hlt, hix, hld, hw, a1, c1, i1]
    rw [List.append_assoc]
def rokL (xs : List Ru) : Bool := xs.all ruOk && decide ((xs.length : Int) ≤ 8)
def rputL (xs : List Ru) : Bs := if rokL xs then rulesT xs else []
theorem rokL_k {xs : List Ru} (h : rokL xs = true) : ∀ x ∈ xs, KOk x := by
  unfold rokL at h
  simp only [Bool.and_eq_true, List.all_eq_true] at h
  exact fun x hx => KOk_of (h.1 x hx)
theorem Ru.Fit20.fit {x : Ru} (h : x.Fit20) : x.Fit := ⟨by have := h.1; omega, by have := h.2; omega⟩
theorem r8 (id g c l : Nat) (xs : List Ru) (h : AH) (hn : xs.length ≤ 2 ^ 20) (hf : ∀ x ∈ xs, x.Fit20) (e : h[id]? = some (.row g 4 (Ru.R xs))) :
    ∃ h', run V0 (.fn 8) l [S (slV id g xs.length c)] h = some (.ret (sV (rputL xs)) h') ∧ Keep h.length h h' := by
  obtain ⟨h1, a1, k1⟩ := r22 id g c l xs h (by omega) (fun x hx => Ru.Fit20.fit (hf x hx)) e
  have : (xs.all ruOk && decide ((xs.length : Int) ≤ 8)) = rokL xs := rfl
  rw [this] at a1
  unfold rputL
  cases hq : rokL xs with
  | false =>
    rw [hq] at a1
    refine ⟨h1, run_fn Tryd.func8 rfl rfl rfl rfl ?_, k1⟩
    simp only [↓XX, ↓XD, ↓YX, ZB, Nat.reduceAdd, Nat.reducePow, ↓reduceIte, eq_self, Int.reduceEq, Nat.reduceEqDiff, Nat.reduceMul, Nat.reduceLeDiff, Tryd.f8, a1, Bool.not_false]
    try rfl
  | true =>
    rw [hq] at a1
    have hb := rulesT_len xs hf
    obtain ⟨h2, a2, k2⟩ := L8 id g c xs.length l (by omega) xs [] [] h1 (by simp) (fun x hx => ⟨hf x hx, rokL_k hq x hx⟩) (by simpa using k1.get e (lt_of_get e)) (by simp; omega)
    refine ⟨h2, run_fn Tryd.func8 rfl rfl rfl rfl ?_, k1.trans (k2.le k1.1)⟩
    simp only [↓XX, ↓XD, ↓YX, ZB, Nat.reduceAdd, Nat.reducePow, ↓reduceIte, eq_self, Int.reduceEq, Nat.reduceEqDiff, Nat.reduceMul, Nat.reduceLeDiff, Tryd.f8, a1, Bool.not_true]
    exact a2
/-- impl.RulesPut: its loop -/
theorem L7 (id g c n l ib : Nat) (hn : n ≤ 2 ^ 40) (hl : l ≤ ib) (hid : id < ib) : ∀ (r d : List Ru) (acc : Bs) (h : AH), d.length + r.length = n → (∀ x ∈ r, x.Fit20 ∧ KOk x) → Bd h ib acc → h[id]? = some (.row g 4 (Ru.R (d ++ r))) → acc.length + (rulesT r).length ≤ 2 ^ 45 →
    ∃ h', L7_0 l (pV ib 0 0) (slV id g n c) (iV n) (iV d.length) h = some (.ret (sV (acc ++ rulesT r)) h') ∧ Wr ib h h' := by
  intro r
  induction r with
  | nil =>
    intro d acc h hk hf b e hb
    simp only [List.length_nil, Nat.add_zero] at hk
    have hlt : decide ((d.length : Int) < (n : Int)) = false := by rw [decide_eq_false_iff_not]; omega
    obtain ⟨h1, a1, w1⟩ := r_String hl b (by omega)
    refine ⟨h1, run_code Tryd.func7 rfl rfl ?_, w1⟩
    simp only [↓XX, ↓XD, ↓YX, ZB, Nat.reduceAdd, Nat.reducePow, ↓reduceIte, eq_self, Int.reduceEq, Nat.reduceEqDiff, Nat.reduceMul, Nat.reduceLeDiff, Tryd.f7, hlt, a1, rulesT, List.flatMap_nil, List.append_nil]
  | cons x r ih =>
    intro d acc h hk hf b e hb
    simp only [List.length_cons] at hk
    have hlt : decide ((d.length : Int) < (n : Int)) = true := by rw [decide_eq_true_iff]; omega
    have hix : ixAddr (slV id g n c) (d.length : Int) 4 = some (pV id (d.length * 4) g) := by rw [ixAddr_sl (by omega)]; simp
    have hld : ldN h (pV id (d.length * 4) g) 4 = some x.C := Ru.ldN e
    have hw : IntKind.i64.wrap ((d.length : Int) + 1) = (((d ++ [x]).length : Nat) : Int) := natCast_succ_wrap (by omega) (by simp)
    have hrt : rulesT (x :: r) = ruText x ++ rulesT r := by simp [rulesT]
    rw [hrt] at hb ⊢
    simp only [List.length_append] at hb
    have hib := b.lt
    have hl1 : l ≤ h.length := by omega
    have k0 : Keep h.length h (h ++ [AObj.row 0 4 x.C]) := Keep.app _ _ (Nat.le_refl _)
    obtain ⟨h2, a2, k2⟩ := r20 x (hf x (by simp)).1 (hf x (by simp)).2 l (h ++ [AObj.row 0 4 x.C])
    have k02 := k0.trans (k2.le k0.1)
    obtain ⟨h3, a3, b3, w3⟩ := r_WriteString (ib := ib) (ruText x) hl (b.keep k02) (by omega)
    have w03 := (Wr.of_keep k02 (by omega : ib ≤ h.length)).trans w3
    obtain ⟨h', i1, i2⟩ := ih (d ++ [x]) (acc ++ ruText x) h3 (by simp; omega) (fun y hy => hf y (by simp [hy])) b3 (by rw [w03.oth _ _ _ _ e (by omega) (by decide)]; simp) (by simp only [List.length_append]; omega)
    refine ⟨h', run_code Tryd.func7 rfl rfl ?_, w03.trans i2⟩
    simp only [↓hld, ↓XX, ↓XD, ↓YX, ZB, Nat.reduceAdd, Nat.reducePow, ↓reduceIte, eq_self, Int.reduceEq, Nat.reduceEqDiff, Nat.reduceMul, Nat.reduceLeDiff, Tryd.f7, ↓XH1, ↓XH2, ZC, eq_self, Nat.reduceLeDiff, hlt, hix, hw, hl1, a2, a3, i1]
    rw [List.append_assoc]
theorem r7 (id g c l : Nat) (xs : List Ru) (h : AH) (hl : l ≤ h.length) (hn : xs.length ≤ 2 ^ 20) (hf : ∀ x ∈ xs, x.Fit20) (e : h[id]? = some (.row g 4 (Ru.R xs))) :
    ∃ h', run V0 (.fn 7) l [S (slV id g xs.length c)] h = some (.ret (sV (rputL xs)) h') ∧ Keep h.length h h' := by
  obtain ⟨h1, a1, k1⟩ := r18 id g c l xs h (by omega) (fun x hx => Ru.Fit20.fit (hf x hx)) e
  have : (xs.all ruOk && decide ((xs.length : Int) ≤ 8)) = rokL xs := rfl
  rw [this] at a1
  unfold rputL
  cases hq : rokL xs with
  | false =>
    rw [hq] at a1
    refine ⟨h1, run_fn Tryd.func7 rfl rfl rfl rfl ?_, k1⟩
    simp only [↓XX, ↓XD, ↓YX, ZB, Nat.reduceAdd, Nat.reducePow, ↓reduceIte, eq_self, Int.reduceEq, Nat.reduceEqDiff, Nat.reduceMul, Nat.reduceLeDiff, Tryd.f7, a1, Bool.not_false]
    try rfl
  | true =>
    rw [hq] at a1
    have hb := rulesT_len xs hf
    have hid := lt_of_get (k1.get e (lt_of_get e))
    have k0 : Keep h1.length h1 (h1 ++ [AObj.row 0 171798691840 [.pointer none, .slice none 0 0]]) := Keep.app _ _ (Nat.le_refl _)
    obtain ⟨h2, a2, w2⟩ := L7 id g c xs.length l h1.length (by omega) (by have := k1.1; omega) hid xs [] [] (h1 ++ [AObj.row 0 171798691840 [.pointer none, .slice none 0 0]]) (by simp) (fun x hx => ⟨hf x hx, rokL_k hq x hx⟩) (.inl ⟨rfl, .inl (by simp)⟩) (by rw [k0.get (k1.get e (lt_of_get e)) hid]; simp) (by simp; omega)
    refine ⟨h2, run_fn Tryd.func7 rfl rfl rfl rfl ?_, (k1.trans (k0.le k1.1)).trans ((w2.keep (Nat.le_refl _)).le k1.1)⟩
    simp only [↓XX, ↓XD, ↓YX, ZB, Nat.reduceAdd, Nat.reducePow, ↓reduceIte, eq_self, Int.reduceEq, Nat.reduceEqDiff, Nat.reduceMul, Nat.reduceLeDiff, Tryd.f7, a1, Bool.not_true, lenV]
    exact a2
end Go.Abs
namespace Go.Abs
open Go.Proofs
set_option maxRecDepth 100000
set_option linter.unusedSimpArgs false
set_option pp.maxSteps 20000

/-! ### marks -/
def digF : Nat → Nat → Bs → Bs
  | 0, _, out => out
  | f + 1, k, out => if k = 0 then out else digF f (k / 10) (UInt8.ofNat (48 + k % 10) :: out)
def markT (k : Nat) : Bs := 109 :: digF k k []
theorem dig_int (k : Nat) : IntKind.u8.wrap (IntKind.i64.wrap (48 + (k : Int).tmod 10)) = ((UInt8.ofNat (48 + k % 10)).toNat : Int) := by
  have h1 : (k : Int).tmod 10 = ((k % 10 : Nat) : Int) := by rw [Int.tmod_eq_emod_of_nonneg (by omega)]; omega
  have h2 : k % 10 < 10 := Nat.mod_lt _ (by omega)
  rw [h1, wrap64 (by omega), wrap8 (by omega)]
  simp only [UInt8.toNat_ofNat']
  omega
theorem div_int (k : Nat) (hk : k ≤ 2 ^ 40) : IntKind.i64.wrap ((k : Int).tdiv 10) = ((k / 10 : Nat) : Int) := by
  have h1 : (k : Int).tdiv 10 = ((k / 10 : Nat) : Int) := by rw [Int.tdiv_eq_ediv_of_nonneg (by omega)]; omega
  rw [h1, wrap64 (by omega)]
theorem L33 (l n0 : Nat) : ∀ (f k : Nat) (out : Bs) (h : AH), k ≤ f → k + out.length ≤ 2 ^ 40 → n0 ≤ h.length →
    ∃ h', L33_0 l (iV k) (sV out) h = some (.ret (sV (109 :: digF f k out)) h') ∧ Keep n0 h h' := by
  intro f
  induction f with
  | zero =>
    intro k out h hk hb hh
    obtain rfl : k = 0 := by omega
    refine ⟨h, run_code Tryd.func33 rfl rfl ?_, Keep.refl _ _⟩
    have hc := catA_B [109] out (by simp; omega)
    have hlt : decide ((0 : Int) < ((0 : Nat) : Int)) = false := rfl
    simp only [↓XX, ↓XD, ↓YX, ZB, Nat.reduceAdd, Nat.reducePow, ↓reduceIte, eq_self, Int.reduceEq, Nat.reduceEqDiff, Nat.reduceMul, Nat.reduceLeDiff, Tryd.f33, hlt, hc, digF, List.singleton_append]
  | succ f ih =>
    intro k out h hk hb hh
    by_cases h0 : k = 0
    · subst h0
      refine ⟨h, run_code Tryd.func33 rfl rfl ?_, Keep.refl _ _⟩
      have hc := catA_B [109] out (by simp; omega)
      have hlt : decide ((0 : Int) < ((0 : Nat) : Int)) = false := rfl
      simp only [↓XX, ↓XD, ↓YX, ZB, Nat.reduceAdd, Nat.reducePow, ↓reduceIte, eq_self, Int.reduceEq, Nat.reduceEqDiff, Nat.reduceMul, Nat.reduceLeDiff, Tryd.f33, hlt, hc, digF, List.singleton_append]
    · have hlt : decide ((0 : Int) < (k : Int)) = true := by rw [decide_eq_true_iff]; omega
      obtain ⟨h', e, kp⟩ := ih (k / 10) (UInt8.ofNat (48 + k % 10) :: out) (h ++ [.row 0 25769803777 [.int .u8 ((UInt8.ofNat (48 + k % 10)).toNat : Int)]]) (by omega) (by simp only [List.length_cons]; omega) (by simp; omega)
      refine ⟨h', run_code Tryd.func33 rfl rfl ?_, (Keep.app _ _ hh).trans kp⟩
      have hb2 : b2s (h ++ [AObj.row 0 25769803777 [.int .u8 ((UInt8.ofNat (48 + k % 10)).toNat : Int)]]) (newS h 1 1) = some (B [UInt8.ofNat (48 + k % 10)]) :=
        b2s_of (sz := 25769803777) (s := [UInt8.ofNat (48 + k % 10)]) (by simp [u8c]) rfl
      have hc := catA_B [UInt8.ofNat (48 + k % 10)] out (by simp; omega)
      simp only [↓XX, ↓XD, ↓YX, ZB, Nat.reduceAdd, Nat.reducePow, ↓reduceIte, eq_self, Int.reduceEq, Nat.reduceEqDiff, Nat.reduceMul, Nat.reduceLeDiff, Tryd.f33, hlt, dig_int, div_int k (by omega), hb2, hc, digF, List.singleton_append, h0]
      exact e
theorem r33 (k : Nat) (h0 : 0 < k) (hk : k ≤ 2 ^ 40) (l : Nat) (h : AH) : ∃ h', run V0 (.fn 33) l [S (iV k)] h = some (.ret (sV (markT k)) h') ∧ Keep h.length h h' := by
  obtain ⟨h', e, kp⟩ := L33 l h.length k k [] h (Nat.le_refl _) (by simpa using hk) (Nat.le_refl _)
  refine ⟨h', run_fn Tryd.func33 rfl rfl rfl rfl ?_, kp⟩
  have hle : decide ((k : Int) ≤ 0) = false := by rw [decide_eq_false_iff_not]; omega
  simp only [↓XX, ↓XD, ↓YX, ZB, Nat.reduceAdd, Nat.reducePow, ↓reduceIte, eq_self, Int.reduceEq, Nat.reduceEqDiff, Nat.reduceMul, Nat.reduceLeDiff, Tryd.f33, hle]
  exact e

theorem Ru.set (d : List Ru) (x y : Ru) (r : List Ru) (j : Nat) (v : Value) (hj : j < 4) (hy : x.C.set j v = y.C) : (Ru.R (d ++ x :: r)).set (d.length * 4 + j) v = Ru.R (d ++ y :: r) := by
  rw [Ru.R_app, Ru.R_cons, Ru.R_app, Ru.R_cons]
  have := set_in (Ru.R d) x.C (Ru.R r) j v hj
  rw [Ru.R_len, Nat.mul_comm] at this
  rw [this, hy]
def markRu (k : Nat) : Ru := ⟨(k : Int).tmod 3 == 0, markT (k + 1), markT (k + 2), ((k + 3 : Nat) : Int)⟩
def marksR : Nat → Nat → List Ru
  | _, 0 => []
  | k, n + 1 => markRu k :: marksR (k + 4) n
theorem marksR_len : ∀ (n k : Nat), (marksR k n).length = n
  | 0, _ => rfl
  | n + 1, k => by simp [marksR, marksR_len n]
/-- markRuleS: its loop -/
theorem L13 (id g c n l : Nat) (ma : List Ru) (hl : l ≤ id) (n0 : Nat) (hn : n ≤ 2 ^ 30) : ∀ (r d : List Ru) (k : Nat) (h : AH), n0 ≤ h.length → d.length + r.length = n → 0 < k → k + 4 * r.length ≤ 2 ^ 39 → h[id]? = some (.row g 4 (Ru.R (d ++ (r ++ ma)))) →
    ∃ h', L13_0 l (slV id g n c) (iV k) (iV d.length) h = some (.ret (iV (k + 4 * r.length : Nat)) h') ∧ h'[id]? = some (.row g 4 (Ru.R (d ++ (marksR k r.length ++ ma)))) ∧ KX n0 id h h' := by
  intro r
  induction r with
  | nil =>
    intro d k h h0 hk h1 hb e
    simp only [List.length_nil, Nat.add_zero] at hk
    refine ⟨h, run_code Tryd.func13 rfl rfl ?_, by simpa [marksR] using e, KX.refl _ _ _⟩
    have hlt : decide ((d.length : Int) < (n : Int)) = false := by rw [decide_eq_false_iff_not]; omega
    simp only [↓XX, ↓XD, ↓YX, ZB, Nat.reduceAdd, Nat.reducePow, ↓reduceIte, eq_self, Int.reduceEq, Nat.reduceEqDiff, Nat.reduceMul, Nat.reduceLeDiff, Tryd.f13, lenV, hlt, Nat.mul_zero, Nat.add_zero]
  | cons x r ih =>
    intro d k h h0 hk h1 hb e
    simp only [List.length_cons] at hk hb
    have hlt : decide ((d.length : Int) < (n : Int)) = true := by rw [decide_eq_true_iff]; omega
    have hix : ixAddr (slV id g n c) (d.length : Int) 4 = some (pV id (d.length * 4) g) := by rw [ixAddr_sl (by omega)]; simp
    have ha : ∀ j, addOff (pV id (d.length * 4) g) j = some (pV id (d.length * 4 + j) g) := fun _ => rfl
    have hw : IntKind.i64.wrap ((d.length : Int) + 1) = (((d ++ [markRu k]).length : Nat) : Int) := natCast_succ_wrap (by omega) (by simp)
    have w1 : IntKind.i64.wrap ((k : Int) + 1) = ((k + 1 : Nat) : Int) := natCast_succ_wrap (by omega) rfl
    have w2 : IntKind.i64.wrap (((k + 1 : Nat) : Int) + 1) = ((k + 2 : Nat) : Int) := natCast_succ_wrap (by omega) rfl
    have w3 : IntKind.i64.wrap (((k + 2 : Nat) : Int) + 1) = ((k + 3 : Nat) : Int) := natCast_succ_wrap (by omega) rfl
    have w4 : IntKind.i64.wrap (((k + 3 : Nat) : Int) + 1) = ((k + 4 : Nat) : Int) := natCast_succ_wrap (by omega) rfl
    obtain ⟨xq, xr, xu, xk⟩ := x
    have hlen : ∀ (y : Ru) (j : Nat), j < 4 → d.length * 4 + j < (Ru.R (d ++ y :: (r ++ ma))).length := fun y j hj => by rw [Ru.R_len]; simp; omega
    have s0 := st1_of (v := .bool ((k : Int).tmod 3 == 0)) hl e (hlen _ 0 (by omega)) rfl
    rw [List.cons_append, Ru.set d ⟨xq, xr, xu, xk⟩ ⟨(k : Int).tmod 3 == 0, xr, xu, xk⟩ (r ++ ma) 0 _ (by omega) rfl] at s0
    have e0 := get_set (.row g 4 (Ru.R (d ++ ⟨(k : Int).tmod 3 == 0, xr, xu, xk⟩ :: (r ++ ma)))) e
    generalize hA : h.set id (.row g 4 (Ru.R (d ++ ⟨(k : Int).tmod 3 == 0, xr, xu, xk⟩ :: (r ++ ma)))) = A at *
    have kA : KX n0 id h A := by rw [← hA]; exact KX.set _ _ _ _
    obtain ⟨B1, a1, k1⟩ := r33 (k + 1) (by omega) (by omega) l A
    have e1 := k1.get e0 (lt_of_get e0)
    have s1 := st1_of (v := sV (markT (k + 1))) hl e1 (hlen _ 1 (by omega)) rfl
    rw [Ru.set d ⟨(k : Int).tmod 3 == 0, xr, xu, xk⟩ ⟨(k : Int).tmod 3 == 0, markT (k + 1), xu, xk⟩ (r ++ ma) 1 _ (by omega) rfl] at s1
    have e1' := get_set (.row g 4 (Ru.R (d ++ ⟨(k : Int).tmod 3 == 0, markT (k + 1), xu, xk⟩ :: (r ++ ma)))) e1
    have hAid := lt_of_get e0
    have kB : KX n0 id h (B1.set id (.row g 4 (Ru.R (d ++ ⟨(k : Int).tmod 3 == 0, markT (k + 1), xu, xk⟩ :: (r ++ ma))))) := (kA.trans (k1.kx (Nat.le_trans h0 kA.1))).trans (KX.set _ _ _ _)
    generalize hB : B1.set id (.row g 4 (Ru.R (d ++ ⟨(k : Int).tmod 3 == 0, markT (k + 1), xu, xk⟩ :: (r ++ ma)))) = B at *
    obtain ⟨C1, a2, k2⟩ := r33 (k + 2) (by omega) (by omega) l B
    have e2 := k2.get e1' (lt_of_get e1')
    have s2 := st1_of (v := sV (markT (k + 2))) hl e2 (hlen _ 2 (by omega)) rfl
    rw [Ru.set d ⟨(k : Int).tmod 3 == 0, markT (k + 1), xu, xk⟩ ⟨(k : Int).tmod 3 == 0, markT (k + 1), markT (k + 2), xk⟩ (r ++ ma) 2 _ (by omega) rfl] at s2
    have e2' := get_set (.row g 4 (Ru.R (d ++ ⟨(k : Int).tmod 3 == 0, markT (k + 1), markT (k + 2), xk⟩ :: (r ++ ma)))) e2
    have hBid := lt_of_get e1'
    have kC : KX n0 id h (C1.set id (.row g 4 (Ru.R (d ++ ⟨(k : Int).tmod 3 == 0, markT (k + 1), markT (k + 2), xk⟩ :: (r ++ ma))))) := (kB.trans (k2.kx (Nat.le_trans h0 kB.1))).trans (KX.set _ _ _ _)
    generalize hC : C1.set id (.row g 4 (Ru.R (d ++ ⟨(k : Int).tmod 3 == 0, markT (k + 1), markT (k + 2), xk⟩ :: (r ++ ma)))) = C at *
    have s3 := st1_of (v := iV ((k + 3 : Nat) : Int)) hl e2' (hlen _ 3 (by omega)) rfl
    rw [Ru.set d ⟨(k : Int).tmod 3 == 0, markT (k + 1), markT (k + 2), xk⟩ (markRu k) (r ++ ma) 3 (iV ((k + 3 : Nat) : Int)) (by omega) rfl] at s3
    have e3 := get_set (.row g 4 (Ru.R (d ++ markRu k :: (r ++ ma)))) e2'
    have kD : KX n0 id h (C.set id (.row g 4 (Ru.R (d ++ markRu k :: (r ++ ma))))) := kC.trans (KX.set _ _ _ _)
    obtain ⟨h', i1, i2, i3⟩ := ih (d ++ [markRu k]) (k + 4) _ (Nat.le_trans h0 kD.1) (by simp; omega) (by omega) (by omega) (by rw [e3]; simp)
    refine ⟨h', run_code Tryd.func13 rfl rfl ?_, by simpa only [marksR, List.length_cons, List.append_assoc, List.singleton_append, List.cons_append, List.nil_append] using i2, kD.trans i3⟩
    have hx0 : d.length * 4 + 0 = d.length * 4 := rfl
    simp only [hx0] at s0
    have ha0 : addOff (pV id (d.length * 4) g) 0 = some (pV id (d.length * 4) g) := rfl
    simp only [↓XX, ↓XD, ↓YX, ZB, Nat.reduceAdd, Nat.reducePow, ↓reduceIte, eq_self, Int.reduceEq, Nat.reduceEqDiff, Nat.reduceMul, Nat.reduceLeDiff, Tryd.f13, lenV, hlt, hix, ha0, ha, s0, w1, a1, s1, w2, a2, s2, w3, s3, w4, hw]
    rw [i1]
    congr 3; omega
/-- a slice of rules, with cells behind it -/
def Ru.Rt (h : AH) (l : Nat) (v : Value) (xs : List Ru) : Prop :=
  (v = .slice none 0 0 ∧ xs = []) ∨ ∃ id g c ma, v = slV id g xs.length c ∧ h[id]? = some (.row g 4 (Ru.R (xs ++ ma))) ∧ l ≤ id
theorem Ru.Rt.kx {h h' : AH} {l ix : Nat} {v : Value} {xs : List Ru} (q : Ru.Rt h l v xs) (k : KX h.length ix h h') (hi : ix < l) : Ru.Rt h' l v xs := by
  rcases q with q | ⟨id, g, c, ma, rfl, e, hl⟩
  · exact .inl q
  · exact .inr ⟨id, g, c, ma, rfl, k.get e (lt_of_get e) (by omega), hl⟩
theorem r13s (id g c l k : Nat) (xs ma : List Ru) (h : AH) (e : h[id]? = some (.row g 4 (Ru.R (xs ++ ma)))) (hl : l ≤ id) (hn : xs.length ≤ 2 ^ 30) (h1 : 0 < k) (hb : k ≤ 2 ^ 30) :
    ∃ h', run V0 (.fn 13) l [S (slV id g xs.length c), S (iV k)] h = some (.ret (iV (k + 4 * xs.length : Nat)) h') ∧ h'[id]? = some (.row g 4 (Ru.R (marksR k xs.length ++ ma))) ∧ KX h.length id h h' := by
  obtain ⟨h', i1, i2, i3⟩ := L13 id g c xs.length l ma hl h.length hn xs [] k h (Nat.le_refl _) (by simp) h1 (by omega) e
  refine ⟨h', run_fn Tryd.func13 rfl rfl rfl rfl ?_, i2, i3⟩
  simp only [↓XX, ↓XD, ↓YX, ZB, Nat.reduceAdd, Nat.reducePow, ↓reduceIte, eq_self, Int.reduceEq, Nat.reduceEqDiff, Nat.reduceMul, Nat.reduceLeDiff, Tryd.f13]
  exact i1
theorem r13 (v : Value) (l lo k : Nat) (xs : List Ru) (h : AH) (q : Ru.Rt h lo v xs) (hl : l ≤ lo) (hn : xs.length ≤ 2 ^ 30) (h1 : 0 < k) (hb : k ≤ 2 ^ 30) :
    ∃ h', run V0 (.fn 13) l [S v, S (iV k)] h = some (.ret (iV (k + 4 * xs.length : Nat)) h') ∧ Ru.Rt h' lo v (marksR k xs.length) ∧ ∃ ix, lo ≤ ix ∧ KX h.length ix h h' := by
  rcases q with ⟨rfl, rfl⟩ | ⟨id, g, c, ma, rfl, e, hl2⟩
  · refine ⟨h, run_fn Tryd.func13 rfl rfl rfl rfl ?_, .inl ⟨rfl, rfl⟩, lo, Nat.le_refl _, KX.refl _ _ _⟩
    have e0 : L13_0 l (.slice none 0 0) (iV k) (iV 0) h = some (.ret (iV k) h) := by
      refine run_code Tryd.func13 rfl rfl ?_
      have hlt : decide ((0 : Int) < 0) = false := rfl
      simp only [↓XX, ↓XD, ↓YX, ZB, Nat.reduceAdd, Nat.reducePow, ↓reduceIte, eq_self, Int.reduceEq, Nat.reduceEqDiff, Nat.reduceMul, Nat.reduceLeDiff, Tryd.f13, lenV, Int.natCast_zero, hlt]
    simp only [↓XX, ↓XD, ↓YX, ZB, Nat.reduceAdd, Nat.reducePow, ↓reduceIte, eq_self, Int.reduceEq, Nat.reduceEqDiff, Nat.reduceMul, Nat.reduceLeDiff, Tryd.f13]
    exact e0
  · obtain ⟨h', i1, i2, i3⟩ := r13s id g c l k xs ma h e (by omega) hn h1 hb
    exact ⟨h', i1, .inr ⟨id, g, c, ma, by rw [marksR_len], i2, hl2⟩, id, hl2, i3⟩
end Go.Abs
namespace Go.Abs
open Go.Proofs
set_option maxRecDepth 100000
set_option linter.unusedSimpArgs false
set_option pp.maxSteps 20000

theorem cell_of_take {L c : List Value} {a k i : Nat} (h : (L.drop a).take k = c) (hi : i < k) : L[a + i]? = c[i]? := by
  rw [← h, List.getElem?_take, if_pos hi, List.getElem?_drop]
/-- heldRuleS: its loop -/
theorem L14 (id g c n l : Nat) (ma : List Ru) (hn : n ≤ 2 ^ 30) : ∀ (m : Nat) (d : List Ru) (k : Nat) (h : AH), d.length + m = n → 0 < k → k + 4 * m ≤ 2 ^ 39 → h[id]? = some (.row g 4 (Ru.R (d ++ (marksR k m ++ ma)))) →
    ∃ h', L14_0 l (slV id g n c) (iV k) (iV d.length) h = some (.ret (iV (k + 4 * m : Nat)) h') ∧ Keep h.length h h' := by
  intro m
  induction m with
  | zero =>
    intro d k h hk h1 hb e
    refine ⟨h, run_code Tryd.func14 rfl rfl ?_, Keep.refl _ _⟩
    have hlt : decide ((d.length : Int) < (n : Int)) = false := by rw [decide_eq_false_iff_not]; omega
    simp only [↓XX, ↓XD, ↓YX, ZB, Nat.reduceAdd, Nat.reducePow, ↓reduceIte, eq_self, Int.reduceEq, Nat.reduceEqDiff, Nat.reduceMul, Nat.reduceLeDiff, Tryd.f14, lenV, hlt, Nat.mul_zero, Nat.add_zero]
  | succ m ih =>
    intro d k h hk h1 hb e
    have hlt : decide ((d.length : Int) < (n : Int)) = true := by rw [decide_eq_true_iff]; omega
    have hix : ixAddr (slV id g n c) (d.length : Int) 4 = some (pV id (d.length * 4) g) := by rw [ixAddr_sl (by omega)]; simp
    have ha : ∀ j, addOff (pV id (d.length * 4) g) j = some (pV id (d.length * 4 + j) g) := fun _ => rfl
    have ha0 : addOff (pV id (d.length * 4) g) 0 = some (pV id (d.length * 4) g) := rfl
    have hw : IntKind.i64.wrap ((d.length : Int) + 1) = (((d ++ [markRu k]).length : Nat) : Int) := natCast_succ_wrap (by omega) (by simp)
    have w1 : IntKind.i64.wrap ((k : Int) + 1) = ((k + 1 : Nat) : Int) := natCast_succ_wrap (by omega) rfl
    have w2 : IntKind.i64.wrap (((k + 1 : Nat) : Int) + 1) = ((k + 2 : Nat) : Int) := natCast_succ_wrap (by omega) rfl
    have w3 : IntKind.i64.wrap (((k + 2 : Nat) : Int) + 1) = ((k + 3 : Nat) : Int) := natCast_succ_wrap (by omega) rfl
    have w4 : IntKind.i64.wrap (((k + 3 : Nat) : Int) + 1) = ((k + 4 : Nat) : Int) := natCast_succ_wrap (by omega) rfl
    have cell : ∀ j, j < 4 → (Ru.R (d ++ (markRu k :: marksR (k + 4) m ++ ma)))[d.length * 4 + j]? = (markRu k).C[j]? := fun j hj => cell_of_take (Ru.get d (markRu k) _) hj
    obtain ⟨A1, a1, k1⟩ := r33 (k + 1) (by omega) (by omega) h.length h
    have e1 := k1.get e (lt_of_get e)
    obtain ⟨A2, a2, k2⟩ := r33 (k + 2) (by omega) (by omega) A1.length A1
    have e2 := k2.get e1 (lt_of_get e1)
    have ld0 : ld h (pV id (d.length * 4) g) = some (.bool ((k : Int).tmod 3 == 0)) := ld_of e (cell 0 (by omega))
    have ld1 : ld h (pV id (d.length * 4 + 1) g) = some (sV (markT (k + 1))) := ld_of e (cell 1 (by omega))
    have ld2 : ld A1 (pV id (d.length * 4 + 2) g) = some (sV (markT (k + 2))) := ld_of e1 (cell 2 (by omega))
    have ld3 : ld A2 (pV id (d.length * 4 + 3) g) = some (iV ((k + 3 : Nat) : Int)) := ld_of e2 (cell 3 (by omega))
    have hb0 : (!(((k : Int).tmod 3 == 0) == ((k : Int).tmod 3 == 0))) = false := by simp
    have hb3 : ((((k + 3 : Nat) : Int)) != (((k + 3 : Nat) : Int))) = false := by simp
    obtain ⟨h', i1, i2⟩ := ih (d ++ [markRu k]) (k + 4) A2 (by simp; omega) (by omega) (by omega) (by rw [e2]; simp [marksR])
    refine ⟨h', run_code Tryd.func14 rfl rfl ?_, k1.trans ((k2.trans (i2.le k2.1)).le k1.1)⟩
    simp (disch := (refine _root_.id ?_; kernel_rfl)) only [↓XX, ↓XD, ↓YX, ZB, Nat.reduceAdd, Nat.reducePow, ↓reduceIte, eq_self, Int.reduceEq, Nat.reduceEqDiff, Nat.reduceMul, Nat.reduceLeDiff, Tryd.f14, lenV, hlt, hix, ha0, ha, ld0, w1, ld1, a1, w2, ld2, a2, w3, ld3, w4, hw, hb0, hb3, decide_true, Bool.not_true]
    rw [i1]
    have hq : k + 4 + 4 * m = k + 4 * (m + 1) := by omega
    rw [hq]
theorem r14 (v : Value) (l lo k m : Nat) (h : AH) (q : Ru.Rt h lo v (marksR k m)) (hn : m ≤ 2 ^ 30) (h1 : 0 < k) (hb : k ≤ 2 ^ 30) :
    ∃ h', run V0 (.fn 14) l [S v, S (iV k)] h = some (.ret (iV (k + 4 * m : Nat)) h') ∧ Keep h.length h h' := by
  rcases q with ⟨rfl, q⟩ | ⟨id, g, c, ma, rfl, e, hl⟩
  · have hm : m = 0 := by have := marksR_len m k; rw [q] at this; simpa using this.symm
    subst hm
    refine ⟨h, run_fn Tryd.func14 rfl rfl rfl rfl ?_, Keep.refl _ _⟩
    have e0 : L14_0 l (.slice none 0 0) (iV k) (iV 0) h = some (.ret (iV k) h) := by
      refine run_code Tryd.func14 rfl rfl ?_
      have hlt : decide ((0 : Int) < 0) = false := rfl
      simp only [↓XX, ↓XD, ↓YX, ZB, Nat.reduceAdd, Nat.reducePow, ↓reduceIte, eq_self, Int.reduceEq, Nat.reduceEqDiff, Nat.reduceMul, Nat.reduceLeDiff, Tryd.f14, lenV, Int.natCast_zero, hlt]
    simp only [↓XX, ↓XD, ↓YX, ZB, Nat.reduceAdd, Nat.reducePow, ↓reduceIte, eq_self, Int.reduceEq, Nat.reduceEqDiff, Nat.reduceMul, Nat.reduceLeDiff, Tryd.f14]
    exact e0
  · rw [marksR_len]
    obtain ⟨h', i1, i2⟩ := L14 id g c m l ma hn m [] k h (by simp) h1 (by omega) e
    refine ⟨h', run_fn Tryd.func14 rfl rfl rfl rfl ?_, i2⟩
    simp only [↓XX, ↓XD, ↓YX, ZB, Nat.reduceAdd, Nat.reducePow, ↓reduceIte, eq_self, Int.reduceEq, Nat.reduceEqDiff, Nat.reduceMul, Nat.reduceLeDiff, Tryd.f14]
    exact i1
theorem Ru.Rt.len {h : AH} {l : Nat} {v : Value} {xs : List Ru} (r : Ru.Rt h l v xs) : lenV v = some (xs.length : Int) := by
  rcases r with ⟨rfl, rfl⟩ | ⟨id, g, c, _, rfl, _⟩ <;> rfl
theorem Ru.Rt.get {h : AH} {l : Nat} {v : Value} {d r : List Ru} {x : Ru} (q : Ru.Rt h l v (d ++ x :: r)) : ∃ p, ixAddr v (d.length : Int) 4 = some p ∧ Abs.ldN h p 4 = some (Ru.C x) := by
  rcases q with ⟨_, q⟩ | ⟨id, g, c, ma, rfl, e, _⟩
  · simp at q
  · refine ⟨pV id (d.length * 4) g, by rw [ixAddr_sl (by simp)]; simp, ?_⟩
    rw [List.append_assoc, List.cons_append] at e
    exact Ru.ldN e
theorem Ru.Rt.keep {h h' : AH} {l : Nat} {v : Value} {xs : List Ru} (q : Ru.Rt h l v xs) (k : Keep h.length h h') : Ru.Rt h' l v xs := by
  rcases q with q | ⟨id, g, c, ma, rfl, e, hl⟩
  · exact .inl q
  · exact .inr ⟨id, g, c, ma, rfl, k.get e (lt_of_get e), hl⟩
/-- eqRuleS: its loop, with cells behind -/
theorem L12t (va vb : Value) (n l : Nat) (hn : n ≤ 2 ^ 40) (la lb : Nat) : ∀ (r r' d d' : List Ru) (h : AH), d.length = d'.length → d.length + r.length = n → r.length = r'.length → Ru.Rt h la va (d ++ r) → Ru.Rt h lb vb (d' ++ r') →
    ∃ h', L12_0 l va vb (iV d.length) h = some (.ret (.bool (decide (r = r'))) h') ∧ Keep h.length h h' := by
  intro r
  induction r with
  | nil =>
    intro r' d d' h hd hk hr ea eb
    obtain rfl : r' = [] := by cases r' with | nil => rfl | cons _ _ => simp at hr
    simp only [List.length_nil, Nat.add_zero] at hk
    have lenA := ea.len
    refine ⟨h, run_code Tryd.func12 rfl rfl ?_, Keep.refl _ _⟩
    have hlt : decide ((d.length : Int) < ((d ++ []).length : Int)) = false := by rw [decide_eq_false_iff_not, List.append_nil]; omega
    simp only [↓XX, ↓XD, ↓YX, ZB, Nat.reduceAdd, Nat.reducePow, ↓reduceIte, eq_self, Int.reduceEq, Nat.reduceEqDiff, Nat.reduceMul, Nat.reduceLeDiff, Tryd.f12, lenA, hlt, decide_true]
  | cons x r ih =>
    intro r' d d' h hd hk hr ea eb
    cases r' with
    | nil => simp at hr
    | cons y r' =>
      simp only [List.length_cons] at hk hr
      have lenA := ea.len
      have hlt : decide ((d.length : Int) < ((d ++ x :: r).length : Int)) = true := by rw [decide_eq_true_iff]; simp; omega
      obtain ⟨pa, hia, hla⟩ := ea.get
      obtain ⟨pb, hib, hlb⟩ := eb.get
      rw [← hd] at hib
      have hw : IntKind.i64.wrap ((d.length : Int) + 1) = (((d ++ [x]).length : Nat) : Int) := natCast_succ_wrap (by omega) (by simp)
      have h62 := r32 x y l h
      have kp : Keep h.length h (h ++ [.row 0 4 x.C] ++ [.row 0 4 y.C]) := (Keep.app _ _ (Nat.le_refl _)).trans (Keep.app _ _ (by simp))
      by_cases hq : x = y
      · rw [decide_eq_true hq] at h62
        obtain ⟨h', i1, i2⟩ := ih r' (d ++ [x]) (d' ++ [y]) (h ++ [.row 0 4 x.C] ++ [.row 0 4 y.C]) (by simp [hd]) (by simp; omega) (by omega) (by simpa using ea.keep kp) (by simpa using eb.keep kp)
        refine ⟨h', run_code Tryd.func12 rfl rfl ?_, kp.trans (i2.le kp.1)⟩
        simp (disch := (refine _root_.id ?_; kernel_rfl)) only [↓XX, ↓XD, ↓YX, ZB, Nat.reduceAdd, Nat.reducePow, ↓reduceIte, eq_self, Int.reduceEq, Nat.reduceEqDiff, Nat.reduceMul, Nat.reduceLeDiff, Tryd.f12, lenA, hlt, hia, hib, hla, hlb, h62, hw, Bool.not_true]
        rw [i1]; simp [hq]
      · rw [decide_eq_false hq] at h62
        refine ⟨_, run_code Tryd.func12 rfl rfl ?_, kp⟩
        simp (disch := (refine _root_.id ?_; kernel_rfl)) only [↓XX, ↓XD, ↓YX, ZB, Nat.reduceAdd, Nat.reducePow, ↓reduceIte, eq_self, Int.reduceEq, Nat.reduceEqDiff, Nat.reduceMul, Nat.reduceLeDiff, Tryd.f12, lenA, hlt, hia, hib, hla, hlb, h62, hw, Bool.not_false]
        simp [hq]
theorem r12t (va vb : Value) (l la lb : Nat) (xs ys : List Ru) (h : AH) (hn : xs.length ≤ 2 ^ 40) (ea : Ru.Rt h la va xs) (eb : Ru.Rt h lb vb ys) :
    ∃ h', run V0 (.fn 12) l [S va, S vb] h = some (.ret (.bool (decide (xs = ys))) h') ∧ Keep h.length h h' := by
  have lenA := ea.len
  have lenB := eb.len
  by_cases hy : xs.length = ys.length
  · obtain ⟨h', i1, i2⟩ := L12t va vb xs.length l hn la lb xs ys [] [] h rfl (by simp) hy ea eb
    refine ⟨h', run_fn Tryd.func12 rfl rfl rfl rfl ?_, i2⟩
    have hb : ((xs.length : Int) != (ys.length : Int)) = false := by simp [hy]
    simp only [↓XX, ↓XD, ↓YX, ZB, Nat.reduceAdd, Nat.reducePow, ↓reduceIte, eq_self, Int.reduceEq, Nat.reduceEqDiff, Nat.reduceMul, Nat.reduceLeDiff, Tryd.f12, lenA, lenB, hb]
    exact i1
  · refine ⟨h, run_fn Tryd.func12 rfl rfl rfl rfl ?_, Keep.refl _ _⟩
    have hb : ((xs.length : Int) != (ys.length : Int)) = true := by simp; omega
    have : xs ≠ ys := fun e => hy (by rw [e])
    simp only [↓XX, ↓XD, ↓YX, ZB, Nat.reduceAdd, Nat.reducePow, ↓reduceIte, eq_self, Int.reduceEq, Nat.reduceEqDiff, Nat.reduceMul, Nat.reduceLeDiff, Tryd.f12, lenA, lenB, hb]
    simp [this]
/-! ### covers -/
def overL (x y : Ru) : Bool := (decide (x.room = []) || decide (x.room = y.room)) && ((decide (x.user = []) || decide (x.user = y.user)) && (x.kind == 0 || x.kind == y.kind))
abbrev ccV (ie : Nat) : Value := .func (.func 45) ⟨[]⟩ ⟨[pV ie 0 0]⟩
end Go.Abs
