/- What PathOk and PathPut compute, in the program and in the reference. For every list of steps; no condition. -/
import Derived.Test.YtdhogmkdmbfijaaFactsA
namespace Go.Abs
open Go.Proofs
set_option maxRecDepth 100000
set_option linter.unusedSimpArgs false
set_option pp.maxSteps 20000

/-! ### values and heaps -/
abbrev Bs := List UInt8
abbrev iV (n : Int) : Value := .int .i64 n
abbrev sV (s : Bs) : Value := .string (B s)
abbrev slV (id g n c : Nat) : Value := .slice (some ⟨id, 0, some g⟩) n c
def Keep (n : Nat) (h h' : AH) : Prop := h.length ≤ h'.length ∧ ∀ j, j < n → h'[j]? = h[j]?
theorem Keep.refl (n : Nat) (h : AH) : Keep n h h := ⟨Nat.le_refl _, fun _ _ => rfl⟩
theorem Keep.trans {n : Nat} {a b c : AH} (x : Keep n a b) (y : Keep n b c) : Keep n a c := ⟨Nat.le_trans x.1 y.1, fun j hj => (y.2 j hj).trans (x.2 j hj)⟩
theorem Keep.le {n m : Nat} {a b : AH} (x : Keep n a b) (hm : m ≤ n) : Keep m a b := ⟨x.1, fun j hj => x.2 j (Nat.lt_of_lt_of_le hj hm)⟩
theorem Keep.app {n : Nat} (h l : AH) (hn : n ≤ h.length) : Keep n h (h ++ l) := ⟨by simp, fun j hj => by rw [List.getElem?_append_left (by omega)]⟩
theorem Keep.set {n : Nat} (h : AH) (i : Nat) (o : AObj) (hn : n ≤ i) : Keep n h (h.set i o) := ⟨by simp, fun j hj => by rw [List.getElem?_set_ne (by omega)]⟩
theorem Keep.get {n : Nat} {h h' : AH} (x : Keep n h h') {j : Nat} {o : AObj} (e : h[j]? = some o) (hj : j < n) : h'[j]? = some o := by rw [x.2 j hj, e]
theorem lt_of_get {h : AH} {j : Nat} {o : AObj} (e : h[j]? = some o) : j < h.length := by
  rcases Nat.lt_or_ge j h.length with q | q
  · exact q
  · rw [List.getElem?_eq_none q] at e; cases e

theorem rowAt_of {h : AH} {id g sz : Nat} {cs : List Value} (e : h[id]? = some (.row g sz cs)) : rowAt h id g = some (sz, cs) := by simp [rowAt, e]

/-! ### bytes -/
theorem strAt_B (s : Bs) (i : Nat) : strAt (B s) i = (s[i]?).map fun b => (b.toNat : Int) := by
  simp only [strAt, B]
  rw [if_pos (by omega)]
  congr 1
  simp only [Int.toNat_natCast]
  by_cases hi : i < s.length
  · rw [List.getElem?_eq_getElem hi, getElem?_pos _ _ (by exact hi)]; rfl
  · rw [List.getElem?_eq_none (by omega), getElem?_neg _ _ (by exact hi)]
theorem size_B (s : Bs) : (B s).size = s.length := rfl
theorem B_inj {a b : Bs} : B a = B b ↔ a = b := ⟨fun h => by cases h; rfl, fun h => by rw [h]⟩
theorem ba_ext {a b : ByteArray} (h : a.data = b.data) : a = b := by cases a; cases b; cases h; rfl
theorem strCut_B (s : Bs) (a b : Nat) (hab : a ≤ b) (hb : b ≤ s.length) : strCut (B s) a b = some (B ((s.take b).drop a)) := by
  have hq : (0 : Int) ≤ (a : Int) ∧ (a : Int) ≤ (b : Int) ∧ (b : Int) ≤ ((B s).size : Int) := by rw [size_B]; omega
  unfold strCut
  rw [if_pos hq]
  refine congrArg some (ba_ext ?_)
  rw [ByteArray.data_extract, Int.toNat_natCast, Int.toNat_natCast]
  show (⟨s⟩ : Array UInt8).extract a b = ⟨(s.take b).drop a⟩
  apply Array.ext'
  simp [List.extract_eq_take_drop, List.drop_take]
theorem catA_B (a b : Bs) (h : a.length + b.length ≤ 2 ^ 62) : catA (B a) (B b) = some (B (a ++ b)) := by
  have hq : (B a).size + (B b).size ≤ 9223372036854775807 := by rw [size_B, size_B]; omega
  unfold catA
  rw [if_pos hq]
  refine congrArg some (ba_ext ?_)
  rw [ByteArray.data_append]
  show (⟨a⟩ : Array UInt8) ++ ⟨b⟩ = ⟨a ++ b⟩
  simp

/-! ### memory -/
abbrev pV (id off g : Nat) : Value := .pointer (some ⟨id, off, some g⟩)
theorem ixAddr_sl {id off g n c i sz : Nat} (hi : i < n) : ixAddr (.slice (some ⟨id, off, some g⟩) n c) (i : Int) sz = some (pV id (off + i * sz) g) := by
  simp only [ixAddr]
  rw [if_pos (by omega)]
  simp
theorem ld_of {h : AH} {id off g sz : Nat} {cs : List Value} {v : Value} (e : h[id]? = some (.row g sz cs)) (hv : cs[off]? = some v) : ld h (pV id off g) = some v := by
  simp only [ld, rowAt_of e, Option.bind_some, hv]
theorem ldN_of {h : AH} {id off g sz n : Nat} {cs : List Value} (e : h[id]? = some (.row g sz cs)) (hv : off + n ≤ cs.length) : ldN h (pV id off g) n = some ((cs.drop off).take n) := by
  simp only [ldN, rowAt_of e, Option.bind_some, cut, if_pos hv]
theorem stN_of {lim : Nat} {h : AH} {id off g sz : Nat} {cs vs : List Value} (hl : lim ≤ id) (e : h[id]? = some (.row g sz cs)) (ho : off + vs.length ≤ cs.length) (hv : vs.all oneCell = true) :
    stN lim h (pV id off g) vs = some (h.set id (.row g sz (setMany cs off vs))) := by
  simp only [stN, rowAt_of e, Option.bind_some, if_pos (And.intro hl (And.intro ho hv))]
theorem st1_of {lim : Nat} {h : AH} {id off g sz : Nat} {cs : List Value} {v : Value} (hl : lim ≤ id) (e : h[id]? = some (.row g sz cs)) (ho : off < cs.length) (hv : oneCell v = true) :
    stN lim h (pV id off g) [v] = some (h.set id (.row g sz (cs.set off v))) :=
  stN_of hl e (by simp only [List.length_cons, List.length_nil]; omega) (by simp [hv])
/-- append of what was just made, where all of the row is taken -/
theorem app_new {lim : Nat} {h : AH} {id g sz tg sz2 n k by' : Nat} {cs ds : List Value} (hl : lim ≤ id) (e : h[id]? = some (.row g tg cs)) (hn : n * sz = cs.length) (hk : k * sz = ds.length) (h0 : 0 < k) (hb : (n + k) * by' ≤ 2 ^ 47) :
    app lim (h ++ [AObj.row 0 sz2 ds]) (slV id g n n) (newS h k k) sz tg by' = some (slV id (g + 1) (n + k) (n + k), (h ++ [AObj.row 0 sz2 ds]).set id (AObj.row (g + 1) tg (cs ++ ds))) := by
  have hid := lt_of_get e
  have e' : (h ++ [AObj.row 0 sz2 ds])[id]? = some (.row g tg cs) := by rw [List.getElem?_append_left hid, e]
  have en : (h ++ [AObj.row 0 sz2 ds])[h.length]? = some (.row 0 sz2 ds) := by simp
  simp only [app, lenOf, newS, Option.bind_some]
  rw [if_neg (by omega)]
  have hs : srcCells (h ++ [AObj.row 0 sz2 ds]) (.slice (some ⟨h.length, 0, some 0⟩) k k) k sz = some ds := by
    simp only [srcCells, rowAt_of en, Option.bind_some, cut]
    rw [if_pos (by omega)]
    simp [hk]
  rw [hs, rowAt_of e']
  simp only [Option.bind_some]
  rw [if_neg (by omega), if_pos ⟨hl, True.intro, True.intro, hn, hb⟩]
/-- append of a text to bytes -/
theorem app_str {lim : Nat} {h : AH} {id g tg n : Nat} {cs : List Value} {t : Bs} (hl : lim ≤ id) (e : h[id]? = some (.row g tg cs)) (hn : n = cs.length) (h0 : 0 < t.length) (hb : n + t.length ≤ 2 ^ 47) :
    app lim h (slV id g n n) (sV t) 1 tg 1 = some (slV id (g + 1) (n + t.length) (n + t.length), h.set id (.row (g + 1) tg (cs ++ t.map fun b => .int .u8 b.toNat))) := by
  have hs : srcCells h (sV t) t.length 1 = some (t.map fun b => .int .u8 b.toNat) := by
    simp only [srcCells, if_true]
    congr 2
    show t.take t.length = t
    simp
  show (lenOf (sV t)).bind _ = _
  have h1 : lenOf (sV t) = some t.length := rfl
  rw [h1]
  simp only [Option.bind_some]
  rw [if_neg (by omega), hs, rowAt_of e]
  simp only [Option.bind_some]
  rw [if_neg (by omega), if_pos ⟨hl, True.intro, True.intro, by omega, by omega⟩]
theorem app_nil {lim : Nat} {h : AH} {tg : Nat} {t : Bs} (h0 : 0 < t.length) (hb : t.length ≤ 2 ^ 47) :
    app lim h (.slice none 0 0) (sV t) 1 tg 1 = some (newS h t.length t.length, h ++ [.row 0 tg (t.map fun b => .int .u8 b.toNat)]) := by
  have hs : srcCells h (sV t) t.length 1 = some (t.map fun b => .int .u8 b.toNat) := by
    simp only [srcCells, if_true]
    congr 2
    show t.take t.length = t
    simp
  show (lenOf (sV t)).bind _ = _
  have h1 : lenOf (sV t) = some t.length := rfl
  rw [h1]
  simp only [Option.bind_some]
  rw [if_neg (by omega), hs]
  simp only [Option.bind_some]
  rw [if_pos (by omega)]
theorem app_none {lim : Nat} {h : AH} {s : Value} {sz tg by' : Nat} (hs : s = .slice none 0 0 ∨ ∃ id off g n c, s = .slice (some ⟨id, off, some g⟩) n c) : app lim h s (sV []) sz tg by' = some (s, h) := by
  rcases hs with rfl | ⟨id, off, g, n, c, rfl⟩ <;> rfl
theorem wrap64 {n : Int} (h : -9223372036854775808 ≤ n ∧ n ≤ 9223372036854775807) : IntKind.i64.wrap n = n := by
  show (let m := n % (2 ^ 64 : Int); if true && m ≥ (2 ^ (64 - 1) : Int) then m - (2 ^ 64 : Int) else m) = n
  simp only [Bool.true_and, ge_iff_le, decide_eq_true_eq]
  show (if (9223372036854775808 : Int) ≤ n % 18446744073709551616 then n % 18446744073709551616 - 18446744073709551616 else n % 18446744073709551616) = n
  omega
theorem wrap8 {n : Int} (h : 0 ≤ n ∧ n ≤ 255) : IntKind.u8.wrap n = n := by
  show (let m := n % (2 ^ 8 : Int); if false && m ≥ (2 ^ (8 - 1) : Int) then m - (2 ^ 8 : Int) else m) = n
  simp only [Bool.false_and]
  show n % 256 = n
  omega
def u8c (s : Bs) : List Value := s.map fun b => .int .u8 b.toNat
theorem u8c_len (s : Bs) : (u8c s).length = s.length := by simp [u8c]
theorem bytesOf_u8c (s : Bs) : bytesOf (u8c s) = some s := by
  induction s with
  | nil => rfl
  | cons a s ih =>
    simp only [u8c, List.map_cons, bytesOf] at ih ⊢
    rw [ih]
    simp
theorem b2s_of {h : AH} {id g n c sz : Nat} {s : Bs} (e : h[id]? = some (.row g sz (u8c s))) (hn : n = s.length) : b2s h (slV id g n c) = some (B s) := by
  subst hn
  simp only [b2s, rowAt_of e, Option.bind_some, cut]
  rw [if_pos (by rw [u8c_len]; omega)]
  simp only [Option.bind_some, List.drop_zero]
  rw [List.take_of_length_le (by rw [u8c_len]; omega), bytesOf_u8c]
  rfl
theorem bytesR_u8c (s : Bs) : bytesR (u8c s) = some s := by
  induction s with
  | nil => rfl
  | cons a s ih =>
    simp only [u8c, List.map_cons, bytesR] at ih ⊢
    have := a.toNat_lt
    rw [if_pos (by omega), ih]
    simp
theorem strRow_of {lim : Nat} {h : AH} {id g e n : Nat} {s : Bs} (hl : lim ≤ id) (he : h[id]? = some (.row g (4294967296 * (e + 1) + 1) (u8c s))) (hn : n = s.length) (h0 : 0 < n) (h63 : n ≤ 9223372036854775807) :
    strRow lim h (pV id 0 g) (n : Int) e = some (B s, h.set id (.row (g + 1) 0 [])) := by
  have hne : ¬ ((n : Int) = 0) := by omega
  simp only [strRow, if_neg hne, rowAt_of he, Option.bind_some]
  rw [if_pos ⟨hl, by omega, by omega, True.intro, True.intro⟩]
  have hc : cut (u8c s) 0 ((n : Int).toNat) = some (u8c s) := by
    unfold cut
    rw [if_pos (by rw [u8c_len]; omega)]
    simp only [List.drop_zero]
    rw [List.take_of_length_le (by rw [u8c_len]; omega)]
  rw [hc]
  simp only [Option.bind_some, bytesR_u8c, Option.map_some]
  rfl
theorem mid_get {α : Type} (a : List α) (x : α) (c : List α) : (a ++ x :: c)[a.length]? = some x := by simp
theorem mid_set {α : Type} (a : List α) (x y : α) (c : List α) : (a ++ x :: c).set a.length y = a ++ y :: c := by simp
theorem set_same {α : Type} {h : List α} {i : Nat} {o : α} (e : h[i]? = some o) : h.set i o = h := by
  apply List.ext_getElem?
  intro j
  rw [List.getElem?_set]
  split
  · rename_i q; subst q
    split
    · exact e.symm
    · rename_i q; rw [List.getElem?_eq_none (by omega)] at e; cases e
  · rfl
theorem get_set {h : AH} {i : Nat} {o : AObj} (o' : AObj) (e : h[i]? = some o) : (h.set i o')[i]? = some o' := by
  have : i < h.length := by
    rcases Nat.lt_or_ge i h.length with q | q
    · exact q
    · rw [List.getElem?_eq_none q] at e; cases e
  simp [this]
theorem u8c_app (a b : Bs) : u8c (a ++ b) = u8c a ++ u8c b := by simp [u8c]
theorem u8c_get (d : Bs) (b : UInt8) (r : Bs) : (u8c (d ++ b :: r))[d.length]? = some (.int .u8 b.toNat) := by simp [u8c]
theorem u8c_set (d : Bs) (b c : UInt8) (r : Bs) : (u8c (d ++ b :: r)).set d.length (.int .u8 c.toNat) = u8c (d ++ c :: r) := by
  simp [u8c]
end Go.Abs
namespace Go.Abs
open Go.Proofs
set_option maxRecDepth 100000
set_option linter.unusedSimpArgs false
set_option pp.maxSteps 20000

/-! ### new objects -/
theorem XH1 : (∀ (h : AH) o, (h ++ [o])[h.length]? = some o) ∧ (∀ (h : AH) o1 o2, (h ++ [o1] ++ [o2])[h.length]? = some o1) ∧ (∀ (h : AH) o1 o2 o3, (h ++ [o1] ++ [o2] ++ [o3])[h.length]? = some o1) ∧ (∀ (h : AH) o1 o2 o3 o4, (h ++ [o1] ++ [o2] ++ [o3] ++ [o4])[h.length]? = some o1) ∧
  (∀ (h : AH) o o', (h ++ [o]).set h.length o' = h ++ [o']) ∧ (∀ (h : AH) o1 o2 o', (h ++ [o1] ++ [o2]).set h.length o' = h ++ [o'] ++ [o2]) ∧ (∀ (h : AH) o1 o2 o3 o', (h ++ [o1] ++ [o2] ++ [o3]).set h.length o' = h ++ [o'] ++ [o2] ++ [o3]) ∧ (∀ (h : AH) o1 o2 o3 o4 o', (h ++ [o1] ++ [o2] ++ [o3] ++ [o4]).set h.length o' = h ++ [o'] ++ [o2] ++ [o3] ++ [o4]) := by
  refine ⟨fun h o => by simp, fun h o1 o2 => by simp, fun h o1 o2 o3 => by simp, fun h o1 o2 o3 o4 => by simp, fun h o o' => by simp, fun h o1 o2 o' => by simp, fun h o1 o2 o3 o' => by simp, fun h o1 o2 o3 o4 o' => by simp⟩
theorem XH2 : (∀ h id off g, ld h (pV id off g) = match h[id]? with | some (.row g' _ cs) => (match decide (g = g') with | true => cs[off]? | false => none) | _ => none) ∧
  (∀ h id off g n, ldN h (pV id off g) n = match h[id]? with | some (.row g' _ cs) => (match decide (g = g') with | true => cut cs off n | false => none) | _ => none) ∧
  (∀ lim h id off g vs, stN lim h (pV id off g) vs = match h[id]? with | some (.row g' sz cs) => (match decide (g = g') with | true => if lim ≤ id ∧ off + vs.length ≤ cs.length ∧ vs.all oneCell = true then some (h.set id (.row g sz (setMany cs off vs))) else none | false => none) | _ => none) ∧
  (∀ id off g n, addOff (pV id off g) n = some (pV id (off + n) g)) ∧ (∀ id off g, nonNil (pV id off g) = some (pV id off g)) ∧ (∀ h, newP h = pV h.length 0 0) ∧
  (∀ (s : ByteArray), oneCell (.string s) = true) ∧ (∀ k n, oneCell (.int k n) = true) ∧ (∀ b, oneCell (.bool b) = true) ∧ (∀ a n c, oneCell (.slice a n c) = true) ∧ (∀ a, oneCell (.pointer a) = true) ∧
  (∀ (l : List Value), aggOf (.agg ⟨l⟩) = some l) ∧
  (∀ cs off n, cut cs off n = match decide (off + n ≤ cs.length) with | true => some ((cs.drop off).take n) | false => none) := by
  refine ⟨fun h id off g => ?_, fun h id off g n => ?_, fun lim h id off g vs => ?_, fun _ _ _ _ => rfl, fun _ _ _ => rfl, fun _ => rfl, fun _ => rfl, fun _ _ => rfl, fun _ => rfl, fun _ _ _ => rfl, fun _ => rfl, fun _ => rfl, fun cs off n => ?_⟩
  · simp only [ld, rowAt]
    rcases h[id]? with _ | o
    · rfl
    · cases o <;> try rfl
      rename_i g' sz cs
      by_cases hq : g = g' <;> simp [hq]
  · simp only [ldN, rowAt]
    rcases h[id]? with _ | o
    · rfl
    · cases o <;> try rfl
      rename_i g' sz cs
      by_cases hq : g = g' <;> simp [hq]
  · simp only [stN, rowAt]
    rcases h[id]? with _ | o
    · rfl
    · cases o <;> try rfl
      rename_i g' sz cs
      by_cases hq : g = g' <;> simp [hq]
  · simp only [cut]
    by_cases hq : off + n ≤ cs.length <;> simp [hq]

def inI (n a b : Int) : Bool := decide (a ≤ n) && decide (n ≤ b)
theorem natCast_succ_wrap {n m : Nat} (h : n ≤ 2 ^ 62) (hm : n + 1 = m) : IntKind.i64.wrap ((n : Int) + 1) = (m : Int) := by rw [wrap64 (by omega)]; omega
theorem neB (a b : Bs) : (!decide (B a = B b)) = !decide (a = b) := by rw [show decide (B a = B b) = decide (a = b) by rw [decide_eq_decide, B_inj]]
theorem eqB (a b : Bs) : decide (B a = B b) = decide (a = b) := by rw [decide_eq_decide, B_inj]
theorem strAt_mid (d : Bs) (b : UInt8) (r : Bs) : strAt (B (d ++ b :: r)) (d.length : Int) = some (b.toNat : Int) := by
  rw [strAt_B]; simp
abbrev fnV (f : Nat) : Value := .func (.func f) #[] #[]
theorem boolNe (b : Bool) : (!(b == b)) = false := by cases b <;> rfl
theorem setMany_mid (a z b : List Value) (x : List Value) (h : x.length = z.length) : setMany (a ++ (z ++ b)) a.length x = a ++ (x ++ b) := by
  induction x generalizing a z with
  | nil =>
    cases z with
    | nil => rfl
    | cons _ _ => simp at h
  | cons v x ih =>
    cases z with
    | nil => simp at h
    | cons w z =>
      simp only [setMany, List.cons_append]
      rw [mid_set]
      have := ih (a ++ [v]) z (by simpa using h)
      simp only [List.append_assoc, List.singleton_append, List.length_append, List.length_cons, List.length_nil, Nat.zero_add, List.cons_append] at this
      exact this
theorem set_in (A c D : List Value) (j : Nat) (v : Value) (hj : j < c.length) : (A ++ (c ++ D)).set (A.length + j) v = A ++ (c.set j v ++ D) := by
  rw [List.set_append_right _ _ (by omega), show A.length + j - A.length = j by omega, List.set_append_left _ _ hj]
def KX (n id : Nat) (h h' : AH) : Prop := h.length ≤ h'.length ∧ ∀ j, j < n → j ≠ id → h'[j]? = h[j]?
theorem KX.refl (n id : Nat) (h : AH) : KX n id h h := ⟨Nat.le_refl _, fun _ _ _ => rfl⟩
theorem KX.trans {n id : Nat} {a b c : AH} (x : KX n id a b) (y : KX n id b c) : KX n id a c := ⟨Nat.le_trans x.1 y.1, fun j hj hi => (y.2 j hj hi).trans (x.2 j hj hi)⟩
theorem Keep.kx {n m id : Nat} {a b : AH} (x : Keep n a b) (hm : m ≤ n) : KX m id a b := ⟨x.1, fun j hj _ => x.2 j (by omega)⟩
theorem KX.set (n id : Nat) (h : AH) (o : AObj) : KX n id h (h.set id o) := ⟨by simp, fun j hj hi => by rw [List.getElem?_set_ne (by omega)]⟩
theorem KX.get {n id : Nat} {h h' : AH} (x : KX n id h h') {j : Nat} {o : AObj} (e : h[j]? = some o) (hj : j < n) (hi : j ≠ id) : h'[j]? = some o := by rw [x.2 j hj hi, e]
theorem Keep.ofKX {n id : Nat} {a b : AH} (x : KX n id a b) {m : Nat} (hm : m ≤ n) (hi : m ≤ id) : Keep m a b := ⟨x.1, fun j hj => x.2 j (by omega) (by omega)⟩
def sL (xs : List Bs) : List Value := xs.map sV
theorem sL_len (xs : List Bs) : (sL xs).length = xs.length := by simp [sL]
theorem sL_get (d : List Bs) (x : Bs) (r : List Bs) : (sL (d ++ x :: r))[d.length]? = some (sV x) := by simp [sL]
theorem sL_app (a b : List Bs) : sL (a ++ b) = sL a ++ sL b := by simp [sL]
theorem XRN : (∀ P fr o, bq false P fr o = none) ∧ (∀ P fr o, bq true P fr o = baseOf P fr o) ∧
  (∀ P fr d t x ty pos aft g, baseOf P fr ⟨d, .load t x, ty, pos, aft, g⟩ = match slotO fr x with | some ⟨_, _, v⟩ => baseId v | none => none) ∧
  (∀ P fr d t x a b c ty pos aft g, baseOf P fr ⟨d, .slice t x a b c, ty, pos, aft, g⟩ = match P.underlying t with | some u => (match u with | .slice _ => (match slotO fr x with | some ⟨_, _, v⟩ => baseId v | none => none) | _ => none) | none => none) ∧
  (∀ a, baseId (.pointer (some a)) = some a.block) ∧ (∀ a n c, baseId (.slice (some a) n c) = some a.block) ∧ (∀ n c, baseId (.slice none n c) = none) ∧
  (∀ l, sel l [] = []) ∧ (∀ l i n m b ds, sel l (⟨i, n, m, b⟩ :: ds) = match l.contains i with | true => ⟨i, n, m, b⟩ :: sel l ds | false => sel l ds) ∧
  (∀ b X, freshAt b X [] = X) ∧ (∀ b X i n m o ds, freshAt b X (⟨i, n, m, o⟩ :: ds) = match decide (m ≤ b) with | true => freshAt b X ds | false => none) ∧
  (∀ b X, otherAt b X [] = X) ∧ (∀ b X i n m o ds, otherAt b X (⟨i, n, m, o⟩ :: ds) = match decide (b = n) with | true => none | false => otherAt b X ds) ∧
  (∀ h h' X, sameAt h h' X [] = X) ∧ (∀ h h' X i n m ds, sameAt h h' X (⟨i, n, m, none⟩ :: ds) = sameAt h h' X ds) ∧ (∀ h h' X i n m b ds, h'[b]? = h[b]? → sameAt h h' X (⟨i, n, m, some b⟩ :: ds) = sameAt h h' X ds) ∧
  (∀ (d : Did) l, [] ++ (d :: l) = d :: l) ∧ (∀ (a : Did) l m, (a :: l) ++ m = a :: (l ++ m)) :=
  ⟨fun _ _ _ => rfl, fun _ _ _ => rfl, fun _ _ _ _ _ _ _ _ _ => rfl, fun P _ _ t _ _ _ _ _ _ _ _ => by simp only [baseOf, isL]; cases P.underlying t with | none => rfl | some u => cases u <;> simp [Op.operands, slotO],
    fun _ => rfl, fun _ _ _ => rfl, fun _ _ => rfl, fun _ => rfl, fun l i _ _ _ _ => by unfold sel; rw [List.filter_cons]; cases l.contains i <;> rfl,
    fun _ _ => rfl, fun b _ _ _ m _ _ => by by_cases q : m ≤ b <;> simp [freshAt, q], fun _ _ => rfl, fun b _ _ n _ _ _ => by by_cases q : b = n <;> simp [otherAt, q],
    fun _ _ _ => rfl, fun _ _ _ _ _ _ _ => rfl, fun _ _ _ _ _ _ _ _ q => if_pos q, fun _ _ => rfl, fun _ _ _ => rfl⟩
end Go.Abs
namespace Go.Abs
open Go.Proofs
set_option maxRecDepth 100000
set_option linter.unusedSimpArgs false
set_option pp.maxSteps 20000

/-! ### bytes of names -/
def ltrI (n : Int) : Bool := decide (97 ≤ n) && decide (n ≤ 122) || decide (65 ≤ n) && decide (n ≤ 90) || n == 95
def nameI (n : Int) : Bool := ltrI n || decide (48 ≤ n) && decide (n ≤ 57) || n == 45 || n == 46
theorem r113 (n : Int) (l : Nat) (h : AH) : run V0 (.fn 113) l [S (.int .u8 n)] h = some (.ret (.bool (inI n 48 57)) h) := by
  refine run_fn Try.func113 rfl rfl rfl rfl ?_
  simp only [↓XX, ↓XD, ↓YX, ZB, Nat.reduceAdd, Nat.reducePow, ↓reduceIte, eq_self, Int.reduceEq, Nat.reduceEqDiff, Nat.reduceMul, Nat.reduceLeDiff, Try.f113]
  unfold inI
  cases decide (48 ≤ n) <;> rfl
theorem r58 (n a b : Int) (l : Nat) (h : AH) : run V0 (.fn 58) l [S (iV n), S (iV a), S (iV b)] h = some (.ret (.bool (inI n a b)) h) := by
  refine run_fn Try.func58 rfl rfl rfl rfl ?_
  simp only [↓XX, ↓XD, ↓YX, ZB, Nat.reduceAdd, Nat.reducePow, ↓reduceIte, eq_self, Int.reduceEq, Nat.reduceEqDiff, Nat.reduceMul, Nat.reduceLeDiff, Try.f58]
  unfold inI
  cases decide (a ≤ n) <;> rfl
theorem r89 (n a b : Int) (l : Nat) (h : AH) : run V0 (.fn 89) l [S (iV n), S (iV a), S (iV b)] h = some (.ret (.bool (inI n a b)) h) := by
  refine run_fn Try.func89 rfl rfl rfl rfl ?_
  simp only [↓XX, ↓XD, ↓YX, ZB, Nat.reduceAdd, Nat.reducePow, ↓reduceIte, eq_self, Int.reduceEq, Nat.reduceEqDiff, Nat.reduceMul, Nat.reduceLeDiff, Try.f89]
  unfold inI
  cases decide (a ≤ n) <;> rfl
theorem r117 (n : Int) (l : Nat) (h : AH) : run V0 (.fn 117) l [S (.int .u8 n)] h = some (.ret (.bool (ltrI n)) h) := by
  refine run_fn Try.func117 rfl rfl rfl rfl ?_
  simp only [↓XX, ↓XD, ↓YX, ZB, Nat.reduceAdd, Nat.reducePow, ↓reduceIte, eq_self, Int.reduceEq, Nat.reduceEqDiff, Nat.reduceMul, Nat.reduceLeDiff, Try.f117]
  unfold ltrI
  generalize decide (97 ≤ n) = a1
  generalize decide (n ≤ 122) = a2
  generalize decide (65 ≤ n) = a3
  generalize decide (n ≤ 90) = a4
  cases a1 <;> cases a2 <;> cases a3 <;> cases a4 <;> rfl
theorem r143 (n : Int) (l : Nat) (h : AH) : run V0 (.fn 143) l [S (.int .u8 n)] h = some (.ret (.bool (ltrI n)) h) := by
  refine run_fn Try.func143 rfl rfl rfl rfl ?_
  simp only [↓XX, ↓XD, ↓YX, ZB, Nat.reduceAdd, Nat.reducePow, ↓reduceIte, eq_self, Int.reduceEq, Nat.reduceEqDiff, Nat.reduceMul, Nat.reduceLeDiff, Try.f143]
  unfold ltrI
  generalize decide (97 ≤ n) = a1
  generalize decide (n ≤ 122) = a2
  generalize decide (65 ≤ n) = a3
  generalize decide (n ≤ 90) = a4
  cases a1 <;> cases a2 <;> cases a3 <;> cases a4 <;> rfl
theorem r116 (n : Int) (l : Nat) (h : AH) : run V0 (.fn 116) l [S (.int .u8 n)] h = some (.ret (.bool (nameI n)) h) := by
  refine run_fn Try.func116 rfl rfl rfl rfl ?_
  simp only [↓XX, ↓XD, ↓YX, ZB, Nat.reduceAdd, Nat.reducePow, ↓reduceIte, eq_self, Int.reduceEq, Nat.reduceEqDiff, Nat.reduceMul, Nat.reduceLeDiff, Try.f116, r117]
  unfold nameI
  generalize ltrI n = a0
  generalize decide (48 ≤ n) = a1
  generalize decide (n ≤ 57) = a2
  generalize (n == 45) = a3
  cases a0 <;> cases a1 <;> cases a2 <;> cases a3 <;> rfl
theorem r130 (n : Int) (l : Nat) (h : AH) : run V0 (.fn 130) l [S (.int .u8 n)] h = some (.ret (.bool (nameI n)) h) := by
  refine run_fn Try.func130 rfl rfl rfl rfl ?_
  simp only [↓XX, ↓XD, ↓YX, ZB, Nat.reduceAdd, Nat.reducePow, ↓reduceIte, eq_self, Int.reduceEq, Nat.reduceEqDiff, Nat.reduceMul, Nat.reduceLeDiff, Try.f130, r143, r113, inI]
  unfold nameI
  generalize ltrI n = a0
  generalize decide (48 ≤ n) = a1
  generalize decide (n ≤ 57) = a2
  generalize (n == 45) = a3
  cases a0 <;> cases a1 <;> cases a2 <;> cases a3 <;> rfl
def head1 : Bs → Bool
  | [] => false
  | b :: _ => ltrI b.toNat
def nameOkL (s : Bs) : Bool := s.all (fun b => nameI b.toNat) && (inI s.length 1 12 && head1 s)
/-- NameOk's end: the length, and the first byte -/
theorem strAt_0 (b : UInt8) (s : Bs) : strAt (B (b :: s)) 0 = some (b.toNat : Int) := by
  have := strAt_B (b :: s) 0
  simpa using this
/-- spec.l2Name: its loop -/
theorem L114 (s : Bs) (hs : s.length ≤ 2 ^ 60) (l : Nat) (h : AH) : ∀ (r d : Bs), s = d ++ r →
    L114_0 l (sV s) (iV d.length) h = some (.ret (.bool (r.all (fun b => nameI b.toNat) && (inI s.length 1 12 && head1 s))) h) := by
  intro r
  induction r with
  | nil =>
    intro d hk
    rw [List.append_nil] at hk
    have hlt : decide ((d.length : Int) < ((B s).size : Int)) = false := by rw [decide_eq_false_iff_not, size_B, hk]; omega
    clear hk
    cases s with
    | nil =>
      refine run_code Try.func114 rfl rfl ?_
      have hin : inI ((B ([] : Bs)).size : Int) 1 12 = false := rfl
      simp only [↓XX, ↓XD, ↓YX, ZB, Nat.reduceAdd, Nat.reducePow, ↓reduceIte, eq_self, Int.reduceEq, Nat.reduceEqDiff, Nat.reduceMul, Nat.reduceLeDiff, Try.f114, hlt, r89, hin]
      rfl
    | cons b r =>
      refine run_code Try.func114 rfl rfl ?_
      cases hq : inI ((B (b :: r)).size : Int) 1 12 with
      | true =>
        have hq' : inI ((b :: r).length : Int) 1 12 = true := by rw [← size_B]; exact hq
        simp only [↓XX, ↓XD, ↓YX, ZB, Nat.reduceAdd, Nat.reducePow, ↓reduceIte, eq_self, Int.reduceEq, Nat.reduceEqDiff, Nat.reduceMul, Nat.reduceLeDiff, Try.f114, hlt, r89, hq, strAt_0, r143]
        simp only [List.length_cons] at hq'
        simp only [hq', head1, List.all_nil, Bool.true_and, Bool.false_and, Bool.and_false]
      | false =>
        have hq' : inI ((b :: r).length : Int) 1 12 = false := by rw [← size_B]; exact hq
        simp only [↓XX, ↓XD, ↓YX, ZB, Nat.reduceAdd, Nat.reducePow, ↓reduceIte, eq_self, Int.reduceEq, Nat.reduceEqDiff, Nat.reduceMul, Nat.reduceLeDiff, Try.f114, hlt, r89, hq]
        simp only [List.length_cons] at hq'
        simp only [hq', head1, List.all_nil, Bool.true_and, Bool.false_and, Bool.and_false]
  | cons b r ih =>
    intro d hk
    have hlen : d.length + 1 ≤ s.length := by rw [hk]; simp
    have hlt : decide ((d.length : Int) < ((B s).size : Int)) = true := by rw [decide_eq_true_iff, size_B]; omega
    have hat : strAt (B s) (d.length : Int) = some (b.toNat : Int) := by rw [hk, strAt_B]; simp
    have hw : IntKind.i64.wrap ((d.length : Int) + 1) = (((d ++ [b]).length : Nat) : Int) := natCast_succ_wrap (by omega) (by simp)
    refine run_code Try.func114 rfl rfl ?_
    cases hb : nameI b.toNat with
    | false =>
      simp only [↓XX, ↓XD, ↓YX, ZB, Nat.reduceAdd, Nat.reducePow, ↓reduceIte, eq_self, Int.reduceEq, Nat.reduceEqDiff, Nat.reduceMul, Nat.reduceLeDiff, Try.f114, hlt, hat, r130, hb, Bool.not_false]
      simp [hb]
    | true =>
      simp only [↓XX, ↓XD, ↓YX, ZB, Nat.reduceAdd, Nat.reducePow, ↓reduceIte, eq_self, Int.reduceEq, Nat.reduceEqDiff, Nat.reduceMul, Nat.reduceLeDiff, Try.f114, hlt, hat, r130, hb, Bool.not_true, hw]
      rw [ih (d ++ [b]) (by rw [hk]; simp)]
      simp [hb]
theorem r114 (s : Bs) (hs : s.length ≤ 2 ^ 60) (l : Nat) (h : AH) : run V0 (.fn 114) l [S (sV s)] h = some (.ret (.bool (nameOkL s)) h) := by
  refine run_fn Try.func114 rfl rfl rfl rfl ?_
  simp only [↓XX, ↓XD, ↓YX, ZB, Nat.reduceAdd, Nat.reducePow, ↓reduceIte, eq_self, Int.reduceEq, Nat.reduceEqDiff, Nat.reduceMul, Nat.reduceLeDiff, Try.f114]
  exact L114 s hs l h s [] rfl
/-- impl.NameOk: its loop -/
theorem L91 (s : Bs) (hs : s.length ≤ 2 ^ 60) (l id : Nat) (h : AH) (e : h[id]? = some (.row 0 25769803777 (u8c s))) : ∀ (r d : Bs), s = d ++ r →
    L91_0 l (sV s) (slV id 0 s.length s.length) (iV s.length) (iV d.length) h = some (.ret (.bool (r.all (fun b => nameI b.toNat) && (inI s.length 1 12 && head1 s))) h) := by
  intro r
  induction r with
  | nil =>
    intro d hk
    rw [List.append_nil] at hk
    have hlt : decide ((d.length : Int) < (s.length : Int)) = false := by rw [decide_eq_false_iff_not, hk]; omega
    clear hk
    cases s with
    | nil =>
      refine run_code Try.func91 rfl rfl ?_
      have hin : inI ((B ([] : Bs)).size : Int) 1 12 = false := rfl
      simp only [↓XX, ↓XD, ↓YX, ZB, Nat.reduceAdd, Nat.reducePow, ↓reduceIte, eq_self, Int.reduceEq, Nat.reduceEqDiff, Nat.reduceMul, Nat.reduceLeDiff, Try.f91, hlt, r58, hin]
      rfl
    | cons b r =>
      simp only [List.length_cons] at hlt
      refine run_code Try.func91 rfl rfl ?_
      cases hq : inI ((B (b :: r)).size : Int) 1 12 with
      | true =>
        have hq' : inI ((b :: r).length : Int) 1 12 = true := by rw [← size_B]; exact hq
        simp only [↓XX, ↓XD, ↓YX, ZB, Nat.reduceAdd, Nat.reducePow, ↓reduceIte, eq_self, Int.reduceEq, Nat.reduceEqDiff, Nat.reduceMul, Nat.reduceLeDiff, Try.f91, hlt, r58, hq, strAt_0, r117]
        simp only [List.length_cons] at hq'
        simp only [hq', head1, List.all_nil, Bool.true_and, Bool.false_and, Bool.and_false]
      | false =>
        have hq' : inI ((b :: r).length : Int) 1 12 = false := by rw [← size_B]; exact hq
        simp only [↓XX, ↓XD, ↓YX, ZB, Nat.reduceAdd, Nat.reducePow, ↓reduceIte, eq_self, Int.reduceEq, Nat.reduceEqDiff, Nat.reduceMul, Nat.reduceLeDiff, Try.f91, hlt, r58, hq]
        simp only [List.length_cons] at hq'
        simp only [hq', head1, List.all_nil, Bool.true_and, Bool.false_and, Bool.and_false]
  | cons b r ih =>
    intro d hk
    have hlen : d.length + 1 ≤ s.length := by rw [hk]; simp
    have hlt : decide ((d.length : Int) < (s.length : Int)) = true := by rw [decide_eq_true_iff]; omega
    have hix : ixAddr (slV id 0 s.length s.length) (d.length : Int) 1 = some (pV id d.length 0) := by rw [ixAddr_sl (by omega)]; simp
    have hld : ld h (pV id d.length 0) = some (.int .u8 b.toNat) := ld_of e (by rw [hk]; exact u8c_get d b r)
    have hw : IntKind.i64.wrap ((d.length : Int) + 1) = (((d ++ [b]).length : Nat) : Int) := natCast_succ_wrap (by omega) (by simp)
    refine run_code Try.func91 rfl rfl ?_
    cases hb : nameI b.toNat with
    | false =>
      simp only [↓XX, ↓XD, ↓YX, ZB, Nat.reduceAdd, Nat.reducePow, ↓reduceIte, eq_self, Int.reduceEq, Nat.reduceEqDiff, Nat.reduceMul, Nat.reduceLeDiff, Try.f91, hlt, hix, hld, r116, hb, Bool.not_false]
      simp [hb]
    | true =>
      simp only [↓XX, ↓XD, ↓YX, ZB, Nat.reduceAdd, Nat.reducePow, ↓reduceIte, eq_self, Int.reduceEq, Nat.reduceEqDiff, Nat.reduceMul, Nat.reduceLeDiff, Try.f91, hlt, hix, hld, r116, hb, Bool.not_true, hw]
      rw [ih (d ++ [b]) (by rw [hk]; simp)]
      simp [hb]
theorem r91 (s : Bs) (hs : s.length ≤ 2 ^ 60) (l : Nat) (h : AH) : ∃ h', run V0 (.fn 91) l [S (sV s)] h = some (.ret (.bool (nameOkL s)) h') ∧ Keep h.length h h' := by
  refine ⟨h ++ [.row 0 25769803777 (u8c s)], run_fn Try.func91 rfl rfl rfl rfl ?_, Keep.app _ _ (Nat.le_refl _)⟩
  simp only [↓XX, ↓XD, ↓YX, ZB, Nat.reduceAdd, Nat.reducePow, ↓reduceIte, eq_self, Int.reduceEq, Nat.reduceEqDiff, Nat.reduceMul, Nat.reduceLeDiff, Try.f91, lenV, newS]
  exact L91 s hs l h.length _ (by rw [List.getElem?_append_right (Nat.le_refl _)]; simp [u8c, B]) s [] rfl
end Go.Abs
namespace Go.Abs
open Go.Proofs
set_option maxRecDepth 100000
set_option linter.unusedSimpArgs false
set_option pp.maxSteps 20000

/-! ### steps of paths -/
structure St where
  mk ::
  (deep : Bool)
  (name attr text : Bs)
  deriving DecidableEq
abbrev stC (x : St) : List Value := [.bool x.deep, sV x.name, sV x.attr, sV x.text]
abbrev stV (x : St) : Value := .agg ⟨[.bool x.deep, sV x.name, sV x.attr, sV x.text]⟩
def stR (xs : List St) : List Value := xs.flatMap stC
theorem stR_len (xs : List St) : (stR xs).length = 4 * xs.length := by
  induction xs with
  | nil => rfl
  | cons x xs ih => simp only [stR, List.flatMap_cons, List.length_append, List.length_cons, List.length_nil] at ih ⊢; omega
theorem stR_app (a b : List St) : stR (a ++ b) = stR a ++ stR b := by simp [stR]
theorem stR_cons (x : St) (r : List St) : stR (x :: r) = stC x ++ stR r := by simp [stR]
theorem st_get (d : List St) (x : St) (r : List St) : ((stR (d ++ x :: r)).drop (d.length * 4)).take 4 = stC x := by
  rw [stR_app, stR_cons, List.drop_left' (by rw [stR_len]; omega)]
  rfl
theorem ldN_st {h : AH} {id g : Nat} {d r : List St} {x : St} (e : h[id]? = some (.row g 4 (stR (d ++ x :: r)))) : ldN h (pV id (d.length * 4) g) 4 = some (stC x) := by
  rw [ldN_of e (by rw [stR_len]; simp; omega), st_get]
/-- a slice that is read: what its elements are -/
def RdS (h : AH) (v : Value) (xs : List St) : Prop :=
  (v = .slice none 0 0 ∧ xs = []) ∨ ∃ id g c, v = slV id g xs.length c ∧ h[id]? = some (.row g 4 (stR xs))
theorem RdS.len {h : AH} {v : Value} {xs : List St} (r : RdS h v xs) : lenV v = some (xs.length : Int) := by
  rcases r with ⟨rfl, rfl⟩ | ⟨id, g, c, rfl, _⟩ <;> rfl
theorem RdS.get {h : AH} {v : Value} {d r : List St} {x : St} (q : RdS h v (d ++ x :: r)) : ∃ p, ixAddr v (d.length : Int) 4 = some p ∧ ldN h p 4 = some (stC x) := by
  rcases q with ⟨_, q⟩ | ⟨id, g, c, rfl, e⟩
  · simp at q
  · exact ⟨pV id (d.length * 4) g, by rw [ixAddr_sl (by simp)]; simp, ldN_st e⟩
theorem RdS.keep {h h' : AH} {v : Value} {xs : List St} (q : RdS h v xs) (k : Keep h.length h h') : RdS h' v xs := by
  rcases q with q | ⟨id, g, c, rfl, e⟩
  · exact .inl q
  · exact .inr ⟨id, g, c, rfl, k.get e (lt_of_get e)⟩

theorem r62 (x y : St) (l : Nat) (h : AH) : run V0 (.fn 62) l [S (stV x), S (stV y)] h = some (.ret (.bool (decide (x = y))) (h ++ [.row 0 4 (stC x)] ++ [.row 0 4 (stC y)])) := by
  refine run_fn Try.func62 rfl rfl rfl rfl ?_
  obtain ⟨xd, xn, xa, xt⟩ := x
  obtain ⟨yd, yn, ya, yt⟩ := y
  simp only [↓XX, ↓XD, ↓YX, ZB, Nat.reduceAdd, Nat.reducePow, ↓reduceIte, eq_self, Int.reduceEq, Nat.reduceEqDiff, Nat.reduceMul, Nat.reduceLeDiff, Try.f62, ↓XH1, ↓XH2, ZC, eq_self, Nat.reduceLeDiff, neB]
  by_cases h1 : xd = yd
  · by_cases h2 : xn = yn
    · by_cases h3 : xa = ya
      · by_cases h4 : xt = yt
        · simp [h1, h2, h3, h4]
        · simp [h1, h2, h3, h4]
      · simp [h1, h2, h3]
    · simp [h1, h2]
  · have : (xd == yd) = false := by cases xd <;> cases yd <;> simp_all
    simp [h1, this]
/-- eqStepS: its loop -/
theorem L24 (ia ga ca ib gb cb n l : Nat) (hn : n ≤ 2 ^ 40) : ∀ (r r' d d' : List St) (h : AH), d.length = d'.length → d.length + r.length = n → r.length = r'.length → h[ia]? = some (.row ga 4 (stR (d ++ r))) → h[ib]? = some (.row gb 4 (stR (d' ++ r'))) →
    ∃ h', L24_0 l (slV ia ga n ca) (slV ib gb n cb) (iV d.length) h = some (.ret (.bool (decide (r = r'))) h') ∧ Keep h.length h h' := by
  intro r
  induction r with
  | nil =>
    intro r' d d' h hd hk hr ea eb
    obtain rfl : r' = [] := by cases r' with | nil => rfl | cons _ _ => simp at hr
    simp only [List.length_nil, Nat.add_zero] at hk
    refine ⟨h, run_code Try.func24 rfl rfl ?_, Keep.refl _ _⟩
    have hlt : decide ((d.length : Int) < (n : Int)) = false := by rw [decide_eq_false_iff_not]; omega
    simp only [↓XX, ↓XD, ↓YX, ZB, Nat.reduceAdd, Nat.reducePow, ↓reduceIte, eq_self, Int.reduceEq, Nat.reduceEqDiff, Nat.reduceMul, Nat.reduceLeDiff, Try.f24, lenV, hlt, decide_true]
  | cons x r ih =>
    intro r' d d' h hd hk hr ea eb
    cases r' with
    | nil => simp at hr
    | cons y r' =>
      simp only [List.length_cons] at hk hr
      have hlt : decide ((d.length : Int) < (n : Int)) = true := by rw [decide_eq_true_iff]; omega
      have hia : ixAddr (slV ia ga n ca) (d.length : Int) 4 = some (pV ia (d.length * 4) ga) := by rw [ixAddr_sl (by omega)]; simp
      have hib : ixAddr (slV ib gb n cb) (d.length : Int) 4 = some (pV ib (d.length * 4) gb) := by rw [ixAddr_sl (by omega)]; simp
      have hla : ldN h (pV ia (d.length * 4) ga) 4 = some (stC x) := ldN_st ea
      have hlb : ldN h (pV ib (d.length * 4) gb) 4 = some (stC y) := by rw [hd]; exact ldN_st eb
      have hw : IntKind.i64.wrap ((d.length : Int) + 1) = (((d ++ [x]).length : Nat) : Int) := natCast_succ_wrap (by omega) (by simp)
      have h62 := r62 x y l h
      have kp : Keep h.length h (h ++ [.row 0 4 (stC x)] ++ [.row 0 4 (stC y)]) := (Keep.app _ _ (Nat.le_refl _)).trans (Keep.app _ _ (by simp))
      by_cases hq : x = y
      · rw [decide_eq_true hq] at h62
        obtain ⟨h', i1, i2⟩ := ih r' (d ++ [x]) (d' ++ [y]) (h ++ [.row 0 4 (stC x)] ++ [.row 0 4 (stC y)]) (by simp [hd]) (by simp; omega) (by omega) (by rw [kp.get ea (lt_of_get ea)]; simp) (by rw [kp.get eb (lt_of_get eb)]; simp)
        refine ⟨h', run_code Try.func24 rfl rfl ?_, kp.trans (i2.le kp.1)⟩
        simp (disch := (refine _root_.id ?_; kernel_rfl)) only [↓XX, ↓XD, ↓YX, ZB, Nat.reduceAdd, Nat.reducePow, ↓reduceIte, eq_self, Int.reduceEq, Nat.reduceEqDiff, Nat.reduceMul, Nat.reduceLeDiff, Try.f24, lenV, hlt, hia, hib, hla, hlb, h62, hw, Bool.not_true]
        rw [i1]; simp [hq]
      · rw [decide_eq_false hq] at h62
        refine ⟨_, run_code Try.func24 rfl rfl ?_, kp⟩
        simp (disch := (refine _root_.id ?_; kernel_rfl)) only [↓XX, ↓XD, ↓YX, ZB, Nat.reduceAdd, Nat.reducePow, ↓reduceIte, eq_self, Int.reduceEq, Nat.reduceEqDiff, Nat.reduceMul, Nat.reduceLeDiff, Try.f24, lenV, hlt, hia, hib, hla, hlb, h62, hw, Bool.not_false]
        simp [hq]
theorem r24 (ia ga ca ib gb cb l : Nat) (xs ys : List St) (h : AH) (hn : xs.length ≤ 2 ^ 40) (hy : xs.length = ys.length) (ea : h[ia]? = some (.row ga 4 (stR xs))) (eb : h[ib]? = some (.row gb 4 (stR ys))) :
    ∃ h', run V0 (.fn 24) l [S (slV ia ga xs.length ca), S (slV ib gb ys.length cb)] h = some (.ret (.bool (decide (xs = ys))) h') ∧ Keep h.length h h' := by
  obtain ⟨h', i1, i2⟩ := L24 ia ga ca ib gb cb xs.length l hn xs ys [] [] h rfl (by simp) hy (by simpa using ea) (by simpa using eb)
  refine ⟨h', run_fn Try.func24 rfl rfl rfl rfl ?_, i2⟩
  have hb : ((xs.length : Int) != (ys.length : Int)) = false := by simp [hy]
  simp only [↓XX, ↓XD, ↓YX, ZB, Nat.reduceAdd, Nat.reducePow, ↓reduceIte, eq_self, Int.reduceEq, Nat.reduceEqDiff, Nat.reduceMul, Nat.reduceLeDiff, Try.f24, lenV, hb]
  rw [← hy]
  exact i1
/-! ### sizes -/
def szI (x : St) (k : Int) : Int :=
  if k - x.name.length < 0 then -1 else if k - x.name.length - x.attr.length < 0 then -1 else if k - x.name.length - x.attr.length - x.text.length < 0 then -1 else k - x.name.length - x.attr.length - x.text.length
def Fit (x : St) : Prop := x.name.length ≤ 2 ^ 60 ∧ x.attr.length ≤ 2 ^ 60 ∧ x.text.length ≤ 2 ^ 60
def Fit63 (x : St) : Prop := x.name.length ≤ 9223372036854775807 ∧ x.attr.length ≤ 9223372036854775807 ∧ x.text.length ≤ 9223372036854775807
theorem r55 (x : St) (hx : Fit63 x) (k : Int) (hk : 0 ≤ k ∧ k ≤ 2 ^ 40) (l : Nat) (h : AH) : run V0 (.fn 55) l [S (stV x), S (iV k)] h = some (.ret (iV (szI x k)) (h ++ [.row 0 4 (stC x)])) := by
  obtain ⟨x1, x2, x3⟩ := hx
  obtain ⟨xd, xn, xa, xt⟩ := x
  refine run_fn Try.func55 rfl rfl rfl rfl ?_
  simp only at x1 x2 x3
  have w1 : IntKind.i64.wrap (k - ((B xn).size : Int)) = k - xn.length := by rw [size_B, wrap64 (by omega)]
  unfold szI
  simp only
  by_cases h1 : k - (xn.length : Int) < 0
  · have d1 : decide (k - (xn.length : Int) < 0) = true := decide_eq_true h1
    simp only [↓XX, ↓XD, ↓YX, ZB, Nat.reduceAdd, Nat.reducePow, ↓reduceIte, eq_self, Int.reduceEq, Nat.reduceEqDiff, Nat.reduceMul, Nat.reduceLeDiff, Try.f55, ↓XH1, ↓XH2, ZC, eq_self, Nat.reduceLeDiff, w1, d1]
    simp [h1]
  · have d1 : decide (k - (xn.length : Int) < 0) = false := decide_eq_false h1
    have w2 : IntKind.i64.wrap (k - xn.length - ((B xa).size : Int)) = k - xn.length - xa.length := by rw [size_B, wrap64 (by omega)]
    by_cases h2 : k - (xn.length : Int) - (xa.length : Int) < 0
    · have d2 : decide (k - (xn.length : Int) - (xa.length : Int) < 0) = true := decide_eq_true h2
      simp only [↓XX, ↓XD, ↓YX, ZB, Nat.reduceAdd, Nat.reducePow, ↓reduceIte, eq_self, Int.reduceEq, Nat.reduceEqDiff, Nat.reduceMul, Nat.reduceLeDiff, Try.f55, ↓XH1, ↓XH2, ZC, eq_self, Nat.reduceLeDiff, w1, d1, w2, d2]
      simp [h1, h2]
    · have d2 : decide (k - (xn.length : Int) - (xa.length : Int) < 0) = false := decide_eq_false h2
      have w3 : IntKind.i64.wrap (k - xn.length - xa.length - ((B xt).size : Int)) = k - xn.length - xa.length - xt.length := by rw [size_B, wrap64 (by omega)]
      simp only [↓XX, ↓XD, ↓YX, ZB, Nat.reduceAdd, Nat.reducePow, ↓reduceIte, eq_self, Int.reduceEq, Nat.reduceEqDiff, Nat.reduceMul, Nat.reduceLeDiff, Try.f55, ↓XH1, ↓XH2, ZC, eq_self, Nat.reduceLeDiff, w1, d1, w2, d2, w3]
      by_cases h3 : k - (xn.length : Int) - (xa.length : Int) - (xt.length : Int) < 0
      · simp [h1, h2, h3]
      · simp [h1, h2, h3]
def szL : List St → Int → Int
  | [], k => k
  | x :: r, k => if szI x k < 0 then -1 else szL r (szI x k)
theorem szI_fit (x : St) (k : Int) (hk : 0 ≤ szI x k) : (x.name.length : Int) + x.attr.length + x.text.length + szI x k = k := by
  unfold szI at hk ⊢; split at hk <;> (try split at hk) <;> (try split at hk) <;> first | omega | (rw [if_neg ‹_›, if_neg ‹_›, if_neg ‹_›]; omega)
theorem szL_fit : ∀ (xs : List St) (k : Int), 0 ≤ szL xs k → ∀ x ∈ xs, (x.name.length : Int) ≤ k ∧ (x.attr.length : Int) ≤ k ∧ (x.text.length : Int) ≤ k
  | [], _, _ => by simp
  | y :: xs, k, h => by
    simp only [szL] at h
    split at h
    · omega
    · rename_i q
      have e := szI_fit y k (by omega)
      intro x hx
      rcases List.mem_cons.1 hx with rfl | hx
      · omega
      · have := szL_fit xs _ h x hx; omega
theorem szI_le (x : St) (k : Int) (hk : 0 ≤ k) : szI x k ≤ k ∧ -1 ≤ szI x k := by unfold szI; split <;> (try split) <;> (try split) <;> omega
/-- szStepS: its loop -/
theorem L20 (v : Value) (l : Nat) : ∀ (r d : List St) (k : Int) (h : AH), RdS h v (d ++ r) → (∀ x ∈ r, Fit63 x) → 0 ≤ k ∧ k ≤ 2 ^ 40 → d.length + r.length ≤ 2 ^ 60 →
    ∃ h', L20_0 l v (iV k) (iV d.length) h = some (.ret (iV (szL r k)) h') ∧ Keep h.length h h' := by
  intro r
  induction r with
  | nil =>
    intro d k h q hf hk hn
    have hlen := q.len
    have hlt : decide ((d.length : Int) < ((d ++ []).length : Int)) = false := by rw [decide_eq_false_iff_not, List.append_nil]; omega
    refine ⟨h, run_code Try.func20 rfl rfl ?_, Keep.refl _ _⟩
    simp only [↓XX, ↓XD, ↓YX, ZB, Nat.reduceAdd, Nat.reducePow, ↓reduceIte, eq_self, Int.reduceEq, Nat.reduceEqDiff, Nat.reduceMul, Nat.reduceLeDiff, Try.f20, hlen, hlt, szL]
  | cons x r ih =>
    intro d k h q hf hk hn
    have hlen := q.len
    obtain ⟨p, hp, hl⟩ := q.get
    simp only [List.length_cons] at hn
    have hlt : decide ((d.length : Int) < ((d ++ x :: r).length : Int)) = true := by rw [decide_eq_true_iff]; simp; omega
    have h55 := r55 x (hf x (by simp)) k (by omega) l h
    have hw : IntKind.i64.wrap ((d.length : Int) + 1) = (((d ++ [x]).length : Nat) : Int) := natCast_succ_wrap (by omega) (by simp)
    have kp : Keep h.length h (h ++ [.row 0 4 (stC x)]) := Keep.app _ _ (Nat.le_refl _)
    have hsz := szI_le x k hk.1
    by_cases hq : szI x k < 0
    · refine ⟨_, run_code Try.func20 rfl rfl ?_, kp⟩
      have hd : decide (szI x k < 0) = true := decide_eq_true hq
      simp only [↓XX, ↓XD, ↓YX, ZB, Nat.reduceAdd, Nat.reducePow, ↓reduceIte, eq_self, Int.reduceEq, Nat.reduceEqDiff, Nat.reduceMul, Nat.reduceLeDiff, Try.f20, hlen, hlt, hp, hl, h55, hd, szL]
      simp [hq]
    · obtain ⟨h', i1, i2⟩ := ih (d ++ [x]) (szI x k) _ (by simpa using q.keep kp) (fun y hy => hf y (by simp [hy])) (by omega) (by simp; omega)
      refine ⟨h', run_code Try.func20 rfl rfl ?_, kp.trans (i2.le kp.1)⟩
      have hd : decide (szI x k < 0) = false := decide_eq_false hq
      simp only [↓XX, ↓XD, ↓YX, ZB, Nat.reduceAdd, Nat.reducePow, ↓reduceIte, eq_self, Int.reduceEq, Nat.reduceEqDiff, Nat.reduceMul, Nat.reduceLeDiff, Try.f20, hlen, hlt, hp, hl, h55, hd, szL, hw]
      rw [i1, if_neg hq]
theorem r20 (v : Value) (l : Nat) (xs : List St) (h : AH) (q : RdS h v xs) (hf : ∀ x ∈ xs, Fit63 x) (hn : xs.length ≤ 9223372036854775807) (k : Nat) (hk : k ≤ 2 ^ 40) :
    ∃ h' n, run V0 (.fn 20) l [S v, S (iV k)] h = some (.ret (iV n) h') ∧ Keep h.length h h' ∧ (0 ≤ n → xs.length ≤ k ∧ 0 ≤ szL xs ((k : Int) - xs.length)) := by
  have hlen := q.len
  have w1 : IntKind.i64.wrap ((k : Int) - (xs.length : Int)) = (k : Int) - xs.length := wrap64 (by omega)
  by_cases h0 : (k : Int) - xs.length < 0
  · refine ⟨h, -1, run_fn Try.func20 rfl rfl rfl rfl ?_, Keep.refl _ _, by omega⟩
    have hd : decide ((k : Int) - xs.length < 0) = true := decide_eq_true h0
    simp only [↓XX, ↓XD, ↓YX, ZB, Nat.reduceAdd, Nat.reducePow, ↓reduceIte, eq_self, Int.reduceEq, Nat.reduceEqDiff, Nat.reduceMul, Nat.reduceLeDiff, Try.f20, hlen, w1, hd]
  · obtain ⟨h', i1, i2⟩ := L20 v l xs [] ((k : Int) - xs.length) h (by simpa using q) hf (by omega) (by simp; omega)
    refine ⟨h', _, run_fn Try.func20 rfl rfl rfl rfl ?_, i2, fun hz => ⟨by omega, hz⟩⟩
    have hd : decide ((k : Int) - xs.length < 0) = false := decide_eq_false h0
    simp only [↓XX, ↓XD, ↓YX, ZB, Nat.reduceAdd, Nat.reducePow, ↓reduceIte, eq_self, Int.reduceEq, Nat.reduceEqDiff, Nat.reduceMul, Nat.reduceLeDiff, Try.f20, hlen, w1, hd]
    exact i1
/-! ### the copies -/
theorem r57 (x : St) (l : Nat) (h : AH) (hl : l ≤ h.length) : run V0 (.fn 57) l [S (stV x)] h = some (.ret (stV x) (h ++ [.row 0 4 (stC x)] ++ [.row 0 4 (stC x)] ++ [.row 0 4 (stC x)])) := by
  obtain ⟨xd, xn, xa, xt⟩ := x
  refine run_fn Try.func57 rfl rfl rfl rfl ?_
  have l1 : (l ≤ (h ++ [AObj.row 0 4 [Value.bool xd, sV xn, sV xa, sV xt]]).length) = True := by simp; omega
  have l2 : ∀ cs, (l ≤ (h ++ [AObj.row 0 4 [Value.bool xd, sV xn, sV xa, sV xt]] ++ [AObj.row 0 4 cs]).length) = True := by intro cs; simp; omega
  simp only [↓XX, ↓XD, ↓YX, ZB, Nat.reduceAdd, Nat.reducePow, ↓reduceIte, eq_self, Int.reduceEq, Nat.reduceEqDiff, Nat.reduceMul, Nat.reduceLeDiff, Try.f57, ↓XH1, ↓XH2, ZC, eq_self, Nat.reduceLeDiff, l1, l2]
abbrev stZ : List Value := [.bool false, sV [], sV [], sV []]
/-- toStepS: its loop -/
theorem L22 (v : Value) (l id n : Nat) (n0 : Nat) (hl : l ≤ id) (h0 : n0 ≤ id) (hn : n ≤ 2 ^ 40) : ∀ (r d : List St) (h : AH), d.length + r.length = n → RdS h v (d ++ r) → n0 ≤ h.length → (∀ i g c, v = .slice (some ⟨i, 0, some g⟩) n c → i < n0) → l ≤ h.length →
    h[id]? = some (.row 0 4 (stR d ++ repL r.length stZ)) →
    ∃ h', L22_0 l v (slV id 0 n n) (iV d.length) h = some (.ret (slV id 0 n n) h') ∧ h'[id]? = some (.row 0 4 (stR (d ++ r))) ∧ Keep n0 h h' := by
  intro r
  induction r with
  | nil =>
    intro d h hk q hh hv hlh e
    have hlen := q.len
    have hlt : decide ((d.length : Int) < ((d ++ []).length : Int)) = false := by rw [decide_eq_false_iff_not, List.append_nil]; omega
    refine ⟨h, run_code Try.func22 rfl rfl ?_, by rw [e]; simp [repL], Keep.refl _ _⟩
    simp only [↓XX, ↓XD, ↓YX, ZB, Nat.reduceAdd, Nat.reducePow, ↓reduceIte, eq_self, Int.reduceEq, Nat.reduceEqDiff, Nat.reduceMul, Nat.reduceLeDiff, Try.f22, hlen, hlt]
  | cons x r ih =>
    intro d h hk q hh hv hlh e
    simp only [List.length_cons] at hk
    have hlen := q.len
    obtain ⟨p, hp, hld⟩ := q.get
    have hlt : decide ((d.length : Int) < ((d ++ x :: r).length : Int)) = true := by rw [decide_eq_true_iff]; simp; omega
    have h57 := r57 x l h hlh
    have hid := lt_of_get e
    have kp : Keep h.length h (h ++ [AObj.row 0 4 (stC x)] ++ [AObj.row 0 4 (stC x)] ++ [AObj.row 0 4 (stC x)]) := by
      rw [List.append_assoc, List.append_assoc]; exact Keep.app _ _ (Nat.le_refl _)
    have hix : ixAddr (slV id 0 n n) (d.length : Int) 4 = some (pV id (d.length * 4) 0) := by rw [ixAddr_sl (by omega)]; simp
    have hw : IntKind.i64.wrap ((d.length : Int) + 1) = (((d ++ [x]).length : Nat) : Int) := natCast_succ_wrap (by omega) (by simp)
    generalize hh1 : h ++ [AObj.row 0 4 (stC x)] ++ [AObj.row 0 4 (stC x)] ++ [AObj.row 0 4 (stC x)] = h1 at *
    have e1 := kp.get e hid
    have hst : stN l h1 (pV id (d.length * 4) 0) (stC x) = some (h1.set id (.row 0 4 (stR (d ++ [x]) ++ repL r.length stZ))) := by
      rw [stN_of hl e1 (by rw [List.length_append, stR_len]; simp [repL]; omega) rfl]
      have hrep : repL (r.length + 1) stZ = stZ ++ repL r.length stZ := by simp [repL, List.replicate_succ]
      have := setMany_mid (stR d) stZ (repL r.length stZ) (stC x) rfl
      rw [stR_len] at this
      simp only [List.length_cons]
      rw [hrep, Nat.mul_comm, this, stR_app, stR_cons]
      simp [stR]
    have kp2 : Keep n0 h (h1.set id (.row 0 4 (stR (d ++ [x]) ++ repL r.length stZ))) := (kp.le hh).trans (Keep.set _ _ _ h0)
    have q2 : RdS (h1.set id (.row 0 4 (stR (d ++ [x]) ++ repL r.length stZ))) v ((d ++ [x]) ++ r) := by
      have hxs : (d ++ [x]) ++ r = d ++ x :: r := by simp
      rw [hxs]
      rcases q with q | ⟨i, g, c, hv', e'⟩
      · exact .inl q
      · refine .inr ⟨i, g, c, hv', kp2.get e' (hv i g c ?_)⟩
        rw [hv']
        have : (d ++ x :: r).length = n := by simp; omega
        rw [this]
    obtain ⟨h', i1, i2, i3⟩ := ih (d ++ [x]) _ (by simp; omega) q2 (by have := kp2.1; omega) hv (by have := kp2.1; omega) (get_set _ e1)
    refine ⟨h', run_code Try.func22 rfl rfl ?_, by rw [i2]; simp, kp2.trans i3⟩
    have hag : aggOf (stV x) = some (stC x) := rfl
    simp only [↓XX, ↓XD, ↓YX, ZB, Nat.reduceAdd, Nat.reducePow, ↓reduceIte, eq_self, Int.reduceEq, Nat.reduceEqDiff, Nat.reduceMul, Nat.reduceLeDiff, Try.f22, hlen, hlt, hp, hld, h57, hix, hag, hst, hw]
    exact i1
theorem r22 (v : Value) (l : Nat) (xs : List St) (h : AH) (q : RdS h v xs) (hn : xs.length ≤ 2 ^ 30) (hl : l ≤ h.length) :
    ∃ id h', run V0 (.fn 22) l [S v] h = some (.ret (slV id 0 xs.length xs.length) h') ∧ h'[id]? = some (.row 0 4 (stR xs)) ∧ h.length ≤ id ∧ Keep h.length h h' := by
  have hlen := q.len
  have kp : Keep h.length h (h ++ [AObj.row 0 4 (repL xs.length stZ)]) := Keep.app _ _ (Nat.le_refl _)
  obtain ⟨h', i1, i2, i3⟩ := L22 v l h.length xs.length h.length hl (Nat.le_refl _) (by omega) xs [] (h ++ [AObj.row 0 4 (repL xs.length stZ)]) (by simp) (q.keep kp) (by simp)
    (fun i g c hv => by
      rcases q with ⟨q, _⟩ | ⟨i', g', c', q, e⟩
      · rw [q] at hv; cases hv
      · rw [q] at hv; cases hv; exact lt_of_get e) (by simp; omega) (by simp [stR])
  refine ⟨h.length, h', run_fn Try.func22 rfl rfl rfl rfl ?_, i2, Nat.le_refl _, kp.trans i3⟩
  have hm : (0 ≤ (xs.length : Int) ∧ (xs.length : Int) ≤ (xs.length : Int) ∧ (xs.length : Int) ≤ 9223372036854775807 ∧ ((56 : Nat) : Int) * (xs.length : Int) ≤ 2 ^ 47) = True := eq_true (by omega)
  simp only [↓XX, ↓XD, ↓YX, ZB, Nat.reduceAdd, Nat.reducePow, ↓reduceIte, eq_self, Int.reduceEq, Nat.reduceEqDiff, Nat.reduceMul, Nat.reduceLeDiff, Try.f22, hlen, hm, if_true, Int.toNat_natCast, newS]
  exact i1
end Go.Abs
namespace Go.Abs
open Go.Proofs
set_option maxRecDepth 100000
set_option linter.unusedSimpArgs false
set_option pp.maxSteps 20000

def valI (n : Int) : Bool := !(decide (n < 32) || decide (127 ≤ n) || n == 39)
def valOkL (s : Bs) : Bool := s.all (fun b => valI b.toNat) && decide ((s.length : Int) ≤ 10)
/-- spec.l12Value: its loop -/
theorem L115 (s : Bs) (hs : s.length ≤ 2 ^ 60) (l : Nat) (h : AH) : ∀ (r d : Bs), s = d ++ r →
    L115_0 l (sV s) (iV d.length) h = some (.ret (.bool (r.all (fun b => valI b.toNat) && decide ((s.length : Int) ≤ 10))) h) := by
  intro r
  induction r with
  | nil =>
    intro d hk
    rw [List.append_nil] at hk
    have hlt : decide ((d.length : Int) < ((B s).size : Int)) = false := by rw [decide_eq_false_iff_not, size_B, hk]; omega
    refine run_code Try.func115 rfl rfl ?_
    simp only [↓XX, ↓XD, ↓YX, ZB, Nat.reduceAdd, Nat.reducePow, ↓reduceIte, eq_self, Int.reduceEq, Nat.reduceEqDiff, Nat.reduceMul, Nat.reduceLeDiff, Try.f115, hlt, List.all_nil, Bool.true_and]
    rfl
  | cons b r ih =>
    intro d hk
    have hlen : d.length + 1 ≤ s.length := by rw [hk]; simp
    have hlt : decide ((d.length : Int) < ((B s).size : Int)) = true := by rw [decide_eq_true_iff, size_B]; omega
    have hat : strAt (B s) (d.length : Int) = some (b.toNat : Int) := by rw [hk, strAt_B]; simp
    have hw : IntKind.i64.wrap ((d.length : Int) + 1) = (((d ++ [b]).length : Nat) : Int) := natCast_succ_wrap (by omega) (by simp)
    have ih' := ih (d ++ [b]) (by rw [hk]; simp)
    refine run_code Try.func115 rfl rfl ?_
    simp only [↓XX, ↓XD, ↓YX, ZB, Nat.reduceAdd, Nat.reducePow, ↓reduceIte, eq_self, Int.reduceEq, Nat.reduceEqDiff, Nat.reduceMul, Nat.reduceLeDiff, Try.f115, hlt, hat, hw]
    simp only [List.all_cons, valI]
    cases h1 : decide ((b.toNat : Int) < 32) with
    | true => simp
    | false =>
      cases h2 : decide (127 ≤ (b.toNat : Int)) with
      | true => simp
      | false =>
        cases h3 : ((b.toNat : Int) == 39) with
        | true => simp
        | false => simp only [Bool.or_self, Bool.not_false, Bool.true_and]; exact ih'
theorem r115 (s : Bs) (hs : s.length ≤ 2 ^ 60) (l : Nat) (h : AH) : run V0 (.fn 115) l [S (sV s)] h = some (.ret (.bool (valOkL s)) h) := by
  refine run_fn Try.func115 rfl rfl rfl rfl ?_
  simp only [↓XX, ↓XD, ↓YX, ZB, Nat.reduceAdd, Nat.reducePow, ↓reduceIte, eq_self, Int.reduceEq, Nat.reduceEqDiff, Nat.reduceMul, Nat.reduceLeDiff, Try.f115]
  exact L115 s hs l h s [] rfl
def stOkL (x : St) : Bool := (decide (x.name = [42]) || nameOkL x.name) && ((decide (x.attr = []) && decide (x.text = [])) || (nameOkL x.attr && valOkL x.text))
theorem r88 (x : St) (hx : Fit x) (l : Nat) (h : AH) : run V0 (.fn 88) l [S (stV x)] h = some (.ret (.bool (stOkL x)) (h ++ [.row 0 4 (stC x)])) := by
  obtain ⟨x1, x2, x3⟩ := hx
  obtain ⟨xd, xn, xa, xt⟩ := x
  simp only at x1 x2 x3
  refine run_fn Try.func88 rfl rfl rfl rfl ?_
  have e1 := fun l h => r114 xn x1 l h
  have e2 := fun l h => r114 xa x2 l h
  have e3 := fun l h => r115 xt x3 l h
  simp only [↓XX, ↓XD, ↓YX, ZB, Nat.reduceAdd, Nat.reducePow, ↓reduceIte, eq_self, Int.reduceEq, Nat.reduceEqDiff, Nat.reduceMul, Nat.reduceLeDiff, Try.f88, ↓XH1, ↓XH2, ZC, eq_self, Nat.reduceLeDiff, eqB, neB, e1, e2, e3]
  unfold stOkL
  simp only
  cases decide (xn = [42]) <;> cases nameOkL xn <;> cases decide (xa = []) <;> cases decide (xt = []) <;> cases nameOkL xa <;> rfl
/-- spec.l12Ok: its loop -/
theorem L56 (id g c n l : Nat) (hn : n ≤ 2 ^ 40) : ∀ (r d : List St) (h : AH), d.length + r.length = n → (∀ x ∈ r, Fit x) → h[id]? = some (.row g 4 (stR (d ++ r))) →
    ∃ h', L56_0 l (slV id g n c) (iV d.length) h = some (.ret (.bool (r.all stOkL && inI n 1 5)) h') ∧ Keep h.length h h' := by
  intro r
  induction r with
  | nil =>
    intro d h hk hf e
    simp only [List.length_nil, Nat.add_zero] at hk
    have hlt : decide ((d.length : Int) < (n : Int)) = false := by rw [decide_eq_false_iff_not]; omega
    refine ⟨h, run_code Try.func56 rfl rfl ?_, Keep.refl _ _⟩
    simp only [↓XX, ↓XD, ↓YX, ZB, Nat.reduceAdd, Nat.reducePow, ↓reduceIte, eq_self, Int.reduceEq, Nat.reduceEqDiff, Nat.reduceMul, Nat.reduceLeDiff, Try.f56, lenV, hlt, r89, List.all_nil, Bool.true_and]
  | cons x r ih =>
    intro d h hk hf e
    simp only [List.length_cons] at hk
    have hlt : decide ((d.length : Int) < (n : Int)) = true := by rw [decide_eq_true_iff]; omega
    have hix : ixAddr (slV id g n c) (d.length : Int) 4 = some (pV id (d.length * 4) g) := by rw [ixAddr_sl (by omega)]; simp
    have hld : ldN h (pV id (d.length * 4) g) 4 = some (stC x) := ldN_st e
    have hw : IntKind.i64.wrap ((d.length : Int) + 1) = (((d ++ [x]).length : Nat) : Int) := natCast_succ_wrap (by omega) (by simp)
    have h88 := r88 x (hf x (by simp)) l h
    have kp : Keep h.length h (h ++ [.row 0 4 (stC x)]) := Keep.app _ _ (Nat.le_refl _)
    cases hq : stOkL x with
    | false =>
      rw [hq] at h88
      refine ⟨_, run_code Try.func56 rfl rfl ?_, kp⟩
      simp only [↓XX, ↓XD, ↓YX, ZB, Nat.reduceAdd, Nat.reducePow, ↓reduceIte, eq_self, Int.reduceEq, Nat.reduceEqDiff, Nat.reduceMul, Nat.reduceLeDiff, Try.f56, lenV, hlt, hix, hld, h88, Bool.not_false, List.all_cons, hq, Bool.false_and]
    | true =>
      rw [hq] at h88
      obtain ⟨h', i1, i2⟩ := ih (d ++ [x]) _ (by simp; omega) (fun y hy => hf y (by simp [hy])) (by rw [kp.get e (lt_of_get e)]; simp)
      refine ⟨h', run_code Try.func56 rfl rfl ?_, kp.trans (i2.le kp.1)⟩
      simp only [↓XX, ↓XD, ↓YX, ZB, Nat.reduceAdd, Nat.reducePow, ↓reduceIte, eq_self, Int.reduceEq, Nat.reduceEqDiff, Nat.reduceMul, Nat.reduceLeDiff, Try.f56, lenV, hlt, hix, hld, h88, Bool.not_true, List.all_cons, hq, Bool.true_and, hw]
      exact i1
theorem r56 (id g c l : Nat) (xs : List St) (h : AH) (hn : xs.length ≤ 2 ^ 40) (hf : ∀ x ∈ xs, Fit x) (e : h[id]? = some (.row g 4 (stR xs))) :
    ∃ h', run V0 (.fn 56) l [S (slV id g xs.length c)] h = some (.ret (.bool (xs.all stOkL && inI xs.length 1 5)) h') ∧ Keep h.length h h' := by
  obtain ⟨h', i1, i2⟩ := L56 id g c xs.length l hn xs [] h (by simp) hf (by simpa using e)
  refine ⟨h', run_fn Try.func56 rfl rfl rfl rfl ?_, i2⟩
  simp only [↓XX, ↓XD, ↓YX, ZB, Nat.reduceAdd, Nat.reducePow, ↓reduceIte, eq_self, Int.reduceEq, Nat.reduceEqDiff, Nat.reduceMul, Nat.reduceLeDiff, Try.f56]
  exact i1
theorem r21 (id g c l : Nat) (xs : List St) (h : AH) (hn : xs.length ≤ 2 ^ 40) (hf : ∀ x ∈ xs, Fit x) (e : h[id]? = some (.row g 4 (stR xs))) :
    ∃ h', run V0 (.fn 21) l [S (slV id g xs.length c)] h = some (.ret (.bool (xs.all stOkL && inI xs.length 1 5)) h') ∧ Keep h.length h h' := by
  obtain ⟨h', i1, i2⟩ := r56 id g c l xs h hn hf e
  refine ⟨h', run_fn Try.func21 rfl rfl rfl rfl ?_, i2⟩
  simp only [↓XX, ↓XD, ↓YX, ZB, Nat.reduceAdd, Nat.reducePow, ↓reduceIte, eq_self, Int.reduceEq, Nat.reduceEqDiff, Nat.reduceMul, Nat.reduceLeDiff, Try.f21, i1]
/-- Step.valid, its loop's end -/
def stOk2 (x : St) : Bool := (decide (x.name = [42]) || nameOkL x.name) && (decide ((x.text.length : Int) ≤ 10) && (nameOkL x.attr || (decide (x.attr = []) && decide (x.text = []))))
theorem val_of (n : Int) : (inI n 32 126 && !(n == 39)) = valI n := by
  unfold inI valI
  rw [show decide (n < 32) = !decide (32 ≤ n) by rw [← decide_not, decide_eq_decide]; omega, show decide (127 ≤ n) = !decide (n ≤ 126) by rw [← decide_not, decide_eq_decide]; omega]
  cases decide (32 ≤ n) <;> cases decide (n ≤ 126) <;> cases (n == 39) <;> rfl
/-- Step.valid: behind its loop -/
theorem X61 (x : St) (hx : Fit x) (l ib ix n : Nat) (h : AH) (hb : h[ib]? = some (.row 0 4 (stC x))) (k : Nat) (hk : n ≤ k) :
    ∃ h', L61_0 l (pV ib 0 0) (slV ix 0 n n) (iV n) (iV k) h = some (.ret (.bool (stOk2 x)) h') ∧ Keep h.length h h' := by
  obtain ⟨x1, x2, x3⟩ := hx
  have hlt : decide ((k : Int) < (n : Int)) = false := by rw [decide_eq_false_iff_not]; omega
  have l1 : ld h (pV ib 1 0) = some (sV x.name) := ld_of hb rfl
  obtain ⟨h1, a1, k1⟩ := r91 x.name x1 l h
  have hb1 := k1.get hb (lt_of_get hb)
  obtain ⟨h2, a2, k2⟩ := r91 x.attr x2 l h
  obtain ⟨h3, a3, k3⟩ := r91 x.attr x2 l h1
  have l2 : ld h (pV ib 2 0) = some (sV x.attr) := ld_of hb rfl
  have l3 : ld h (pV ib 3 0) = some (sV x.text) := ld_of hb rfl
  have m2 : ld h1 (pV ib 2 0) = some (sV x.attr) := ld_of hb1 rfl
  have m3 : ld h1 (pV ib 3 0) = some (sV x.text) := ld_of hb1 rfl
  have hb2 := k2.get hb (lt_of_get hb)
  have hb3 := k3.get hb1 (lt_of_get hb1)
  have n2 : ld h2 (pV ib 2 0) = some (sV x.attr) := ld_of hb2 rfl
  have n3 : ld h2 (pV ib 3 0) = some (sV x.text) := ld_of hb2 rfl
  have o2 : ld h3 (pV ib 2 0) = some (sV x.attr) := ld_of hb3 rfl
  have o3 : ld h3 (pV ib 3 0) = some (sV x.text) := ld_of hb3 rfl
  have ha : ∀ k, addOff (pV ib 0 0) k = some (pV ib (0 + k) 0) := fun _ => rfl
  have hsz : ((B x.text).size : Int) = x.text.length := by rw [size_B]
  unfold stOk2
  have hq2 : decide (((B x.text).size : Int) ≤ 10) = decide ((x.text.length : Int) ≤ 10) := by rw [size_B]
  cases q1 : decide (x.name = [42]) with
  | true =>
    cases q2 : decide ((x.text.length : Int) ≤ 10) with
    | false =>
      refine ⟨h, run_code Try.func61 rfl rfl ?_, Keep.refl _ _⟩
      simp only [↓XX, ↓XD, ↓YX, ZB, Nat.reduceAdd, Nat.reducePow, ↓reduceIte, eq_self, Int.reduceEq, Nat.reduceEqDiff, Nat.reduceMul, Nat.reduceLeDiff, Try.f61, hlt, ha, eqB, q1, hq2, q2, l1, l2, l3, Bool.true_and, Bool.false_and]
    | true =>
      refine ⟨h2, run_code Try.func61 rfl rfl ?_, k2⟩
      simp only [↓XX, ↓XD, ↓YX, ZB, Nat.reduceAdd, Nat.reducePow, ↓reduceIte, eq_self, Int.reduceEq, Nat.reduceEqDiff, Nat.reduceMul, Nat.reduceLeDiff, Try.f61, hlt, ha, eqB, q1, hq2, q2, l1, l2, l3, a2, n2, n3]
      cases nameOkL x.attr <;> cases decide (x.attr = []) <;> cases decide (x.text = []) <;> rfl
  | false =>
    cases q0 : nameOkL x.name with
    | false =>
      rw [q0] at a1
      refine ⟨h1, run_code Try.func61 rfl rfl ?_, k1⟩
      simp only [↓XX, ↓XD, ↓YX, ZB, Nat.reduceAdd, Nat.reducePow, ↓reduceIte, eq_self, Int.reduceEq, Nat.reduceEqDiff, Nat.reduceMul, Nat.reduceLeDiff, Try.f61, hlt, ha, eqB, q1, l1, a1, m2, m3, Bool.false_and]
    | true =>
      rw [q0] at a1
      cases q2 : decide ((x.text.length : Int) ≤ 10) with
      | false =>
        refine ⟨h1, run_code Try.func61 rfl rfl ?_, k1⟩
        simp only [↓XX, ↓XD, ↓YX, ZB, Nat.reduceAdd, Nat.reducePow, ↓reduceIte, eq_self, Int.reduceEq, Nat.reduceEqDiff, Nat.reduceMul, Nat.reduceLeDiff, Try.f61, hlt, ha, eqB, q1, hq2, q2, l1, a1, m2, m3, Bool.false_and, Bool.and_false]
      | true =>
        refine ⟨h3, run_code Try.func61 rfl rfl ?_, k1.trans (k3.le k1.1)⟩
        simp only [↓XX, ↓XD, ↓YX, ZB, Nat.reduceAdd, Nat.reducePow, ↓reduceIte, eq_self, Int.reduceEq, Nat.reduceEqDiff, Nat.reduceMul, Nat.reduceLeDiff, Try.f61, hlt, ha, eqB, q1, hq2, q2, l1, a1, m2, m3, a3, o2, o3]
        cases nameOkL x.attr <;> cases decide (x.attr = []) <;> cases decide (x.text = []) <;> rfl
/-- Step.valid: its loop -/
theorem L61 (x : St) (hx : Fit x) (l ib ix : Nat) (h : AH) (hb : h[ib]? = some (.row 0 4 (stC x))) (he : h[ix]? = some (.row 0 25769803777 (u8c x.text))) : ∀ (r d : Bs), x.text = d ++ r →
    ∃ h', L61_0 l (pV ib 0 0) (slV ix 0 x.text.length x.text.length) (iV x.text.length) (iV d.length) h = some (.ret (.bool (r.all (fun b => valI b.toNat) && stOk2 x)) h') ∧ Keep h.length h h' := by
  intro r
  induction r with
  | nil =>
    intro d hk
    rw [List.append_nil] at hk
    obtain ⟨h', i1, i2⟩ := X61 x hx l ib ix x.text.length h hb d.length (by rw [hk]; exact Nat.le_refl _)
    exact ⟨h', by rw [i1, List.all_nil, Bool.true_and], i2⟩
  | cons b r ih =>
    intro d hk
    obtain ⟨x1, x2, x3⟩ := hx
    have hlen : d.length + 1 ≤ x.text.length := by rw [hk]; simp
    have hlt : decide ((d.length : Int) < (x.text.length : Int)) = true := by rw [decide_eq_true_iff]; omega
    have hix : ixAddr (slV ix 0 x.text.length x.text.length) (d.length : Int) 1 = some (pV ix d.length 0) := by rw [ixAddr_sl (by omega)]; simp
    have hld : ld h (pV ix d.length 0) = some (.int .u8 b.toNat) := ld_of he (by rw [hk]; exact u8c_get d b r)
    have hw : IntKind.i64.wrap ((d.length : Int) + 1) = (((d ++ [b]).length : Nat) : Int) := natCast_succ_wrap (by omega) (by simp)
    have hw8 : IntKind.i64.wrap (b.toNat : Int) = (b.toNat : Int) := wrap64 (by have := b.toNat_lt; omega)
    obtain ⟨h', i1, i2⟩ := ih (d ++ [b]) (by rw [hk]; simp)
    have hv := val_of (b.toNat : Int)
    cases q1 : inI (b.toNat : Int) 32 126 with
    | false =>
      rw [q1, Bool.false_and] at hv
      refine ⟨h, run_code Try.func61 rfl rfl ?_, Keep.refl _ _⟩
      simp only [↓XX, ↓XD, ↓YX, ZB, Nat.reduceAdd, Nat.reducePow, ↓reduceIte, eq_self, Int.reduceEq, Nat.reduceEqDiff, Nat.reduceMul, Nat.reduceLeDiff, Try.f61, hlt, hix, hld, hw8, r58, q1, Bool.not_false, List.all_cons, ← hv, Bool.false_and]
    | true =>
      rw [q1, Bool.true_and] at hv
      cases q2 : ((b.toNat : Int) == 39) with
      | true =>
        rw [q2] at hv
        refine ⟨h, run_code Try.func61 rfl rfl ?_, Keep.refl _ _⟩
        simp only [↓XX, ↓XD, ↓YX, ZB, Nat.reduceAdd, Nat.reducePow, ↓reduceIte, eq_self, Int.reduceEq, Nat.reduceEqDiff, Nat.reduceMul, Nat.reduceLeDiff, Try.f61, hlt, hix, hld, hw8, r58, q1, q2, Bool.not_true, List.all_cons, ← hv, Bool.false_and]
      | false =>
        rw [q2] at hv
        refine ⟨h', run_code Try.func61 rfl rfl ?_, i2⟩
        simp only [↓XX, ↓XD, ↓YX, ZB, Nat.reduceAdd, Nat.reducePow, ↓reduceIte, eq_self, Int.reduceEq, Nat.reduceEqDiff, Nat.reduceMul, Nat.reduceLeDiff, Try.f61, hlt, hix, hld, hw8, r58, q1, q2, Bool.not_true, List.all_cons, ← hv, Bool.not_false, Bool.true_and, hw]
        exact i1
theorem stOk_two (x : St) : (x.text.all (fun b => valI b.toNat) && stOk2 x) = stOkL x := by
  unfold stOk2 stOkL valOkL
  by_cases ht : x.text = []
  · have h1 : x.text.all (fun b => valI b.toNat) = true := by rw [ht]; rfl
    have h2 : decide ((x.text.length : Int) ≤ 10) = true := by rw [ht]; rfl
    rw [h1, h2, decide_eq_true ht]
    cases decide (x.name = [42]) <;> cases nameOkL x.name <;> cases nameOkL x.attr <;> cases decide (x.attr = []) <;> rfl
  · rw [decide_eq_false ht]
    generalize x.text.all (fun b => valI b.toNat) = a
    generalize decide ((x.text.length : Int) ≤ 10) = b
    cases decide (x.name = [42]) <;> cases nameOkL x.name <;> cases nameOkL x.attr <;> cases decide (x.attr = []) <;> cases a <;> cases b <;> rfl
theorem r61 (x : St) (hx : Fit x) (l : Nat) (h : AH) : ∃ h', run V0 (.fn 61) l [S (stV x)] h = some (.ret (.bool (stOkL x)) h') ∧ Keep h.length h h' := by
  have hb : (h ++ [AObj.row 0 4 (stC x)] ++ [AObj.row 0 25769803777 (u8c x.text)])[h.length]? = some (.row 0 4 (stC x)) := by simp
  have he : (h ++ [AObj.row 0 4 (stC x)] ++ [AObj.row 0 25769803777 (u8c x.text)])[(h ++ [AObj.row 0 4 (stC x)]).length]? = some (.row 0 25769803777 (u8c x.text)) := by simp
  obtain ⟨h', i1, i2⟩ := L61 x hx l h.length (h ++ [AObj.row 0 4 (stC x)]).length _ hb he x.text [] rfl
  rw [stOk_two] at i1
  refine ⟨h', run_fn Try.func61 rfl rfl rfl rfl ?_, (Keep.app h ([AObj.row 0 4 (stC x)] ++ [AObj.row 0 25769803777 (u8c x.text)]) (Nat.le_refl _)).trans (by rw [← List.append_assoc]; exact i2.le (by simp))⟩
  simp only [↓XX, ↓XD, ↓YX, ZB, Nat.reduceAdd, Nat.reducePow, ↓reduceIte, eq_self, Int.reduceEq, Nat.reduceEqDiff, Nat.reduceMul, Nat.reduceLeDiff, Try.f61, ↓XH1, ↓XH2, ZC, eq_self, Nat.reduceLeDiff, lenV, newS]
  exact i1
theorem r60 (x : St) (hx : Fit x) (l : Nat) (h : AH) : ∃ h', run V0 (.fn 60) l [S (stV x)] h = some (.ret (.bool (!stOkL x)) h') ∧ Keep h.length h h' := by
  obtain ⟨h', i1, i2⟩ := r61 x hx l (h ++ [AObj.row 0 4 (stC x)])
  refine ⟨h', run_fn Try.func60 rfl rfl rfl rfl ?_, (Keep.app _ _ (Nat.le_refl _)).trans (i2.le (by simp))⟩
  simp only [↓XX, ↓XD, ↓YX, ZB, Nat.reduceAdd, Nat.reducePow, ↓reduceIte, eq_self, Int.reduceEq, Nat.reduceEqDiff, Nat.reduceMul, Nat.reduceLeDiff, Try.f60, ↓XH1, ↓XH2, ZC, eq_self, Nat.reduceLeDiff, i1]
end Go.Abs
namespace Go.Abs
open Go.Proofs
set_option maxRecDepth 100000
set_option linter.unusedSimpArgs false
set_option pp.maxSteps 20000

def badIx : List St → Nat → Int
  | [], _ => -1
  | x :: r, k => if stOkL x then badIx r (k + 1) else k
theorem badIx_neg : ∀ (r : List St) (k : Nat), decide (0 ≤ badIx r k) = !r.all stOkL
  | [], k => rfl
  | x :: r, k => by
    by_cases hq : stOkL x = true
    · have e1 : badIx (x :: r) k = badIx r (k + 1) := by simp only [badIx, if_pos hq]
      rw [e1, badIx_neg r (k + 1), List.all_cons, hq, Bool.true_and]
    · have e1 : badIx (x :: r) k = (k : Int) := by simp only [badIx, if_neg hq]
      rw [e1, List.all_cons, Bool.eq_false_iff.2 hq, Bool.false_and]
      exact decide_eq_true (by omega)
/-- slices.IndexFunc over steps: its loop -/
theorem L90 (id g c n l : Nat) (hn : n ≤ 2 ^ 40) : ∀ (r d : List St) (h : AH), d.length + r.length = n → (∀ x ∈ r, Fit x) → h[id]? = some (.row g 4 (stR (d ++ r))) →
    ∃ h', L90_0 l (slV id g n c) (fnV 60) (iV n) (iV d.length) h = some (.ret (iV (badIx r d.length)) h') ∧ Keep h.length h h' := by
  intro r
  induction r with
  | nil =>
    intro d h hk hf e
    simp only [List.length_nil, Nat.add_zero] at hk
    have hlt : decide ((d.length : Int) < (n : Int)) = false := by rw [decide_eq_false_iff_not]; omega
    refine ⟨h, run_code Try.func90 rfl rfl ?_, Keep.refl _ _⟩
    simp only [↓XX, ↓XD, ↓YX, ZB, Nat.reduceAdd, Nat.reducePow, ↓reduceIte, eq_self, Int.reduceEq, Nat.reduceEqDiff, Nat.reduceMul, Nat.reduceLeDiff, Try.f90, hlt, badIx]
  | cons x r ih =>
    intro d h hk hf e
    simp only [List.length_cons] at hk
    have hlt : decide ((d.length : Int) < (n : Int)) = true := by rw [decide_eq_true_iff]; omega
    have hix : ixAddr (slV id g n c) (d.length : Int) 4 = some (pV id (d.length * 4) g) := by rw [ixAddr_sl (by omega)]; simp
    have hld : ldN h (pV id (d.length * 4) g) 4 = some (stC x) := ldN_st e
    have hw : IntKind.i64.wrap ((d.length : Int) + 1) = (((d ++ [x]).length : Nat) : Int) := natCast_succ_wrap (by omega) (by simp)
    obtain ⟨h1, a1, k1⟩ := r60 x (hf x (by simp)) l h
    cases hq : stOkL x with
    | false =>
      rw [hq] at a1
      refine ⟨h1, run_code Try.func90 rfl rfl ?_, k1⟩
      simp only [↓XX, ↓XD, ↓YX, ZB, Nat.reduceAdd, Nat.reducePow, ↓reduceIte, eq_self, Int.reduceEq, Nat.reduceEqDiff, Nat.reduceMul, Nat.reduceLeDiff, Try.f90, hlt, hix, hld, a1, Bool.not_false, badIx, hq]
      rfl
    | true =>
      rw [hq] at a1
      obtain ⟨h', i1, i2⟩ := ih (d ++ [x]) h1 (by simp; omega) (fun y hy => hf y (by simp [hy])) (by rw [k1.get e (lt_of_get e)]; simp)
      refine ⟨h', run_code Try.func90 rfl rfl ?_, k1.trans (i2.le k1.1)⟩
      simp only [↓XX, ↓XD, ↓YX, ZB, Nat.reduceAdd, Nat.reducePow, ↓reduceIte, eq_self, Int.reduceEq, Nat.reduceEqDiff, Nat.reduceMul, Nat.reduceLeDiff, Try.f90, hlt, hix, hld, a1, Bool.not_true, badIx, hq, hw]
      rw [i1]; simp
theorem r90 (id g c l : Nat) (xs : List St) (h : AH) (hn : xs.length ≤ 2 ^ 40) (hf : ∀ x ∈ xs, Fit x) (e : h[id]? = some (.row g 4 (stR xs))) :
    ∃ h', run V0 (.fn 90) l [S (slV id g xs.length c), S (fnV 60)] h = some (.ret (iV (badIx xs 0)) h') ∧ Keep h.length h h' := by
  obtain ⟨h', i1, i2⟩ := L90 id g c xs.length l hn xs [] h (by simp) hf (by simpa using e)
  refine ⟨h', run_fn Try.func90 rfl rfl rfl rfl ?_, i2⟩
  simp only [↓XX, ↓XD, ↓YX, ZB, Nat.reduceAdd, Nat.reducePow, ↓reduceIte, eq_self, Int.reduceEq, Nat.reduceEqDiff, Nat.reduceMul, Nat.reduceLeDiff, Try.f90, lenV]
  exact i1
theorem r59 (id g c l : Nat) (xs : List St) (h : AH) (hn : xs.length ≤ 2 ^ 40) (hf : ∀ x ∈ xs, Fit x) (e : h[id]? = some (.row g 4 (stR xs))) :
    ∃ h', run V0 (.fn 59) l [S (slV id g xs.length c), S (fnV 60)] h = some (.ret (.bool (!xs.all stOkL)) h') ∧ Keep h.length h h' := by
  obtain ⟨h', i1, i2⟩ := r90 id g c l xs h hn hf e
  refine ⟨h', run_fn Try.func59 rfl rfl rfl rfl ?_, i2⟩
  simp only [↓XX, ↓XD, ↓YX, ZB, Nat.reduceAdd, Nat.reducePow, ↓reduceIte, eq_self, Int.reduceEq, Nat.reduceEqDiff, Nat.reduceMul, Nat.reduceLeDiff, Try.f59, i1, badIx_neg]
theorem r23 (id g c l : Nat) (xs : List St) (h : AH) (hn : xs.length ≤ 2 ^ 40) (hf : ∀ x ∈ xs, Fit x) (e : h[id]? = some (.row g 4 (stR xs))) :
    ∃ h', run V0 (.fn 23) l [S (slV id g xs.length c)] h = some (.ret (.bool (xs.all stOkL && inI xs.length 1 5)) h') ∧ Keep h.length h h' := by
  obtain ⟨h', i1, i2⟩ := r59 id g c l xs h hn hf e
  cases hq : inI xs.length 1 5 with
  | true =>
    refine ⟨h', run_fn Try.func23 rfl rfl rfl rfl ?_, i2⟩
    simp only [↓XX, ↓XD, ↓YX, ZB, Nat.reduceAdd, Nat.reducePow, ↓reduceIte, eq_self, Int.reduceEq, Nat.reduceEqDiff, Nat.reduceMul, Nat.reduceLeDiff, Try.f23, lenV, r58, hq, i1, Bool.not_not, Bool.and_true]
  | false =>
    refine ⟨h, run_fn Try.func23 rfl rfl rfl rfl ?_, Keep.refl _ _⟩
    simp only [↓XX, ↓XD, ↓YX, ZB, Nat.reduceAdd, Nat.reducePow, ↓reduceIte, eq_self, Int.reduceEq, Nat.reduceEqDiff, Nat.reduceMul, Nat.reduceLeDiff, Try.f23, lenV, r58, hq, Bool.and_false]
/-- FnExactPathOk, run -/
theorem r5 (v : Value) (xs : List St) (l : Nat) (h : AH) (hl : l ≤ h.length) (q : RdS h v xs) (hf0 : ∀ x ∈ xs, Fit63 x) (hn : xs.length ≤ 9223372036854775807) : ∃ h', run V0 (.fn 5) l [S v] h = some (.ret (.bool true) h') := by
  obtain ⟨h1, n, a1, k1, hz⟩ := r20 v l xs h q hf0 hn 1048576 (by omega)
  by_cases h0 : n < 0
  · refine ⟨h1, run_fn Try.func5 rfl rfl rfl rfl ?_⟩
    have hd : decide (n < 0) = true := decide_eq_true h0
    simp only [↓XX, ↓XD, ↓YX, ZB, Nat.reduceAdd, Nat.reducePow, ↓reduceIte, eq_self, Int.reduceEq, Nat.reduceEqDiff, Nat.reduceMul, Nat.reduceLeDiff, Try.f5, show (1048576 : Int) = ((1048576 : Nat) : Int) from rfl, a1, hd]
  · obtain ⟨hn2, hz2⟩ := hz (by omega)
    have hf : ∀ x ∈ xs, Fit x := fun x hx => by have := szL_fit xs _ hz2 x hx; exact ⟨by omega, by omega, by omega⟩
    have hd : decide (n < 0) = false := decide_eq_false h0
    have q1 := q.keep k1
    obtain ⟨i2, h2, a2, b2, c2, k2⟩ := r22 v l xs h1 q1 (by omega) (by have := k1.1; omega)
    have q2 := q1.keep k2
    obtain ⟨h3, a3, k3⟩ := r21 i2 0 xs.length l xs h2 (by omega) hf b2
    have q3 := q2.keep k3
    have hh3 : l ≤ h3.length := by have := k1.1; have := k2.1; have := k3.1; omega
    obtain ⟨i4, h4, a4, b4, c4, k4⟩ := r22 v l xs h3 q3 (by omega) hh3
    have q4 := q3.keep k4
    obtain ⟨h5, a5, k5⟩ := r23 i4 0 xs.length l xs h4 (by omega) hf b4
    have q5 := q4.keep k5
    have b5 := k5.get b4 (lt_of_get b4)
    have hh5 : l ≤ h5.length := by have := k4.1; have := k5.1; omega
    obtain ⟨i6, h6, a6, b6, c6, k6⟩ := r22 v l xs h5 q5 (by omega) hh5
    have b7 := k6.get b5 (lt_of_get b5)
    obtain ⟨h7, a7, k7⟩ := r24 i4 0 xs.length i6 0 xs.length l xs xs h6 (by omega) rfl b7 b6
    rw [decide_eq_true rfl] at a7
    refine ⟨h7, run_fn Try.func5 rfl rfl rfl rfl ?_⟩
    simp only [↓XX, ↓XD, ↓YX, ZB, Nat.reduceAdd, Nat.reducePow, ↓reduceIte, eq_self, Int.reduceEq, Nat.reduceEqDiff, Nat.reduceMul, Nat.reduceLeDiff, Try.f5, show (1048576 : Int) = ((1048576 : Nat) : Int) from rfl, a1, hd, a2, a3, a4, a5, boolNe, a6, a7, Bool.not_true]
end Go.Abs
namespace Go.Abs
open Go.Proofs
set_option maxRecDepth 100000
set_option linter.unusedSimpArgs false
set_option pp.maxSteps 20000

/-- a strings.Builder and what was written into it -/
def Bd (h : AH) (ib : Nat) (s : Bs) : Prop :=
  (s = [] ∧ (h[ib]? = some (.row 0 352187318272 [.pointer none, .slice none 0 0]) ∨ h[ib]? = some (.row 0 352187318272 [pV ib 0 0, .slice none 0 0]))) ∨
  ∃ id g, h[ib]? = some (.row 0 352187318272 [pV ib 0 0, slV id g s.length s.length]) ∧ h[id]? = some (.row g 25769803777 (u8c s)) ∧ ib < id ∧ s ≠ []
/-- what writing into a builder leaves -/
structure Wr (ib : Nat) (h h' : AH) : Prop where
  len : h.length ≤ h'.length
  low : ∀ j, j < ib → h'[j]? = h[j]?
  oth : ∀ j g sz cs, h[j]? = some (.row g sz cs) → j ≠ ib → sz ≠ 25769803777 → h'[j]? = some (.row g sz cs)
theorem Wr.refl (ib : Nat) (h : AH) : Wr ib h h := ⟨Nat.le_refl _, fun _ _ => rfl, fun _ _ _ _ e _ _ => e⟩
theorem Wr.trans {ib : Nat} {a b c : AH} (x : Wr ib a b) (y : Wr ib b c) : Wr ib a c :=
  ⟨Nat.le_trans x.len y.len, fun j hj => (y.low j hj).trans (x.low j hj), fun j g sz cs e h1 h2 => y.oth j g sz cs (x.oth j g sz cs e h1 h2) h1 h2⟩
theorem Wr.keep {ib : Nat} {h h' : AH} (x : Wr ib h h') {n : Nat} (hn : n ≤ ib) : Keep n h h' := ⟨x.len, fun j hj => x.low j (by omega)⟩
theorem Wr.of_keep {ib : Nat} {h h' : AH} (k : Keep h.length h h') (hi : ib ≤ h.length) : Wr ib h h' :=
  ⟨k.1, fun j hj => k.2 j (by omega), fun j g sz cs e _ _ => k.get e (lt_of_get e)⟩
theorem Bd.keep {h h' : AH} {ib : Nat} {s : Bs} (b : Bd h ib s) (k : Keep h.length h h') : Bd h' ib s := by
  rcases b with ⟨h0, h1 | h1⟩ | ⟨id, g, h1, h2, h3, h4⟩
  · exact .inl ⟨h0, .inl (k.get h1 (lt_of_get h1))⟩
  · exact .inl ⟨h0, .inr (k.get h1 (lt_of_get h1))⟩
  · exact .inr ⟨id, g, k.get h1 (lt_of_get h1), k.get h2 (lt_of_get h2), h3, h4⟩
theorem Bd.lt {h : AH} {ib : Nat} {s : Bs} (b : Bd h ib s) : ib < h.length := by
  rcases b with ⟨h0, h1 | h1⟩ | ⟨id, g, h1, h2, h3, h4⟩ <;> exact lt_of_get h1
theorem cc_fresh {h : AH} {ib l : Nat} {b : Value} (hl : l ≤ ib) (e : h[ib]? = some (.row 0 352187318272 [.pointer none, b])) :
    run V0 (.fn 92) l [S (pV ib 0 0)] h = some (.ret (.tuple #[]) (h.set ib (.row 0 352187318272 [pV ib 0 0, b]))) := by
  refine run_prim (vs := [pV ib 0 0]) (p := pCopyCheck 81) rfl ?_
  simp only [pCopyCheck, rowAt_of e]
  rw [if_pos ⟨True.intro, by decide, hl⟩]
theorem cc_used {h : AH} {ib l : Nat} {b : Value} (hl : l ≤ ib) (e : h[ib]? = some (.row 0 352187318272 [pV ib 0 0, b])) :
    run V0 (.fn 92) l [S (pV ib 0 0)] h = some (.ret (.tuple #[]) h) := by
  refine run_prim (vs := [pV ib 0 0]) (p := pCopyCheck 81) rfl ?_
  simp only [pCopyCheck, rowAt_of e]
  rw [if_pos ⟨True.intro, by decide, hl⟩]
  simp
theorem getElem?_set_ne' {h : AH} {i j : Nat} {o : AObj} (hne : i ≠ j) : (h.set i o)[j]? = h[j]? := List.getElem?_set_ne hne
/-- what copyCheck leaves -/
theorem cc_run {h : AH} {ib l : Nat} {s : Bs} (hl : l ≤ ib) (b : Bd h ib s) : ∃ h' bv, run V0 (.fn 92) l [S (pV ib 0 0)] h = some (.ret (.tuple #[]) h') ∧ h'[ib]? = some (.row 0 352187318272 [pV ib 0 0, bv]) ∧
    ((bv = .slice none 0 0 ∧ s = []) ∨ ∃ id g, bv = slV id g s.length s.length ∧ h'[id]? = some (.row g 25769803777 (u8c s)) ∧ ib < id ∧ s ≠ []) ∧ Wr ib h h' := by
  rcases b with ⟨h0, h1 | h1⟩ | ⟨id, g, h1, h2, h3, h4⟩
  · refine ⟨_, _, cc_fresh hl h1, get_set _ h1, .inl ⟨rfl, h0⟩, by simp, fun j hj => getElem?_set_ne' (by omega), fun j g sz cs e hj _ => by rw [getElem?_set_ne' (fun q => hj q.symm)]; exact e⟩
  · exact ⟨_, _, cc_used hl h1, h1, .inl ⟨rfl, h0⟩, Wr.refl _ _⟩
  · exact ⟨_, _, cc_used hl h1, h1, .inr ⟨id, g, rfl, h2, h3, h4⟩, Wr.refl _ _⟩
/-- WriteString -/
theorem r_WriteString {h : AH} {ib l : Nat} {s : Bs} (t : Bs) (hl : l ≤ ib) (b : Bd h ib s) (hlen : s.length + t.length ≤ 2 ^ 46) :
    ∃ h', run V0 (.fn 64) l [S (pV ib 0 0), S (sV t)] h = some (.ret (.tuple #[iV t.length, .nilIface]) h') ∧ Bd h' ib (s ++ t) ∧ Wr ib h h' := by
  obtain ⟨h1, bv, a1, b1, c1, w1⟩ := cc_run hl b
  have ha : addOff (pV ib 0 0) 1 = some (pV ib 1 0) := rfl
  have hn : nonNil (pV ib 0 0) = some (pV ib 0 0) := rfl
  have hld : ld h1 (pV ib 1 0) = some bv := ld_of b1 rfl
  have hsz : ((B t).size : Int) = t.length := by rw [size_B]
  have fin : ∀ v h2, app l h1 bv (sV t) 1 25769803777 1 = some (v, h2) → h2[ib]? = some (.row 0 352187318272 [pV ib 0 0, bv]) → oneCell v = true →
      run V0 (.fn 64) l [S (pV ib 0 0), S (sV t)] h = some (.ret (.tuple #[iV t.length, .nilIface]) (h2.set ib (.row 0 352187318272 [pV ib 0 0, v]))) := by
    intro v h2 e1 e2 e3
    have hst : stN l h2 (pV ib 1 0) [v] = some (h2.set ib (.row 0 352187318272 [pV ib 0 0, v])) := st1_of hl e2 (by simp) e3
    refine run_fn Try.func64 rfl rfl rfl rfl ?_
    simp only [↓XX, ↓XD, ↓YX, ZB, Nat.reduceAdd, Nat.reducePow, ↓reduceIte, eq_self, Int.reduceEq, Nat.reduceEqDiff, Nat.reduceMul, Nat.reduceLeDiff, Try.f64, a1, ha, hn, hld, e1, hst, hsz]
  rcases c1 with ⟨rfl, rfl⟩ | ⟨id, g, rfl, d1, d2, d3⟩
  · cases t with
    | nil =>
      refine ⟨_, fin _ _ (app_none (.inl rfl)) b1 rfl, .inl ⟨rfl, .inr ?_⟩, ?_⟩
      · exact get_set _ b1
      · rw [set_same b1]; exact w1
    | cons x t =>
      have hb1 := lt_of_get b1
      have e2 : (h1 ++ [AObj.row 0 25769803777 (u8c (x :: t))])[ib]? = some (.row 0 352187318272 [pV ib 0 0, .slice none 0 0]) := by rw [List.getElem?_append_left hb1, b1]
      refine ⟨_, fin _ _ (app_nil (by simp) (by simp at hlen ⊢; omega)) e2 rfl, .inr ⟨h1.length, 0, ?_, ?_, hb1, by simp⟩, ?_⟩
      · exact get_set _ e2
      · rw [getElem?_set_ne' (by omega)]; simp [u8c]
      · refine w1.trans ⟨by simp, fun j hj => ?_, fun j g sz cs e hj _ => ?_⟩
        · rw [getElem?_set_ne' (by omega), List.getElem?_append_left (by omega)]
        · rw [getElem?_set_ne' (fun q => hj q.symm), List.getElem?_append_left (lt_of_get e)]; exact e
  · cases t with
    | nil =>
      refine ⟨_, fin _ _ (app_none (.inr ⟨_, _, _, _, _, rfl⟩)) b1 rfl, .inr ⟨id, g, ?_, ?_, d2, by simpa using d3⟩, ?_⟩
      · rw [List.append_nil]; exact get_set _ b1
      · rw [set_same b1, List.append_nil]; exact d1
      · rw [set_same b1]; exact w1
    | cons x t =>
      have e2 : (h1.set id (AObj.row (g + 1) 25769803777 (u8c s ++ (x :: t).map fun b => .int .u8 b.toNat)))[ib]? = some (.row 0 352187318272 [pV ib 0 0, slV id g s.length s.length]) := by rw [getElem?_set_ne' (by omega), b1]
      have hap := app_str (lim := l) (t := x :: t) (by omega) d1 (n := s.length) (by rw [u8c_len]) (by simp) (by omega)
      refine ⟨_, fin _ _ hap e2 rfl, .inr ⟨id, g + 1, ?_, ?_, d2, by simp⟩, ?_⟩
      · rw [List.length_append]; exact get_set _ e2
      · rw [getElem?_set_ne' (by omega), get_set _ d1]
        simp [u8c]
      · refine w1.trans ⟨by simp, fun j hj => ?_, fun j g2 sz cs e hj hz => ?_⟩
        · rw [getElem?_set_ne' (by omega), getElem?_set_ne' (by omega)]
        · have : id ≠ j := by rintro rfl; rw [d1] at e; cases e; exact hz rfl
          rw [getElem?_set_ne' (fun q => hj q.symm), getElem?_set_ne' this]; exact e
/-- String: what was written; it is not written into again -/
theorem r_String {h : AH} {ib l : Nat} {s : Bs} (hl : l ≤ ib) (b : Bd h ib s) (hlen : s.length ≤ 2 ^ 46) :
    ∃ h', run V0 (.fn 65) l [S (pV ib 0 0)] h = some (.ret (sV s) h') ∧ Wr ib h h' := by
  have ha : addOff (pV ib 0 0) 1 = some (pV ib 1 0) := rfl
  have hn : nonNil (pV ib 0 0) = some (pV ib 0 0) := rfl
  rcases b with ⟨rfl, h1⟩ | ⟨id, g, h1, h2, h3, h4⟩
  · have hld : ld h (pV ib 1 0) = some (.slice none 0 0) := by rcases h1 with h1 | h1 <;> exact ld_of h1 rfl
    have hd : dataP (.slice none 0 0) = some (.pointer none) := rfl
    have hs : strRow l h (.pointer none) 0 5 = some (⟨#[]⟩, h) := rfl
    refine ⟨h, run_fn Try.func65 rfl rfl rfl rfl ?_, Wr.refl _ _⟩
    simp (disch := (refine _root_.id ?_; kernel_rfl)) only [↓XX, ↓XD, ↓YX, ZB, Nat.reduceAdd, Nat.reducePow, ↓reduceIte, eq_self, Int.reduceEq, Nat.reduceEqDiff, Nat.reduceMul, Nat.reduceLeDiff, Try.f65, ha, hn, hld, hd, hs, lenV, Int.natCast_zero]
    try rfl
  · have hld : ld h (pV ib 1 0) = some (slV id g s.length s.length) := ld_of h1 rfl
    have h0 : 0 < s.length := List.length_pos_iff.2 h4
    have hd : dataP (slV id g s.length s.length) = some (pV id 0 g) := by simp only [dataP]; rw [if_pos h0]
    have hs : strRow l h (pV id 0 g) (s.length : Int) 5 = some (B s, h.set id (.row (g + 1) 0 [])) := strRow_of (by omega) (e := 5) h2 rfl h0 (by omega)
    refine ⟨h.set id (.row (g + 1) 0 []), run_fn Try.func65 rfl rfl rfl rfl ?_, by simp, fun j hj => getElem?_set_ne' (by omega), fun j g2 sz cs e hj hz => ?_⟩
    · simp (disch := (refine _root_.id ?_; kernel_rfl)) only [↓XX, ↓XD, ↓YX, ZB, Nat.reduceAdd, Nat.reducePow, ↓reduceIte, eq_self, Int.reduceEq, Nat.reduceEqDiff, Nat.reduceMul, Nat.reduceLeDiff, Try.f65, ha, hn, hld, hd, hs, lenV]
      try rfl
    · have : id ≠ j := by rintro rfl; rw [h2] at e; cases e; exact hz rfl
      rw [getElem?_set_ne' this]; exact e
end Go.Abs
namespace Go.Abs
open Go.Proofs
set_option maxRecDepth 100000
set_option linter.unusedSimpArgs false
set_option pp.maxSteps 20000

/-! ### the text of a path -/
def stSep (i : Nat) (x : St) : Bs := if x.deep then [47, 47] else if 0 < i then [47] else []
def stTail (x : St) : Bs := if x.attr = [] then [] else [91] ++ x.attr ++ [61, 39] ++ x.text ++ [39, 93]
def stText (i : Nat) (x : St) : Bs := stSep i x ++ x.name ++ stTail x
def pathL : List St → Nat → Bs
  | [], _ => []
  | x :: r, i => stText i x ++ pathL r (i + 1)
def Fit20 (x : St) : Prop := x.name.length ≤ 2 ^ 20 ∧ x.attr.length ≤ 2 ^ 20 ∧ x.text.length ≤ 2 ^ 20
theorem stSep_len (i : Nat) (x : St) : (stSep i x).length ≤ 2 := by
  unfold stSep
  split
  · simp
  · split <;> simp
theorem stTail_len (x : St) : (stTail x).length ≤ x.attr.length + x.text.length + 5 := by
  unfold stTail
  split
  · simp
  · simp; omega
theorem pathL_len : ∀ (r : List St) (i : Nat), (∀ x ∈ r, Fit20 x) → (pathL r i).length ≤ r.length * 2 ^ 22
  | [], i, _ => by simp [pathL]
  | x :: r, i, h => by
    have ih := pathL_len r (i + 1) (fun y hy => h y (by simp [hy]))
    obtain ⟨f1, f2, f3⟩ := h x (by simp)
    have h1 := stSep_len i x
    have h2 := stTail_len x
    simp only [pathL, stText, List.length_append, List.length_cons]
    rw [Nat.succ_mul]
    omega
theorem cat_of {a b c : Bs} (e : a ++ b = c) (h : c.length ≤ 2 ^ 62) : catA (B a) (B b) = some (B c) := by
  subst e
  exact catA_B a b (by simpa using h)
theorem gt0 (i : Nat) : decide ((0 : Int) < (i : Int)) = decide (0 < i) := by rw [decide_eq_decide]; omega
/-- l12Put: its loop -/
theorem L63 (id g c n l : Nat) (hn : n ≤ 2 ^ 40) : ∀ (r d : List St) (acc : Bs) (h : AH), d.length + r.length = n → l ≤ h.length → h[id]? = some (.row g 4 (stR (d ++ r))) → acc.length + (pathL r d.length).length ≤ 2 ^ 46 →
    ∃ h', L63_0 l (slV id g n c) (sV acc) (iV d.length) h = some (.ret (sV (acc ++ pathL r d.length)) h') ∧ Keep h.length h h' := by
  intro r
  induction r with
  | nil =>
    intro d acc h hk hl e hb
    simp only [List.length_nil, Nat.add_zero] at hk
    have hlt : decide ((d.length : Int) < (n : Int)) = false := by rw [decide_eq_false_iff_not]; omega
    refine ⟨h, run_code Try.func63 rfl rfl ?_, Keep.refl _ _⟩
    simp only [↓XX, ↓XD, ↓YX, ZB, Nat.reduceAdd, Nat.reducePow, ↓reduceIte, eq_self, Int.reduceEq, Nat.reduceEqDiff, Nat.reduceMul, Nat.reduceLeDiff, Try.f63, lenV, hlt, pathL, List.append_nil]
  | cons x r ih =>
    intro d acc h hk hl e hb
    simp only [List.length_cons] at hk
    simp only [pathL, List.length_append] at hb
    have hlt : decide ((d.length : Int) < (n : Int)) = true := by rw [decide_eq_true_iff]; omega
    have hix : ixAddr (slV id g n c) (d.length : Int) 4 = some (pV id (d.length * 4) g) := by rw [ixAddr_sl (by omega)]; simp
    have hld : ldN h (pV id (d.length * 4) g) 4 = some (stC x) := ldN_st e
    have hw : IntKind.i64.wrap ((d.length : Int) + 1) = (((d ++ [x]).length : Nat) : Int) := natCast_succ_wrap (by omega) (by simp)
    have kp : Keep h.length h (h ++ [.row 0 4 (stC x)]) := Keep.app _ _ (Nat.le_refl _)
    have hx : (stText d.length x).length = (stSep d.length x).length + x.name.length + (stTail x).length := by simp [stText]; omega
    rw [hx] at hb
    obtain ⟨h', i1, i2⟩ := ih (d ++ [x]) (acc ++ stText d.length x) (h ++ [.row 0 4 (stC x)]) (by simp; omega) (by have := kp.1; omega) (by rw [kp.get e (lt_of_get e)]; simp) (by rw [List.length_append, hx]; simp only [List.length_append, List.length_cons, List.length_nil, Nat.zero_add] at hb ⊢; omega)
    have hpl : pathL (x :: r) d.length = stText d.length x ++ pathL r (d ++ [x]).length := by simp [pathL]
    rw [hpl, ← List.append_assoc]
    refine ⟨h', ?_, kp.trans (i2.le kp.1)⟩
    have key : ∀ acc2 : Bs, acc2 = acc ++ stSep d.length x → acc2.length ≤ 2 ^ 47 → ∃ t, catA (B acc2) (B x.name) = some (B (acc2 ++ x.name)) ∧ (x.attr ≠ [] → ∃ a1 a2 a3 a4, catA (B (acc2 ++ x.name)) (B [91]) = some (B a1) ∧ catA (B a1) (B x.attr) = some (B a2) ∧ catA (B a2) (B [61, 39]) = some (B a3) ∧ catA (B a3) (B x.text) = some (B a4) ∧ catA (B a4) (B [39, 93]) = some (B t)) ∧
        (x.attr = [] → t = acc2 ++ x.name) ∧ t = acc ++ stText d.length x := by
      intro acc2 h2 hb2
      by_cases ha : x.attr = []
      · refine ⟨acc2 ++ x.name, cat_of rfl (by simp; omega), fun q => absurd ha q, fun _ => rfl, ?_⟩
        simp [stText, h2, stTail, ha]
      · have ht : stTail x = [91] ++ x.attr ++ [61, 39] ++ x.text ++ [39, 93] := by simp [stTail, ha]
        rw [ht] at hb
        simp only [List.length_append, List.length_cons, List.length_nil] at hb
        refine ⟨acc2 ++ x.name ++ [91] ++ x.attr ++ [61, 39] ++ x.text ++ [39, 93], cat_of rfl (by simp; omega), fun _ => ⟨_, _, _, _, cat_of rfl (by simp; omega), cat_of rfl (by simp; omega), cat_of rfl (by simp; omega), cat_of rfl (by simp; omega), cat_of rfl (by simp; omega)⟩, fun q => absurd q ha, ?_⟩
        simp [stText, h2, ht]
    have hlt2 : l ≤ h.length := hl
    cases hdp : x.deep with
    | true =>
      have hsx : stC x = [.bool true, sV x.name, sV x.attr, sV x.text] := by simp [hdp]
      have hs : stSep d.length x = [47, 47] := by simp [stSep, hdp]
      obtain ⟨t, c1, c2, c3, c4⟩ := key (acc ++ [47, 47]) (by rw [hs]) (by simp; omega)
      have c0 : catA (B acc) (B [47, 47]) = some (B (acc ++ [47, 47])) := cat_of rfl (by simp; omega)
      rw [← c4] at i1 ⊢
      refine run_code Try.func63 rfl rfl ?_
      rw [hsx] at hld i1
      cases ha : decide (x.attr = []) with
      | true =>
        have ha' := of_decide_eq_true ha
        have c3 := c3 ha'
        subst c3
        simp only [↓XX, ↓XD, ↓YX, ZB, Nat.reduceAdd, Nat.reducePow, ↓reduceIte, eq_self, Int.reduceEq, Nat.reduceEqDiff, Nat.reduceMul, Nat.reduceLeDiff, Try.f63, ↓hld, ↓XH1, ↓XH2, ZC, eq_self, Nat.reduceLeDiff, lenV, hlt, hix, hl, hw, c0, c1, neB, ha, Bool.not_true]
        exact i1
      | false =>
        obtain ⟨a1, a2, a3, a4, d1, d2, d3, d4, d5⟩ := c2 (of_decide_eq_false ha)
        simp only [↓XX, ↓XD, ↓YX, ZB, Nat.reduceAdd, Nat.reducePow, ↓reduceIte, eq_self, Int.reduceEq, Nat.reduceEqDiff, Nat.reduceMul, Nat.reduceLeDiff, Try.f63, ↓hld, ↓XH1, ↓XH2, ZC, eq_self, Nat.reduceLeDiff, lenV, hlt, hix, hl, hw, c0, c1, neB, ha, Bool.not_false, d1, d2, d3, d4, d5]
        exact i1
    | false =>
      have hsx : stC x = [.bool false, sV x.name, sV x.attr, sV x.text] := by simp [hdp]
      cases h0 : decide (0 < d.length) with
      | true =>
        have hs : stSep d.length x = [47] := by simp only [stSep, hdp]; simp [of_decide_eq_true h0]
        obtain ⟨t, c1, c2, c3, c4⟩ := key (acc ++ [47]) (by rw [hs]) (by simp; omega)
        have c0 : catA (B acc) (B [47]) = some (B (acc ++ [47])) := cat_of rfl (by simp; omega)
        rw [← c4] at i1 ⊢
        refine run_code Try.func63 rfl rfl ?_
        rw [hsx] at hld i1
        cases ha : decide (x.attr = []) with
        | true =>
          have ha' := of_decide_eq_true ha
          have c3 := c3 ha'
          subst c3
          simp only [↓XX, ↓XD, ↓YX, ZB, Nat.reduceAdd, Nat.reducePow, ↓reduceIte, eq_self, Int.reduceEq, Nat.reduceEqDiff, Nat.reduceMul, Nat.reduceLeDiff, Try.f63, ↓hld, ↓XH1, ↓XH2, ZC, eq_self, Nat.reduceLeDiff, lenV, hlt, hix, hl, hw, gt0, h0, c0, c1, neB, ha, Bool.not_true]
          exact i1
        | false =>
          obtain ⟨a1, a2, a3, a4, d1, d2, d3, d4, d5⟩ := c2 (of_decide_eq_false ha)
          simp only [↓XX, ↓XD, ↓YX, ZB, Nat.reduceAdd, Nat.reducePow, ↓reduceIte, eq_self, Int.reduceEq, Nat.reduceEqDiff, Nat.reduceMul, Nat.reduceLeDiff, Try.f63, ↓hld, ↓XH1, ↓XH2, ZC, eq_self, Nat.reduceLeDiff, lenV, hlt, hix, hl, hw, gt0, h0, c0, c1, neB, ha, Bool.not_false, d1, d2, d3, d4, d5]
          exact i1
      | false =>
        have hs : stSep d.length x = [] := by simp only [stSep, hdp]; simp [of_decide_eq_false h0]
        obtain ⟨t, c1, c2, c3, c4⟩ := key acc (by rw [hs, List.append_nil]) (by omega)
        rw [← c4] at i1 ⊢
        refine run_code Try.func63 rfl rfl ?_
        rw [hsx] at hld i1
        cases ha : decide (x.attr = []) with
        | true =>
          have ha' := of_decide_eq_true ha
          have c3 := c3 ha'
          subst c3
          simp only [↓XX, ↓XD, ↓YX, ZB, Nat.reduceAdd, Nat.reducePow, ↓reduceIte, eq_self, Int.reduceEq, Nat.reduceEqDiff, Nat.reduceMul, Nat.reduceLeDiff, Try.f63, ↓hld, ↓XH1, ↓XH2, ZC, eq_self, Nat.reduceLeDiff, lenV, hlt, hix, hl, hw, gt0, h0, c1, neB, ha, Bool.not_true]
          exact i1
        | false =>
          obtain ⟨a1, a2, a3, a4, d1, d2, d3, d4, d5⟩ := c2 (of_decide_eq_false ha)
          simp only [↓XX, ↓XD, ↓YX, ZB, Nat.reduceAdd, Nat.reducePow, ↓reduceIte, eq_self, Int.reduceEq, Nat.reduceEqDiff, Nat.reduceMul, Nat.reduceLeDiff, Try.f63, ↓hld, ↓XH1, ↓XH2, ZC, eq_self, Nat.reduceLeDiff, lenV, hlt, hix, hl, hw, gt0, h0, c1, neB, ha, Bool.not_false, d1, d2, d3, d4, d5]
          exact i1
theorem r63 (id g c l : Nat) (xs : List St) (h : AH) (hl : l ≤ h.length) (hn : xs.length ≤ 2 ^ 40) (e : h[id]? = some (.row g 4 (stR xs))) (hb : (pathL xs 0).length ≤ 2 ^ 46) :
    ∃ h', run V0 (.fn 63) l [S (slV id g xs.length c)] h = some (.ret (sV (pathL xs 0)) h') ∧ Keep h.length h h' := by
  obtain ⟨h', i1, i2⟩ := L63 id g c xs.length l hn xs [] [] h (by simp) hl (by simpa using e) (by simpa using hb)
  refine ⟨h', run_fn Try.func63 rfl rfl rfl rfl ?_, i2⟩
  simp only [↓XX, ↓XD, ↓YX, ZB, Nat.reduceAdd, Nat.reducePow, ↓reduceIte, eq_self, Int.reduceEq, Nat.reduceEqDiff, Nat.reduceMul, Nat.reduceLeDiff, Try.f63]
  exact i1
def okL (xs : List St) : Bool := xs.all stOkL && inI xs.length 1 5
def putL (xs : List St) : Bs := if okL xs then pathL xs 0 else []
theorem r25 (id g c l : Nat) (xs : List St) (h : AH) (hl : l ≤ h.length) (hn : xs.length ≤ 2 ^ 40) (hf : ∀ x ∈ xs, Fit x) (e : h[id]? = some (.row g 4 (stR xs))) (hb : (pathL xs 0).length ≤ 2 ^ 46) :
    ∃ h', run V0 (.fn 25) l [S (slV id g xs.length c)] h = some (.ret (sV (putL xs)) h') ∧ Keep h.length h h' := by
  obtain ⟨h1, a1, k1⟩ := r56 id g c l xs h hn hf e
  have : (xs.all stOkL && inI xs.length 1 5) = okL xs := rfl
  rw [this] at a1
  unfold putL
  cases hq : okL xs with
  | false =>
    rw [hq] at a1
    refine ⟨h1, run_fn Try.func25 rfl rfl rfl rfl ?_, k1⟩
    simp only [↓XX, ↓XD, ↓YX, ZB, Nat.reduceAdd, Nat.reducePow, ↓reduceIte, eq_self, Int.reduceEq, Nat.reduceEqDiff, Nat.reduceMul, Nat.reduceLeDiff, Try.f25, a1, Bool.not_false]
    try rfl
  | true =>
    rw [hq] at a1
    obtain ⟨h2, a2, k2⟩ := r63 id g c l xs h1 (by have := k1.1; omega) hn (k1.get e (lt_of_get e)) hb
    refine ⟨h2, run_fn Try.func25 rfl rfl rfl rfl ?_, k1.trans (k2.le k1.1)⟩
    simp only [↓XX, ↓XD, ↓YX, ZB, Nat.reduceAdd, Nat.reducePow, ↓reduceIte, eq_self, Int.reduceEq, Nat.reduceEqDiff, Nat.reduceMul, Nat.reduceLeDiff, Try.f25, a1, Bool.not_true, a2]
    try rfl
end Go.Abs
namespace Go.Abs
open Go.Proofs
set_option maxRecDepth 100000
set_option linter.unusedSimpArgs false
set_option pp.maxSteps 20000

/-- PathPut: its loop -/
theorem L26 (id g c n l ib : Nat) (hn : n ≤ 2 ^ 40) (hl : l ≤ ib) (hid : id < ib) : ∀ (r d : List St) (acc : Bs) (h : AH), d.length + r.length = n → Bd h ib acc → h[id]? = some (.row g 4 (stR (d ++ r))) → acc.length + (pathL r d.length).length ≤ 2 ^ 45 →
    ∃ h', L26_0 l (pV ib 0 0) (slV id g n c) (iV n) (iV d.length) h = some (.ret (sV (acc ++ pathL r d.length)) h') ∧ Wr ib h h' := by
  intro r
  induction r with
  | nil =>
    intro d acc h hk b e hb
    simp only [List.length_nil, Nat.add_zero] at hk
    have hlt : decide ((d.length : Int) < (n : Int)) = false := by rw [decide_eq_false_iff_not]; omega
    obtain ⟨h1, a1, w1⟩ := r_String hl b (by omega)
    refine ⟨h1, run_code Try.func26 rfl rfl ?_, w1⟩
    simp only [↓XX, ↓XD, ↓YX, ZB, Nat.reduceAdd, Nat.reducePow, ↓reduceIte, eq_self, Int.reduceEq, Nat.reduceEqDiff, Nat.reduceMul, Nat.reduceLeDiff, Try.f26, hlt, a1, pathL, List.append_nil]
  | cons x r ih =>
    intro d acc h hk b e hb
    simp only [List.length_cons] at hk
    simp only [pathL, List.length_append] at hb
    have hlt : decide ((d.length : Int) < (n : Int)) = true := by rw [decide_eq_true_iff]; omega
    have hix : ixAddr (slV id g n c) (d.length : Int) 4 = some (pV id (d.length * 4) g) := by rw [ixAddr_sl (by omega)]; simp
    have hld : ldN h (pV id (d.length * 4) g) 4 = some (stC x) := ldN_st e
    have hw : IntKind.i64.wrap ((d.length : Int) + 1) = (((d ++ [x]).length : Nat) : Int) := natCast_succ_wrap (by omega) (by simp)
    have kp : Keep h.length h (h ++ [.row 0 4 (stC x)]) := Keep.app _ _ (Nat.le_refl _)
    have hib := b.lt
    have w0 : Wr ib h (h ++ [.row 0 4 (stC x)]) := Wr.of_keep kp (by omega)
    have hx : (stText d.length x).length = (stSep d.length x).length + x.name.length + (stTail x).length := by simp [stText]; omega
    rw [hx] at hb
    have hpl : pathL (x :: r) d.length = stText d.length x ++ pathL r (d ++ [x]).length := by simp [pathL]
    have b0 := b.keep kp
    have ebx : (h ++ [AObj.row 0 4 (stC x)])[h.length]? = some (.row 0 4 (stC x)) := by simp
    have hbx : h.length ≠ ib := by omega
    -- what is done behind the separator
    have rest : ∀ (acc2 : Bs) (h2 : AH), acc2 = acc ++ stSep d.length x → Bd h2 ib acc2 → Wr ib (h ++ [AObj.row 0 4 (stC x)]) h2 → ∃ h3 rr h4, run V0 (.fn 64) l [S (pV ib 0 0), S (sV x.name)] h2 = some (.ret (.tuple #[iV x.name.length, .nilIface]) h3) ∧ ld h2 (pV h.length 1 0) = some (sV x.name) ∧ ld h3 (pV h.length 2 0) = some (sV x.attr) ∧ ld h3 (pV h.length 3 0) = some (sV x.text) ∧
        (x.attr ≠ [] → ∃ a1 a2 a3 a4, catA (B [91]) (B x.attr) = some (B a1) ∧ catA (B a1) (B [61, 39]) = some (B a2) ∧ catA (B a2) (B x.text) = some (B a3) ∧ catA (B a3) (B [39, 93]) = some (B a4) ∧ run V0 (.fn 64) l [S (pV ib 0 0), S (sV a4)] h3 = some (.ret rr h4)) ∧ (x.attr = [] → h4 = h3) ∧ (∃ n : Int, rr = .tuple #[iV n, .nilIface]) ∧
        ∃ h', L26_0 l (pV ib 0 0) (slV id g n c) (iV n) (iV (d ++ [x]).length) h4 = some (.ret (sV (acc ++ pathL (x :: r) d.length)) h') ∧ Wr ib h h' := by
      intro acc2 h2 q1 q2 q3
      have hl2 : acc2.length ≤ acc.length + (stSep d.length x).length := by rw [q1]; simp
      obtain ⟨h3, a3, b3, w3⟩ := r_WriteString x.name hl q2 (by omega)
      have e2 := q3.oth _ _ _ _ ebx hbx (by decide)
      have e3 := w3.oth _ _ _ _ e2 hbx (by decide)
      have el : (h ++ [AObj.row 0 4 (stC x)])[id]? = some (.row g 4 (stR (d ++ x :: r))) := kp.get e (lt_of_get e)
      have el3 := w3.oth _ _ _ _ (q3.oth _ _ _ _ el (by omega) (by decide)) (by omega) (by decide)
      by_cases ha : x.attr = []
      · obtain ⟨h', i1, i2⟩ := ih (d ++ [x]) (acc2 ++ x.name) h3 (by simp; omega) b3 (by rw [el3]; simp) (by simp only [List.length_append, List.length_cons, List.length_nil, Nat.zero_add]; omega)
        refine ⟨h3, .tuple #[iV 0, .nilIface], h3, a3, ld_of e2 rfl, ld_of e3 rfl, ld_of e3 rfl, fun q => absurd ha q, fun _ => rfl, ⟨0, rfl⟩, h', ?_, w0.trans (q3.trans (w3.trans i2))⟩
        rw [i1, hpl, q1, stText]
        simp [stTail, ha]
      · have ht : stTail x = [91] ++ x.attr ++ [61, 39] ++ x.text ++ [39, 93] := by simp [stTail, ha]
        have htl : (stTail x).length = x.attr.length + x.text.length + 5 := by rw [ht]; simp; omega
        obtain ⟨h4, a4, b4, w4⟩ := r_WriteString ([91] ++ x.attr ++ [61, 39] ++ x.text ++ [39, 93]) hl b3 (by rw [← ht]; simp only [List.length_append]; omega)
        have el4 := w4.oth _ _ _ _ el3 (by omega) (by decide)
        obtain ⟨h', i1, i2⟩ := ih (d ++ [x]) (acc2 ++ x.name ++ ([91] ++ x.attr ++ [61, 39] ++ x.text ++ [39, 93])) h4 (by simp; omega) b4 (by rw [el4]; simp) (by rw [← ht]; simp only [List.length_append, List.length_cons, List.length_nil, Nat.zero_add]; omega)
        refine ⟨h3, _, h4, a3, ld_of e2 rfl, ld_of e3 rfl, ld_of e3 rfl, fun _ => ⟨_, _, _, _, cat_of rfl (by simp; omega), cat_of rfl (by simp; omega), cat_of rfl (by simp; omega), cat_of rfl (by simp; omega), a4⟩, fun q => absurd q ha, ⟨_, rfl⟩, h', ?_, w0.trans (q3.trans (w3.trans (w4.trans i2)))⟩
        rw [i1, hpl, q1, stText, ht]
        simp
    cases hdp : x.deep with
    | true =>
      have hsx : stC x = [.bool true, sV x.name, sV x.attr, sV x.text] := by simp [hdp]
      obtain ⟨h2, a2, b2, w2⟩ := r_WriteString (ib := ib) [47, 47] hl b0 (by simp; omega)
      obtain ⟨h3, rr, h4, c1, c2, c3, c4, c5, c6, ⟨nn, c8⟩, h', c7, wz⟩ := rest (acc ++ [47, 47]) h2 (by simp [stSep, hdp]) b2 w2
      refine ⟨h', run_code Try.func26 rfl rfl ?_, wz⟩
      rw [hsx] at hld a2
      subst c8
      have hl1 : l ≤ h.length := by omega
      cases ha : decide (x.attr = []) with
      | true =>
        have c6 := c6 (of_decide_eq_true ha)
        subst c6
        simp only [↓hld, ↓c2, ↓c3, ↓c4, ↓XX, ↓XD, ↓YX, ZB, Nat.reduceAdd, Nat.reducePow, ↓reduceIte, eq_self, Int.reduceEq, Nat.reduceEqDiff, Nat.reduceMul, Nat.reduceLeDiff, Try.f26, ↓XH1, ↓XH2, ZC, eq_self, Nat.reduceLeDiff, hlt, hix, hw, hl1, a2, c1, neB, ha, Bool.not_true, c7]
      | false =>
        obtain ⟨a1, a2', a3, a4, d1, d2, d3, d4, d5⟩ := c5 (of_decide_eq_false ha)
        simp only [↓hld, ↓c2, ↓c3, ↓c4, ↓XX, ↓XD, ↓YX, ZB, Nat.reduceAdd, Nat.reducePow, ↓reduceIte, eq_self, Int.reduceEq, Nat.reduceEqDiff, Nat.reduceMul, Nat.reduceLeDiff, Try.f26, ↓XH1, ↓XH2, ZC, eq_self, Nat.reduceLeDiff, hlt, hix, hw, hl1, a2, c1, neB, ha, Bool.not_false, d1, d2, d3, d4, d5, c7]
    | false =>
      have hsx : stC x = [.bool false, sV x.name, sV x.attr, sV x.text] := by simp [hdp]
      have hl1 : l ≤ h.length := by omega
      cases h0 : decide (0 < d.length) with
      | true =>
        obtain ⟨h2, a2, b2, w2⟩ := r_WriteString (ib := ib) [47] hl b0 (by simp; omega)
        obtain ⟨h3, rr, h4, c1, c2, c3, c4, c5, c6, ⟨nn, c8⟩, h', c7, wz⟩ := rest (acc ++ [47]) h2 (by simp only [stSep, hdp]; simp [of_decide_eq_true h0]) b2 w2
        refine ⟨h', run_code Try.func26 rfl rfl ?_, wz⟩
        rw [hsx] at hld a2
        subst c8
        cases ha : decide (x.attr = []) with
        | true =>
          have c6 := c6 (of_decide_eq_true ha)
          subst c6
          simp only [↓hld, ↓c2, ↓c3, ↓c4, ↓XX, ↓XD, ↓YX, ZB, Nat.reduceAdd, Nat.reducePow, ↓reduceIte, eq_self, Int.reduceEq, Nat.reduceEqDiff, Nat.reduceMul, Nat.reduceLeDiff, Try.f26, ↓XH1, ↓XH2, ZC, eq_self, Nat.reduceLeDiff, hlt, hix, hw, hl1, a2, c1, gt0, h0, neB, ha, Bool.not_true, c7]
        | false =>
          obtain ⟨a1, a2', a3, a4, d1, d2, d3, d4, d5⟩ := c5 (of_decide_eq_false ha)
          simp only [↓hld, ↓c2, ↓c3, ↓c4, ↓XX, ↓XD, ↓YX, ZB, Nat.reduceAdd, Nat.reducePow, ↓reduceIte, eq_self, Int.reduceEq, Nat.reduceEqDiff, Nat.reduceMul, Nat.reduceLeDiff, Try.f26, ↓XH1, ↓XH2, ZC, eq_self, Nat.reduceLeDiff, hlt, hix, hw, hl1, a2, c1, gt0, h0, neB, ha, Bool.not_false, d1, d2, d3, d4, d5, c7]
      | false =>
        obtain ⟨h3, rr, h4, c1, c2, c3, c4, c5, c6, ⟨nn, c8⟩, h', c7, wz⟩ := rest acc (h ++ [AObj.row 0 4 (stC x)]) (by simp only [stSep, hdp]; simp [of_decide_eq_false h0]) b0 (Wr.refl _ _)
        refine ⟨h', run_code Try.func26 rfl rfl ?_, wz⟩
        rw [hsx] at hld c1 c2
        subst c8
        cases ha : decide (x.attr = []) with
        | true =>
          have c6 := c6 (of_decide_eq_true ha)
          subst c6
          simp only [↓hld, ↓c2, ↓c3, ↓c4, ↓XX, ↓XD, ↓YX, ZB, Nat.reduceAdd, Nat.reducePow, ↓reduceIte, eq_self, Int.reduceEq, Nat.reduceEqDiff, Nat.reduceMul, Nat.reduceLeDiff, Try.f26, ↓XH1, ↓XH2, ZC, eq_self, Nat.reduceLeDiff, hlt, hix, hw, hl1, c1, gt0, h0, neB, ha, Bool.not_true, c7]
        | false =>
          obtain ⟨a1, a2', a3, a4, d1, d2, d3, d4, d5⟩ := c5 (of_decide_eq_false ha)
          simp only [↓hld, ↓c2, ↓c3, ↓c4, ↓XX, ↓XD, ↓YX, ZB, Nat.reduceAdd, Nat.reducePow, ↓reduceIte, eq_self, Int.reduceEq, Nat.reduceEqDiff, Nat.reduceMul, Nat.reduceLeDiff, Try.f26, ↓XH1, ↓XH2, ZC, eq_self, Nat.reduceLeDiff, hlt, hix, hw, hl1, c1, gt0, h0, neB, ha, Bool.not_false, d1, d2, d3, d4, d5, c7]
theorem r26 (id g c l : Nat) (xs : List St) (h : AH) (hl : l ≤ h.length) (hn : xs.length ≤ 2 ^ 40) (hf : ∀ x ∈ xs, Fit x) (e : h[id]? = some (.row g 4 (stR xs))) (hb : (pathL xs 0).length ≤ 2 ^ 45) :
    ∃ h', run V0 (.fn 26) l [S (slV id g xs.length c)] h = some (.ret (sV (putL xs)) h') ∧ Keep h.length h h' := by
  obtain ⟨h1, a1, k1⟩ := r23 id g c l xs h hn hf e
  have : (xs.all stOkL && inI xs.length 1 5) = okL xs := rfl
  rw [this] at a1
  unfold putL
  cases hq : okL xs with
  | false =>
    rw [hq] at a1
    refine ⟨h1, run_fn Try.func26 rfl rfl rfl rfl ?_, k1⟩
    simp only [↓XX, ↓XD, ↓YX, ZB, Nat.reduceAdd, Nat.reducePow, ↓reduceIte, eq_self, Int.reduceEq, Nat.reduceEqDiff, Nat.reduceMul, Nat.reduceLeDiff, Try.f26, a1, Bool.not_false]
    try rfl
  | true =>
    rw [hq] at a1
    have hid := lt_of_get (k1.get e (lt_of_get e))
    have k0 : Keep h1.length h1 (h1 ++ [AObj.row 0 352187318272 [.pointer none, .slice none 0 0]]) := Keep.app _ _ (Nat.le_refl _)
    obtain ⟨h2, a2, w2⟩ := L26 id g c xs.length l h1.length (by omega) (by have := k1.1; omega) hid xs [] [] (h1 ++ [AObj.row 0 352187318272 [.pointer none, .slice none 0 0]]) (by simp) (.inl ⟨rfl, .inl (by simp)⟩) (by rw [k0.get (k1.get e (lt_of_get e)) hid]; simp) (by simpa using hb)
    refine ⟨h2, run_fn Try.func26 rfl rfl rfl rfl ?_, (k1.trans (k0.le k1.1)).trans ((w2.keep (Nat.le_refl _)).le k1.1)⟩
    simp only [↓XX, ↓XD, ↓YX, ZB, Nat.reduceAdd, Nat.reducePow, ↓reduceIte, eq_self, Int.reduceEq, Nat.reduceEqDiff, Nat.reduceMul, Nat.reduceLeDiff, Try.f26, a1, Bool.not_true, lenV]
    exact a2
end Go.Abs
