/- What WordsOf computes, in the program and in the reference. For every text of at most 2^28 bytes; no condition. -/
import Derived.Test.YtdhogmkdmbfijaaLogA
namespace Go.Abs
open Go.Proofs
set_option maxRecDepth 100000
set_option linter.unusedSimpArgs false
set_option pp.maxSteps 20000

def figI (n : Int) : Bool := decide (48 ≤ n) && decide (n ≤ 57)
def wordI (n : Int) : Bool := decide (97 ≤ n) && decide (n ≤ 122) || decide (65 ≤ n) && decide (n ≤ 90) || decide (48 ≤ n) && decide (n ≤ 57) || decide (127 < n)
theorem r113 (n : Int) (l : Nat) (h : AH) : run V0 (.fn 113) l [S (.int .u8 n)] h = some (.ret (.bool (figI n)) h) := by
  refine run_fn Try.func113 rfl rfl rfl rfl ?_
  simp only [↓XX, ↓XD, ↓YX, ZB, Nat.reduceAdd, Nat.reducePow, ↓reduceIte, eq_self, Int.reduceEq, Nat.reduceEqDiff, Nat.reduceMul, Nat.reduceLeDiff, Try.f113]
  unfold figI
  cases decide (48 ≤ n) <;> rfl
theorem r47 (n : Int) (l : Nat) (h : AH) : run V0 (.fn 47) l [S (.int .u8 n)] h = some (.ret (.bool (wordI n)) h) := by
  refine run_fn Try.func47 rfl rfl rfl rfl ?_
  simp only [↓XX, ↓XD, ↓YX, ZB, Nat.reduceAdd, Nat.reducePow, ↓reduceIte, eq_self, Int.reduceEq, Nat.reduceEqDiff, Nat.reduceMul, Nat.reduceLeDiff, Try.f47]
  unfold wordI
  generalize decide (97 ≤ n) = a1
  generalize decide (n ≤ 122) = a2
  generalize decide (65 ≤ n) = a3
  generalize decide (n ≤ 90) = a4
  generalize decide (48 ≤ n) = a5
  generalize decide (n ≤ 57) = a6
  cases a1 <;> cases a2 <;> cases a3 <;> cases a4 <;> cases a5 <;> cases a6 <;> rfl
theorem r83 (n : Int) (l : Nat) (h : AH) : run V0 (.fn 83) l [S (.int .u8 n)] h = some (.ret (.bool (wordI n)) h) := by
  refine run_fn Try.func83 rfl rfl rfl rfl ?_
  have e : decide (128 ≤ n) = decide (127 < n) := by
    rw [decide_eq_decide]; omega
  simp only [↓XX, ↓XD, ↓YX, ZB, Nat.reduceAdd, Nat.reducePow, ↓reduceIte, eq_self, Int.reduceEq, Nat.reduceEqDiff, Nat.reduceMul, Nat.reduceLeDiff, Try.f83, r113, figI, e]
  unfold wordI
  generalize decide (97 ≤ n) = a1
  generalize decide (n ≤ 122) = a2
  generalize decide (65 ≤ n) = a3
  generalize decide (n ≤ 90) = a4
  generalize decide (48 ≤ n) = a5
  generalize decide (n ≤ 57) = a6
  cases a1 <;> cases a2 <;> cases a3 <;> cases a4 <;> cases a5 <;> cases a6 <;> rfl
/-- small letters for great ones -/
def lowB (b : UInt8) : UInt8 := if 65 ≤ b.toNat ∧ b.toNat ≤ 90 then b + 32 else b
theorem lowB_int (b : UInt8) (h1 : (65 : Int) ≤ b.toNat) (h2 : (b.toNat : Int) ≤ 90) : IntKind.u8.wrap (IntKind.u8.wrap ((b.toNat : Int) - 65) + 97) = (lowB b).toNat := by
  have hl : (lowB b).toNat = b.toNat + 32 := by
    unfold lowB
    rw [if_pos (by omega), UInt8.toNat_add]
    have : (32 : UInt8).toNat = 32 := rfl
    rw [this]; omega
  rw [wrap8 (n := (b.toNat : Int) - 65) (by omega), wrap8 (by omega), hl]; omega
theorem lowB_same (b : UInt8) (h : ¬((65 : Int) ≤ b.toNat ∧ (b.toNat : Int) ≤ 90)) : lowB b = b := by
  unfold lowB
  rw [if_neg (by omega)]
theorem L48 (n : Nat) (hn : n ≤ 2 ^ 40) (l id : Nat) (hl : l ≤ id) : ∀ (r d : Bs) (h : AH), d.length + r.length = n → h[id]? = some (.row 0 25769803777 (u8c (d ++ r))) →
    L48_0 l (slV id 0 n n) (slV id 0 n n) (iV n) (iV d.length) h = some (.ret (sV (d ++ r.map lowB)) (h.set id (.row 0 25769803777 (u8c (d ++ r.map lowB))))) := by
  intro r
  induction r with
  | nil =>
    intro d h hk e
    simp only [List.map_nil, List.append_nil, List.length_nil, Nat.add_zero] at hk e ⊢
    refine run_code Try.func48 rfl rfl ?_
    have hlt : decide ((d.length : Int) < (n : Int)) = false := by rw [decide_eq_false_iff_not]; omega
    simp only [↓XX, ↓XD, ↓YX, ZB, Nat.reduceAdd, Nat.reducePow, ↓reduceIte, eq_self, Int.reduceEq, Nat.reduceEqDiff, Nat.reduceMul, Nat.reduceLeDiff, Try.f48, hlt, b2s_of (n := n) (c := n) e hk.symm, set_same e]
  | cons b r ih =>
    intro d h hk e
    simp only [List.length_cons] at hk
    have hk' : (d ++ [lowB b]).length + r.length = n := by simp; omega
    refine run_code Try.func48 rfl rfl ?_
    have hlt : decide ((d.length : Int) < (n : Int)) = true := by rw [decide_eq_true_iff]; omega
    have hix : ixAddr (slV id 0 n n) (d.length : Int) 1 = some (pV id d.length 0) := by rw [ixAddr_sl (by omega)]; simp
    have hld := ld_of e (u8c_get d b r)
    have hw : IntKind.i64.wrap ((d.length : Int) + 1) = (((d ++ [lowB b]).length : Nat) : Int) := by rw [wrap64 (by omega)]; simp
    have ih' := fun h' e' => ih (d ++ [lowB b]) h' hk' e'
    simp only [List.append_assoc, List.singleton_append] at ih'
    simp only [↓XX, ↓XD, ↓YX, ZB, Nat.reduceAdd, Nat.reducePow, ↓reduceIte, eq_self, Int.reduceEq, Nat.reduceEqDiff, Nat.reduceMul, Nat.reduceLeDiff, Try.f48, hlt, hix, hld, hw, List.map_cons]
    by_cases h1 : (65 : Int) ≤ b.toNat
    · by_cases h2 : (b.toNat : Int) ≤ 90
      · have hst : stN l h (pV id d.length 0) [.int .u8 ((lowB b).toNat : Int)] = some (h.set id (.row 0 25769803777 (u8c (d ++ lowB b :: r)))) := by
          rw [st1_of hl e (by rw [u8c_len]; simp) rfl, u8c_set]
        simp only [h1, h2, decide_true, cond_true, lowB_int _ h1 h2, hst]
        rw [ih' _ (get_set _ e), List.set_set]
      · simp only [h1, h2, decide_true, decide_false, cond_true]
        rw [lowB_same b (by omega)] at ih' ⊢
        exact ih' h e
    · simp only [h1, decide_false, cond_false]
      rw [lowB_same b (by omega)] at ih' ⊢
      exact ih' h e
theorem r48 (s : Bs) (hs : s.length ≤ 2 ^ 40) (l : Nat) (h : AH) (hl : l ≤ h.length) : run V0 (.fn 48) l [S (sV s)] h = some (.ret (sV (s.map lowB)) (h ++ [.row 0 25769803777 (u8c (s.map lowB))])) := by
  refine run_fn Try.func48 rfl rfl rfl rfl ?_
  simp only [↓XX, ↓XD, ↓YX, ZB, Nat.reduceAdd, Nat.reducePow, ↓reduceIte, eq_self, Int.reduceEq, Nat.reduceEqDiff, Nat.reduceMul, Nat.reduceLeDiff, Try.f48, lenV, newS]
  have e : (h ++ [AObj.row 0 25769803777 (u8c s)])[h.length]? = some (.row 0 25769803777 (u8c ([] ++ s))) := by simp
  have := L48 s.length hs l h.length hl s [] _ (by simp) e
  refine Eq.trans this ?_
  simp
end Go.Abs
namespace Go.Abs
open Go.Proofs
set_option maxRecDepth 100000
set_option linter.unusedSimpArgs false
set_option pp.maxSteps 20000

/-! ### rows of strings -/
def sC (xs : List Bs) : List Value := xs.map sV
theorem sC_len (xs : List Bs) : (sC xs).length = xs.length := by simp [sC]
theorem sC_get (d : List Bs) (x : Bs) (r : List Bs) : (sC (d ++ x :: r))[d.length]? = some (sV x) := by simp [sC]
theorem sC_app (a b : List Bs) : sC (a ++ b) = sC a ++ sC b := by simp [sC]
/-- where a text stands among others -/
def findL (x : Bs) : List Bs → Nat → Int
  | [], _ => -1
  | y :: r, k => if y = x then k else findL x r (k + 1)
theorem findL_lt (x : Bs) : ∀ (r : List Bs) (k : Nat), findL x r k < 0 ↔ x ∉ r
  | [], k => by simp [findL]
  | y :: r, k => by
    simp only [findL, List.mem_cons, not_or]
    split
    · rename_i q; subst q; simp
    · rename_i q; rw [findL_lt x r (k + 1)]; simp [Ne.symm q]
theorem decB (a b : Bs) : decide (B a = B b) = decide (a = b) := by rw [decide_eq_decide, B_inj]
/-- slices.Index: its loop -/
theorem L86 (n id g c : Nat) (hn : n ≤ 2 ^ 40) (l : Nat) (x : Bs) (h : AH) : ∀ (r d : List Bs), d.length + r.length = n → h[id]? = some (.row g 1 (sC (d ++ r))) →
    L86_0 l (slV id g n c) (sV x) (iV n) (iV d.length) h = some (.ret (iV (findL x r d.length)) h) := by
  intro r
  induction r with
  | nil =>
    intro d hk e
    simp only [List.append_nil, List.length_nil, Nat.add_zero] at hk e
    refine run_code Try.func86 rfl rfl ?_
    have hlt : decide ((d.length : Int) < (n : Int)) = false := by rw [decide_eq_false_iff_not]; omega
    simp only [↓XX, ↓XD, ↓YX, ZB, Nat.reduceAdd, Nat.reducePow, ↓reduceIte, eq_self, Int.reduceEq, Nat.reduceEqDiff, Nat.reduceMul, Nat.reduceLeDiff, Try.f86, hlt, findL]
  | cons y r ih =>
    intro d hk e
    simp only [List.length_cons] at hk
    have hk' : (d ++ [y]).length + r.length = n := by simp; omega
    refine run_code Try.func86 rfl rfl ?_
    have hlt : decide ((d.length : Int) < (n : Int)) = true := by rw [decide_eq_true_iff]; omega
    have hix : ixAddr (slV id g n c) (d.length : Int) 1 = some (pV id d.length g) := by rw [ixAddr_sl (by omega)]; simp
    have hld := ld_of e (sC_get d y r)
    have hw : IntKind.i64.wrap ((d.length : Int) + 1) = (((d ++ [y]).length : Nat) : Int) := natCast_succ_wrap (by omega) (by simp)
    have ih' := ih (d ++ [y]) hk' (by simpa using e)
    simp only [↓XX, ↓XD, ↓YX, ZB, Nat.reduceAdd, Nat.reducePow, ↓reduceIte, eq_self, Int.reduceEq, Nat.reduceEqDiff, Nat.reduceMul, Nat.reduceLeDiff, Try.f86, hlt, hix, hld, hw, findL, decB]
    by_cases hq : x = y
    · simp [hq]
    · rw [if_neg (Ne.symm hq)]
      simp only [hq, decide_false]
      rw [ih']; simp
theorem r86 (id g c : Nat) (xs : List Bs) (hn : xs.length ≤ 2 ^ 40) (l : Nat) (x : Bs) (h : AH) (e : h[id]? = some (.row g 1 (sC xs))) :
    run V0 (.fn 86) l [S (slV id g xs.length c), S (sV x)] h = some (.ret (iV (findL x xs 0)) h) := by
  refine run_fn Try.func86 rfl rfl rfl rfl ?_
  simp only [↓XX, ↓XD, ↓YX, ZB, Nat.reduceAdd, Nat.reducePow, ↓reduceIte, eq_self, Int.reduceEq, Nat.reduceEqDiff, Nat.reduceMul, Nat.reduceLeDiff, Try.f86, lenV]
  exact L86 xs.length id g c hn l x h xs [] (by simp) (by simpa using e)
theorem r49 (id g c : Nat) (xs : List Bs) (hn : xs.length ≤ 2 ^ 40) (l : Nat) (x : Bs) (h : AH) (e : h[id]? = some (.row g 1 (sC xs))) :
    run V0 (.fn 49) l [S (slV id g xs.length c), S (sV x)] h = some (.ret (.bool (decide (x ∈ xs))) h) := by
  refine run_fn Try.func49 rfl rfl rfl rfl ?_
  have hd : decide (0 ≤ findL x xs 0) = decide (x ∈ xs) := by
    rw [decide_eq_decide]
    have := findL_lt x xs 0
    constructor
    · intro q; apply Classical.byContradiction; intro z; have := this.2 z; omega
    · intro q; apply Classical.byContradiction; intro z; exact this.1 (by omega) q
  simp only [↓XX, ↓XD, ↓YX, ZB, Nat.reduceAdd, Nat.reducePow, ↓reduceIte, eq_self, Int.reduceEq, Nat.reduceEqDiff, Nat.reduceMul, Nat.reduceLeDiff, Try.f49, r86 id g c xs hn l x h e, hd]
theorem slCut_lenW {h : AH} {id off g n c sz : Nat} {cs : List Value} (e : h[id]? = some (.row g sz cs)) (hn : n ≤ c) (hw : wd sz = sz := by rfl) :
    slCut h (.slice (some ⟨id, off, some g⟩) n c) none (some (n : Int)) (some (n : Int)) sz = some (.slice (some ⟨id, off, some g⟩) n n) := by
  simp only [slCut, rowAt_of e, Option.bind_some, Option.getD_none, Option.getD_some]
  rw [if_pos ⟨by omega, by omega, hw, by omega, hn⟩, if_pos ⟨by omega, by omega⟩]
  simp
theorem r50 (id g n c : Nat) (cs : List Value) (l : Nat) (h : AH) (e : h[id]? = some (.row g 1 cs)) (hn : n ≤ c) :
    run V0 (.fn 50) l [S (slV id g n c)] h = some (.ret (slV id g n n) h) := by
  refine run_fn Try.func50 rfl rfl rfl rfl ?_
  simp only [↓XX, ↓XD, ↓YX, ZB, Nat.reduceAdd, Nat.reducePow, ↓reduceIte, eq_self, Int.reduceEq, Nat.reduceEqDiff, Nat.reduceMul, Nat.reduceLeDiff, Try.f50, lenV, slCut_lenW e hn, Option.isNone_some, Option.isNone_none, Option.isSome_some, Bool.or_true, Bool.false_or]
/-- spec.l5Find: its loop -/
theorem L85 (n id g c : Nat) (hn : n ≤ 2 ^ 40) (l : Nat) (x : Bs) (h : AH) : ∀ (r d : List Bs), d.length + r.length = n → h[id]? = some (.row g 1 (sC (d ++ r))) →
    L85_0 l (slV id g n c) (sV x) (iV d.length) h = some (.ret (iV (findL x r d.length)) h) := by
  intro r
  induction r with
  | nil =>
    intro d hk e
    simp only [List.append_nil, List.length_nil, Nat.add_zero] at hk e
    refine run_code Try.func85 rfl rfl ?_
    have hlt : decide ((d.length : Int) < (n : Int)) = false := by rw [decide_eq_false_iff_not]; omega
    simp only [↓XX, ↓XD, ↓YX, ZB, Nat.reduceAdd, Nat.reducePow, ↓reduceIte, eq_self, Int.reduceEq, Nat.reduceEqDiff, Nat.reduceMul, Nat.reduceLeDiff, Try.f85, lenV, hlt, findL]
  | cons y r ih =>
    intro d hk e
    simp only [List.length_cons] at hk
    have hk' : (d ++ [y]).length + r.length = n := by simp; omega
    refine run_code Try.func85 rfl rfl ?_
    have hlt : decide ((d.length : Int) < (n : Int)) = true := by rw [decide_eq_true_iff]; omega
    have hix : ixAddr (slV id g n c) (d.length : Int) 1 = some (pV id d.length g) := by rw [ixAddr_sl (by omega)]; simp
    have hld := ld_of e (sC_get d y r)
    have hw : IntKind.i64.wrap ((d.length : Int) + 1) = (((d ++ [y]).length : Nat) : Int) := natCast_succ_wrap (by omega) (by simp)
    have ih' := ih (d ++ [y]) hk' (by simpa using e)
    simp only [↓XX, ↓XD, ↓YX, ZB, Nat.reduceAdd, Nat.reducePow, ↓reduceIte, eq_self, Int.reduceEq, Nat.reduceEqDiff, Nat.reduceMul, Nat.reduceLeDiff, Try.f85, lenV, hlt, hix, hld, hw, findL, decB]
    by_cases hq : y = x
    · simp [hq]
    · rw [if_neg hq]
      simp only [hq, decide_false]
      rw [ih']; simp
theorem r85 (id g c : Nat) (xs : List Bs) (hn : xs.length ≤ 2 ^ 40) (l : Nat) (x : Bs) (h : AH) (e : h[id]? = some (.row g 1 (sC xs))) :
    run V0 (.fn 85) l [S (slV id g xs.length c), S (sV x)] h = some (.ret (iV (findL x xs 0)) h) := by
  refine run_fn Try.func85 rfl rfl rfl rfl ?_
  simp only [↓XX, ↓XD, ↓YX, ZB, Nat.reduceAdd, Nat.reducePow, ↓reduceIte, eq_self, Int.reduceEq, Nat.reduceEqDiff, Nat.reduceMul, Nat.reduceLeDiff, Try.f85, lenV]
  exact L85 xs.length id g c hn l x h xs [] (by simp) (by simpa using e)
theorem lowB32_int (b : UInt8) (h1 : (65 : Int) ≤ b.toNat) (h2 : (b.toNat : Int) ≤ 90) : IntKind.u8.wrap ((b.toNat : Int) + 32) = (lowB b).toNat := by
  rw [← lowB_int b h1 h2, wrap8 (by omega), wrap8 (n := (b.toNat : Int) - 65) (by omega), wrap8 (by omega)]; omega
/-- spec.l4Fold: its loop -/
theorem L84 (s : Bs) (hs : s.length ≤ 2 ^ 40) (l id n0 : Nat) (hl : l ≤ id) (h0 : n0 ≤ id) : ∀ (r d : Bs) (g : Nat) (h : AH), s = d ++ r → n0 ≤ h.length → h[id]? = some (.row g 25769803777 (u8c (d.map lowB))) →
    ∃ h', L84_0 l (sV s) (slV id g d.length d.length) (iV d.length) h = some (.ret (sV (s.map lowB)) h') ∧ Keep n0 h h' := by
  intro r
  induction r with
  | nil =>
    intro d g h hk hh e
    refine ⟨h, run_code Try.func84 rfl rfl ?_, Keep.refl _ _⟩
    rw [List.append_nil] at hk
    subst hk
    have hlt : decide ((s.length : Int) < ((B s).size : Int)) = false := by rw [decide_eq_false_iff_not, size_B]; omega
    simp only [↓XX, ↓XD, ↓YX, ZB, Nat.reduceAdd, Nat.reducePow, ↓reduceIte, eq_self, Int.reduceEq, Nat.reduceEqDiff, Nat.reduceMul, Nat.reduceLeDiff, Try.f84, hlt, b2s_of (n := s.length) (c := s.length) e (by simp)]
  | cons b r ih =>
    intro d g h hk hh e
    have hl' : d.length + (r.length + 1) = s.length := by rw [hk]; simp
    have hlt : decide ((d.length : Int) < ((B s).size : Int)) = true := by rw [decide_eq_true_iff, size_B]; omega
    have hat : strAt (B s) (d.length : Int) = some (b.toNat : Int) := by rw [hk]; exact strAt_mid d b r
    have hw : IntKind.i64.wrap ((d.length : Int) + 1) = (((d ++ [b]).length : Nat) : Int) := natCast_succ_wrap (by omega) (by simp)
    have hap := app_new (sz := 1) (tg := 25769803777) (sz2 := 25769803777) (lim := l) (by' := 1) (k := 1) (ds := [.int .u8 ((lowB b).toNat : Int)]) hl e (n := d.length) (by simp [u8c_len]) (by simp) (by omega) (by omega)
    have e2 : ((h ++ [AObj.row 0 25769803777 [.int .u8 ((lowB b).toNat : Int)]]).set id (AObj.row (g + 1) 25769803777 (u8c (d.map lowB) ++ [.int .u8 ((lowB b).toNat : Int)])))[id]? = some (.row (g + 1) 25769803777 (u8c ((d ++ [b]).map lowB))) := by
      rw [get_set (o := .row g 25769803777 (u8c (d.map lowB)))]
      · simp [u8c]
      · rw [List.getElem?_append_left (lt_of_get e), e]
    obtain ⟨h', i1, i2⟩ := ih (d ++ [b]) (g + 1) _ (by rw [hk]; simp) (by simp; omega) e2
    refine ⟨h', run_code Try.func84 rfl rfl ?_, ((Keep.app _ _ hh).trans (Keep.set _ _ _ h0)).trans i2⟩
    have hlen : (d ++ [b]).length = d.length + 1 := by simp
    rw [hlen] at i1 hw
    simp only [↓XX, ↓XD, ↓YX, ZB, Nat.reduceAdd, Nat.reducePow, ↓reduceIte, eq_self, Int.reduceEq, Nat.reduceEqDiff, Nat.reduceMul, Nat.reduceLeDiff, Try.f84, hlt, hat, hw]
    by_cases h1 : (65 : Int) ≤ b.toNat
    · by_cases h2 : (b.toNat : Int) ≤ 90
      · simp only [h1, h2, decide_true, cond_true, lowB32_int _ h1 h2, hap]
        exact i1
      · rw [lowB_same b (by omega)] at hap i1
        simp only [h1, h2, decide_true, decide_false, cond_true, hap]
        exact i1
    · rw [lowB_same b (by omega)] at hap i1
      simp only [h1, decide_false, cond_false, hap]
      exact i1
theorem r84 (s : Bs) (hs : s.length ≤ 2 ^ 40) (l : Nat) (h : AH) (hl : l ≤ h.length) : ∃ h', run V0 (.fn 84) l [S (sV s)] h = some (.ret (sV (s.map lowB)) h') ∧ Keep h.length h h' := by
  obtain ⟨h', e, k⟩ := L84 s hs l h.length h.length hl (Nat.le_refl _) s [] 0 (h ++ [.row 0 25769803777 []]) (by simp) (by simp) (by simp [u8c])
  refine ⟨h', run_fn Try.func84 rfl rfl rfl rfl ?_, (Keep.app _ _ (Nat.le_refl _)).trans k⟩
  simp only [↓XX, ↓XD, ↓YX, ZB, Nat.reduceAdd, Nat.reducePow, ↓reduceIte, eq_self, Int.reduceEq, Nat.reduceEqDiff, Nat.reduceMul, Nat.reduceLeDiff, Try.f84, newS]
  exact e
end Go.Abs
namespace Go.Abs
open Go.Proofs
set_option maxRecDepth 100000
set_option linter.unusedSimpArgs false
set_option pp.maxSteps 20000

def spanW (s : Bs) : Bs := s.takeWhile fun b => wordI b.toNat
def addW (out : List Bs) (w : Bs) : List Bs := if w = [] ∨ w ∈ out then out else out ++ [w]
def wordsF : Nat → List Bs → Bs → List Bs
  | 0, out, _ => out
  | _ + 1, out, [] => out
  | f + 1, out, b :: s => wordsF f (addW out ((spanW (b :: s)).map lowB)) ((b :: s).drop ((spanW (b :: s)).length + 1))
theorem addW_len (out : List Bs) (w : Bs) : (addW out w).length ≤ out.length + 1 := by unfold addW; split <;> simp
theorem min_int (a b : Nat) : minmax true [iV a, iV b] = some (iV (min a b : Nat)) := by
  simp only [minmax, if_true]
  congr 2
  split <;> omega
theorem cut_to (s : Bs) (n : Nat) (hn : n ≤ s.length) : strCut (B s) 0 (n : Int) = some (B (s.take n)) := by
  have := strCut_B s 0 n (by omega) hn
  simpa using this
theorem cut_from (s : Bs) (n : Nat) (hn : n ≤ s.length) : strCut (B s) (n : Int) ((B s).size : Int) = some (B (s.drop n)) := by
  have := strCut_B s n s.length hn (Nat.le_refl _)
  rw [size_B]
  simpa using this

/-- impl.WordsOf: what follows the inner loop -/
theorem X14 {s d : Bs} {out fin : List Bs} {l id g n0 : Nat} {h : AH} (hs : s.length ≤ 2 ^ 30) (hd : s.take d.length = d) (hd2 : d.length ≤ s.length) (ho : out.length ≤ 2 ^ 30)
    (hl : l ≤ id) (h0 : n0 ≤ id) (e : h[id]? = some (.row g 1 (sC out)))
    (hr : decide ((d.length : Int) < ((B s).size : Int)) = false ∨ (decide ((d.length : Int) < ((B s).size : Int)) = true ∧ ∃ b, strAt (B s) (d.length : Int) = some b ∧ wordI b = false))
    (K : ∀ g2 h2, h2[id]? = some (.row g2 1 (sC (addW out (d.map lowB)))) → ∃ g' h', L14_0 l (sV (s.drop (d.length + 1))) (slV id g2 (addW out (d.map lowB)).length (addW out (d.map lowB)).length) h2 = some (.ret (slV id g' fin.length fin.length) h') ∧ h'[id]? = some (.row g' 1 (sC fin)) ∧ Keep n0 h2 h') :
    ∃ g' h', L14_1 l (sV s) (slV id g out.length out.length) (iV d.length) h = some (.ret (slV id g' fin.length fin.length) h') ∧ h'[id]? = some (.row g' 1 (sC fin)) ∧ Keep n0 h h' := by
  have hid := lt_of_get e
  have hc1 := cut_to s d.length hd2
  rw [hd] at hc1
  have h48 := r48 d (by omega) l h (by omega)
  have e1 : (h ++ [AObj.row 0 25769803777 (u8c (d.map lowB))])[id]? = some (.row g 1 (sC out)) := by rw [List.getElem?_append_left hid, e]
  have h49 := r49 id g out.length out (by omega) l (d.map lowB) _ e1
  have hw1 : IntKind.i64.wrap ((d.length : Int) + 1) = ((d.length + 1 : Nat) : Int) := natCast_succ_wrap (by omega) rfl
  have hmin := min_int (d.length + 1) (B s).size
  have hc2 : strCut (B s) ((min (d.length + 1) (B s).size : Nat) : Int) ((B s).size : Int) = some (B (s.drop (d.length + 1))) := by
    rw [size_B, ← size_B s, cut_from s _ (by rw [size_B]; omega), size_B]
    congr 2
    by_cases q : d.length + 1 ≤ s.length
    · rw [Nat.min_eq_left q]
    · rw [Nat.min_eq_right (by omega), List.drop_of_length_le (Nat.le_refl _), List.drop_of_length_le (by omega)]
  have kp1 : Keep n0 h (h ++ [AObj.row 0 25769803777 (u8c (d.map lowB))]) := Keep.app _ _ (by omega)
  by_cases hz : d = []
  · have ha : addW out (d.map lowB) = out := by simp [addW, hz]
    have hpos : decide ((0 : Int) < (d.length : Int)) = false := by rw [hz]; rfl
    rw [ha] at K
    obtain ⟨g', h', k1, k2, k3⟩ := K g _ e1
    refine ⟨g', h', run_code Try.func14 rfl rfl ?_, k2, kp1.trans k3⟩
    rcases hr with hlt | ⟨hlt, b, hat, hwb⟩
    · simp only [↓XX, ↓XD, ↓YX, ZB, Nat.reduceAdd, Nat.reducePow, ↓reduceIte, eq_self, Int.reduceEq, Nat.reduceEqDiff, Nat.reduceMul, Nat.reduceLeDiff, Try.f14, hlt, hc1, h48, hpos, hw1, hmin, hc2]
      exact k1
    · simp only [↓XX, ↓XD, ↓YX, ZB, Nat.reduceAdd, Nat.reducePow, ↓reduceIte, eq_self, Int.reduceEq, Nat.reduceEqDiff, Nat.reduceMul, Nat.reduceLeDiff, Try.f14, hlt, hat, r47, hwb, hc1, h48, hpos, hw1, hmin, hc2]
      exact k1
  · have hpos : decide ((0 : Int) < (d.length : Int)) = true := by
      rw [decide_eq_true_iff]
      have : 0 < d.length := List.length_pos_iff.2 hz
      omega
    by_cases hm : d.map lowB ∈ out
    · have ha : addW out (d.map lowB) = out := by simp [addW, hm]
      rw [ha] at K
      obtain ⟨g', h', k1, k2, k3⟩ := K g _ e1
      refine ⟨g', h', run_code Try.func14 rfl rfl ?_, k2, kp1.trans k3⟩
      rcases hr with hlt | ⟨hlt, b, hat, hwb⟩
      · simp only [↓XX, ↓XD, ↓YX, ZB, Nat.reduceAdd, Nat.reducePow, ↓reduceIte, eq_self, Int.reduceEq, Nat.reduceEqDiff, Nat.reduceMul, Nat.reduceLeDiff, Try.f14, hlt, hc1, h48, hpos, h49, hm, decide_true, Bool.not_true, hw1, hmin, hc2]
        exact k1
      · simp only [↓XX, ↓XD, ↓YX, ZB, Nat.reduceAdd, Nat.reducePow, ↓reduceIte, eq_self, Int.reduceEq, Nat.reduceEqDiff, Nat.reduceMul, Nat.reduceLeDiff, Try.f14, hlt, hat, r47, hwb, hc1, h48, hpos, h49, hm, decide_true, Bool.not_true, hw1, hmin, hc2]
        exact k1
    · have ha : addW out (d.map lowB) = out ++ [d.map lowB] := by
        unfold addW; rw [if_neg]; simp [hz, hm]
      rw [ha] at K
      have hap := app_new (sz := 1) (tg := 1) (sz2 := 1) (lim := l) (by' := 16) (k := 1) (ds := [sV (d.map lowB)]) hl e1 (n := out.length) (by simp [sC_len]) (by simp) (by omega) (by omega)
      have e2 : (h ++ [AObj.row 0 25769803777 (u8c (d.map lowB))] ++ [AObj.row 0 1 [sV (d.map lowB)]])[id]? = some (.row g 1 (sC out)) := by rw [List.getElem?_append_left (by rw [List.length_append]; omega), e1]
      obtain ⟨g', h', k1, k2, k3⟩ := K (g + 1) _ (get_set (.row (g + 1) 1 (sC (out ++ [d.map lowB]))) e2)
      refine ⟨g', h', run_code Try.func14 rfl rfl ?_, k2, kp1.trans ((Keep.app _ [AObj.row 0 1 [sV (d.map lowB)]] (by rw [List.length_append]; omega)).trans ((Keep.set _ _ _ h0).trans k3))⟩
      have hlen : (out ++ [d.map lowB]).length = out.length + 1 := by simp
      rw [hlen, sC_app] at k1
      rcases hr with hlt | ⟨hlt, b, hat, hwb⟩
      · simp only [↓XX, ↓XD, ↓YX, ZB, Nat.reduceAdd, Nat.reducePow, ↓reduceIte, eq_self, Int.reduceEq, Nat.reduceEqDiff, Nat.reduceMul, Nat.reduceLeDiff, Try.f14, hlt, hc1, h48, hpos, h49, hm, decide_false, Bool.not_false, hap, hw1, hmin, hc2]
        exact k1
      · simp only [↓XX, ↓XD, ↓YX, ZB, Nat.reduceAdd, Nat.reducePow, ↓reduceIte, eq_self, Int.reduceEq, Nat.reduceEqDiff, Nat.reduceMul, Nat.reduceLeDiff, Try.f14, hlt, hat, r47, hwb, hc1, h48, hpos, h49, hm, decide_false, Bool.not_false, hap, hw1, hmin, hc2]
        exact k1
theorem spanW_split (s : Bs) : s.take (spanW s).length = spanW s := by
  unfold spanW
  induction s with
  | nil => rfl
  | cons b s ih =>
    rw [List.takeWhile_cons]
    split
    · simp [ih]
    · rfl
theorem spanW_le (s : Bs) : (spanW s).length ≤ s.length := by
  have := congrArg List.length (spanW_split s)
  rw [List.length_take] at this; omega
theorem spanW_app (d r : Bs) (hd : ∀ b ∈ d, wordI b.toNat = true) : spanW (d ++ r) = d ++ spanW r := by
  unfold spanW
  rw [List.takeWhile_append_of_pos hd]
/-- impl.WordsOf: its inner loop -/
theorem L14b {s : Bs} {out fin : List Bs} {l id g n0 : Nat} {h : AH} (hs : s.length ≤ 2 ^ 30) (ho : out.length ≤ 2 ^ 30)
    (hl : l ≤ id) (h0 : n0 ≤ id) (e : h[id]? = some (.row g 1 (sC out)))
    (K : ∀ g2 h2, h2[id]? = some (.row g2 1 (sC (addW out ((spanW s).map lowB)))) → ∃ g' h', L14_0 l (sV (s.drop ((spanW s).length + 1))) (slV id g2 (addW out ((spanW s).map lowB)).length (addW out ((spanW s).map lowB)).length) h2 = some (.ret (slV id g' fin.length fin.length) h') ∧ h'[id]? = some (.row g' 1 (sC fin)) ∧ Keep n0 h2 h') :
    ∀ (r d : Bs), s = d ++ r → (∀ b ∈ d, wordI b.toNat = true) →
    ∃ g' h', L14_1 l (sV s) (slV id g out.length out.length) (iV d.length) h = some (.ret (slV id g' fin.length fin.length) h') ∧ h'[id]? = some (.row g' 1 (sC fin)) ∧ Keep n0 h h' := by
  intro r
  induction r with
  | nil =>
    intro d hk hd
    have hsp : spanW s = d := by rw [hk, spanW_app d [] hd]; simp [spanW]
    rw [hsp] at K
    rw [List.append_nil] at hk
    exact X14 hs (by rw [hk, List.take_length]) (by rw [hk]; exact Nat.le_refl _) ho hl h0 e (Or.inl (by rw [decide_eq_false_iff_not, size_B, hk]; omega)) K
  | cons b r ih =>
    intro d hk hd
    have hlt : decide ((d.length : Int) < ((B s).size : Int)) = true := by rw [decide_eq_true_iff, size_B, hk]; simp; omega
    have hat : strAt (B s) (d.length : Int) = some (b.toNat : Int) := by rw [hk]; exact strAt_mid d b r
    cases hb : wordI b.toNat with
    | false =>
      have hsp : spanW s = d := by rw [hk, spanW_app d _ hd]; simp [spanW, List.takeWhile_cons, hb]
      rw [hsp] at K
      exact X14 hs (by rw [hk]; simp) (by rw [hk]; simp) ho hl h0 e (Or.inr ⟨hlt, _, hat, hb⟩) K
    | true =>
      obtain ⟨g', h', i1, i2, i3⟩ := ih (d ++ [b]) (by rw [hk]; simp) (by
        intro c hc
        rcases List.mem_append.1 hc with q | q
        · exact hd c q
        · rw [List.mem_singleton.1 q]; exact hb)
      refine ⟨g', h', run_code Try.func14 rfl rfl ?_, i2, i3⟩
      have hlen : d.length ≤ s.length := by rw [hk]; simp
      have hw : IntKind.i64.wrap ((d.length : Int) + 1) = (((d ++ [b]).length : Nat) : Int) := natCast_succ_wrap (by omega) (by simp)
      simp only [↓XX, ↓XD, ↓YX, ZB, Nat.reduceAdd, Nat.reducePow, ↓reduceIte, eq_self, Int.reduceEq, Nat.reduceEqDiff, Nat.reduceMul, Nat.reduceLeDiff, Try.f14, hlt, hat, r47, hb, hw]
      exact i1
/-- impl.WordsOf: its loop -/
theorem L14 (l id n0 : Nat) (hl : l ≤ id) (h0 : n0 ≤ id) : ∀ (f : Nat) (s : Bs) (out : List Bs) (g : Nat) (h : AH), s.length ≤ f → s.length + out.length ≤ 2 ^ 30 → h[id]? = some (.row g 1 (sC out)) →
    ∃ g' h', L14_0 l (sV s) (slV id g out.length out.length) h = some (.ret (slV id g' (wordsF f out s).length (wordsF f out s).length) h') ∧ h'[id]? = some (.row g' 1 (sC (wordsF f out s))) ∧ Keep n0 h h' := by
  intro f
  induction f with
  | zero =>
    intro s out g h hf hb e
    obtain rfl : s = [] := by cases s with | nil => rfl | cons _ _ => simp at hf
    refine ⟨g, h, run_code Try.func14 rfl rfl ?_, e, Keep.refl _ _⟩
    simp only [↓XX, ↓XD, ↓YX, ZB, Nat.reduceAdd, Nat.reducePow, ↓reduceIte, eq_self, Int.reduceEq, Nat.reduceEqDiff, Nat.reduceMul, Nat.reduceLeDiff, Try.f14, decide_true, Bool.not_true, r50 id g out.length out.length _ l h e (Nat.le_refl _), wordsF]
  | succ f ih =>
    intro s out g h hf hb e
    cases s with
    | nil =>
      refine ⟨g, h, run_code Try.func14 rfl rfl ?_, e, Keep.refl _ _⟩
      simp only [↓XX, ↓XD, ↓YX, ZB, Nat.reduceAdd, Nat.reducePow, ↓reduceIte, eq_self, Int.reduceEq, Nat.reduceEqDiff, Nat.reduceMul, Nat.reduceLeDiff, Try.f14, decide_true, Bool.not_true, r50 id g out.length out.length _ l h e (Nat.le_refl _), wordsF]
    | cons b s =>
      have hsp := spanW_le (b :: s)
      have hal := addW_len out ((spanW (b :: s)).map lowB)
      have hdl : ((b :: s).drop ((spanW (b :: s)).length + 1)).length ≤ s.length := by rw [List.length_drop, List.length_cons]; omega
      simp only [List.length_cons] at hf hb
      obtain ⟨g', h', i1, i2, i3⟩ := L14b (l := l) (n0 := n0) (fin := wordsF (f + 1) out (b :: s)) (s := b :: s) (by simp only [List.length_cons]; omega) (by omega) hl h0 e
        (fun g2 h2 e2 => ih _ _ g2 h2 (by omega) (by omega) e2) (b :: s) [] rfl (by simp)
      refine ⟨g', h', run_code Try.func14 rfl rfl ?_, i2, i3⟩
      have hne : (decide (B (b :: s) = B [])) = false := by rw [decB]; rfl
      simp only [↓XX, ↓XD, ↓YX, ZB, Nat.reduceAdd, Nat.reducePow, ↓reduceIte, eq_self, Int.reduceEq, Nat.reduceEqDiff, Nat.reduceMul, Nat.reduceLeDiff, Try.f14, hne, Bool.not_false]
      exact i1
def wordsL (s : Bs) : List Bs := wordsF s.length [] s
theorem r14 (s : Bs) (hs : s.length ≤ 2 ^ 29) (l : Nat) (h : AH) (hl : l ≤ h.length) :
    ∃ id g h', run V0 (.fn 14) l [S (sV s)] h = some (.ret (slV id g (wordsL s).length (wordsL s).length) h') ∧ h'[id]? = some (.row g 1 (sC (wordsL s))) ∧ h.length ≤ id ∧ Keep h.length h h' := by
  obtain ⟨g', h', i1, i2, i3⟩ := L14 l h.length h.length hl (Nat.le_refl _) s.length s [] 0 (h ++ [AObj.row 0 1 []]) (Nat.le_refl _) (by simp; omega) (by simp [sC])
  refine ⟨h.length, g', h', run_fn Try.func14 rfl rfl rfl rfl ?_, i2, Nat.le_refl _, (Keep.app _ _ (Nat.le_refl _)).trans i3⟩
  simp only [↓XX, ↓XD, ↓YX, ZB, Nat.reduceAdd, Nat.reducePow, ↓reduceIte, eq_self, Int.reduceEq, Nat.reduceEqDiff, Nat.reduceMul, Nat.reduceLeDiff, Try.f14, newS]
  exact i1
end Go.Abs
namespace Go.Abs
open Go.Proofs
set_option maxRecDepth 100000
set_option linter.unusedSimpArgs false
set_option pp.maxSteps 20000

def wordsG : Nat → List Bs → Bs → List Bs
  | 0, out, _ => out
  | _ + 1, out, [] => out
  | f + 1, out, b :: r => wordsG f (addW out ((spanW (b :: r)).map lowB)) ((b :: r).drop (max 1 (spanW (b :: r)).length))
theorem addW_nil (out : List Bs) : addW out [] = out := by simp [addW]
theorem spanW_nil : spanW [] = [] := rfl
theorem spanW_drop (s : Bs) : spanW (s.drop (spanW s).length) = [] := by
  unfold spanW
  induction s with
  | nil => rfl
  | cons b s ih =>
    rw [List.takeWhile_cons]
    by_cases hb : wordI b.toNat = true
    · rw [if_pos hb]; simpa using ih
    · rw [if_neg hb]; simp [List.takeWhile_cons, hb]
theorem wordsF_nil (f : Nat) (out : List Bs) : wordsF f out [] = out := by cases f <;> rfl
theorem wordsG_nil (f : Nat) (out : List Bs) : wordsG f out [] = out := by cases f <;> rfl
theorem wordsG_F : ∀ (n : Nat) (s : Bs) (out : List Bs) (f f' : Nat), s.length ≤ n → s.length ≤ f → s.length ≤ f' → wordsG f out s = wordsF f' out s := by
  intro n
  induction n with
  | zero =>
    intro s out f f' hn _ _
    obtain rfl : s = [] := by cases s with | nil => rfl | cons _ _ => simp at hn
    rw [wordsF_nil, wordsG_nil]
  | succ n ih =>
    intro s out f f' hn hf hf'
    cases s with
    | nil => rw [wordsF_nil, wordsG_nil]
    | cons b s =>
      simp only [List.length_cons] at hn hf hf'
      obtain ⟨f, rfl⟩ : ∃ k, f = k + 1 := ⟨f - 1, by omega⟩
      obtain ⟨f', rfl⟩ : ∃ k, f' = k + 1 := ⟨f' - 1, by omega⟩
      simp only [wordsG, wordsF]
      have hsp := spanW_le (b :: s)
      simp only [List.length_cons] at hsp
      by_cases hz : (spanW (b :: s)).length = 0
      · rw [hz]
        simp only [Nat.zero_add, show max 1 0 = 1 from rfl, List.drop_succ_cons, List.drop_zero]
        exact ih s _ f f' (by omega) (by omega) (by omega)
      · rw [Nat.max_eq_right (by omega)]
        generalize hr : (b :: s).drop (spanW (b :: s)).length = r
        have hr2 : (b :: s).drop ((spanW (b :: s)).length + 1) = r.drop 1 := by rw [← hr, List.drop_drop]
        rw [hr2]
        have hrl : r.length + (spanW (b :: s)).length = s.length + 1 := by rw [← hr, List.length_drop, List.length_cons]; omega
        have hrs : spanW r = [] := by rw [← hr]; exact spanW_drop _
        cases r with
        | nil => rw [wordsG_nil, List.drop_nil, wordsF_nil]
        | cons c r =>
          simp only [List.length_cons] at hrl
          obtain ⟨f, rfl⟩ : ∃ k, f = k + 1 := ⟨f - 1, by omega⟩
          simp only [wordsG, hrs, List.map_nil, addW_nil, List.length_nil, show max 1 0 = 1 from rfl, List.drop_succ_cons, List.drop_zero]
          exact ih r _ f f' (by omega) (by omega) (by omega)
theorem cut_mid (p d r : Bs) : strCut (B (p ++ (d ++ r))) (p.length : Int) ((p.length + d.length : Nat) : Int) = some (B d) := by
  rw [strCut_B _ _ _ (by omega) (by simp)]
  congr 2
  rw [← List.append_assoc, List.take_left' (by simp), List.drop_left]

/-- spec.l14Words: what follows the inner loop -/
theorem X46 {p d r : Bs} {out fin : List Bs} {l id g n0 : Nat} {h : AH} (hs : (p ++ (d ++ r)).length ≤ 2 ^ 30) (ho : out.length ≤ 2 ^ 30)
    (hl : l ≤ id) (h0 : n0 ≤ id) (e : h[id]? = some (.row g 1 (sC out)))
    (hr : decide (((p.length + d.length : Nat) : Int) < ((B (p ++ (d ++ r))).size : Int)) = false ∨ (decide (((p.length + d.length : Nat) : Int) < ((B (p ++ (d ++ r))).size : Int)) = true ∧ ∃ b, strAt (B (p ++ (d ++ r))) ((p.length + d.length : Nat) : Int) = some b ∧ wordI b = false))
    (K : ∀ g2 h2, h2[id]? = some (.row g2 1 (sC (addW out (d.map lowB)))) → ∃ g' h', L46_0 l (sV (p ++ (d ++ r))) (slV id g2 (addW out (d.map lowB)).length (addW out (d.map lowB)).length) (iV (p.length + max 1 d.length : Nat)) h2 = some (.ret (slV id g' fin.length fin.length) h') ∧ h'[id]? = some (.row g' 1 (sC fin)) ∧ Keep n0 h2 h') :
    ∃ g' h', L46_1 l (sV (p ++ (d ++ r))) (slV id g out.length out.length) (iV (p.length + d.length : Nat)) (iV p.length) h = some (.ret (slV id g' fin.length fin.length) h') ∧ h'[id]? = some (.row g' 1 (sC fin)) ∧ Keep n0 h h' := by
  have hid := lt_of_get e
  have hlen : p.length + d.length ≤ 2 ^ 30 := by simp at hs; omega
  have hc1 := cut_mid p d r
  generalize hsE : p ++ (d ++ r) = s at *
  obtain ⟨h1, h84, kk⟩ := r84 d (by omega) l h (by omega)
  have e1 := kk.get e hid
  have h85 := r85 id g out.length out (by omega) l (d.map lowB) _ e1
  have kp1 : Keep n0 h h1 := kk.le (by omega)
  by_cases hz : d = []
  · have hne : decide (B (d.map lowB) = B []) = true := by rw [hz]; rfl
    have ha : addW out (d.map lowB) = out := by rw [hz]; exact addW_nil out
    have heq : (((p.length + d.length : Nat) : Int) == (p.length : Int)) = true := by rw [hz]; simp
    have hw : IntKind.i64.wrap (((p.length + d.length : Nat) : Int) + 1) = ((p.length + max 1 d.length : Nat) : Int) := natCast_succ_wrap (by omega) (by rw [hz]; simp)
    rw [ha] at K
    obtain ⟨g', h', k1, k2, k3⟩ := K g h1 e1
    refine ⟨g', h', run_code Try.func46 rfl rfl ?_, k2, kp1.trans k3⟩
    rcases hr with hlt | ⟨hlt, b, hat, hwb⟩
    · simp only [↓XX, ↓XD, ↓YX, ZB, Nat.reduceAdd, Nat.reducePow, ↓reduceIte, eq_self, Int.reduceEq, Nat.reduceEqDiff, Nat.reduceMul, Nat.reduceLeDiff, Try.f46, hlt, hc1, h84, hne, Bool.not_true, heq, hw]
      exact k1
    · simp only [↓XX, ↓XD, ↓YX, ZB, Nat.reduceAdd, Nat.reducePow, ↓reduceIte, eq_self, Int.reduceEq, Nat.reduceEqDiff, Nat.reduceMul, Nat.reduceLeDiff, Try.f46, hlt, hat, r83, hwb, hc1, h84, hne, Bool.not_true, heq, hw]
      exact k1
  · have hpos : 0 < d.length := List.length_pos_iff.2 hz
    have hne : decide (B (d.map lowB) = B []) = false := by rw [decB]; simp [hz]
    have heq : (((p.length + d.length : Nat) : Int) == (p.length : Int)) = false := by simp; omega
    rw [Nat.max_eq_right (by omega)] at K
    have hfd := findL_lt (d.map lowB) out 0
    by_cases hm : d.map lowB ∈ out
    · have ha : addW out (d.map lowB) = out := by simp [addW, hm]
      have hfz : decide (findL (d.map lowB) out 0 < 0) = false := by rw [decide_eq_false_iff_not]; intro q; exact hfd.1 q hm
      rw [ha] at K
      obtain ⟨g', h', k1, k2, k3⟩ := K g h1 e1
      refine ⟨g', h', run_code Try.func46 rfl rfl ?_, k2, kp1.trans k3⟩
      rcases hr with hlt | ⟨hlt, b, hat, hwb⟩
      · simp only [↓XX, ↓XD, ↓YX, ZB, Nat.reduceAdd, Nat.reducePow, ↓reduceIte, eq_self, Int.reduceEq, Nat.reduceEqDiff, Nat.reduceMul, Nat.reduceLeDiff, Try.f46, hlt, hc1, h84, hne, Bool.not_false, h85, hfz, heq]
        exact k1
      · simp only [↓XX, ↓XD, ↓YX, ZB, Nat.reduceAdd, Nat.reducePow, ↓reduceIte, eq_self, Int.reduceEq, Nat.reduceEqDiff, Nat.reduceMul, Nat.reduceLeDiff, Try.f46, hlt, hat, r83, hwb, hc1, h84, hne, Bool.not_false, h85, hfz, heq]
        exact k1
    · have ha : addW out (d.map lowB) = out ++ [d.map lowB] := by
        unfold addW; rw [if_neg]; simp [hz, hm]
      have hfz : decide (findL (d.map lowB) out 0 < 0) = true := by rw [decide_eq_true_iff]; exact hfd.2 hm
      rw [ha] at K
      have hap := app_new (sz := 1) (tg := 1) (sz2 := 1) (lim := l) (by' := 16) (k := 1) (ds := [sV (d.map lowB)]) hl e1 (n := out.length) (by simp [sC_len]) (by simp) (by omega) (by omega)
      have e2 : (h1 ++ [AObj.row 0 1 [sV (d.map lowB)]])[id]? = some (.row g 1 (sC out)) := by rw [List.getElem?_append_left (lt_of_get e1), e1]
      obtain ⟨g', h', k1, k2, k3⟩ := K (g + 1) _ (get_set (.row (g + 1) 1 (sC (out ++ [d.map lowB]))) e2)
      refine ⟨g', h', run_code Try.func46 rfl rfl ?_, k2, kp1.trans ((Keep.app _ [AObj.row 0 1 [sV (d.map lowB)]] (by have := lt_of_get e1; omega)).trans ((Keep.set _ _ _ h0).trans k3))⟩
      have hlen : (out ++ [d.map lowB]).length = out.length + 1 := by simp
      rw [hlen, sC_app] at k1
      rcases hr with hlt | ⟨hlt, b, hat, hwb⟩
      · simp only [↓XX, ↓XD, ↓YX, ZB, Nat.reduceAdd, Nat.reducePow, ↓reduceIte, eq_self, Int.reduceEq, Nat.reduceEqDiff, Nat.reduceMul, Nat.reduceLeDiff, Try.f46, hlt, hc1, h84, hne, Bool.not_false, h85, hfz, hap, heq]
        exact k1
      · simp only [↓XX, ↓XD, ↓YX, ZB, Nat.reduceAdd, Nat.reducePow, ↓reduceIte, eq_self, Int.reduceEq, Nat.reduceEqDiff, Nat.reduceMul, Nat.reduceLeDiff, Try.f46, hlt, hat, r83, hwb, hc1, h84, hne, Bool.not_false, h85, hfz, hap, heq]
        exact k1
/-- spec.l14Words: its inner loop -/
theorem L46b {p : Bs} {out fin : List Bs} {l id g n0 : Nat} {h : AH} (ho : out.length ≤ 2 ^ 30) (hl : l ≤ id) (h0 : n0 ≤ id) (e : h[id]? = some (.row g 1 (sC out))) :
    ∀ (r d : Bs), (p ++ (d ++ r)).length ≤ 2 ^ 30 → (∀ b ∈ d, wordI b.toNat = true) →
    (∀ g2 h2, h2[id]? = some (.row g2 1 (sC (addW out ((spanW (d ++ r)).map lowB)))) → ∃ g' h', L46_0 l (sV (p ++ (d ++ r))) (slV id g2 (addW out ((spanW (d ++ r)).map lowB)).length (addW out ((spanW (d ++ r)).map lowB)).length) (iV (p.length + max 1 (spanW (d ++ r)).length : Nat)) h2 = some (.ret (slV id g' fin.length fin.length) h') ∧ h'[id]? = some (.row g' 1 (sC fin)) ∧ Keep n0 h2 h') →
    ∃ g' h', L46_1 l (sV (p ++ (d ++ r))) (slV id g out.length out.length) (iV (p.length + d.length : Nat)) (iV p.length) h = some (.ret (slV id g' fin.length fin.length) h') ∧ h'[id]? = some (.row g' 1 (sC fin)) ∧ Keep n0 h h' := by
  intro r
  induction r with
  | nil =>
    intro d hs hd K
    have hsp : spanW (d ++ []) = d := by rw [spanW_app d [] hd]; simp [spanW]
    rw [hsp] at K
    exact X46 hs ho hl h0 e (Or.inl (by rw [decide_eq_false_iff_not, size_B]; simp)) K
  | cons b r ih =>
    intro d hs hd K
    have hlt : decide (((p.length + d.length : Nat) : Int) < ((B (p ++ (d ++ b :: r))).size : Int)) = true := by rw [decide_eq_true_iff, size_B]; simp; omega
    have hat : strAt (B (p ++ (d ++ b :: r))) ((p.length + d.length : Nat) : Int) = some (b.toNat : Int) := by
      have := strAt_mid (p ++ d) b r
      rw [List.append_assoc, List.length_append] at this
      exact this
    cases hb : wordI b.toNat with
    | false =>
      have hsp : spanW (d ++ b :: r) = d := by rw [spanW_app d _ hd]; simp [spanW, List.takeWhile_cons, hb]
      rw [hsp] at K
      exact X46 hs ho hl h0 e (Or.inr ⟨hlt, _, hat, hb⟩) K
    | true =>
      have hsh : d ++ b :: r = (d ++ [b]) ++ r := by simp
      have hlen : p.length + d.length ≤ 2 ^ 30 := by simp at hs; omega
      have hw : IntKind.i64.wrap (((p.length + d.length : Nat) : Int) + 1) = ((p.length + (d ++ [b]).length : Nat) : Int) := natCast_succ_wrap (by omega) (by simp; omega)
      obtain ⟨g', h', i1, i2, i3⟩ := ih (d ++ [b]) (by rw [← hsh]; exact hs) (by
        intro c hc
        rcases List.mem_append.1 hc with q | q
        · exact hd c q
        · rw [List.mem_singleton.1 q]; exact hb) (by rw [← hsh]; exact K)
      refine ⟨g', h', run_code Try.func46 rfl rfl ?_, i2, i3⟩
      rw [← hsh] at i1
      simp only [↓XX, ↓XD, ↓YX, ZB, Nat.reduceAdd, Nat.reducePow, ↓reduceIte, eq_self, Int.reduceEq, Nat.reduceEqDiff, Nat.reduceMul, Nat.reduceLeDiff, Try.f46, hlt, hat, r83, hb, hw]
      exact i1
/-- spec.l14Words: its loop -/
theorem L46 (l id n0 : Nat) (hl : l ≤ id) (h0 : n0 ≤ id) : ∀ (f : Nat) (r p : Bs) (out : List Bs) (g : Nat) (h : AH), r.length ≤ f → (p ++ r).length ≤ 2 ^ 29 → r.length + out.length ≤ 2 ^ 29 → h[id]? = some (.row g 1 (sC out)) →
    ∃ g' h', L46_0 l (sV (p ++ r)) (slV id g out.length out.length) (iV p.length) h = some (.ret (slV id g' (wordsG f out r).length (wordsG f out r).length) h') ∧ h'[id]? = some (.row g' 1 (sC (wordsG f out r))) ∧ Keep n0 h h' := by
  intro f
  induction f with
  | zero =>
    intro r p out g h hf hp hb e
    obtain rfl : r = [] := by cases r with | nil => rfl | cons _ _ => simp at hf
    refine ⟨g, h, run_code Try.func46 rfl rfl ?_, e, Keep.refl _ _⟩
    have hlt : decide ((p.length : Int) < ((B (p ++ [])).size : Int)) = false := by rw [decide_eq_false_iff_not, size_B]; simp
    simp only [↓XX, ↓XD, ↓YX, ZB, Nat.reduceAdd, Nat.reducePow, ↓reduceIte, eq_self, Int.reduceEq, Nat.reduceEqDiff, Nat.reduceMul, Nat.reduceLeDiff, Try.f46, hlt, wordsG]
  | succ f ih =>
    intro r p out g h hf hp hb e
    cases r with
    | nil =>
      refine ⟨g, h, run_code Try.func46 rfl rfl ?_, e, Keep.refl _ _⟩
      have hlt : decide ((p.length : Int) < ((B (p ++ [])).size : Int)) = false := by rw [decide_eq_false_iff_not, size_B]; simp
      simp only [↓XX, ↓XD, ↓YX, ZB, Nat.reduceAdd, Nat.reducePow, ↓reduceIte, eq_self, Int.reduceEq, Nat.reduceEqDiff, Nat.reduceMul, Nat.reduceLeDiff, Try.f46, hlt, wordsG]
    | cons b r =>
      have hsp := spanW_le (b :: r)
      have hal := addW_len out ((spanW (b :: r)).map lowB)
      simp only [List.length_cons] at hf hb hsp
      have hlt : decide ((p.length : Int) < ((B (p ++ b :: r)).size : Int)) = true := by rw [decide_eq_true_iff, size_B]; simp; omega
      have hm : max 1 (spanW (b :: r)).length ≤ (b :: r).length := by rw [List.length_cons]; omega
      have hsplit : p ++ b :: r = (p ++ (b :: r).take (max 1 (spanW (b :: r)).length)) ++ (b :: r).drop (max 1 (spanW (b :: r)).length) := by
        rw [List.append_assoc, List.take_append_drop]
      have hlp : (p ++ (b :: r).take (max 1 (spanW (b :: r)).length)).length = p.length + max 1 (spanW (b :: r)).length := by
        rw [List.length_append, List.length_take, Nat.min_eq_left hm]
      have hdl : ((b :: r).drop (max 1 (spanW (b :: r)).length)).length ≤ r.length := by rw [List.length_drop, List.length_cons]; omega
      obtain ⟨g', h', i1, i2, i3⟩ := L46b (l := l) (n0 := n0) (fin := wordsG (f + 1) out (b :: r)) (p := p) (by omega) hl h0 e (b :: r) [] (by simp only [List.nil_append]; omega) (by simp)
        (fun g2 h2 e2 => by
          rw [List.nil_append] at e2 ⊢
          have := ih ((b :: r).drop (max 1 (spanW (b :: r)).length)) (p ++ (b :: r).take (max 1 (spanW (b :: r)).length)) _ g2 h2 (by omega) (by rw [← hsplit]; exact hp) (by omega) e2
          rw [← hsplit, hlp] at this
          exact this)
      refine ⟨g', h', run_code Try.func46 rfl rfl ?_, i2, i3⟩
      rw [List.nil_append] at i1
      simp only [↓XX, ↓XD, ↓YX, ZB, Nat.reduceAdd, Nat.reducePow, ↓reduceIte, eq_self, Int.reduceEq, Nat.reduceEqDiff, Nat.reduceMul, Nat.reduceLeDiff, Try.f46, hlt]
      exact i1
theorem r46 (s : Bs) (hs : s.length ≤ 2 ^ 28) (l : Nat) (h : AH) (hl : l ≤ h.length) :
    ∃ id g h', run V0 (.fn 46) l [S (sV s)] h = some (.ret (slV id g (wordsL s).length (wordsL s).length) h') ∧ h'[id]? = some (.row g 1 (sC (wordsL s))) ∧ h.length ≤ id ∧ Keep h.length h h' := by
  obtain ⟨g', h', i1, i2, i3⟩ := L46 l h.length h.length hl (Nat.le_refl _) s.length s [] [] 0 (h ++ [AObj.row 0 1 []]) (Nat.le_refl _) (by simp; omega) (by simp; omega) (by simp [sC])
  rw [wordsG_F s.length s [] s.length s.length (Nat.le_refl _) (Nat.le_refl _) (Nat.le_refl _)] at i1 i2
  refine ⟨h.length, g', h', run_fn Try.func46 rfl rfl rfl rfl ?_, i2, Nat.le_refl _, (Keep.app _ _ (Nat.le_refl _)).trans i3⟩
  simp only [↓XX, ↓XD, ↓YX, ZB, Nat.reduceAdd, Nat.reducePow, ↓reduceIte, eq_self, Int.reduceEq, Nat.reduceEqDiff, Nat.reduceMul, Nat.reduceLeDiff, Try.f46, newS]
  exact i1
theorem r13 (s : Bs) (hs : s.length ≤ 2 ^ 28) (l : Nat) (h : AH) (hl : l ≤ h.length) :
    ∃ id g h', run V0 (.fn 13) l [S (sV s)] h = some (.ret (slV id g (wordsL s).length (wordsL s).length) h') ∧ h'[id]? = some (.row g 1 (sC (wordsL s))) ∧ h.length ≤ id ∧ Keep h.length h h' := by
  obtain ⟨id, g, h', i1, i2, i3, i4⟩ := r46 s hs l h hl
  refine ⟨id, g, h', run_fn Try.func13 rfl rfl rfl rfl ?_, i2, i3, i4⟩
  simp only [↓XX, ↓XD, ↓YX, ZB, Nat.reduceAdd, Nat.reducePow, ↓reduceIte, eq_self, Int.reduceEq, Nat.reduceEqDiff, Nat.reduceMul, Nat.reduceLeDiff, Try.f13, i1]
end Go.Abs
