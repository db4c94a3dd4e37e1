/- What is asked of a room's texts, in the program and in the reference. For every room; no condition. -/
import Derived.Test.YtoijpmokcdifnaaGreatDoorRoomA
import Derived.Test.YtoijpmokcdifnaaGreatDoorAbsB
namespace Go.Abs
open Go.Proofs
set_option maxRecDepth 100000
set_option linter.unusedSimpArgs false
set_option linter.unusedVariables false
set_option pp.maxSteps 20000
theorem rq135 (n : Int) (l : Nat) (h : AH) : run V0 (.fn 135) l [S (iV n)] h = some (.ret (.bool (sgnI n)) h) := by
  refine run_fn Tryz.func135 rfl rfl rfl rfl ?_
  unfold sgnI
  cases q1 : (n == 9) with
  | true => simp only [↓XX, ↓XD, ↓YX, ZB, Nat.reduceAdd, Nat.reducePow, ↓reduceIte, eq_self, Int.reduceEq, Nat.reduceEqDiff, Nat.reduceMul, Nat.reduceLeDiff, Tryz.f135, rq34, inI, q1, Bool.true_or]
  | false =>
    cases q2 : (n == 10) with
    | true => simp only [↓XX, ↓XD, ↓YX, ZB, Nat.reduceAdd, Nat.reducePow, ↓reduceIte, eq_self, Int.reduceEq, Nat.reduceEqDiff, Nat.reduceMul, Nat.reduceLeDiff, Tryz.f135, rq34, inI, q1, q2, Bool.true_or, Bool.false_or]
    | false =>
      cases q3 : (decide (32 ≤ n) && decide (n ≤ 55295)) with
      | true => simp only [↓XX, ↓XD, ↓YX, ZB, Nat.reduceAdd, Nat.reducePow, ↓reduceIte, eq_self, Int.reduceEq, Nat.reduceEqDiff, Nat.reduceMul, Nat.reduceLeDiff, Tryz.f135, rq34, inI, q1, q2, q3, Bool.true_or, Bool.false_or]
      | false =>
        cases q4 : (decide (57344 ≤ n) && decide (n ≤ 65533)) with
        | true => simp only [↓XX, ↓XD, ↓YX, ZB, Nat.reduceAdd, Nat.reducePow, ↓reduceIte, eq_self, Int.reduceEq, Nat.reduceEqDiff, Nat.reduceMul, Nat.reduceLeDiff, Tryz.f135, rq34, inI, q1, q2, q3, q4, Bool.true_or, Bool.false_or]
        | false => simp only [↓XX, ↓XD, ↓YX, ZB, Nat.reduceAdd, Nat.reducePow, ↓reduceIte, eq_self, Int.reduceEq, Nat.reduceEqDiff, Nat.reduceMul, Nat.reduceLeDiff, Tryz.f135, rq34, inI, q1, q2, q3, q4, Bool.true_or, Bool.false_or]
theorem rq143 (n : Int) (l : Nat) (h : AH) : run V0 (.fn 143) l [S (iV n)] h = some (.ret (.bool (sgnI n)) h) := by
  refine run_fn Tryz.func143 rfl rfl rfl rfl ?_
  unfold sgnI
  cases q1 : (n == 9) with
  | true => simp only [↓XX, ↓XD, ↓YX, ZB, Nat.reduceAdd, Nat.reducePow, ↓reduceIte, eq_self, Int.reduceEq, Nat.reduceEqDiff, Nat.reduceMul, Nat.reduceLeDiff, Tryz.f143, rq56, inI, q1, Bool.true_or]
  | false =>
    cases q2 : (n == 10) with
    | true => simp only [↓XX, ↓XD, ↓YX, ZB, Nat.reduceAdd, Nat.reducePow, ↓reduceIte, eq_self, Int.reduceEq, Nat.reduceEqDiff, Nat.reduceMul, Nat.reduceLeDiff, Tryz.f143, rq56, inI, q1, q2, Bool.true_or, Bool.false_or]
    | false =>
      cases q3 : (decide (32 ≤ n) && decide (n ≤ 55295)) with
      | true => simp only [↓XX, ↓XD, ↓YX, ZB, Nat.reduceAdd, Nat.reducePow, ↓reduceIte, eq_self, Int.reduceEq, Nat.reduceEqDiff, Nat.reduceMul, Nat.reduceLeDiff, Tryz.f143, rq56, inI, q1, q2, q3, Bool.true_or, Bool.false_or]
      | false =>
        cases q4 : (decide (57344 ≤ n) && decide (n ≤ 65533)) with
        | true => simp only [↓XX, ↓XD, ↓YX, ZB, Nat.reduceAdd, Nat.reducePow, ↓reduceIte, eq_self, Int.reduceEq, Nat.reduceEqDiff, Nat.reduceMul, Nat.reduceLeDiff, Tryz.f143, rq56, inI, q1, q2, q3, q4, Bool.true_or, Bool.false_or]
        | false => simp only [↓XX, ↓XD, ↓YX, ZB, Nat.reduceAdd, Nat.reducePow, ↓reduceIte, eq_self, Int.reduceEq, Nat.reduceEqDiff, Nat.reduceMul, Nat.reduceLeDiff, Tryz.f143, rq56, inI, q1, q2, q3, q4, Bool.true_or, Bool.false_or]
theorem rq141 (b : UInt8) (l : Nat) (h : AH) : run V0 (.fn 141) l [S (.int .u8 b.toNat)] h = some (.ret (iV (leadN b.toNat)) h) := by
  have hb := u8_lt b
  refine run_fn Tryz.func141 rfl rfl rfl rfl ?_
  have hw : IntKind.i64.wrap (b.toNat : Int) = (b.toNat : Int) := wrap64 (by omega)
  unfold leadN
  by_cases h1 : b.toNat < 128
  · have d1 : decide ((b.toNat : Int) < 128) = true := decide_eq_true (by omega)
    simp only [↓XX, ↓XD, ↓YX, ZB, Nat.reduceAdd, Nat.reducePow, ↓reduceIte, eq_self, Int.reduceEq, Nat.reduceEqDiff, Nat.reduceMul, Nat.reduceLeDiff, Tryz.f141, rq56, hw, d1, if_pos h1]
    rfl
  · have d1 : decide ((b.toNat : Int) < 128) = false := decide_eq_false (by omega)
    rw [if_neg h1]
    by_cases h2 : 194 ≤ b.toNat ∧ b.toNat ≤ 223
    · have d2 : inI (b.toNat : Int) 194 223 = true := by simp only [inI, Bool.and_eq_true, decide_eq_true_eq]; omega
      simp only [↓XX, ↓XD, ↓YX, ZB, Nat.reduceAdd, Nat.reducePow, ↓reduceIte, eq_self, Int.reduceEq, Nat.reduceEqDiff, Nat.reduceMul, Nat.reduceLeDiff, Tryz.f141, rq56, hw, d1, d2, if_pos h2]
      rfl
    · have d2 : inI (b.toNat : Int) 194 223 = false := by simp only [inI, Bool.and_eq_false_iff, decide_eq_false_iff_not]; omega
      rw [if_neg h2]
      by_cases h3 : 224 ≤ b.toNat ∧ b.toNat ≤ 239
      · have d3 : inI (b.toNat : Int) 224 239 = true := by simp only [inI, Bool.and_eq_true, decide_eq_true_eq]; omega
        simp only [↓XX, ↓XD, ↓YX, ZB, Nat.reduceAdd, Nat.reducePow, ↓reduceIte, eq_self, Int.reduceEq, Nat.reduceEqDiff, Nat.reduceMul, Nat.reduceLeDiff, Tryz.f141, rq56, hw, d1, d2, d3, if_pos h3]
        rfl
      · have d3 : inI (b.toNat : Int) 224 239 = false := by simp only [inI, Bool.and_eq_false_iff, decide_eq_false_iff_not]; omega
        rw [if_neg h3]
        by_cases h4 : 240 ≤ b.toNat ∧ b.toNat ≤ 244
        · have d4 : inI (b.toNat : Int) 240 244 = true := by simp only [inI, Bool.and_eq_true, decide_eq_true_eq]; omega
          simp only [↓XX, ↓XD, ↓YX, ZB, Nat.reduceAdd, Nat.reducePow, ↓reduceIte, eq_self, Int.reduceEq, Nat.reduceEqDiff, Nat.reduceMul, Nat.reduceLeDiff, Tryz.f141, rq56, hw, d1, d2, d3, d4, if_pos h4]
          rfl
        · have d4 : inI (b.toNat : Int) 240 244 = false := by simp only [inI, Bool.and_eq_false_iff, decide_eq_false_iff_not]; omega
          simp only [↓XX, ↓XD, ↓YX, ZB, Nat.reduceAdd, Nat.reducePow, ↓reduceIte, eq_self, Int.reduceEq, Nat.reduceEqDiff, Nat.reduceMul, Nat.reduceLeDiff, Tryz.f141, rq56, hw, d1, d2, d3, d4, if_neg h4]
          rfl
theorem rq142 (a b : UInt8) (l : Nat) (h : AH) : run V0 (.fn 142) l [S (iV a.toNat), S (iV b.toNat)] h = some (.ret (.bool (secN a.toNat b.toNat)) h) := by
  refine run_fn Tryz.func142 rfl rfl rfl rfl ?_
  have hd : ∀ p q : Prop, ∀ [Decidable p] [Decidable q], (p ↔ q) → decide p = decide q := fun p q _ _ e => decide_eq_decide.2 e
  unfold secN
  by_cases h1 : a.toNat = 224
  · have d1 : ((a.toNat : Int) == 224) = true := by simp [h1]
    simp only [↓XX, ↓XD, ↓YX, ZB, Nat.reduceAdd, Nat.reducePow, ↓reduceIte, eq_self, Int.reduceEq, Nat.reduceEqDiff, Nat.reduceMul, Nat.reduceLeDiff, Tryz.f142, d1, if_pos h1]
    rw [hd _ _ (show (160 ≤ (b.toNat : Int)) ↔ 160 ≤ b.toNat by omega)]
  · have d1 : ((a.toNat : Int) == 224) = false := by simp; omega
    rw [if_neg h1]
    by_cases h2 : a.toNat = 237
    · have d2 : ((a.toNat : Int) == 237) = true := by simp [h2]
      simp only [↓XX, ↓XD, ↓YX, ZB, Nat.reduceAdd, Nat.reducePow, ↓reduceIte, eq_self, Int.reduceEq, Nat.reduceEqDiff, Nat.reduceMul, Nat.reduceLeDiff, Tryz.f142, d1, d2, if_pos h2]
      rw [hd _ _ (show ((b.toNat : Int) < 160) ↔ b.toNat < 160 by omega)]
    · have d2 : ((a.toNat : Int) == 237) = false := by simp; omega
      rw [if_neg h2]
      by_cases h3 : a.toNat = 240
      · have d3 : ((a.toNat : Int) == 240) = true := by simp [h3]
        simp only [↓XX, ↓XD, ↓YX, ZB, Nat.reduceAdd, Nat.reducePow, ↓reduceIte, eq_self, Int.reduceEq, Nat.reduceEqDiff, Nat.reduceMul, Nat.reduceLeDiff, Tryz.f142, d1, d2, d3, if_pos h3]
        rw [hd _ _ (show (144 ≤ (b.toNat : Int)) ↔ 144 ≤ b.toNat by omega)]
      · have d3 : ((a.toNat : Int) == 240) = false := by simp; omega
        rw [if_neg h3]
        by_cases h4 : a.toNat = 244
        · have d4 : ((a.toNat : Int) == 244) = true := by simp [h4]
          simp only [↓XX, ↓XD, ↓YX, ZB, Nat.reduceAdd, Nat.reducePow, ↓reduceIte, eq_self, Int.reduceEq, Nat.reduceEqDiff, Nat.reduceMul, Nat.reduceLeDiff, Tryz.f142, d1, d2, d3, d4, if_pos h4]
          rw [hd _ _ (show ((b.toNat : Int) < 144) ↔ b.toNat < 144 by omega)]
        · have d4 : ((a.toNat : Int) == 244) = false := by simp; omega
          simp only [↓XX, ↓XD, ↓YX, ZB, Nat.reduceAdd, Nat.reducePow, ↓reduceIte, eq_self, Int.reduceEq, Nat.reduceEqDiff, Nat.reduceMul, Nat.reduceLeDiff, Tryz.f142, d1, d2, d3, d4, if_neg h4]
end Go.Abs
namespace Go.Abs
open Go.Proofs
set_option maxRecDepth 100000
set_option linter.unusedSimpArgs false
set_option linter.unusedVariables false
set_option pp.maxSteps 20000
theorem ix0 (a b : Value) : [a, b][0]? = some a := rfl
theorem ix1 (a b : Value) : [a, b][1]? = some b := rfl
theorem decodeN_bd (n b0 b1 b2 b3 : Nat) (hn : 1 ≤ n) (h0 : b0 < 256) : (Lib.decodeN n b0 b1 b2 b3).2 ≤ n ∧ (Lib.decodeN n b0 b1 b2 b3).1 ≤ 1114111 := by
  unfold Lib.decodeN
  repeat' split
  all_goals (simp only; omega)
theorem decL_bd (s : Bs) : (decL s).2 ≤ s.length ∧ (decL s).1 ≤ 1114111 := by
  unfold decL
  cases s with
  | nil => simp
  | cons b r => rw [if_neg (by simp)]; exact decodeN_bd _ _ _ _ _ (by simp) (by simp only [List.getD_cons_zero]; exact u8_lt b)
theorem r_decode (s : Bs) (l : Nat) (h : AH) : run V0 (.fn 134) l [S (sV s)] h = some (.ret (.tuple #[.int .i32 (decL s).1, iV (decL s).2]) h) := by
  refine run_prim (vs := [sV s]) (p := pPure fDecode) rfl ?_
  simp only [pPure, fDecode, Option.map_some]
  rw [← decodeGo_eq]
  rfl
theorem rq113 (s : Bs) (l : Nat) (h : AH) : run V0 (.fn 113) l [S (sV s)] h = some (.ret (.tuple #[sV (s.take (decL s).2), .bool (sgnOk (decL s))]) h) := by
  obtain ⟨b1, b2⟩ := decL_bd s
  have a1 := r_decode s l h
  have hw : IntKind.i64.wrap ((decL s).1 : Int) = ((decL s).1 : Int) := wrap64 (by omega)
  have hc : strCut (B s) 0 ((decL s).2 : Int) = some (B (s.take (decL s).2)) := by
    have := strCut_B s 0 (decL s).2 (by omega) b1
    simpa using this
  refine run_fn Tryz.func113 rfl rfl rfl rfl ?_
  unfold sgnOk
  cases q1 : sgnI ((decL s).1 : Int) with
  | false => simp (disch := first | exact dI | fail) only [↓XX, ↓XD, ↓YX, ZB, Nat.reduceAdd, Nat.reducePow, ↓reduceIte, eq_self, Int.reduceEq, Nat.reduceEqDiff, Nat.reduceMul, Nat.reduceLeDiff, Tryz.f113, a1, hw, hc, rq135, q1, Bool.false_and, ↓op_extract, tupAt_mk, ix0, ix1]
  | true =>
    cases q2 : (((decL s).1 : Int) == 65533) with
    | true =>
      have q3 : ((decL s).1 == 65533) = true := by simpa using (by simpa using q2 : ((decL s).1 : Int) = 65533) |> fun (e : ((decL s).1 : Int) = 65533) => (by omega : (decL s).1 = 65533)
      have q4 : (((decL s).2 : Int) == 3) = ((decL s).2 == 3) := by rw [Bool.eq_iff_iff]; simp; omega
      simp (disch := first | exact dI | fail) only [↓XX, ↓XD, ↓YX, ZB, Nat.reduceAdd, Nat.reducePow, ↓reduceIte, eq_self, Int.reduceEq, Nat.reduceEqDiff, Nat.reduceMul, Nat.reduceLeDiff, Tryz.f113, a1, hw, hc, rq135, q1, q2, q4, bne, q3, Bool.true_and, Bool.not_true, Bool.false_or, ↓op_extract, tupAt_mk, ix0, ix1]
      try rfl
    | false =>
      have q3 : ((decL s).1 == 65533) = false := by
        have : ¬ ((decL s).1 : Int) = 65533 := by simpa using q2
        simp; omega
      simp (disch := first | exact dI | fail) only [↓XX, ↓XD, ↓YX, ZB, Nat.reduceAdd, Nat.reducePow, ↓reduceIte, eq_self, Int.reduceEq, Nat.reduceEqDiff, Nat.reduceMul, Nat.reduceLeDiff, Tryz.f113, a1, hw, hc, rq135, q1, q2, bne, q3, Bool.true_and, Bool.not_false, Bool.true_or, ↓op_extract, tupAt_mk, ix0, ix1]
      try rfl
theorem L90 (l : Nat) (h : AH) : ∀ (n : Nat) (s : Bs), s.length ≤ n → L90_0 l (sV s) h = some (.ret (.bool (textOk s)) h) := by
  intro n
  induction n with
  | zero =>
    intro s hn
    have : s = [] := List.eq_nil_of_length_eq_zero (by omega)
    subst this
    have q : decide (([] : Bs) = []) = true := rfl
    refine run_code Tryz.func90 rfl rfl ?_
    simp only [↓XX, ↓XD, ↓YX, ZB, Nat.reduceAdd, Nat.reducePow, ↓reduceIte, eq_self, Int.reduceEq, Nat.reduceEqDiff, Nat.reduceMul, Nat.reduceLeDiff, Tryz.f90, eqB, q, Bool.not_true, textOk_nil]
  | succ n ih =>
    intro s hn
    cases s with
    | nil =>
      have q : decide (([] : Bs) = []) = true := rfl
      refine run_code Tryz.func90 rfl rfl ?_
      simp only [↓XX, ↓XD, ↓YX, ZB, Nat.reduceAdd, Nat.reducePow, ↓reduceIte, eq_self, Int.reduceEq, Nat.reduceEqDiff, Nat.reduceMul, Nat.reduceLeDiff, Tryz.f90, eqB, q, Bool.not_true, textOk_nil]
    | cons b r =>
      have q : decide ((b :: r : Bs) = []) = false := by simp
      have a1 := rq113 (b :: r) l h
      have ag := agree b r
      obtain ⟨b1, -⟩ := decL_bd (b :: r)
      refine run_code Tryz.func90 rfl rfl ?_
      rw [textOk_cons]
      unfold Agree at ag
      by_cases hp : 1 ≤ (nxtN (b :: r)).2
      · rw [if_pos hp] at ag
        obtain ⟨g1, g2, g3⟩ := ag
        have hsz : ((B ((b :: r).take (decL (b :: r)).2)).size : Int) = ((decL (b :: r)).2 : Int) := by rw [size_B, List.length_take]; congr 1; omega
        have hc : strCut (B (b :: r)) ((decL (b :: r)).2 : Int) ((B (b :: r)).size : Int) = some (B ((b :: r).drop (decL (b :: r)).2)) := by
          have := strCut_B (b :: r) (decL (b :: r)).2 (b :: r).length b1 (Nat.le_refl _)
          rw [size_B]
          simpa using this
        rw [if_neg (by omega)]
        simp only [↓XX, ↓XD, ↓YX, ZB, Nat.reduceAdd, Nat.reducePow, ↓reduceIte, eq_self, Int.reduceEq, Nat.reduceEqDiff, Nat.reduceMul, Nat.reduceLeDiff, Tryz.f90, eqB, q, a1, g1, Bool.not_true, Bool.not_false, hsz, hc, ↓op_extract, tupAt_mk, ix0, ix1]
        have := ih ((b :: r).drop (decL (b :: r)).2) (by rw [List.length_drop]; omega)
        rw [show (nxtN (b :: r)).2.toNat = (decL (b :: r)).2 by omega]
        exact this
      · rw [if_neg hp] at ag
        rw [if_pos (by omega)]
        simp only [↓XX, ↓XD, ↓YX, ZB, Nat.reduceAdd, Nat.reducePow, ↓reduceIte, eq_self, Int.reduceEq, Nat.reduceEqDiff, Nat.reduceMul, Nat.reduceLeDiff, Tryz.f90, eqB, q, a1, ag, Bool.not_true, Bool.not_false, ↓op_extract, tupAt_mk, ix0, ix1]
theorem rq90 (s : Bs) (l : Nat) (h : AH) : run V0 (.fn 90) l [S (sV s)] h = some (.ret (.bool (textOk s)) h) := by
  refine run_fn Tryz.func90 rfl rfl rfl rfl ?_
  simp only [↓XX, ↓XD, ↓YX, ZB, Nat.reduceAdd, Nat.reducePow, ↓reduceIte, eq_self, Int.reduceEq, Nat.reduceEqDiff, Nat.reduceMul, Nat.reduceLeDiff, Tryz.f90]
  exact L90 l h _ s (Nat.le_refl _)
end Go.Abs
namespace Go.Abs
open Go.Proofs
set_option maxRecDepth 100000
set_option linter.unusedSimpArgs false
set_option linter.unusedVariables false
set_option pp.maxSteps 20000
set_option pp.deepTerms true
theorem L119 (a : UInt8) (s : Bs) (hs : s.length ≤ 2 ^ 40) (p many : Nat) (hm : many ≤ 4) (l : Nat) (h : AH) (ha : strAt (B s) (p : Int) = some (a.toNat : Int)) :
    ∀ (k : Nat) (q r : Bs) (i n : Nat) (ii ni : Int) (f : Bool), q ++ r = s → k + i = many → q.length = p + i → ii = i → ni = n → 1 ≤ i → f = decide (i = 1) → n < 2 ^ (6 * i + 8) →
      L119_0 l (sV s) (iV p) (iV many) (iV ni) (iV ii) h = some (.ret (.tuple #[iV (tlN a.toNat many k f n r).1, iV (tlN a.toNat many k f n r).2]) h) := by
  have hsz := size_B s
  intro k
  induction k with
  | zero =>
    rintro q r i n ii ni f hq hk hp rfl rfl hi rfl hn
    have hlt : decide ((i : Int) < (many : Int)) = false := decide_eq_false (by omega)
    have h0 : ((many : Int) == 0) = false := by simp; omega
    refine run_code Tryz.func119 rfl rfl ?_
    rw [tl_zero]
    cases hg : sgnI (n : Int) with
    | true =>
      rw [if_neg (by simp; omega)]
      simp (disch := first | exact dI | fail) only [↓XX, ↓XD, ↓YX, ZB, Nat.reduceAdd, Nat.reducePow, ↓reduceIte, eq_self, Int.reduceEq, Nat.reduceEqDiff, Nat.reduceMul, Nat.reduceLeDiff, Tryz.f119, hlt, h0, rq143, hg, Bool.not_true, Bool.not_false]
      try rfl
    | false =>
      rw [if_pos (.inr rfl)]
      simp (disch := first | exact dI | fail) only [↓XX, ↓XD, ↓YX, ZB, Nat.reduceAdd, Nat.reducePow, ↓reduceIte, eq_self, Int.reduceEq, Nat.reduceEqDiff, Nat.reduceMul, Nat.reduceLeDiff, Tryz.f119, hlt, h0, rq143, hg, Bool.not_true, Bool.not_false]
      try rfl
  | succ k ih =>
    rintro q r i n ii ni f hq hk hp rfl rfl hi rfl hn
    have hlt : decide ((i : Int) < (many : Int)) = true := decide_eq_true (by omega)
    have hw : IntKind.i64.wrap ((p : Int) + (i : Int)) = ((q.length : Nat) : Int) := by rw [wrap64 (by have := congrArg List.length hq; simp at this; omega)]; omega
    refine run_code Tryz.func119 rfl rfl ?_
    cases r with
    | nil =>
      have hge : decide (((B s).size : Int) ≤ ((q.length : Nat) : Int)) = true := decide_eq_true (by rw [hsz, ← hq]; simp)
      rw [tl_nil]
      simp (disch := first | exact dI | fail) only [↓XX, ↓XD, ↓YX, ZB, Nat.reduceAdd, Nat.reducePow, ↓reduceIte, eq_self, Int.reduceEq, Nat.reduceEqDiff, Nat.reduceMul, Nat.reduceLeDiff, Tryz.f119, hlt, hw, hge]
      try rfl
    | cons b r =>
      have hge : decide (((B s).size : Int) ≤ ((q.length : Nat) : Int)) = false := decide_eq_false (by rw [hsz, ← hq]; simp; omega)
      have hat : strAt (B s) ((q.length : Nat) : Int) = some (b.toNat : Int) := by rw [← hq]; exact strAt_mid q b r
      have hbb := u8_lt b
      have hb : IntKind.i64.wrap (b.toNat : Int) = (b.toNat : Int) := wrap64 (by omega)
      have haa := u8_lt a
      have ha2 : IntKind.i64.wrap (a.toNat : Int) = (a.toNat : Int) := wrap64 (by omega)
      rw [tl_cons]
      cases hin : inI (b.toNat : Int) 128 191 with
      | false =>
        have hno : ¬ (128 ≤ b.toNat ∧ b.toNat ≤ 191) := by simp only [inI, Bool.and_eq_false_iff, decide_eq_false_iff_not] at hin; omega
        rw [if_pos (.inl hno)]
        simp (disch := first | exact dI | fail) only [↓XX, ↓XD, ↓YX, ZB, Nat.reduceAdd, Nat.reducePow, ↓reduceIte, eq_self, Int.reduceEq, Nat.reduceEqDiff, Nat.reduceMul, Nat.reduceLeDiff, Tryz.f119, hlt, hw, hge, hat, hb, rq56, hin, Bool.not_true, Bool.not_false]
        try rfl
      | true =>
        have hyes : 128 ≤ b.toNat ∧ b.toNat ≤ 191 := by simp only [inI, Bool.and_eq_true, decide_eq_true_eq] at hin; omega
        have h2 : n < 2 ^ 40 := Nat.lt_of_lt_of_le hn (Nat.pow_le_pow_right (by decide) (by omega))
        have hw1 : IntKind.i64.wrap ((n : Int) * 64) = (n : Int) * 64 := wrap64 (by omega)
        have hw2 : IntKind.i64.wrap ((n : Int) * 64 + (b.toNat : Int)) = (n : Int) * 64 + (b.toNat : Int) := wrap64 (by omega)
        have hw3 : IntKind.i64.wrap ((n : Int) * 64 + (b.toNat : Int) - 128) = ((n * 64 + b.toNat - 128 : Nat) : Int) := by rw [wrap64 (by omega)]; omega
        have hw4 : IntKind.i64.wrap ((i : Int) + 1) = ((i + 1 : Nat) : Int) := natCast_succ_wrap (by omega) rfl
        have hnext := ih (q ++ [b]) r (i + 1) (n * 64 + b.toNat - 128) _ _ false (by rw [← hq]; simp) (by omega) (by simp; omega) rfl rfl (by omega) (by simp; omega) (by
          have : 2 ^ (6 * (i + 1) + 8) = 2 ^ (6 * i + 8) * 64 := by rw [show 6 * (i + 1) + 8 = (6 * i + 8) + 6 by omega, Nat.pow_add]
          have h1 : 2 ^ 8 ≤ 2 ^ (6 * i + 8) := Nat.pow_le_pow_right (by decide) (by omega)
          rw [this]
          generalize 2 ^ (6 * i + 8) = X at *
          omega)
        by_cases hi1 : i = 1
        · subst hi1
          have d1 : (((1 : Nat) : Int) == 1) = true := rfl
          cases hsec : secN a.toNat b.toNat with
          | false =>
            rw [if_pos (.inr ⟨rfl, rfl⟩)]
            simp (disch := first | exact dI | fail) only [↓XX, ↓XD, ↓YX, ZB, Nat.reduceAdd, Nat.reducePow, ↓reduceIte, eq_self, Int.reduceEq, Nat.reduceEqDiff, Nat.reduceMul, Nat.reduceLeDiff, Tryz.f119, hlt, hw, hge, hat, hb, rq56, hin, d1, ha, ha2, rq142, hsec, Bool.not_true, Bool.not_false]
            try rfl
          | true =>
            rw [if_neg (by simp [hyes])]
            simp (disch := first | exact dI | fail) only [↓XX, ↓XD, ↓YX, ZB, Nat.reduceAdd, Nat.reducePow, ↓reduceIte, eq_self, Int.reduceEq, Nat.reduceEqDiff, Nat.reduceMul, Nat.reduceLeDiff, Tryz.f119, hlt, hw, hge, hat, hb, rq56, hin, d1, ha, ha2, rq142, hsec, Bool.not_true, Bool.not_false, hw1, hw2, hw3, hw4]
            exact hnext
        · have d1 : ((i : Int) == 1) = false := by simp; omega
          have d2 : decide (i = 1) = false := decide_eq_false hi1
          rw [d2, if_neg (by simp [hyes])]
          simp (disch := first | exact dI | fail) only [↓XX, ↓XD, ↓YX, ZB, Nat.reduceAdd, Nat.reducePow, ↓reduceIte, eq_self, Int.reduceEq, Nat.reduceEqDiff, Nat.reduceMul, Nat.reduceLeDiff, Tryz.f119, hlt, hw, hge, hat, hb, rq56, hin, d1, Bool.not_true, Bool.not_false, hw1, hw2, hw3, hw4]
          exact hnext
theorem rq119 (p r : Bs) (a : UInt8) (l : Nat) (h : AH) (hl : l ≤ h.length) (hs : (p ++ a :: r).length ≤ 2 ^ 40) :
    ∃ h', run V0 (.fn 119) l [S (sV (p ++ a :: r)), S (iV p.length)] h = some (.ret (.tuple #[iV (nxtN (a :: r)).1, iV (nxtN (a :: r)).2]) h') ∧ Keep h.length h h' := by
  have hat : strAt (B (p ++ a :: r)) (p.length : Int) = some (a.toNat : Int) := strAt_mid p a r
  have haa := u8_lt a
  have ha2 : IntKind.i64.wrap (a.toNat : Int) = (a.toNat : Int) := wrap64 (by omega)
  have hL := fun many hm h => L119 a (p ++ a :: r) hs p.length many hm l h hat
  have hm4 : leadN a.toNat = 0 ∨ leadN a.toNat = 1 ∨ leadN a.toNat = 2 ∨ leadN a.toNat = 3 ∨ leadN a.toNat = 4 := by
    unfold leadN; repeat' split
    all_goals simp
  have en : nxtN (a :: r) = tlN a.toNat (leadN a.toNat) (leadN a.toNat - 1) true (fstN a.toNat) r := rfl
  rw [en]
  rcases hm4 with e | e | e | e | e
  · have a1 : ∀ h, run V0 (.fn 141) l [S (.int .u8 a.toNat)] h = some (.ret (iV 0) h) := fun h => by rw [rq141, e]; rfl
    have hx : tlN a.toNat 0 0 true (fstN a.toNat) r = (0, 0) := by rw [tl_zero, if_pos (.inl rfl)]
    have hy : ∀ h, L119_0 l (sV (p ++ a :: r)) (iV p.length) (iV 0) (iV a.toNat) (iV 1) h = some (.ret (.tuple #[iV 0, iV 0]) h) := fun h => by
      refine run_code Tryz.func119 rfl rfl ?_
      simp (disch := first | exact dI | fail) only [↓XX, ↓XD, ↓YX, ZB, Nat.reduceAdd, Nat.reducePow, ↓reduceIte, eq_self, Int.reduceEq, Nat.reduceEqDiff, Nat.reduceMul, Nat.reduceLeDiff, Tryz.f119, Bool.not_true, Bool.not_false, Int.reduceBEq]
      try rfl
    rw [e, hx]
    refine ⟨h, run_fn Tryz.func119 rfl rfl rfl rfl ?_, Keep.refl _ _⟩
    simp (disch := first | exact dI | fail) only [↓XX, ↓XD, ↓YX, ZB, Nat.reduceAdd, Nat.reducePow, ↓reduceIte, eq_self, Int.reduceEq, Nat.reduceEqDiff, Nat.reduceMul, Nat.reduceLeDiff, Tryz.f119, hat, ha2, a1]
    exact hy h
  · have a1 : ∀ h, run V0 (.fn 141) l [S (.int .u8 a.toNat)] h = some (.ret (iV 1) h) := fun h => by rw [rq141, e]; rfl
    have hf : fstN a.toNat = a.toNat := by unfold fstN; rw [e]; rfl
    rw [e, hf]
    refine ⟨h, run_fn Tryz.func119 rfl rfl rfl rfl ?_, Keep.refl _ _⟩
    simp (disch := first | exact dI | fail) only [↓XX, ↓XD, ↓YX, ZB, Nat.reduceAdd, Nat.reducePow, ↓reduceIte, eq_self, Int.reduceEq, Nat.reduceEqDiff, Nat.reduceMul, Nat.reduceLeDiff, Tryz.f119, hat, ha2, a1]
    exact hL 1 (by omega) h 0 (p ++ [a]) r 1 a.toNat 1 _ true (by simp) rfl (by simp) rfl rfl (by omega) rfl (by omega)
  · have a1 : ∀ h, run V0 (.fn 141) l [S (.int .u8 a.toNat)] h = some (.ret (iV 2) h) := fun h => by rw [rq141, e]; rfl
    have hf : fstN a.toNat = a.toNat % 32 := by unfold fstN; rw [e]; rfl
    have hw : (if (32 : Int) = 0 then none else some (Int.tmod (a.toNat : Int) 32)) = some ((a.toNat % 32 : Nat) : Int) := by rw [if_neg (by decide), Int.tmod_eq_emod_of_nonneg (by omega)]; rfl
    have d1 : decide ((1 : Int) < 2) = true := rfl
    have hix : ixAddr (newS h 5 5) 2 1 = some (pV h.length 2 0) := rfl
    have hld : ld (h ++ [AObj.row 0 1 [iV 0, iV 0, iV 32, iV 16, iV 8]]) (pV h.length 2 0) = some (iV 32) := ld_of (g := 0) (sz := 1) (cs := [iV 0, iV 0, iV 32, iV 16, iV 8]) (by rw [List.getElem?_append_right (Nat.le_refl _)]; simp) rfl
    rw [e, hf]
    refine ⟨h ++ [AObj.row 0 1 [iV 0, iV 0, iV 32, iV 16, iV 8]], run_fn Tryz.func119 rfl rfl rfl rfl ?_, Keep.app _ _ (Nat.le_refl _)⟩
    simp (disch := first | exact dI | fail) only [↓XX, ↓XD, ↓YX, ZB, Nat.reduceAdd, Nat.reducePow, ↓reduceIte, eq_self, Int.reduceEq, Nat.reduceEqDiff, Nat.reduceMul, Nat.reduceLeDiff, Tryz.f119, hat, ha2, a1, d1, hix, hld, hw]
    exact hL 2 (by omega) _ 1 (p ++ [a]) r 1 (a.toNat % 32) 1 _ true (by simp) rfl (by simp) rfl rfl (by omega) rfl (by omega)
  · have a1 : ∀ h, run V0 (.fn 141) l [S (.int .u8 a.toNat)] h = some (.ret (iV 3) h) := fun h => by rw [rq141, e]; rfl
    have hf : fstN a.toNat = a.toNat % 16 := by unfold fstN; rw [e]; rfl
    have hw : (if (16 : Int) = 0 then none else some (Int.tmod (a.toNat : Int) 16)) = some ((a.toNat % 16 : Nat) : Int) := by rw [if_neg (by decide), Int.tmod_eq_emod_of_nonneg (by omega)]; rfl
    have d1 : decide ((1 : Int) < 3) = true := rfl
    have hix : ixAddr (newS h 5 5) 3 1 = some (pV h.length 3 0) := rfl
    have hld : ld (h ++ [AObj.row 0 1 [iV 0, iV 0, iV 32, iV 16, iV 8]]) (pV h.length 3 0) = some (iV 16) := ld_of (g := 0) (sz := 1) (cs := [iV 0, iV 0, iV 32, iV 16, iV 8]) (by rw [List.getElem?_append_right (Nat.le_refl _)]; simp) rfl
    rw [e, hf]
    refine ⟨h ++ [AObj.row 0 1 [iV 0, iV 0, iV 32, iV 16, iV 8]], run_fn Tryz.func119 rfl rfl rfl rfl ?_, Keep.app _ _ (Nat.le_refl _)⟩
    simp (disch := first | exact dI | fail) only [↓XX, ↓XD, ↓YX, ZB, Nat.reduceAdd, Nat.reducePow, ↓reduceIte, eq_self, Int.reduceEq, Nat.reduceEqDiff, Nat.reduceMul, Nat.reduceLeDiff, Tryz.f119, hat, ha2, a1, d1, hix, hld, hw]
    exact hL 3 (by omega) _ 2 (p ++ [a]) r 1 (a.toNat % 16) 1 _ true (by simp) rfl (by simp) rfl rfl (by omega) rfl (by omega)
  · have a1 : ∀ h, run V0 (.fn 141) l [S (.int .u8 a.toNat)] h = some (.ret (iV 4) h) := fun h => by rw [rq141, e]; rfl
    have hf : fstN a.toNat = a.toNat % 8 := by unfold fstN; rw [e]; rfl
    have hw : (if (8 : Int) = 0 then none else some (Int.tmod (a.toNat : Int) 8)) = some ((a.toNat % 8 : Nat) : Int) := by rw [if_neg (by decide), Int.tmod_eq_emod_of_nonneg (by omega)]; rfl
    have d1 : decide ((1 : Int) < 4) = true := rfl
    have hix : ixAddr (newS h 5 5) 4 1 = some (pV h.length 4 0) := rfl
    have hld : ld (h ++ [AObj.row 0 1 [iV 0, iV 0, iV 32, iV 16, iV 8]]) (pV h.length 4 0) = some (iV 8) := ld_of (g := 0) (sz := 1) (cs := [iV 0, iV 0, iV 32, iV 16, iV 8]) (by rw [List.getElem?_append_right (Nat.le_refl _)]; simp) rfl
    rw [e, hf]
    refine ⟨h ++ [AObj.row 0 1 [iV 0, iV 0, iV 32, iV 16, iV 8]], run_fn Tryz.func119 rfl rfl rfl rfl ?_, Keep.app _ _ (Nat.le_refl _)⟩
    simp (disch := first | exact dI | fail) only [↓XX, ↓XD, ↓YX, ZB, Nat.reduceAdd, Nat.reducePow, ↓reduceIte, eq_self, Int.reduceEq, Nat.reduceEqDiff, Nat.reduceMul, Nat.reduceLeDiff, Tryz.f119, hat, ha2, a1, d1, hix, hld, hw]
    exact hL 4 (by omega) _ 3 (p ++ [a]) r 1 (a.toNat % 8) 1 _ true (by simp) rfl (by simp) rfl rfl (by omega) rfl (by omega)
end Go.Abs
namespace Go.Abs
open Go.Proofs
set_option maxRecDepth 100000
set_option linter.unusedSimpArgs false
set_option linter.unusedVariables false
set_option pp.maxSteps 20000
theorem L99 (s : Bs) (hs : s.length ≤ 2 ^ 40) (l : Nat) : ∀ (n : Nat) (p r : Bs) (h : AH), r.length ≤ n → p ++ r = s → l ≤ h.length →
    ∃ h', L99_0 l (sV s) (iV p.length) h = some (.ret (.bool (textOk r)) h') ∧ Keep h.length h h' := by
  have hsz := size_B s
  have nil : ∀ (p : Bs) (h : AH), p ++ [] = s → ∃ h', L99_0 l (sV s) (iV p.length) h = some (.ret (.bool (textOk [])) h') ∧ Keep h.length h h' := by
    intro p h hp
    have hlt : decide ((p.length : Int) < ((B s).size : Int)) = false := decide_eq_false (by rw [hsz, ← hp]; simp)
    refine ⟨h, run_code Tryz.func99 rfl rfl ?_, Keep.refl _ _⟩
    simp only [↓XX, ↓XD, ↓YX, ZB, Nat.reduceAdd, Nat.reducePow, ↓reduceIte, eq_self, Int.reduceEq, Nat.reduceEqDiff, Nat.reduceMul, Nat.reduceLeDiff, Tryz.f99, hlt, textOk_nil]
  intro n
  induction n with
  | zero =>
    intro p r h hn hp hl
    have : r = [] := List.eq_nil_of_length_eq_zero (by omega)
    subst this
    exact nil p h hp
  | succ n ih =>
    intro p r h hn hp hl
    cases r with
    | nil => exact nil p h hp
    | cons b r =>
      have hlt : decide ((p.length : Int) < ((B s).size : Int)) = true := decide_eq_true (by rw [hsz, ← hp]; simp; omega)
      obtain ⟨h1, a1, k1⟩ := rq119 p r b l h hl (by rw [hp]; exact hs)
      rw [hp] at a1
      have ag := agree b r
      obtain ⟨b1, -⟩ := decL_bd (b :: r)
      rw [textOk_cons]
      unfold Agree at ag
      by_cases hq : 1 ≤ (nxtN (b :: r)).2
      · rw [if_pos hq] at ag
        obtain ⟨g1, g2, g3⟩ := ag
        have d1 : decide ((nxtN (b :: r)).2 < 1) = false := decide_eq_false (by omega)
        have hps := congrArg List.length hp
        simp only [List.length_append, List.length_cons] at hps b1
        have hw : IntKind.i64.wrap ((p.length : Int) + (nxtN (b :: r)).2) = (((p ++ (b :: r).take (decL (b :: r)).2).length : Nat) : Int) := by
          rw [wrap64 (by omega), List.length_append, List.length_take, List.length_cons]; omega
        obtain ⟨h2, a2, k2⟩ := ih (p ++ (b :: r).take (decL (b :: r)).2) ((b :: r).drop (decL (b :: r)).2) h1 (by rw [List.length_drop]; simp only [List.length_cons] at hn ⊢; omega) (by rw [List.append_assoc, List.take_append_drop]; exact hp) (by have := k1.1; omega)
        refine ⟨h2, run_code Tryz.func99 rfl rfl ?_, k1.trans (k2.le k1.1)⟩
        rw [if_neg (by omega), show (nxtN (b :: r)).2.toNat = (decL (b :: r)).2 by omega]
        simp only [↓XX, ↓XD, ↓YX, ZB, Nat.reduceAdd, Nat.reducePow, ↓reduceIte, eq_self, Int.reduceEq, Nat.reduceEqDiff, Nat.reduceMul, Nat.reduceLeDiff, Tryz.f99, hlt, a1, d1, hw, ↓op_extract, tupAt_mk, ix0, ix1]
        exact a2
      · have d1 : decide ((nxtN (b :: r)).2 < 1) = true := decide_eq_true (by omega)
        refine ⟨h1, run_code Tryz.func99 rfl rfl ?_, k1⟩
        rw [if_pos (by omega)]
        simp only [↓XX, ↓XD, ↓YX, ZB, Nat.reduceAdd, Nat.reducePow, ↓reduceIte, eq_self, Int.reduceEq, Nat.reduceEqDiff, Nat.reduceMul, Nat.reduceLeDiff, Tryz.f99, hlt, a1, d1, ↓op_extract, tupAt_mk, ix0, ix1]
theorem rq99 (s : Bs) (hs : s.length ≤ 2 ^ 40) (l : Nat) (h : AH) (hl : l ≤ h.length) : ∃ h', run V0 (.fn 99) l [S (sV s)] h = some (.ret (.bool (textOk s)) h') ∧ Keep h.length h h' := by
  obtain ⟨h', a, k⟩ := L99 s hs l _ [] s h (Nat.le_refl _) rfl hl
  refine ⟨h', run_fn Tryz.func99 rfl rfl rfl rfl ?_, k⟩
  simp only [↓XX, ↓XD, ↓YX, ZB, Nat.reduceAdd, Nat.reducePow, ↓reduceIte, eq_self, Int.reduceEq, Nat.reduceEqDiff, Nat.reduceMul, Nat.reduceLeDiff, Tryz.f99]
  exact a
theorem rq44 (s : Bs) (hs : s.length ≤ 2 ^ 40) (l : Nat) (h : AH) : run V0 (.fn 44) l [S (sV s)] h = some (.ret (.bool (bodyOkL s)) h) := by
  refine run_fn Tryz.func44 rfl rfl rfl rfl ?_
  unfold bodyOkL
  cases q : inI (s.length : Int) 1 60 with
  | true => simp (disch := first | exact dI | fail) only [↓XX, ↓XD, ↓YX, ZB, Nat.reduceAdd, Nat.reducePow, ↓reduceIte, eq_self, Int.reduceEq, Nat.reduceEqDiff, Nat.reduceMul, Nat.reduceLeDiff, Tryz.f44, rq34, size_B, q, rq90, Bool.and_true]
  | false => simp (disch := first | exact dI | fail) only [↓XX, ↓XD, ↓YX, ZB, Nat.reduceAdd, Nat.reducePow, ↓reduceIte, eq_self, Int.reduceEq, Nat.reduceEqDiff, Nat.reduceMul, Nat.reduceLeDiff, Tryz.f44, rq34, size_B, q, rq90, Bool.and_false]
theorem rq57 (s : Bs) (hs : s.length ≤ 2 ^ 40) (l : Nat) (h : AH) (hl : l ≤ h.length) : ∃ h', run V0 (.fn 57) l [S (sV s)] h = some (.ret (.bool (bodyOkL s)) h') ∧ Keep h.length h h' := by
  obtain ⟨h', a, k⟩ := rq99 s hs l h hl
  refine ⟨h', run_fn Tryz.func57 rfl rfl rfl rfl ?_, k⟩
  unfold bodyOkL
  cases q : textOk s with
  | true =>
    rw [q] at a
    simp (disch := first | exact dI | fail) only [↓XX, ↓XD, ↓YX, ZB, Nat.reduceAdd, Nat.reducePow, ↓reduceIte, eq_self, Int.reduceEq, Nat.reduceEqDiff, Nat.reduceMul, Nat.reduceLeDiff, Tryz.f57, rq56, size_B, a, Bool.true_and]
  | false =>
    rw [q] at a
    simp (disch := first | exact dI | fail) only [↓XX, ↓XD, ↓YX, ZB, Nat.reduceAdd, Nat.reducePow, ↓reduceIte, eq_self, Int.reduceEq, Nat.reduceEqDiff, Nat.reduceMul, Nat.reduceLeDiff, Tryz.f57, rq56, size_B, a, Bool.false_and]
theorem r_orBody (s : Bs) (hs : s.length ≤ 2 ^ 40) (l : Nat) (h : AH) : run V0 (.fn 43) l [S (sV s), S (fnV 44)] h = some (.ret (.bool (subOk s)) h) := by
  have a1 := rq44 s hs l h
  unfold subOk
  refine run_fn Tryz.func43 rfl rfl rfl rfl ?_
  cases q : decide (s = []) with
  | true => simp only [↓XX, ↓XD, ↓YX, ZB, Nat.reduceAdd, Nat.reducePow, ↓reduceIte, eq_self, Int.reduceEq, Nat.reduceEqDiff, Nat.reduceMul, Nat.reduceLeDiff, Tryz.f43, eqB, q, Bool.true_or]
  | false => simp only [↓XX, ↓XD, ↓YX, ZB, Nat.reduceAdd, Nat.reducePow, ↓reduceIte, eq_self, Int.reduceEq, Nat.reduceEqDiff, Nat.reduceMul, Nat.reduceLeDiff, Tryz.f43, eqB, q, a1, Bool.false_or]
theorem prn_b (b : UInt8) : (decide (32 ≤ (b.toNat : Int)) && !((b.toNat : Int) == 127)) = !(decide ((b.toNat : Int) < 32) || ((b.toNat : Int) == 127)) := by
  rw [Bool.eq_iff_iff]; simp
theorem at_head (s : Bs) (c : UInt8) (h : s.head? = some c) : strAt (B s) 0 = some (c.toNat : Int) := by
  cases s with
  | nil => cases h
  | cons x t => injection h with h; subst h; exact strAt_mid [] x t
theorem at_last (s : Bs) (d : UInt8) (h : s.getLast? = some d) : strAt (B s) ((s.length : Int) - 1) = some (d.toNat : Int) := by
  have hl : 1 ≤ s.length := by cases s with | nil => simp at h | cons c t => simp
  rw [show (s.length : Int) - 1 = ((s.length - 1 : Nat) : Int) by omega, strAt_B, ← List.getLast?_eq_getElem?, h]; rfl
theorem b_eq (c : UInt8) : ((c.toNat : Int) == 32) = (some c == some (32 : UInt8)) := by
  rw [Bool.eq_iff_iff]
  simp only [beq_iff_eq, Option.some.injEq]
  constructor
  · intro e; apply UInt8.toNat_inj.1; show c.toNat = 32; omega
  · rintro rfl; rfl
/-- impl.nickOk: its loop -/
theorem L45 (s : Bs) (hs : s.length ≤ 2 ^ 40) (l id : Nat) (h : AH) (e : h[id]? = some (.row 0 25769803777 (u8c s))) : ∀ (r d : Bs), s = d ++ r →
    L45_0 l (sV s) (slV id 0 s.length s.length) (iV s.length) (iV d.length) h = some (.ret (.bool (prnL r && textOk s && inI s.length 1 10 && !(s.head? == some 32) && !(s.getLast? == some 32))) h) := by
  have hsz := size_B s
  intro r
  induction r with
  | nil =>
    intro d hk
    rw [List.append_nil] at hk
    have hlt : decide ((d.length : Int) < (s.length : Int)) = false := by rw [decide_eq_false_iff_not, hk]; omega
    refine run_code Tryz.func45 rfl rfl ?_
    have hp : prnL [] = true := rfl
    rw [hp]
    cases q1 : inI (s.length : Int) 1 10 with
    | false => simp (disch := first | exact dI | fail) only [↓XX, ↓XD, ↓YX, ZB, Nat.reduceAdd, Nat.reducePow, ↓reduceIte, eq_self, Int.reduceEq, Nat.reduceEqDiff, Nat.reduceMul, Nat.reduceLeDiff, Tryz.f45, hlt, rq34, hsz, q1, Bool.and_false, Bool.false_and]
    | true =>
      cases q2 : textOk s with
      | false => simp (disch := first | exact dI | fail) only [↓XX, ↓XD, ↓YX, ZB, Nat.reduceAdd, Nat.reducePow, ↓reduceIte, eq_self, Int.reduceEq, Nat.reduceEqDiff, Nat.reduceMul, Nat.reduceLeDiff, Tryz.f45, hlt, rq34, hsz, q1, rq90, q2, Bool.and_false, Bool.false_and]
      | true =>
        have hne : s ≠ [] := fun q => by subst q; exact absurd q1 (by decide)
        obtain ⟨c, hh⟩ : ∃ c, s.head? = some c := by
          cases s with
          | nil => exact absurd rfl hne
          | cons c t => exact ⟨c, rfl⟩
        have h0 := at_head s c hh
        obtain ⟨dl, hd⟩ : ∃ dl, s.getLast? = some dl := ⟨_, List.getLast?_eq_some_getLast hne⟩
        have h1 := at_last _ _ hd
        have hw : IntKind.i64.wrap ((s.length : Int) - 1) = (s.length : Int) - 1 := wrap64 (by omega)
        rw [hh, hd, ← b_eq, ← b_eq]
        cases q3 : ((c.toNat : Int) == 32) with
        | true => simp (disch := first | exact dI | fail) only [↓XX, ↓XD, ↓YX, ZB, Nat.reduceAdd, Nat.reducePow, ↓reduceIte, eq_self, Int.reduceEq, Nat.reduceEqDiff, Nat.reduceMul, Nat.reduceLeDiff, Tryz.f45, hlt, rq34, hsz, q1, rq90, q2, h0, bne, q3, Bool.and_false, Bool.false_and, Bool.not_true, Bool.not_false]
        | false =>
          cases q4 : ((dl.toNat : Int) == 32) with
          | true => simp (disch := first | exact dI | fail) only [↓XX, ↓XD, ↓YX, ZB, Nat.reduceAdd, Nat.reducePow, ↓reduceIte, eq_self, Int.reduceEq, Nat.reduceEqDiff, Nat.reduceMul, Nat.reduceLeDiff, Tryz.f45, hlt, rq34, hsz, q1, rq90, q2, h0, h1, hw, bne, q3, q4, Bool.and_false, Bool.false_and, Bool.not_true, Bool.not_false, Bool.and_true]
          | false => simp (disch := first | exact dI | fail) only [↓XX, ↓XD, ↓YX, ZB, Nat.reduceAdd, Nat.reducePow, ↓reduceIte, eq_self, Int.reduceEq, Nat.reduceEqDiff, Nat.reduceMul, Nat.reduceLeDiff, Tryz.f45, hlt, rq34, hsz, q1, rq90, q2, h0, h1, hw, bne, q3, q4, Bool.and_false, Bool.false_and, Bool.not_true, Bool.not_false, Bool.and_true]
  | cons b r ih =>
    intro d hk
    have hlen : d.length + 1 ≤ s.length := by rw [hk]; simp
    have hlt : decide ((d.length : Int) < (s.length : Int)) = true := by rw [decide_eq_true_iff]; omega
    have hix : ixAddr (slV id 0 s.length s.length) (d.length : Int) 1 = some (pV id d.length 0) := by rw [ixAddr_sl (by omega)]; simp
    have hld : ld h (pV id d.length 0) = some (.int .u8 b.toNat) := ld_of e (by rw [hk]; exact u8c_get d b r)
    have hw : IntKind.i64.wrap ((d.length : Int) + 1) = (((d ++ [b]).length : Nat) : Int) := natCast_succ_wrap (by omega) (by simp)
    have ih' := ih (d ++ [b]) (by rw [hk]; simp)
    have hp : prnL (b :: r) = (!(decide ((b.toNat : Int) < 32) || ((b.toNat : Int) == 127)) && prnL r) := by
      rw [← prn_b]; rfl
    rw [hp]
    refine run_code Tryz.func45 rfl rfl ?_
    cases q1 : decide ((b.toNat : Int) < 32) with
    | true => simp (disch := first | exact dI | fail) only [↓XX, ↓XD, ↓YX, ZB, Nat.reduceAdd, Nat.reducePow, ↓reduceIte, eq_self, Int.reduceEq, Nat.reduceEqDiff, Nat.reduceMul, Nat.reduceLeDiff, Tryz.f45, hlt, hix, hld, hw, q1, Bool.true_or, Bool.not_true, Bool.false_and]
    | false =>
      cases q2 : ((b.toNat : Int) == 127) with
      | true => simp (disch := first | exact dI | fail) only [↓XX, ↓XD, ↓YX, ZB, Nat.reduceAdd, Nat.reducePow, ↓reduceIte, eq_self, Int.reduceEq, Nat.reduceEqDiff, Nat.reduceMul, Nat.reduceLeDiff, Tryz.f45, hlt, hix, hld, hw, q1, q2, Bool.or_true, Bool.not_true, Bool.false_and]
      | false =>
        simp (disch := first | exact dI | fail) only [↓XX, ↓XD, ↓YX, ZB, Nat.reduceAdd, Nat.reducePow, ↓reduceIte, eq_self, Int.reduceEq, Nat.reduceEqDiff, Nat.reduceMul, Nat.reduceLeDiff, Tryz.f45, hlt, hix, hld, hw, q1, q2, Bool.or_false, Bool.not_false, Bool.true_and]
        exact ih'
theorem rq45 (s : Bs) (hs : s.length ≤ 2 ^ 40) (l : Nat) (h : AH) : ∃ h', run V0 (.fn 45) l [S (sV s)] h = some (.ret (.bool (nickOkL s)) h') ∧ Keep h.length h h' := by
  refine ⟨h ++ [.row 0 25769803777 (u8c s)], run_fn Tryz.func45 rfl rfl rfl rfl ?_, Keep.app _ _ (Nat.le_refl _)⟩
  simp only [↓XX, ↓XD, ↓YX, ZB, Nat.reduceAdd, Nat.reducePow, ↓reduceIte, eq_self, Int.reduceEq, Nat.reduceEqDiff, Nat.reduceMul, Nat.reduceLeDiff, Tryz.f45, lenV, newS]
  exact L45 s hs l h.length _ (by rw [List.getElem?_append_right (Nat.le_refl _)]; simp [u8c, B]) s [] rfl
end Go.Abs
namespace Go.Abs
open Go.Proofs
set_option maxRecDepth 100000
set_option linter.unusedSimpArgs false
set_option linter.unusedVariables false
set_option pp.maxSteps 20000
set_option pp.deepTerms true
/-- a call that hands back a known value and leaves what was there -/
def VQ (w : Value) (H0 : AH) (v : Value) (h' : AH) : Prop := v = w ∧ Keep H0.length H0 h'
/-- spec.l4Nick: its loop -/
theorem L100 (s : Bs) (hs : s.length ≤ 2 ^ 40) (l : Nat) (H0 : AH) (hl : l ≤ H0.length) : ∀ (r d : Bs), s = d ++ r →
    Okr (VQ (.bool (prnL r && textOk s && inI s.length 1 10 && !(s.head? == some 32) && !(s.getLast? == some 32))) H0) (L100_0 l (sV s) (iV d.length) H0) := by
  have hsz := size_B s
  intro r
  induction r with
  | nil =>
    intro d hk
    rw [List.append_nil] at hk
    have hlt : decide ((d.length : Int) < (s.length : Int)) = false := by rw [decide_eq_false_iff_not, hk]; omega
    obtain ⟨h', a, k⟩ := rq99 s hs l H0 hl
    refine okr_code Tryz.func100 rfl rfl ?_
    have hp : prnL [] = true := rfl
    rw [hp]
    cases q2 : textOk s with
    | false =>
      rw [q2] at a
      simp (disch := first | exact dI | fail) only [↓XX, ↓XD, ↓YX, ZB, Nat.reduceAdd, Nat.reducePow, ↓reduceIte, eq_self, Int.reduceEq, Nat.reduceEqDiff, Nat.reduceMul, Nat.reduceLeDiff, Tryz.f100, hsz, hlt, rq56, a, Bool.and_false, Bool.false_and]
      exact Okr.ret ⟨rfl, k⟩
    | true =>
      rw [q2] at a
      cases q1 : inI (s.length : Int) 1 10 with
      | false =>
        simp (disch := first | exact dI | fail) only [↓XX, ↓XD, ↓YX, ZB, Nat.reduceAdd, Nat.reducePow, ↓reduceIte, eq_self, Int.reduceEq, Nat.reduceEqDiff, Nat.reduceMul, Nat.reduceLeDiff, Tryz.f100, hsz, hlt, rq56, a, q1, Bool.and_false, Bool.false_and]
        exact Okr.ret ⟨rfl, k⟩
      | true =>
        have hne : s ≠ [] := fun q => by subst q; exact absurd q1 (by decide)
        obtain ⟨c, hh⟩ : ∃ c, s.head? = some c := by
          cases s with
          | nil => exact absurd rfl hne
          | cons c t => exact ⟨c, rfl⟩
        have h0 := at_head s c hh
        obtain ⟨dl, hd⟩ : ∃ dl, s.getLast? = some dl := ⟨_, List.getLast?_eq_some_getLast hne⟩
        have h1 := at_last _ _ hd
        have hw : IntKind.i64.wrap ((s.length : Int) - 1) = (s.length : Int) - 1 := wrap64 (by omega)
        rw [hh, hd, ← b_eq, ← b_eq]
        cases q3 : ((c.toNat : Int) == 32) with
        | true =>
          simp (disch := first | exact dI | fail) only [↓XX, ↓XD, ↓YX, ZB, Nat.reduceAdd, Nat.reducePow, ↓reduceIte, eq_self, Int.reduceEq, Nat.reduceEqDiff, Nat.reduceMul, Nat.reduceLeDiff, Tryz.f100, hsz, hlt, rq56, a, q1, h0, bne, q3, Bool.and_false, Bool.false_and, Bool.not_true, Bool.not_false]
          exact Okr.ret ⟨rfl, k⟩
        | false =>
          cases q4 : ((dl.toNat : Int) == 32) with
          | true =>
            simp (disch := first | exact dI | fail) only [↓XX, ↓XD, ↓YX, ZB, Nat.reduceAdd, Nat.reducePow, ↓reduceIte, eq_self, Int.reduceEq, Nat.reduceEqDiff, Nat.reduceMul, Nat.reduceLeDiff, Tryz.f100, hsz, hlt, rq56, a, q1, h0, h1, hw, bne, q3, q4, Bool.and_false, Bool.false_and, Bool.not_true, Bool.not_false, Bool.and_true]
            exact Okr.ret ⟨rfl, k⟩
          | false =>
            simp (disch := first | exact dI | fail) only [↓XX, ↓XD, ↓YX, ZB, Nat.reduceAdd, Nat.reducePow, ↓reduceIte, eq_self, Int.reduceEq, Nat.reduceEqDiff, Nat.reduceMul, Nat.reduceLeDiff, Tryz.f100, hsz, hlt, rq56, a, q1, h0, h1, hw, bne, q3, q4, Bool.and_false, Bool.false_and, Bool.not_true, Bool.not_false, Bool.and_true]
            exact Okr.ret ⟨rfl, k⟩
  | cons b r ih =>
    intro d hk
    have hlen : d.length + 1 ≤ s.length := by rw [hk]; simp
    have hlt : decide ((d.length : Int) < (s.length : Int)) = true := by rw [decide_eq_true_iff]; omega
    have hat : strAt (B s) (d.length : Int) = some (b.toNat : Int) := by rw [hk]; exact strAt_mid d b r
    have hw : IntKind.i64.wrap ((d.length : Int) + 1) = (((d ++ [b]).length : Nat) : Int) := natCast_succ_wrap (by omega) (by simp)
    have ih' := ih (d ++ [b]) (by rw [hk]; simp)
    have hp : prnL (b :: r) = (!(decide ((b.toNat : Int) < 32) || ((b.toNat : Int) == 127)) && prnL r) := by
      rw [← prn_b]; rfl
    rw [hp]
    refine okr_code Tryz.func100 rfl rfl ?_
    cases q1 : decide ((b.toNat : Int) < 32) with
    | true =>
      simp (disch := first | exact dI | fail) only [↓XX, ↓XD, ↓YX, ZB, Nat.reduceAdd, Nat.reducePow, ↓reduceIte, eq_self, Int.reduceEq, Nat.reduceEqDiff, Nat.reduceMul, Nat.reduceLeDiff, Tryz.f100, hsz, hlt, hat, hw, q1, Bool.true_or, Bool.not_true, Bool.false_and]
      exact Okr.ret ⟨rfl, Keep.refl _ _⟩
    | false =>
      cases q2 : ((b.toNat : Int) == 127) with
      | true =>
        simp (disch := first | exact dI | fail) only [↓XX, ↓XD, ↓YX, ZB, Nat.reduceAdd, Nat.reducePow, ↓reduceIte, eq_self, Int.reduceEq, Nat.reduceEqDiff, Nat.reduceMul, Nat.reduceLeDiff, Tryz.f100, hsz, hlt, hat, hw, q1, q2, Bool.or_true, Bool.not_true, Bool.false_and]
        exact Okr.ret ⟨rfl, Keep.refl _ _⟩
      | false =>
        simp (disch := first | exact dI | fail) only [↓XX, ↓XD, ↓YX, ZB, Nat.reduceAdd, Nat.reducePow, ↓reduceIte, eq_self, Int.reduceEq, Nat.reduceEqDiff, Nat.reduceMul, Nat.reduceLeDiff, Tryz.f100, hsz, hlt, hat, hw, q1, q2, Bool.or_false, Bool.not_false, Bool.true_and]
        exact ih'
theorem rq100 (s : Bs) (hs : s.length ≤ 2 ^ 40) (l : Nat) (h : AH) (hl : l ≤ h.length) : Okr (VQ (.bool (nickOkL s)) h) (run V0 (.fn 100) l [S (sV s)] h) := by
  refine okr_fn Tryz.func100 rfl rfl rfl rfl ?_
  simp only [↓XX, ↓XD, ↓YX, ZB, Nat.reduceAdd, Nat.reducePow, ↓reduceIte, eq_self, Int.reduceEq, Nat.reduceEqDiff, Nat.reduceMul, Nat.reduceLeDiff, Tryz.f100]
  exact L100 s hs l h hl s [] rfl
def posL (p : Me → Bool) : List Me → Nat → Int
  | [], _ => -1
  | x :: r, k => if p x = true then k else posL p r (k + 1)
theorem L_IndexMe (sv : Value) (n f : Nat) (p : Me → Bool) (iu gu : Nat) (u : Bs) (l : Nat) (hn : n ≤ 2 ^ 40) (hf : ∀ (x : Me) (h : AH), h[iu]? = some (.row gu 1 [sV u]) → run V0 (.fn f) l [S x.V, S (pV iu 0 gu)] h = some (.ret (.bool (p x)) (h ++ [.row 0 3 x.C]))) (H0 : AH) :
    ∀ (r d : List Me) (h : AH), Keep H0.length H0 h → d.length + r.length = n → Me.Rd h sv (d ++ r) → h[iu]? = some (.row gu 1 [sV u]) →
      Okr (VQ (iV (posL p r d.length)) H0) (L91_0 l sv (.func (.func f) #[] #[pV iu 0 gu]) (iV n) (iV d.length) h) := by
  intro r
  induction r with
  | nil =>
    intro d h k hk q e
    simp only [List.length_nil, Nat.add_zero] at hk
    have hlt : decide ((d.length : Int) < (n : Int)) = false := by rw [decide_eq_false_iff_not]; omega
    refine okr_code Tryz.func91 rfl rfl ?_
    simp (disch := first | exact dI | fail) only [↓XX, ↓XD, ↓YX, ZB, Nat.reduceAdd, Nat.reducePow, ↓reduceIte, eq_self, Int.reduceEq, Nat.reduceEqDiff, Nat.reduceMul, Nat.reduceLeDiff, Tryz.f91, hlt]
    exact Okr.ret ⟨rfl, k⟩
  | cons x r ih =>
    intro d h k hk q e
    simp only [List.length_cons] at hk
    have hlt : decide ((d.length : Int) < (n : Int)) = true := by rw [decide_eq_true_iff]; omega
    obtain ⟨pp, hix, hld⟩ := q.get
    have hw : IntKind.i64.wrap ((d.length : Int) + 1) = (((d ++ [x]).length : Nat) : Int) := natCast_succ_wrap (by omega) (by simp)
    have a1 := hf x h e
    have k1 : Keep h.length h (h ++ [AObj.row 0 3 x.C]) := Keep.app _ _ (Nat.le_refl _)
    refine okr_code Tryz.func91 rfl rfl ?_
    rw [posL]
    cases hq : p x with
    | true =>
      rw [hq] at a1
      simp (disch := first | exact dI | fail) only [↓XX, ↓XD, ↓YX, ZB, Nat.reduceAdd, Nat.reducePow, ↓reduceIte, eq_self, Int.reduceEq, Nat.reduceEqDiff, Nat.reduceMul, Nat.reduceLeDiff, Tryz.f91, hlt, hix, hld, a1, hw, if_true]
      exact Okr.ret ⟨rfl, k.trans (k1.le k.1)⟩
    | false =>
      rw [hq] at a1
      have := ih (d ++ [x]) _ (k.trans (k1.le k.1)) (by simp; omega) (by rw [List.append_assoc]; exact q.keep k1) (k1.get e (lt_of_get e))
      simp (disch := first | exact dI | fail) only [↓XX, ↓XD, ↓YX, ZB, Nat.reduceAdd, Nat.reducePow, ↓reduceIte, eq_self, Int.reduceEq, Nat.reduceEqDiff, Nat.reduceMul, Nat.reduceLeDiff, Tryz.f91, hlt, hix, hld, a1, hw, Bool.false_eq_true, if_false]
      rw [show posL p r (d.length + 1) = posL p r (d ++ [x]).length by simp]
      exact this
theorem r_IndexMe (sv : Value) (ms : List Me) (f : Nat) (p : Me → Bool) (iu gu : Nat) (u : Bs) (l : Nat) (h : AH) (hn : ms.length ≤ 2 ^ 40) (q : Me.Rd h sv ms) (e : h[iu]? = some (.row gu 1 [sV u])) (hf : ∀ (x : Me) (h : AH), h[iu]? = some (.row gu 1 [sV u]) → run V0 (.fn f) l [S x.V, S (pV iu 0 gu)] h = some (.ret (.bool (p x)) (h ++ [.row 0 3 x.C]))) :
    Okr (VQ (iV (posL p ms 0)) h) (run V0 (.fn 91) l [S sv, S (.func (.func f) #[] #[pV iu 0 gu])] h) := by
  refine okr_fn Tryz.func91 rfl rfl rfl rfl ?_
  simp (disch := first | exact dI | fail) only [↓XX, ↓XD, ↓YX, ZB, Nat.reduceAdd, Nat.reducePow, ↓reduceIte, eq_self, Int.reduceEq, Nat.reduceEqDiff, Nat.reduceMul, Nat.reduceLeDiff, Tryz.f91, q.len]
  exact L_IndexMe sv ms.length f p iu gu u l hn hf h ms [] h (Keep.refl _ _) (by simp) q e
theorem rq92 (x : Me) (u : Bs) (iu g l : Nat) (h : AH) (e : h[iu]? = some (.row g 1 [sV u])) :
    run V0 (.fn 92) l [S x.V, S (pV iu 0 g)] h = some (.ret (.bool (decide (x.user = u))) (h ++ [.row 0 3 x.C])) := by
  have hg : (h ++ [AObj.row 0 3 [sV x.user, sV x.nick, iV x.role]])[iu]? = some (.row g 1 [sV u]) := by rw [List.getElem?_append_left (lt_of_get e), e]
  have h0 : ([sV u] : List Value)[0]? = some (sV u) := rfl
  refine run_fn Tryz.func92 rfl rfl rfl rfl ?_
  simp (disch := first | exact dI | fail) only [↓XX, ↓XD, ↓YX, ZB, Nat.reduceAdd, Nat.reducePow, ↓reduceIte, eq_self, Int.reduceEq, Nat.reduceEqDiff, Nat.reduceMul, Nat.reduceLeDiff, Tryz.f92, ↓XH1, ↓XH2, ZC, eq_self, Nat.reduceLeDiff, XRN, ZE, ZK, Nat.reduceBEq, hg, h0, eqB]
theorem rq46 (ro : Ro) (u : Bs) (ms : List Me) (l : Nat) (h : AH) (hn : ms.length ≤ 2 ^ 40) (q : Me.Rd h ro.ms ms) :
    Okr (VQ (iV (ofL u ms 0)) h) (run V0 (.fn 46) l [S ro.V, S (sV u)] h) := by
  have k : Keep h.length h (h ++ [AObj.row 0 5 ro.C] ++ [AObj.row 0 1 [sV u]]) := by (repeat first | exact Keep.refl _ _ | assumption | refine Keep.ap ?_ | refine Keep.st (by first | omega | (simp only [ZL]; omega)) ?_)
  have ei : (h ++ [AObj.row 0 5 ro.C] ++ [AObj.row 0 1 [sV u]])[h.length + 1]? = some (.row 0 1 [sV u]) := by simp
  refine okr_fn Tryz.func46 rfl rfl rfl rfl ?_
  simp (disch := first | exact dI | fail) only [↓XX, ↓XD, ↓YX, ZB, Nat.reduceAdd, Nat.reducePow, ↓reduceIte, eq_self, Int.reduceEq, Nat.reduceEqDiff, Nat.reduceMul, Nat.reduceLeDiff, Tryz.f46, ↓XH1, ↓XH2, ZC, eq_self, Nat.reduceLeDiff, XRN, ZE, ZK, Nat.reduceBEq]
  refine okr_call (r_IndexMe ro.ms ms 92 (fun x => decide (x.user = u)) _ 0 u l _ hn (q.keep k) ei (fun x h e => rq92 x u _ 0 l h e)) ?_
  rintro _ h2 ⟨rfl, k2⟩
  simp (disch := first | exact dI | fail) only [↓XX, ↓XD, ↓YX, ZB, Nat.reduceAdd, Nat.reducePow, ↓reduceIte, eq_self, Int.reduceEq, Nat.reduceEqDiff, Nat.reduceMul, Nat.reduceLeDiff, Tryz.f46, ↓XH1, ↓XH2, ZC, eq_self, Nat.reduceLeDiff, XRN, ZE, ZK, Nat.reduceBEq]
  have : posL (fun x : Me => decide (x.user = u)) ms 0 = ofL u ms 0 := by
    have : ∀ (r : List Me) (j : Nat), posL (fun x : Me => decide (x.user = u)) r j = ofL u r j := by
      intro r
      induction r with
      | nil => intro j; rfl
      | cons x r ih => intro j; simp only [posL, ofL, decide_eq_true_eq, ih]
    exact this ms 0
  rw [← this]
  exact Okr.ret ⟨rfl, k.trans (k2.le k.1)⟩
theorem rq93 (x : Me) (u : Bs) (iu g l : Nat) (h : AH) (e : h[iu]? = some (.row g 1 [sV u])) :
    run V0 (.fn 93) l [S x.V, S (pV iu 0 g)] h = some (.ret (.bool (decide (x.nick = u))) (h ++ [.row 0 3 x.C])) := by
  have hg : (h ++ [AObj.row 0 3 [sV x.user, sV x.nick, iV x.role]])[iu]? = some (.row g 1 [sV u]) := by rw [List.getElem?_append_left (lt_of_get e), e]
  have h0 : ([sV u] : List Value)[0]? = some (sV u) := rfl
  refine run_fn Tryz.func93 rfl rfl rfl rfl ?_
  simp (disch := first | exact dI | fail) only [↓XX, ↓XD, ↓YX, ZB, Nat.reduceAdd, Nat.reducePow, ↓reduceIte, eq_self, Int.reduceEq, Nat.reduceEqDiff, Nat.reduceMul, Nat.reduceLeDiff, Tryz.f93, ↓XH1, ↓XH2, ZC, eq_self, Nat.reduceLeDiff, XRN, ZE, ZK, Nat.reduceBEq, hg, h0, eqB]
theorem rq47 (ro : Ro) (u : Bs) (ms : List Me) (l : Nat) (h : AH) (hn : ms.length ≤ 2 ^ 40) (q : Me.Rd h ro.ms ms) :
    Okr (VQ (iV (nickL u ms 0)) h) (run V0 (.fn 47) l [S ro.V, S (sV u)] h) := by
  have k : Keep h.length h (h ++ [AObj.row 0 5 ro.C] ++ [AObj.row 0 1 [sV u]]) := by (repeat first | exact Keep.refl _ _ | assumption | refine Keep.ap ?_ | refine Keep.st (by first | omega | (simp only [ZL]; omega)) ?_)
  have ei : (h ++ [AObj.row 0 5 ro.C] ++ [AObj.row 0 1 [sV u]])[h.length + 1]? = some (.row 0 1 [sV u]) := by simp
  refine okr_fn Tryz.func47 rfl rfl rfl rfl ?_
  simp (disch := first | exact dI | fail) only [↓XX, ↓XD, ↓YX, ZB, Nat.reduceAdd, Nat.reducePow, ↓reduceIte, eq_self, Int.reduceEq, Nat.reduceEqDiff, Nat.reduceMul, Nat.reduceLeDiff, Tryz.f47, ↓XH1, ↓XH2, ZC, eq_self, Nat.reduceLeDiff, XRN, ZE, ZK, Nat.reduceBEq]
  refine okr_call (r_IndexMe ro.ms ms 93 (fun x => decide (x.nick = u)) _ 0 u l _ hn (q.keep k) ei (fun x h e => rq93 x u _ 0 l h e)) ?_
  rintro _ h2 ⟨rfl, k2⟩
  simp (disch := first | exact dI | fail) only [↓XX, ↓XD, ↓YX, ZB, Nat.reduceAdd, Nat.reducePow, ↓reduceIte, eq_self, Int.reduceEq, Nat.reduceEqDiff, Nat.reduceMul, Nat.reduceLeDiff, Tryz.f47, ↓XH1, ↓XH2, ZC, eq_self, Nat.reduceLeDiff, XRN, ZE, ZK, Nat.reduceBEq]
  have : posL (fun x : Me => decide (x.nick = u)) ms 0 = nickL u ms 0 := by
    have : ∀ (r : List Me) (j : Nat), posL (fun x : Me => decide (x.nick = u)) r j = nickL u r j := by
      intro r
      induction r with
      | nil => intro j; rfl
      | cons x r ih => intro j; simp only [posL, nickL, decide_eq_true_eq, ih]
    exact this ms 0
  rw [← this]
  exact Okr.ret ⟨rfl, k.trans (k2.le k.1)⟩
theorem L48 (u : Bs) (sv : Value) (n l : Nat) (hn : n ≤ 2 ^ 40) (H0 : AH) (hl : l ≤ H0.length) : ∀ (r d : List Rk) (h : AH), Keep H0.length H0 h → d.length + r.length = n → Rk.Rd h sv (d ++ r) →
      Okr (VQ (iV (rankL u r)) H0) (L48_0 l (sV u) sv (iV n) (iV d.length) h) := by
  intro r
  induction r with
  | nil =>
    intro d h k hk q
    simp only [List.length_nil, Nat.add_zero] at hk
    have hlt : decide ((d.length : Int) < (n : Int)) = false := by rw [decide_eq_false_iff_not]; omega
    refine okr_code Tryz.func48 rfl rfl ?_
    simp (disch := first | exact dI | fail) only [↓XX, ↓XD, ↓YX, ZB, Nat.reduceAdd, Nat.reducePow, ↓reduceIte, eq_self, Int.reduceEq, Nat.reduceEqDiff, Nat.reduceMul, Nat.reduceLeDiff, Tryz.f48, hlt]
    exact Okr.ret ⟨rfl, k⟩
  | cons x r ih =>
    intro d h k hk q
    simp only [List.length_cons] at hk
    have hlt : decide ((d.length : Int) < (n : Int)) = true := by rw [decide_eq_true_iff]; omega
    obtain ⟨pp, hix, hld⟩ := q.get
    have hw : IntKind.i64.wrap ((d.length : Int) + 1) = (((d ++ [x]).length : Nat) : Int) := natCast_succ_wrap (by omega) (by simp)
    have k1 : Keep h.length h (h ++ [AObj.row 0 2 x.C]) := Keep.app _ _ (Nat.le_refl _)
    have hlh : l ≤ h.length := by have := k.1; omega
    refine okr_code Tryz.func48 rfl rfl ?_
    rw [rankL]
    cases hq : decide (x.user = u) with
    | true =>
      rw [if_pos (of_decide_eq_true hq)]
      simp (disch := first | exact dI | fail) only [↓XX, ↓XD, ↓YX, ZB, Nat.reduceAdd, Nat.reducePow, ↓reduceIte, eq_self, Int.reduceEq, Nat.reduceEqDiff, Nat.reduceMul, Nat.reduceLeDiff, Tryz.f48, hlt, hix, hld, hw, ↓XH1, ↓XH2, ZC, eq_self, Nat.reduceLeDiff, XRN, ZE, ZK, Nat.reduceBEq, hlh, eqB, hq]
      exact Okr.ret ⟨rfl, k.trans (k1.le k.1)⟩
    | false =>
      rw [if_neg (of_decide_eq_false hq)]
      have := ih (d ++ [x]) _ (k.trans (k1.le k.1)) (by simp; omega) (by rw [List.append_assoc]; exact q.keep k1)
      simp (disch := first | exact dI | fail) only [↓XX, ↓XD, ↓YX, ZB, Nat.reduceAdd, Nat.reducePow, ↓reduceIte, eq_self, Int.reduceEq, Nat.reduceEqDiff, Nat.reduceMul, Nat.reduceLeDiff, Tryz.f48, hlt, hix, hld, hw, ↓XH1, ↓XH2, ZC, eq_self, Nat.reduceLeDiff, XRN, ZE, ZK, Nat.reduceBEq, hlh, eqB, hq]
      simp only [List.length_append, List.length_cons, List.length_nil, Nat.zero_add] at this
      exact this
theorem rq48 (ro : Ro) (u : Bs) (rs : List Rk) (l : Nat) (h : AH) (hl : l ≤ h.length) (hn : rs.length ≤ 2 ^ 40) (q : Rk.Rd h ro.rs rs) :
    Okr (VQ (iV (rankL u rs)) h) (run V0 (.fn 48) l [S ro.V, S (sV u)] h) := by
  have k : Keep h.length h (h ++ [AObj.row 0 5 ro.C]) := by (repeat first | exact Keep.refl _ _ | assumption | refine Keep.ap ?_ | refine Keep.st (by first | omega | (simp only [ZL]; omega)) ?_)
  have q' := q.keep k
  refine okr_fn Tryz.func48 rfl rfl rfl rfl ?_
  simp (disch := first | exact dI | fail) only [↓XX, ↓XD, ↓YX, ZB, Nat.reduceAdd, Nat.reducePow, ↓reduceIte, eq_self, Int.reduceEq, Nat.reduceEqDiff, Nat.reduceMul, Nat.reduceLeDiff, Tryz.f48, ↓XH1, ↓XH2, ZC, eq_self, Nat.reduceLeDiff, XRN, ZE, ZK, Nat.reduceBEq, q'.len]
  exact L48 u ro.rs rs.length l hn h hl rs [] _ k (by simp) q'
theorem L49 (sv : Value) (n l : Nat) (hn : n ≤ 2 ^ 40) (H0 : AH) (hl : l ≤ H0.length) : ∀ (r d : List Rk) (c : Nat) (h : AH), c ≤ d.length → Keep H0.length H0 h → d.length + r.length = n → Rk.Rd h sv (d ++ r) →
      Okr (VQ (iV (ownL r c)) H0) (L49_0 l (iV c) sv (iV n) (iV d.length) h) := by
  intro r
  induction r with
  | nil =>
    intro d c h hc k hk q
    simp only [List.length_nil, Nat.add_zero] at hk
    have hlt : decide ((d.length : Int) < (n : Int)) = false := by rw [decide_eq_false_iff_not]; omega
    refine okr_code Tryz.func49 rfl rfl ?_
    simp (disch := first | exact dI | fail) only [↓XX, ↓XD, ↓YX, ZB, Nat.reduceAdd, Nat.reducePow, ↓reduceIte, eq_self, Int.reduceEq, Nat.reduceEqDiff, Nat.reduceMul, Nat.reduceLeDiff, Tryz.f49, hlt]
    exact Okr.ret ⟨rfl, k⟩
  | cons x r ih =>
    intro d c h hc k hk q
    simp only [List.length_cons] at hk
    have hlt : decide ((d.length : Int) < (n : Int)) = true := by rw [decide_eq_true_iff]; omega
    obtain ⟨pp, hix, hld⟩ := q.get
    have hw : IntKind.i64.wrap ((d.length : Int) + 1) = (((d ++ [x]).length : Nat) : Int) := natCast_succ_wrap (by omega) (by simp)
    have hw2 : IntKind.i64.wrap ((c : Int) + 1) = ((c + 1 : Nat) : Int) := natCast_succ_wrap (by omega) rfl
    have k1 : Keep h.length h (h ++ [AObj.row 0 2 x.C]) := Keep.app _ _ (Nat.le_refl _)
    have hlh : l ≤ h.length := by have := k.1; omega
    refine okr_code Tryz.func49 rfl rfl ?_
    rw [ownL]
    cases hq : (x.num == 4) with
    | true =>
      have hx : x.num = 4 := by simpa using hq
      have := ih (d ++ [x]) (c + 1) _ (by simp; omega) (k.trans (k1.le k.1)) (by simp; omega) (by rw [List.append_assoc]; exact q.keep k1)
      simp (disch := first | exact dI | fail) only [↓XX, ↓XD, ↓YX, ZB, Nat.reduceAdd, Nat.reducePow, ↓reduceIte, eq_self, Int.reduceEq, Nat.reduceEqDiff, Nat.reduceMul, Nat.reduceLeDiff, Tryz.f49, hlt, hix, hld, hw, hw2, ↓XH1, ↓XH2, ZC, eq_self, Nat.reduceLeDiff, XRN, ZE, ZK, Nat.reduceBEq, hlh, hq]
      simp only [List.length_append, List.length_cons, List.length_nil, Nat.zero_add] at this
      rw [if_pos hx]
      exact this
    | false =>
      have hx : ¬ x.num = 4 := by simpa using hq
      have := ih (d ++ [x]) c _ (by simp; omega) (k.trans (k1.le k.1)) (by simp; omega) (by rw [List.append_assoc]; exact q.keep k1)
      simp (disch := first | exact dI | fail) only [↓XX, ↓XD, ↓YX, ZB, Nat.reduceAdd, Nat.reducePow, ↓reduceIte, eq_self, Int.reduceEq, Nat.reduceEqDiff, Nat.reduceMul, Nat.reduceLeDiff, Tryz.f49, hlt, hix, hld, hw, hw2, ↓XH1, ↓XH2, ZC, eq_self, Nat.reduceLeDiff, XRN, ZE, ZK, Nat.reduceBEq, hlh, hq]
      simp only [List.length_append, List.length_cons, List.length_nil, Nat.zero_add] at this
      rw [if_neg hx]
      exact this
theorem rq49 (ro : Ro) (rs : List Rk) (l : Nat) (h : AH) (hl : l ≤ h.length) (hn : rs.length ≤ 2 ^ 40) (q : Rk.Rd h ro.rs rs) :
    Okr (VQ (iV (ownL rs 0)) h) (run V0 (.fn 49) l [S ro.V] h) := by
  have k : Keep h.length h (h ++ [AObj.row 0 5 ro.C]) := by (repeat first | exact Keep.refl _ _ | assumption | refine Keep.ap ?_ | refine Keep.st (by first | omega | (simp only [ZL]; omega)) ?_)
  have q' := q.keep k
  refine okr_fn Tryz.func49 rfl rfl rfl rfl ?_
  simp (disch := first | exact dI | fail) only [↓XX, ↓XD, ↓YX, ZB, Nat.reduceAdd, Nat.reducePow, ↓reduceIte, eq_self, Int.reduceEq, Nat.reduceEqDiff, Nat.reduceMul, Nat.reduceLeDiff, Tryz.f49, ↓XH1, ↓XH2, ZC, eq_self, Nat.reduceLeDiff, XRN, ZE, ZK, Nat.reduceBEq, q'.len]
  exact L49 ro.rs rs.length l hn h hl rs [] 0 _ (Nat.le_refl _) k (by simp) q'
end Go.Abs
namespace Go.Abs
open Go.Proofs
set_option maxRecDepth 100000
set_option linter.unusedSimpArgs false
set_option linter.unusedVariables false
set_option pp.maxSteps 20000
set_option pp.deepTerms true
/-- the value of a room whose members and ranks lie there -/
abbrev Rm.ro (R : Rm) (mv rv : Value) : Ro := ⟨R.name, R.next, mv, rv, R.sub⟩
/-- texts that a machine can hold -/
structure Rm.Sm (R : Rm) : Prop where
  nm : R.name.length ≤ 2 ^ 21
  sb : R.sub.length ≤ 2 ^ 21
  m : R.ms.length ≤ 2 ^ 21
  k : R.rs.length ≤ 2 ^ 21
  ms : ∀ x ∈ R.ms, x.user.length ≤ 2 ^ 21 ∧ x.nick.length ≤ 2 ^ 21
  rs : ∀ x ∈ R.rs, x.user.length ≤ 2 ^ 21
theorem r_userOk (s : Bs) (hs : s.length ≤ 2 ^ 60) (l : Nat) (h : AH) : Okr (VQ (.bool (userOkL s)) h) (run V0 (.fn 42) l [S (sV s)] h) := by
  obtain ⟨h', a, k⟩ := rq42 s hs l h
  exact ⟨_, h', a, rfl, k⟩
theorem r_nickOk (s : Bs) (hs : s.length ≤ 2 ^ 40) (l : Nat) (h : AH) : Okr (VQ (.bool (nickOkL s)) h) (run V0 (.fn 45) l [S (sV s)] h) := by
  obtain ⟨h', a, k⟩ := rq45 s hs l h
  exact ⟨_, h', a, rfl, k⟩
theorem ne_int (a b : Int) : (a != b) = !decide (a = b) := by
  rw [Bool.eq_iff_iff]; simp
theorem eq_int (a b : Int) : (a == b) = decide (a = b) := by
  rw [Bool.eq_iff_iff]; simp
def finL (R : Rm) : Bool := decide (0 < ownL R.rs 0) || (decide (R.next = 0) && decide (R.ms = []) && decide (R.rs = []) && decide (R.sub = []))
set_option maxHeartbeats 1600000 in
/-- impl.RoomOk: the ranks -/
theorem L117 (R : Rm) (sm : R.Sm) (mv rv : Value) (l ir : Nat) (H0 : AH) (hl : l ≤ H0.length) (hir : ir < H0.length) (er0 : H0[ir]? = some (.row 0 5 (R.ro mv rv).C)) (qm0 : Me.Rd H0 mv R.ms) (qr0 : Rk.Rd H0 rv R.rs) :
    ∀ (r d : List Rk) (h : AH), Keep H0.length H0 h → d ++ r = R.rs →
      Okr (VQ (.bool (ranksOk r d.getLast? && finL R)) H0) (L17_1 l (pV ir 0 0) rv (iV R.rs.length) (iV d.length) h) := by
  have hr : R.rs.length ≤ 2 ^ 40 := by have := sm.k; omega
  intro r
  induction r with
  | nil =>
    intro d h k hd
    have er := k.get er0 hir
    have qr := qr0.keep k
    have qm := qm0.keep k
    rw [List.append_nil] at hd
    have hlt : decide ((d.length : Int) < (R.rs.length : Int)) = false := decide_eq_false (by rw [hd]; omega)
    have hlm := qm.len
    have hlr := qr.len
    refine okr_code Tryz.func17 rfl rfl ?_
    simp (dsimp := false) (disch := first | exact dI | fail) only [XOB, ↓XXs, ↓XD, ↓YX, ZB, Nat.reduceAdd, Nat.reducePow, ↓reduceIte, eq_self, Int.reduceEq, Nat.reduceEqDiff, Nat.reduceMul, Nat.reduceLeDiff, Int.reduceBEq, Int.reduceLT, Tryz.f17, ↓XH2, XRN, ZC, ZE, ZH, eq_self, Nat.reduceLeDiff, Nat.reduceBEq, slV_new, reduceIte, ↓op_extract, tupAt_mk, lenV_sl, Bool.not_true, Bool.not_false, hlt, er]
    refine okr_call (rq49 (R.ro mv rv) R.rs l h (by have := k.1; omega) hr qr) ?_
    rintro _ h2 ⟨rfl, k2⟩
    have er2 := k2.get er (lt_of_get er)
    rw [show ranksOk [] d.getLast? = true from rfl, Bool.true_and]
    unfold finL
    have dd : ∀ n : Nat, decide (0 < (n : Int)) = decide (0 < n) := fun n => decide_eq_decide.2 (by omega)
    have dm : ((R.ms.length : Int) == 0) = decide (R.ms = []) := by rw [Bool.eq_iff_iff]; simp
    have dr : ((R.rs.length : Int) == 0) = decide (R.rs = []) := by rw [Bool.eq_iff_iff]; simp
    have d0 : (R.next == 0) = decide (R.next = 0) := eq_int _ _
    cases q1 : decide (0 < ownL R.rs 0) with
    | true =>
      simp (dsimp := false) (disch := first | exact dI | fail) only [XOB, ↓XXs, ↓XD, ↓YX, ZB, Nat.reduceAdd, Nat.reducePow, ↓reduceIte, eq_self, Int.reduceEq, Nat.reduceEqDiff, Nat.reduceMul, Nat.reduceLeDiff, Int.reduceBEq, Int.reduceLT, Tryz.f17, ↓XH2, XRN, ZC, ZE, ZH, eq_self, Nat.reduceLeDiff, Nat.reduceBEq, slV_new, reduceIte, ↓op_extract, tupAt_mk, lenV_sl, Bool.not_true, Bool.not_false, dd, q1, er2]
      exact Okr.ret ⟨rfl, k.trans (k2.le k.1)⟩
    | false =>
      cases q2 : decide (R.next = 0) with
      | false =>
        simp (dsimp := false) (disch := first | exact dI | fail) only [XOB, ↓XXs, ↓XD, ↓YX, ZB, Nat.reduceAdd, Nat.reducePow, ↓reduceIte, eq_self, Int.reduceEq, Nat.reduceEqDiff, Nat.reduceMul, Nat.reduceLeDiff, Int.reduceBEq, Int.reduceLT, Tryz.f17, ↓XH2, XRN, ZC, ZE, ZH, eq_self, Nat.reduceLeDiff, Nat.reduceBEq, slV_new, reduceIte, ↓op_extract, tupAt_mk, lenV_sl, Bool.not_true, Bool.not_false, dd, q1, er2, d0, q2]
        exact Okr.ret ⟨rfl, k.trans (k2.le k.1)⟩
      | true =>
        cases q3 : decide (R.ms = []) with
        | false =>
          simp (dsimp := false) (disch := first | exact dI | fail) only [XOB, ↓XXs, ↓XD, ↓YX, ZB, Nat.reduceAdd, Nat.reducePow, ↓reduceIte, eq_self, Int.reduceEq, Nat.reduceEqDiff, Nat.reduceMul, Nat.reduceLeDiff, Int.reduceBEq, Int.reduceLT, Tryz.f17, ↓XH2, XRN, ZC, ZE, ZH, eq_self, Nat.reduceLeDiff, Nat.reduceBEq, slV_new, reduceIte, ↓op_extract, tupAt_mk, lenV_sl, Bool.not_true, Bool.not_false, dd, q1, er2, d0, q2, hlm, dm, q3]
          exact Okr.ret ⟨rfl, k.trans (k2.le k.1)⟩
        | true =>
          cases q4 : decide (R.rs = []) with
          | false =>
            simp (dsimp := false) (disch := first | exact dI | fail) only [XOB, ↓XXs, ↓XD, ↓YX, ZB, Nat.reduceAdd, Nat.reducePow, ↓reduceIte, eq_self, Int.reduceEq, Nat.reduceEqDiff, Nat.reduceMul, Nat.reduceLeDiff, Int.reduceBEq, Int.reduceLT, Tryz.f17, ↓XH2, XRN, ZC, ZE, ZH, eq_self, Nat.reduceLeDiff, Nat.reduceBEq, slV_new, reduceIte, ↓op_extract, tupAt_mk, lenV_sl, Bool.not_true, Bool.not_false, dd, q1, er2, d0, q2, hlm, dm, q3, hlr, dr, q4]
            exact Okr.ret ⟨rfl, k.trans (k2.le k.1)⟩
          | true =>
            simp (dsimp := false) (disch := first | exact dI | fail) only [XOB, ↓XXs, ↓XD, ↓YX, ZB, Nat.reduceAdd, Nat.reducePow, ↓reduceIte, eq_self, Int.reduceEq, Nat.reduceEqDiff, Nat.reduceMul, Nat.reduceLeDiff, Int.reduceBEq, Int.reduceLT, Tryz.f17, ↓XH2, XRN, ZC, ZE, ZH, eq_self, Nat.reduceLeDiff, Nat.reduceBEq, slV_new, reduceIte, ↓op_extract, tupAt_mk, lenV_sl, Bool.not_true, Bool.not_false, dd, q1, er2, d0, q2, hlm, dm, q3, hlr, dr, q4, eqB]
            exact Okr.ret ⟨rfl, k.trans (k2.le k.1)⟩
  | cons x r ih =>
    intro d h k hd
    have er := k.get er0 hir
    have qr := qr0.keep k
    have hbx := sm.rs x (by rw [← hd]; simp)
    have hdl := congrArg List.length hd
    simp only [List.length_append, List.length_cons] at hdl
    have hlt : decide ((d.length : Int) < (R.rs.length : Int)) = true := decide_eq_true (by omega)
    obtain ⟨pp, hix, hld⟩ := Rk.Rd.get (d := d) (x := x) (r := r) (by rw [hd]; exact qr)
    have hw : IntKind.i64.wrap ((d.length : Int) + 1) = ((d.length + 1 : Nat) : Int) := natCast_succ_wrap (by omega) rfl
    have hlh : l ≤ h.length := by have := k.1; omega
    have kx : Keep h.length h (h ++ [AObj.row 0 2 [sV x.user, iV x.num]]) := Keep.app _ _ (Nat.le_refl _)
    refine okr_code Tryz.func17 rfl rfl ?_
    simp (dsimp := false) (disch := first | exact dI | fail) only [XOB, ↓XXs, ↓XD, ↓YX, ZB, Nat.reduceAdd, Nat.reducePow, ↓reduceIte, eq_self, Int.reduceEq, Nat.reduceEqDiff, Nat.reduceMul, Nat.reduceLeDiff, Int.reduceBEq, Int.reduceLT, Tryz.f17, ↓XH2, XRN, ZC, ZE, ZH, eq_self, Nat.reduceLeDiff, Nat.reduceBEq, slV_new, reduceIte, ↓op_extract, tupAt_mk, lenV_sl, Bool.not_true, Bool.not_false, hlt, hix, hld, er, hlh]
    refine okr_call (r_userOk x.user (by omega) l _) ?_
    rintro _ h2 ⟨rfl, k2⟩
    have k02 := kx.trans (k2.le kx.1)
    have er2 := k02.get er (lt_of_get er)
    have ex2 : h2[h.length]? = some (.row 0 2 [sV x.user, iV x.num]) := k2.get (by simp) (by simp)
    have K2 := k.trans (k02.le k.1)
    have n3 : ∀ v : Value, [sV x.user, v][1]? = some v := fun _ => rfl
    have n2 : ∀ v : Value, [sV x.user, v][0]? = some (sV x.user) := fun _ => rfl
    rw [ranksOk]
    unfold rnkOk
    have nxt : prevOk d.getLast? x.user = true → (userOkL x.user && inI x.num 0 4 && !decide (x.num = 1)) = true →
        Okr (VQ (.bool (ranksOk r (some x) && finL R)) H0) (L17_1 l (pV ir 0 0) rv (iV R.rs.length) (iV (d.length + 1 : Nat)) h2) := by
      intro _ _
      have := ih (d ++ [x]) h2 K2 (by rw [← hd]; simp)
      rw [List.getLast?_concat, List.length_append] at this
      exact this
    have qr2 := qr.keep k02
    rcases List.eq_nil_or_concat d with hd0 | ⟨d', y, hd0⟩
    · have hi : decide ((0 : Int) < (d.length : Int)) = false := decide_eq_false (by rw [hd0]; simp)
      have hp : prevOk d.getLast? x.user = true := by rw [hd0]; rfl
      have i1 : IntKind.i64.wrap ((d.length : Int) - 1) = -1 := by rw [hd0]; rfl
      have i2 : ixAddr rv (-1) 2 = none := by rcases qr2 with ⟨rfl, _⟩ | ⟨id, g, c, rfl, e⟩ <;> rfl
      have i3 : addOff rv 0 = none := by rcases qr2 with ⟨rfl, _⟩ | ⟨id, g, c, rfl, e⟩ <;> rfl
      have i4 : ld h2 rv = none := by rcases qr2 with ⟨rfl, _⟩ | ⟨id, g, c, rfl, e⟩ <;> rfl
      rw [hp]
      with_reducible refine okr_if (fun q1 => ?_) (fun q1 => ?_)
      · simp (dsimp := false) (disch := first | exact dI | fail) only [XOB, ↓XXs, ↓XD, ↓YX, ZB, Nat.reduceAdd, Nat.reducePow, ↓reduceIte, eq_self, Int.reduceEq, Nat.reduceEqDiff, Nat.reduceMul, Nat.reduceLeDiff, Int.reduceBEq, Int.reduceLT, Tryz.f17, ↓XH2, XRN, ZC, ZE, ZH, eq_self, Nat.reduceLeDiff, Nat.reduceBEq, slV_new, reduceIte, ↓op_extract, tupAt_mk, lenV_sl, Bool.not_true, Bool.not_false, hi, er2, i1, i2, i3, i4, ex2, n2, n3, rq34, eq_int, hw]
        exact Okr.ret ⟨by congr 1; simp only [Bool.not_eq_true', Bool.not_eq_false'] at q1; simp [q1, hp], K2⟩
      · simp (dsimp := false) (disch := first | exact dI | fail) only [XOB, ↓XXs, ↓XD, ↓YX, ZB, Nat.reduceAdd, Nat.reducePow, ↓reduceIte, eq_self, Int.reduceEq, Nat.reduceEqDiff, Nat.reduceMul, Nat.reduceLeDiff, Int.reduceBEq, Int.reduceLT, Tryz.f17, ↓XH2, XRN, ZC, ZE, ZH, eq_self, Nat.reduceLeDiff, Nat.reduceBEq, slV_new, reduceIte, ↓op_extract, tupAt_mk, lenV_sl, Bool.not_true, Bool.not_false, hi, er2, i1, i2, i3, i4, ex2, n2, n3, rq34, eq_int, hw]
        with_reducible refine okr_if (fun q3 => ?_) (fun q3 => ?_)
        · simp (dsimp := false) (disch := first | exact dI | fail) only [XOB, ↓XXs, ↓XD, ↓YX, ZB, Nat.reduceAdd, Nat.reducePow, ↓reduceIte, eq_self, Int.reduceEq, Nat.reduceEqDiff, Nat.reduceMul, Nat.reduceLeDiff, Int.reduceBEq, Int.reduceLT, Tryz.f17, ↓XH2, XRN, ZC, ZE, ZH, eq_self, Nat.reduceLeDiff, Nat.reduceBEq, slV_new, reduceIte, ↓op_extract, tupAt_mk, lenV_sl, Bool.not_true, Bool.not_false, hi, er2, i1, i2, i3, i4, ex2, n2, n3, rq34, eq_int, hw]
          exact Okr.ret ⟨by congr 1; simp only [Bool.not_eq_true', Bool.not_eq_false'] at q1 q3; simp [q1, q3, hp], K2⟩
        · simp (dsimp := false) (disch := first | exact dI | fail) only [XOB, ↓XXs, ↓XD, ↓YX, ZB, Nat.reduceAdd, Nat.reducePow, ↓reduceIte, eq_self, Int.reduceEq, Nat.reduceEqDiff, Nat.reduceMul, Nat.reduceLeDiff, Int.reduceBEq, Int.reduceLT, Tryz.f17, ↓XH2, XRN, ZC, ZE, ZH, eq_self, Nat.reduceLeDiff, Nat.reduceBEq, slV_new, reduceIte, ↓op_extract, tupAt_mk, lenV_sl, Bool.not_true, Bool.not_false, hi, er2, i1, i2, i3, i4, ex2, n2, n3, rq34, eq_int, hw]
          with_reducible refine okr_if (fun q4 => ?_) (fun q4 => ?_)
          · simp (dsimp := false) (disch := first | exact dI | fail) only [XOB, ↓XXs, ↓XD, ↓YX, ZB, Nat.reduceAdd, Nat.reducePow, ↓reduceIte, eq_self, Int.reduceEq, Nat.reduceEqDiff, Nat.reduceMul, Nat.reduceLeDiff, Int.reduceBEq, Int.reduceLT, Tryz.f17, ↓XH2, XRN, ZC, ZE, ZH, eq_self, Nat.reduceLeDiff, Nat.reduceBEq, slV_new, reduceIte, ↓op_extract, tupAt_mk, lenV_sl, Bool.not_true, Bool.not_false, hi, er2, i1, i2, i3, i4, ex2, n2, n3, rq34, eq_int, hw]
            exact Okr.ret ⟨by congr 1; simp only [Bool.not_eq_true', Bool.not_eq_false'] at q1 q3 q4; simp [q1, q3, q4, hp], K2⟩
          · simp (dsimp := false) (disch := first | exact dI | fail) only [XOB, ↓XXs, ↓XD, ↓YX, ZB, Nat.reduceAdd, Nat.reducePow, ↓reduceIte, eq_self, Int.reduceEq, Nat.reduceEqDiff, Nat.reduceMul, Nat.reduceLeDiff, Int.reduceBEq, Int.reduceLT, Tryz.f17, ↓XH2, XRN, ZC, ZE, ZH, eq_self, Nat.reduceLeDiff, Nat.reduceBEq, slV_new, reduceIte, ↓op_extract, tupAt_mk, lenV_sl, Bool.not_true, Bool.not_false, hi, er2, i1, i2, i3, i4, ex2, n2, n3, rq34, eq_int, hw]
            have := nxt hp (by simp only [Bool.not_eq_true', Bool.not_eq_false'] at q1 q3; simp [q1, q3, q4])
            simp only [Bool.not_eq_true', Bool.not_eq_false'] at q1 q3
            rw [q1, q3, q4]
            exact this
    · rw [List.concat_eq_append] at hd0
      have hi : decide ((0 : Int) < (d.length : Int)) = true := decide_eq_true (by rw [hd0]; simp)
      have hds : d' ++ y :: x :: r = R.rs := by rw [← hd, hd0]; simp
      rw [← hds] at qr2
      rcases qr2 with ⟨_, q⟩ | ⟨iy, gy, cy, hrv, ey⟩
      · simp at q
      have hp : prevOk d.getLast? x.user = ltB y.user x.user := by rw [hd0, List.getLast?_append]; rfl
      have hdd : d.length = d'.length + 1 := by rw [hd0]; simp
      have hw1 : IntKind.i64.wrap ((d.length : Int) - 1) = (d'.length : Int) := by rw [wrap64 (by omega)]; omega
      have hix2 : ixAddr rv (d'.length : Int) 2 = some (pV iy (d'.length * 2) gy) := by rw [hrv, ixAddr_sl (by simp)]; simp
      have c0 : (Rk.R (d' ++ y :: x :: r))[d'.length * 2 + 0]? = some (sV y.user) := Rk.cell d' y (x :: r) 0 (by decide)
      have hx : Op.bytesLess (B y.user).toList (B x.user).toList = ltB y.user x.user := by unfold ltB; rw [Lib.toList_data, Lib.toList_data]; rfl
      rw [hp] at nxt ⊢
      with_reducible refine okr_if (fun q1 => ?_) (fun q1 => ?_)
      · simp (dsimp := false) (disch := first | exact dI | fail) only [XOB, ↓XXs, ↓XD, ↓YX, ZB, Nat.reduceAdd, Nat.reducePow, ↓reduceIte, eq_self, Int.reduceEq, Nat.reduceEqDiff, Nat.reduceMul, Nat.reduceLeDiff, Int.reduceBEq, Int.reduceLT, Tryz.f17, ↓XH2, XRN, ZC, ZE, ZH, eq_self, Nat.reduceLeDiff, Nat.reduceBEq, slV_new, reduceIte, ↓op_extract, tupAt_mk, lenV_sl, Bool.not_true, Bool.not_false, hi, er2, hw1, hix2, c0, ey, ex2, n2, n3, rq34, eq_int, hw]
        exact Okr.ret ⟨by congr 1; simp only [Bool.not_eq_true', Bool.not_eq_false'] at q1; simp [q1, hp], K2⟩
      · simp (dsimp := false) (disch := first | exact dI | fail) only [XOB, ↓XXs, ↓XD, ↓YX, ZB, Nat.reduceAdd, Nat.reducePow, ↓reduceIte, eq_self, Int.reduceEq, Nat.reduceEqDiff, Nat.reduceMul, Nat.reduceLeDiff, Int.reduceBEq, Int.reduceLT, Tryz.f17, ↓XH2, XRN, ZC, ZE, ZH, eq_self, Nat.reduceLeDiff, Nat.reduceBEq, slV_new, reduceIte, ↓op_extract, tupAt_mk, lenV_sl, Bool.not_true, Bool.not_false, hi, er2, hw1, hix2, c0, ey, ex2, n2, n3, rq34, eq_int, hw]
        with_reducible refine okr_if (fun q2 => ?_) (fun q2 => ?_)
        · simp (dsimp := false) (disch := first | exact dI | fail) only [XOB, ↓XXs, ↓XD, ↓YX, ZB, Nat.reduceAdd, Nat.reducePow, ↓reduceIte, eq_self, Int.reduceEq, Nat.reduceEqDiff, Nat.reduceMul, Nat.reduceLeDiff, Int.reduceBEq, Int.reduceLT, Tryz.f17, ↓XH2, XRN, ZC, ZE, ZH, eq_self, Nat.reduceLeDiff, Nat.reduceBEq, slV_new, reduceIte, ↓op_extract, tupAt_mk, lenV_sl, Bool.not_true, Bool.not_false, hi, er2, hw1, hix2, c0, ey, ex2, n2, n3, rq34, eq_int, hw]
          exact Okr.ret ⟨by congr 1; simp only [Bool.not_eq_true', Bool.not_eq_false', hx] at q1 q2; simp [q1, q2], K2⟩
        · simp (dsimp := false) (disch := first | exact dI | fail) only [XOB, ↓XXs, ↓XD, ↓YX, ZB, Nat.reduceAdd, Nat.reducePow, ↓reduceIte, eq_self, Int.reduceEq, Nat.reduceEqDiff, Nat.reduceMul, Nat.reduceLeDiff, Int.reduceBEq, Int.reduceLT, Tryz.f17, ↓XH2, XRN, ZC, ZE, ZH, eq_self, Nat.reduceLeDiff, Nat.reduceBEq, slV_new, reduceIte, ↓op_extract, tupAt_mk, lenV_sl, Bool.not_true, Bool.not_false, hi, er2, hw1, hix2, c0, ey, ex2, n2, n3, rq34, eq_int, hw]
          with_reducible refine okr_if (fun q3 => ?_) (fun q3 => ?_)
          · simp (dsimp := false) (disch := first | exact dI | fail) only [XOB, ↓XXs, ↓XD, ↓YX, ZB, Nat.reduceAdd, Nat.reducePow, ↓reduceIte, eq_self, Int.reduceEq, Nat.reduceEqDiff, Nat.reduceMul, Nat.reduceLeDiff, Int.reduceBEq, Int.reduceLT, Tryz.f17, ↓XH2, XRN, ZC, ZE, ZH, eq_self, Nat.reduceLeDiff, Nat.reduceBEq, slV_new, reduceIte, ↓op_extract, tupAt_mk, lenV_sl, Bool.not_true, Bool.not_false, hi, er2, hw1, hix2, c0, ey, ex2, n2, n3, rq34, eq_int, hw]
            exact Okr.ret ⟨by congr 1; simp only [Bool.not_eq_true', Bool.not_eq_false', hx] at q1 q2 q3; simp [q1, q2, q3], K2⟩
          · simp (dsimp := false) (disch := first | exact dI | fail) only [XOB, ↓XXs, ↓XD, ↓YX, ZB, Nat.reduceAdd, Nat.reducePow, ↓reduceIte, eq_self, Int.reduceEq, Nat.reduceEqDiff, Nat.reduceMul, Nat.reduceLeDiff, Int.reduceBEq, Int.reduceLT, Tryz.f17, ↓XH2, XRN, ZC, ZE, ZH, eq_self, Nat.reduceLeDiff, Nat.reduceBEq, slV_new, reduceIte, ↓op_extract, tupAt_mk, lenV_sl, Bool.not_true, Bool.not_false, hi, er2, hw1, hix2, c0, ey, ex2, n2, n3, rq34, eq_int, hw]
            with_reducible refine okr_if (fun q4 => ?_) (fun q4 => ?_)
            · simp (dsimp := false) (disch := first | exact dI | fail) only [XOB, ↓XXs, ↓XD, ↓YX, ZB, Nat.reduceAdd, Nat.reducePow, ↓reduceIte, eq_self, Int.reduceEq, Nat.reduceEqDiff, Nat.reduceMul, Nat.reduceLeDiff, Int.reduceBEq, Int.reduceLT, Tryz.f17, ↓XH2, XRN, ZC, ZE, ZH, eq_self, Nat.reduceLeDiff, Nat.reduceBEq, slV_new, reduceIte, ↓op_extract, tupAt_mk, lenV_sl, Bool.not_true, Bool.not_false, hi, er2, hw1, hix2, c0, ey, ex2, n2, n3, rq34, eq_int, hw]
              exact Okr.ret ⟨by congr 1; simp only [Bool.not_eq_true', Bool.not_eq_false', hx] at q1 q2 q3 q4; simp [q1, q2, q3, q4], K2⟩
            · simp (dsimp := false) (disch := first | exact dI | fail) only [XOB, ↓XXs, ↓XD, ↓YX, ZB, Nat.reduceAdd, Nat.reducePow, ↓reduceIte, eq_self, Int.reduceEq, Nat.reduceEqDiff, Nat.reduceMul, Nat.reduceLeDiff, Int.reduceBEq, Int.reduceLT, Tryz.f17, ↓XH2, XRN, ZC, ZE, ZH, eq_self, Nat.reduceLeDiff, Nat.reduceBEq, slV_new, reduceIte, ↓op_extract, tupAt_mk, lenV_sl, Bool.not_true, Bool.not_false, hi, er2, hw1, hix2, c0, ey, ex2, n2, n3, rq34, eq_int, hw]
              simp only [Bool.not_eq_true', Bool.not_eq_false'] at q1 q2 q3
              rw [hx] at q2
              have := nxt q2 (by simp [q1, q3, q4])
              have hq : ltB y.user x.user = true := q2
              rw [q1, hq, q3, q4]
              exact this
end Go.Abs
namespace Go.Abs
open Go.Proofs
set_option maxRecDepth 100000
set_option linter.unusedSimpArgs false
set_option linter.unusedVariables false
set_option pp.maxSteps 20000
set_option pp.deepTerms true
set_option maxHeartbeats 4000000 in
/-- impl.RoomOk: the members -/
theorem L017 (R : Rm) (sm : R.Sm) (mv rv : Value) (l ir : Nat) (H0 : AH) (hl : l ≤ H0.length) (hir : ir < H0.length) (er0 : H0[ir]? = some (.row 0 5 (R.ro mv rv).C)) (qm0 : Me.Rd H0 mv R.ms) (qr0 : Rk.Rd H0 rv R.rs) :
    ∀ (r d : List Me) (h : AH), Keep H0.length H0 h → d ++ r = R.ms →
      Okr (VQ (.bool (memsOk R.ms R.rs r d.length && (ranksOk R.rs none && finL R))) H0) (L17_0 l (pV ir 0 0) mv (iV R.ms.length) (iV d.length) h) := by
  have hm : R.ms.length ≤ 2 ^ 40 := by have := sm.m; omega
  have hr : R.rs.length ≤ 2 ^ 40 := by have := sm.k; omega
  intro r
  induction r with
  | nil =>
    intro d h k hd
    have er := k.get er0 hir
    have qr := qr0.keep k
    rw [List.append_nil] at hd
    have hlt : decide ((d.length : Int) < (R.ms.length : Int)) = false := decide_eq_false (by rw [hd]; omega)
    have hlr := qr.len
    refine okr_code Tryz.func17 rfl rfl ?_
    simp (dsimp := false) (disch := first | exact dI | fail) only [XOB, ↓XXs, ↓XD, ↓YX, ZB, Nat.reduceAdd, Nat.reducePow, ↓reduceIte, eq_self, Int.reduceEq, Nat.reduceEqDiff, Nat.reduceMul, Nat.reduceLeDiff, Int.reduceBEq, Int.reduceLT, Tryz.f17, ↓XH2, XRN, ZC, ZE, ZH, eq_self, Nat.reduceLeDiff, Nat.reduceBEq, slV_new, reduceIte, ↓op_extract, tupAt_mk, lenV_sl, Bool.not_true, Bool.not_false, hlt, er, hlr]
    exact L117 R sm mv rv l ir H0 hl hir er0 qm0 qr0 R.rs [] h k rfl
  | cons x r ih =>
    intro d h k hd
    have er := k.get er0 hir
    have qm := qm0.keep k
    have qr := qr0.keep k
    obtain ⟨hb1, hb2⟩ := sm.ms x (by rw [← hd]; simp)
    have hdl := congrArg List.length hd
    simp only [List.length_append, List.length_cons] at hdl
    have hlt : decide ((d.length : Int) < (R.ms.length : Int)) = true := decide_eq_true (by omega)
    obtain ⟨pp, hix, hld⟩ := Me.Rd.get (d := d) (x := x) (r := r) (by rw [hd]; exact qm)
    have hw : IntKind.i64.wrap ((d.length : Int) + 1) = ((d.length + 1 : Nat) : Int) := natCast_succ_wrap (by omega) rfl
    have hlh : l ≤ h.length := by have := k.1; omega
    have kx : Keep h.length h (h ++ [AObj.row 0 3 [sV x.user, sV x.nick, iV x.role]]) := Keep.app _ _ (Nat.le_refl _)
    have n0 : ∀ a b c : Value, [a, b, c][0]? = some a := fun _ _ _ => rfl
    have n1 : ∀ a b c : Value, [a, b, c][1]? = some b := fun _ _ _ => rfl
    have n2 : ∀ a b c : Value, [a, b, c][2]? = some c := fun _ _ _ => rfl
    have hmem : True := trivial
    refine okr_code Tryz.func17 rfl rfl ?_
    simp (dsimp := false) (disch := first | exact dI | fail) only [XOB, ↓XXs, ↓XD, ↓YX, ZB, Nat.reduceAdd, Nat.reducePow, ↓reduceIte, eq_self, Int.reduceEq, Nat.reduceEqDiff, Nat.reduceMul, Nat.reduceLeDiff, Int.reduceBEq, Int.reduceLT, Tryz.f17, ↓XH2, XRN, ZC, ZE, ZH, eq_self, Nat.reduceLeDiff, Nat.reduceBEq, slV_new, reduceIte, ↓op_extract, tupAt_mk, lenV_sl, Bool.not_true, Bool.not_false, hlt, hix, hld, er, hlh]
    have er1 := kx.get er (lt_of_get er)
    have ex1 : (h ++ [AObj.row 0 3 [sV x.user, sV x.nick, iV x.role]])[h.length]? = some (.row 0 3 [sV x.user, sV x.nick, iV x.role]) := by simp
    have K1 := k.trans (kx.le k.1)
    have qm1 := qm.keep kx
    have qr1 := qr.keep kx
    refine okr_call (r_userOk x.user (by omega) l _) ?_
    rintro _ h2 ⟨rfl, k2⟩
    have er2 := k2.get er1 (lt_of_get er1)
    have ex2 := k2.get ex1 (lt_of_get ex1)
    have K2 := K1.trans (k2.le K1.1)
    have qm2 := qm1.keep k2
    have qr2 := qr1.keep k2
    have hl2 : l ≤ h2.length := by have := K2.1; omega
    with_reducible refine okr_if (fun q1 => ?_) (fun q1 => ?_)
    · simp (dsimp := false) (disch := first | exact dI | fail) only [XOB, ↓XXs, ↓XD, ↓YX, ZB, Nat.reduceAdd, Nat.reducePow, ↓reduceIte, eq_self, Int.reduceEq, Nat.reduceEqDiff, Nat.reduceMul, Nat.reduceLeDiff, Int.reduceBEq, Int.reduceLT, Tryz.f17, ↓XH2, XRN, ZC, ZE, ZH, eq_self, Nat.reduceLeDiff, Nat.reduceBEq, slV_new, reduceIte, ↓op_extract, tupAt_mk, lenV_sl, Bool.not_true, Bool.not_false, er2, ex2, n0, n1, n2, rq34, eq_int, ne_int, hw]
      exact Okr.ret ⟨by congr 1; simp only [Bool.not_eq_true', Bool.not_eq_false'] at q1; simp [memsOk, memOk, q1], K2⟩
    · simp (dsimp := false) (disch := first | exact dI | fail) only [XOB, ↓XXs, ↓XD, ↓YX, ZB, Nat.reduceAdd, Nat.reducePow, ↓reduceIte, eq_self, Int.reduceEq, Nat.reduceEqDiff, Nat.reduceMul, Nat.reduceLeDiff, Int.reduceBEq, Int.reduceLT, Tryz.f17, ↓XH2, XRN, ZC, ZE, ZH, eq_self, Nat.reduceLeDiff, Nat.reduceBEq, slV_new, reduceIte, ↓op_extract, tupAt_mk, lenV_sl, Bool.not_true, Bool.not_false, er2, ex2, n0, n1, n2, rq34, eq_int, ne_int, hw]
      refine okr_call (r_nickOk x.nick (by omega) l _) ?_
      rintro _ h3 ⟨rfl, k3⟩
      have er3 := k3.get er2 (lt_of_get er2)
      have ex3 := k3.get ex2 (lt_of_get ex2)
      have K3 := K2.trans (k3.le K2.1)
      have qm3 := qm2.keep k3
      have qr3 := qr2.keep k3
      have hl3 : l ≤ h3.length := by have := K3.1; omega
      with_reducible refine okr_if (fun q2 => ?_) (fun q2 => ?_)
      · simp (dsimp := false) (disch := first | exact dI | fail) only [XOB, ↓XXs, ↓XD, ↓YX, ZB, Nat.reduceAdd, Nat.reducePow, ↓reduceIte, eq_self, Int.reduceEq, Nat.reduceEqDiff, Nat.reduceMul, Nat.reduceLeDiff, Int.reduceBEq, Int.reduceLT, Tryz.f17, ↓XH2, XRN, ZC, ZE, ZH, eq_self, Nat.reduceLeDiff, Nat.reduceBEq, slV_new, reduceIte, ↓op_extract, tupAt_mk, lenV_sl, Bool.not_true, Bool.not_false, er3, ex3, n0, n1, n2, rq34, eq_int, ne_int, hw]
        exact Okr.ret ⟨by congr 1; simp only [Bool.not_eq_true', Bool.not_eq_false'] at q1 q2; simp [memsOk, memOk, q1, q2], K3⟩
      · simp (dsimp := false) (disch := first | exact dI | fail) only [XOB, ↓XXs, ↓XD, ↓YX, ZB, Nat.reduceAdd, Nat.reducePow, ↓reduceIte, eq_self, Int.reduceEq, Nat.reduceEqDiff, Nat.reduceMul, Nat.reduceLeDiff, Int.reduceBEq, Int.reduceLT, Tryz.f17, ↓XH2, XRN, ZC, ZE, ZH, eq_self, Nat.reduceLeDiff, Nat.reduceBEq, slV_new, reduceIte, ↓op_extract, tupAt_mk, lenV_sl, Bool.not_true, Bool.not_false, er3, ex3, n0, n1, n2, rq34, eq_int, ne_int, hw]
        refine okr_call (rq46 (R.ro mv rv) x.user R.ms l _ hm qm3) ?_
        rintro _ h4 ⟨rfl, k4⟩
        have er4 := k4.get er3 (lt_of_get er3)
        have ex4 := k4.get ex3 (lt_of_get ex3)
        have K4 := K3.trans (k4.le K3.1)
        have qm4 := qm3.keep k4
        have qr4 := qr3.keep k4
        have hl4 : l ≤ h4.length := by have := K4.1; omega
        simp (dsimp := false) (disch := first | exact dI | fail) only [XOB, ↓XXs, ↓XD, ↓YX, ZB, Nat.reduceAdd, Nat.reducePow, ↓reduceIte, eq_self, Int.reduceEq, Nat.reduceEqDiff, Nat.reduceMul, Nat.reduceLeDiff, Int.reduceBEq, Int.reduceLT, Tryz.f17, ↓XH2, XRN, ZC, ZE, ZH, eq_self, Nat.reduceLeDiff, Nat.reduceBEq, slV_new, reduceIte, ↓op_extract, tupAt_mk, lenV_sl, Bool.not_true, Bool.not_false, er4, ex4, n0, n1, n2, rq34, eq_int, ne_int, hw]
        with_reducible refine okr_if (fun q3 => ?_) (fun q3 => ?_)
        · simp (dsimp := false) (disch := first | exact dI | fail) only [XOB, ↓XXs, ↓XD, ↓YX, ZB, Nat.reduceAdd, Nat.reducePow, ↓reduceIte, eq_self, Int.reduceEq, Nat.reduceEqDiff, Nat.reduceMul, Nat.reduceLeDiff, Int.reduceBEq, Int.reduceLT, Tryz.f17, ↓XH2, XRN, ZC, ZE, ZH, eq_self, Nat.reduceLeDiff, Nat.reduceBEq, slV_new, reduceIte, ↓op_extract, tupAt_mk, lenV_sl, Bool.not_true, Bool.not_false, er4, ex4, n0, n1, n2, rq34, eq_int, ne_int, hw]
          exact Okr.ret ⟨by congr 1; simp only [Bool.not_eq_true', Bool.not_eq_false'] at q1 q2 q3; simp [memsOk, memOk, q1, q2, q3], K4⟩
        · simp (dsimp := false) (disch := first | exact dI | fail) only [XOB, ↓XXs, ↓XD, ↓YX, ZB, Nat.reduceAdd, Nat.reducePow, ↓reduceIte, eq_self, Int.reduceEq, Nat.reduceEqDiff, Nat.reduceMul, Nat.reduceLeDiff, Int.reduceBEq, Int.reduceLT, Tryz.f17, ↓XH2, XRN, ZC, ZE, ZH, eq_self, Nat.reduceLeDiff, Nat.reduceBEq, slV_new, reduceIte, ↓op_extract, tupAt_mk, lenV_sl, Bool.not_true, Bool.not_false, er4, ex4, n0, n1, n2, rq34, eq_int, ne_int, hw]
          refine okr_call (rq47 (R.ro mv rv) x.nick R.ms l _ hm qm4) ?_
          rintro _ h5 ⟨rfl, k5⟩
          have er5 := k5.get er4 (lt_of_get er4)
          have ex5 := k5.get ex4 (lt_of_get ex4)
          have K5 := K4.trans (k5.le K4.1)
          have qm5 := qm4.keep k5
          have qr5 := qr4.keep k5
          have hl5 : l ≤ h5.length := by have := K5.1; omega
          simp (dsimp := false) (disch := first | exact dI | fail) only [XOB, ↓XXs, ↓XD, ↓YX, ZB, Nat.reduceAdd, Nat.reducePow, ↓reduceIte, eq_self, Int.reduceEq, Nat.reduceEqDiff, Nat.reduceMul, Nat.reduceLeDiff, Int.reduceBEq, Int.reduceLT, Tryz.f17, ↓XH2, XRN, ZC, ZE, ZH, eq_self, Nat.reduceLeDiff, Nat.reduceBEq, slV_new, reduceIte, ↓op_extract, tupAt_mk, lenV_sl, Bool.not_true, Bool.not_false, er5, ex5, n0, n1, n2, rq34, eq_int, ne_int, hw]
          with_reducible refine okr_if (fun q4 => ?_) (fun q4 => ?_)
          · simp (dsimp := false) (disch := first | exact dI | fail) only [XOB, ↓XXs, ↓XD, ↓YX, ZB, Nat.reduceAdd, Nat.reducePow, ↓reduceIte, eq_self, Int.reduceEq, Nat.reduceEqDiff, Nat.reduceMul, Nat.reduceLeDiff, Int.reduceBEq, Int.reduceLT, Tryz.f17, ↓XH2, XRN, ZC, ZE, ZH, eq_self, Nat.reduceLeDiff, Nat.reduceBEq, slV_new, reduceIte, ↓op_extract, tupAt_mk, lenV_sl, Bool.not_true, Bool.not_false, er5, ex5, n0, n1, n2, rq34, eq_int, ne_int, hw]
            exact Okr.ret ⟨by congr 1; simp only [Bool.not_eq_true', Bool.not_eq_false'] at q1 q2 q3 q4; simp [memsOk, memOk, q1, q2, q3, q4], K5⟩
          · simp (dsimp := false) (disch := first | exact dI | fail) only [XOB, ↓XXs, ↓XD, ↓YX, ZB, Nat.reduceAdd, Nat.reducePow, ↓reduceIte, eq_self, Int.reduceEq, Nat.reduceEqDiff, Nat.reduceMul, Nat.reduceLeDiff, Int.reduceBEq, Int.reduceLT, Tryz.f17, ↓XH2, XRN, ZC, ZE, ZH, eq_self, Nat.reduceLeDiff, Nat.reduceBEq, slV_new, reduceIte, ↓op_extract, tupAt_mk, lenV_sl, Bool.not_true, Bool.not_false, er5, ex5, n0, n1, n2, rq34, eq_int, ne_int, hw]
            with_reducible refine okr_if (fun q5 => ?_) (fun q5 => ?_)
            · simp (dsimp := false) (disch := first | exact dI | fail) only [XOB, ↓XXs, ↓XD, ↓YX, ZB, Nat.reduceAdd, Nat.reducePow, ↓reduceIte, eq_self, Int.reduceEq, Nat.reduceEqDiff, Nat.reduceMul, Nat.reduceLeDiff, Int.reduceBEq, Int.reduceLT, Tryz.f17, ↓XH2, XRN, ZC, ZE, ZH, eq_self, Nat.reduceLeDiff, Nat.reduceBEq, slV_new, reduceIte, ↓op_extract, tupAt_mk, lenV_sl, Bool.not_true, Bool.not_false, er5, ex5, n0, n1, n2, rq34, eq_int, ne_int, hw]
              exact Okr.ret ⟨by congr 1; simp only [Bool.not_eq_true', Bool.not_eq_false'] at q1 q2 q3 q4 q5; simp [memsOk, memOk, q1, q2, q3, q4, q5], K5⟩
            · simp (dsimp := false) (disch := first | exact dI | fail) only [XOB, ↓XXs, ↓XD, ↓YX, ZB, Nat.reduceAdd, Nat.reducePow, ↓reduceIte, eq_self, Int.reduceEq, Nat.reduceEqDiff, Nat.reduceMul, Nat.reduceLeDiff, Int.reduceBEq, Int.reduceLT, Tryz.f17, ↓XH2, XRN, ZC, ZE, ZH, eq_self, Nat.reduceLeDiff, Nat.reduceBEq, slV_new, reduceIte, ↓op_extract, tupAt_mk, lenV_sl, Bool.not_true, Bool.not_false, er5, ex5, n0, n1, n2, rq34, eq_int, ne_int, hw]
              refine okr_call (rq48 (R.ro mv rv) x.user R.rs l _ hl5 hr qr5) ?_
              rintro _ h6 ⟨rfl, k6⟩
              have er6 := k6.get er5 (lt_of_get er5)
              have ex6 := k6.get ex5 (lt_of_get ex5)
              have K6 := K5.trans (k6.le K5.1)
              have qm6 := qm5.keep k6
              have qr6 := qr5.keep k6
              have hl6 : l ≤ h6.length := by have := K6.1; omega
              simp (dsimp := false) (disch := first | exact dI | fail) only [XOB, ↓XXs, ↓XD, ↓YX, ZB, Nat.reduceAdd, Nat.reducePow, ↓reduceIte, eq_self, Int.reduceEq, Nat.reduceEqDiff, Nat.reduceMul, Nat.reduceLeDiff, Int.reduceBEq, Int.reduceLT, Tryz.f17, ↓XH2, XRN, ZC, ZE, ZH, eq_self, Nat.reduceLeDiff, Nat.reduceBEq, slV_new, reduceIte, ↓op_extract, tupAt_mk, lenV_sl, Bool.not_true, Bool.not_false, er6, ex6, n0, n1, n2, rq34, eq_int, ne_int, hw]
              with_reducible refine okr_if (fun q6 => ?_) (fun q6 => ?_)
              · simp (dsimp := false) (disch := first | exact dI | fail) only [XOB, ↓XXs, ↓XD, ↓YX, ZB, Nat.reduceAdd, Nat.reducePow, ↓reduceIte, eq_self, Int.reduceEq, Nat.reduceEqDiff, Nat.reduceMul, Nat.reduceLeDiff, Int.reduceBEq, Int.reduceLT, Tryz.f17, ↓XH2, XRN, ZC, ZE, ZH, eq_self, Nat.reduceLeDiff, Nat.reduceBEq, slV_new, reduceIte, ↓op_extract, tupAt_mk, lenV_sl, Bool.not_true, Bool.not_false, er6, ex6, n0, n1, n2, rq34, eq_int, ne_int, hw]
                exact Okr.ret ⟨by congr 1; simp only [Bool.not_eq_true', Bool.not_eq_false'] at q1 q2 q3 q4 q5 q6; simp [memsOk, memOk, q1, q2, q3, q4, q5, q6], K6⟩
              · simp (dsimp := false) (disch := first | exact dI | fail) only [XOB, ↓XXs, ↓XD, ↓YX, ZB, Nat.reduceAdd, Nat.reducePow, ↓reduceIte, eq_self, Int.reduceEq, Nat.reduceEqDiff, Nat.reduceMul, Nat.reduceLeDiff, Int.reduceBEq, Int.reduceLT, Tryz.f17, ↓XH2, XRN, ZC, ZE, ZH, eq_self, Nat.reduceLeDiff, Nat.reduceBEq, slV_new, reduceIte, ↓op_extract, tupAt_mk, lenV_sl, Bool.not_true, Bool.not_false, er6, ex6, n0, n1, n2, rq34, eq_int, ne_int, hw]
                simp only [Bool.not_eq_true', Bool.not_eq_false'] at q1 q2 q3 q4 q5 q6
                have hmm : memOk R.ms R.rs x d.length = true := by simp [memOk, q1, q2, q3, q4, q5, q6]
                have := ih (d ++ [x]) h6 K6 (by rw [← hd]; simp)
                rw [List.length_append] at this
                rw [memsOk, hmm, Bool.true_and]
                exact this
end Go.Abs
namespace Go.Abs
open Go.Proofs
set_option maxRecDepth 100000
set_option linter.unusedSimpArgs false
set_option linter.unusedVariables false
set_option pp.maxSteps 20000
set_option pp.deepTerms true
set_option maxHeartbeats 4000000 in
theorem rq17 (R : Rm) (sm : R.Sm) (mv rv : Value) (l : Nat) (h : AH) (hl : l ≤ h.length) (qm : Me.Rd h mv R.ms) (qr : Rk.Rd h rv R.rs) :
    Okr (VQ (.bool R.ok) h) (run V0 (.fn 17) l [S (R.ro mv rv).V] h) := by
  have kx : Keep h.length h (h ++ [AObj.row 0 5 [sV R.name, iV R.next, mv, rv, sV R.sub]]) := Keep.app _ _ (Nat.le_refl _)
  have hnm := sm.nm
  have hsb := sm.sb
  have a3 : ∀ h, run V0 (.fn 43) l [S (sV R.sub), S (fnV 44)] h = some (.ret (.bool (subOk R.sub)) h) := fun h => r_orBody R.sub (by omega) l h
  have hlm := qm.len
  have hlr := qr.len
  have d5 : decide ((5 : Int) < (R.ms.length : Int)) = !decide (R.ms.length ≤ 5) := by rw [Bool.eq_iff_iff]; simp; omega
  have d6 : decide ((6 : Int) < (R.rs.length : Int)) = !decide (R.rs.length ≤ 6) := by rw [Bool.eq_iff_iff]; simp; omega
  refine okr_fn Tryz.func17 rfl rfl rfl rfl ?_
  simp (dsimp := false) (disch := first | exact dI | fail) only [XOB, ↓XXs, ↓XD, ↓YX, ZB, Nat.reduceAdd, Nat.reducePow, ↓reduceIte, eq_self, Int.reduceEq, Nat.reduceEqDiff, Nat.reduceMul, Nat.reduceLeDiff, Int.reduceBEq, Int.reduceLT, Tryz.f17, ↓XH2, XRN, ZC, ZE, ZH, eq_self, Nat.reduceLeDiff, Nat.reduceBEq, slV_new, reduceIte, ↓op_extract, tupAt_mk, lenV_sl, Bool.not_true, Bool.not_false]
  refine okr_call (r_userOk R.name (by omega) l _) ?_
  rintro _ h2 ⟨rfl, k2⟩
  have er2 : h2[h.length]? = some (.row 0 5 [sV R.name, iV R.next, mv, rv, sV R.sub]) := k2.get (by simp) (by simp)
  have K2 := kx.trans (k2.le kx.1)
  have qm2 := qm.keep K2
  have qr2 := qr.keep K2
  with_reducible refine okr_if (fun q1 => ?_) (fun q1 => ?_)
  · simp (dsimp := false) (disch := first | exact dI | fail) only [XOB, ↓XXs, ↓XD, ↓YX, ZB, Nat.reduceAdd, Nat.reducePow, ↓reduceIte, eq_self, Int.reduceEq, Nat.reduceEqDiff, Nat.reduceMul, Nat.reduceLeDiff, Int.reduceBEq, Int.reduceLT, Tryz.f17, ↓XH2, XRN, ZC, ZE, ZH, eq_self, Nat.reduceLeDiff, Nat.reduceBEq, slV_new, reduceIte, ↓op_extract, tupAt_mk, lenV_sl, Bool.not_true, Bool.not_false, er2, rq34, a3, hlm, hlr, d5, d6]
    exact Okr.ret ⟨by congr 1; simp only [Bool.not_eq_true', Bool.not_eq_false'] at q1; simp [Rm.ok, q1], K2⟩
  · simp (dsimp := false) (disch := first | exact dI | fail) only [XOB, ↓XXs, ↓XD, ↓YX, ZB, Nat.reduceAdd, Nat.reducePow, ↓reduceIte, eq_self, Int.reduceEq, Nat.reduceEqDiff, Nat.reduceMul, Nat.reduceLeDiff, Int.reduceBEq, Int.reduceLT, Tryz.f17, ↓XH2, XRN, ZC, ZE, ZH, eq_self, Nat.reduceLeDiff, Nat.reduceBEq, slV_new, reduceIte, ↓op_extract, tupAt_mk, lenV_sl, Bool.not_true, Bool.not_false, er2, rq34, a3, hlm, hlr, d5, d6]
    with_reducible refine okr_if (fun q2 => ?_) (fun q2 => ?_)
    · simp (dsimp := false) (disch := first | exact dI | fail) only [XOB, ↓XXs, ↓XD, ↓YX, ZB, Nat.reduceAdd, Nat.reducePow, ↓reduceIte, eq_self, Int.reduceEq, Nat.reduceEqDiff, Nat.reduceMul, Nat.reduceLeDiff, Int.reduceBEq, Int.reduceLT, Tryz.f17, ↓XH2, XRN, ZC, ZE, ZH, eq_self, Nat.reduceLeDiff, Nat.reduceBEq, slV_new, reduceIte, ↓op_extract, tupAt_mk, lenV_sl, Bool.not_true, Bool.not_false, er2, rq34, a3, hlm, hlr, d5, d6]
      exact Okr.ret ⟨by congr 1; simp only [Bool.not_eq_true', Bool.not_eq_false'] at q1 q2; simp [Rm.ok, q1, q2], K2⟩
    · simp (dsimp := false) (disch := first | exact dI | fail) only [XOB, ↓XXs, ↓XD, ↓YX, ZB, Nat.reduceAdd, Nat.reducePow, ↓reduceIte, eq_self, Int.reduceEq, Nat.reduceEqDiff, Nat.reduceMul, Nat.reduceLeDiff, Int.reduceBEq, Int.reduceLT, Tryz.f17, ↓XH2, XRN, ZC, ZE, ZH, eq_self, Nat.reduceLeDiff, Nat.reduceBEq, slV_new, reduceIte, ↓op_extract, tupAt_mk, lenV_sl, Bool.not_true, Bool.not_false, er2, rq34, a3, hlm, hlr, d5, d6]
      with_reducible refine okr_if (fun q3 => ?_) (fun q3 => ?_)
      · simp (dsimp := false) (disch := first | exact dI | fail) only [XOB, ↓XXs, ↓XD, ↓YX, ZB, Nat.reduceAdd, Nat.reducePow, ↓reduceIte, eq_self, Int.reduceEq, Nat.reduceEqDiff, Nat.reduceMul, Nat.reduceLeDiff, Int.reduceBEq, Int.reduceLT, Tryz.f17, ↓XH2, XRN, ZC, ZE, ZH, eq_self, Nat.reduceLeDiff, Nat.reduceBEq, slV_new, reduceIte, ↓op_extract, tupAt_mk, lenV_sl, Bool.not_true, Bool.not_false, er2, rq34, a3, hlm, hlr, d5, d6]
        exact Okr.ret ⟨by congr 1; simp only [Bool.not_eq_true', Bool.not_eq_false'] at q1 q2 q3; simp [Rm.ok, q1, q2, q3], K2⟩
      · simp (dsimp := false) (disch := first | exact dI | fail) only [XOB, ↓XXs, ↓XD, ↓YX, ZB, Nat.reduceAdd, Nat.reducePow, ↓reduceIte, eq_self, Int.reduceEq, Nat.reduceEqDiff, Nat.reduceMul, Nat.reduceLeDiff, Int.reduceBEq, Int.reduceLT, Tryz.f17, ↓XH2, XRN, ZC, ZE, ZH, eq_self, Nat.reduceLeDiff, Nat.reduceBEq, slV_new, reduceIte, ↓op_extract, tupAt_mk, lenV_sl, Bool.not_true, Bool.not_false, er2, rq34, a3, hlm, hlr, d5, d6]
        with_reducible refine okr_if (fun q4 => ?_) (fun q4 => ?_)
        · simp (dsimp := false) (disch := first | exact dI | fail) only [XOB, ↓XXs, ↓XD, ↓YX, ZB, Nat.reduceAdd, Nat.reducePow, ↓reduceIte, eq_self, Int.reduceEq, Nat.reduceEqDiff, Nat.reduceMul, Nat.reduceLeDiff, Int.reduceBEq, Int.reduceLT, Tryz.f17, ↓XH2, XRN, ZC, ZE, ZH, eq_self, Nat.reduceLeDiff, Nat.reduceBEq, slV_new, reduceIte, ↓op_extract, tupAt_mk, lenV_sl, Bool.not_true, Bool.not_false, er2, rq34, a3, hlm, hlr, d5, d6]
          exact Okr.ret ⟨by congr 1; simp only [Bool.not_eq_true', Bool.not_eq_false'] at q1 q2 q3 q4; simp [Rm.ok, q1, q2, q3, q4], K2⟩
        · simp (dsimp := false) (disch := first | exact dI | fail) only [XOB, ↓XXs, ↓XD, ↓YX, ZB, Nat.reduceAdd, Nat.reducePow, ↓reduceIte, eq_self, Int.reduceEq, Nat.reduceEqDiff, Nat.reduceMul, Nat.reduceLeDiff, Int.reduceBEq, Int.reduceLT, Tryz.f17, ↓XH2, XRN, ZC, ZE, ZH, eq_self, Nat.reduceLeDiff, Nat.reduceBEq, slV_new, reduceIte, ↓op_extract, tupAt_mk, lenV_sl, Bool.not_true, Bool.not_false, er2, rq34, a3, hlm, hlr, d5, d6]
          with_reducible refine okr_if (fun q5 => ?_) (fun q5 => ?_)
          · simp (dsimp := false) (disch := first | exact dI | fail) only [XOB, ↓XXs, ↓XD, ↓YX, ZB, Nat.reduceAdd, Nat.reducePow, ↓reduceIte, eq_self, Int.reduceEq, Nat.reduceEqDiff, Nat.reduceMul, Nat.reduceLeDiff, Int.reduceBEq, Int.reduceLT, Tryz.f17, ↓XH2, XRN, ZC, ZE, ZH, eq_self, Nat.reduceLeDiff, Nat.reduceBEq, slV_new, reduceIte, ↓op_extract, tupAt_mk, lenV_sl, Bool.not_true, Bool.not_false, er2, rq34, a3, hlm, hlr, d5, d6]
            exact Okr.ret ⟨by congr 1; simp only [Bool.not_eq_true', Bool.not_eq_false'] at q1 q2 q3 q4 q5; simp [Rm.ok, q1, q2, q3, q4, q5], K2⟩
          · simp (dsimp := false) (disch := first | exact dI | fail) only [XOB, ↓XXs, ↓XD, ↓YX, ZB, Nat.reduceAdd, Nat.reducePow, ↓reduceIte, eq_self, Int.reduceEq, Nat.reduceEqDiff, Nat.reduceMul, Nat.reduceLeDiff, Int.reduceBEq, Int.reduceLT, Tryz.f17, ↓XH2, XRN, ZC, ZE, ZH, eq_self, Nat.reduceLeDiff, Nat.reduceBEq, slV_new, reduceIte, ↓op_extract, tupAt_mk, lenV_sl, Bool.not_true, Bool.not_false, er2, rq34, a3, hlm, hlr, d5, d6]
            simp only [Bool.not_eq_true', Bool.not_eq_false'] at q1 q2 q3 q4 q5
            have hk : R.ok = (memsOk R.ms R.rs R.ms 0 && (ranksOk R.rs none && finL R)) := by simp [Rm.ok, finL, q1, q2, q3, q4, q5, Bool.and_assoc]
            rw [hk]
            refine (L017 R sm mv rv l h.length h2 (by have := K2.1; omega) (by have := K2.1; have := lt_of_get er2; omega) er2 qm2 qr2 R.ms [] h2 (Keep.refl _ _) rfl).mono ?_
            rintro v h' ⟨rfl, k3⟩
            exact ⟨rfl, K2.trans (k3.le K2.1)⟩
end Go.Abs
namespace Go.Abs
open Go.Proofs
set_option maxRecDepth 100000
set_option linter.unusedSimpArgs false
set_option linter.unusedVariables false
set_option pp.maxSteps 20000
set_option pp.deepTerms true
theorem r_l4User (s : Bs) (hs : s.length ≤ 2 ^ 60) (l : Nat) (h : AH) : Okr (VQ (.bool (userOkL s)) h) (run V0 (.fn 55) l [S (sV s)] h) := ⟨_, h, rq55 s hs l h, rfl, Keep.refl _ _⟩
theorem r_l6Of (ro : Ro) (u : Bs) (ms : List Me) (l : Nat) (h : AH) (hn : ms.length ≤ 2 ^ 40) (q : Me.Rd h ro.ms ms) : Okr (VQ (iV (ofL u ms 0)) h) (run V0 (.fn 101) l [S ro.V, S (sV u)] h) := ⟨_, _, rq101 ro u ms l h hn q, rfl, Keep.app _ _ (Nat.le_refl _)⟩
theorem r_l6Nick (ro : Ro) (u : Bs) (ms : List Me) (l : Nat) (h : AH) (hn : ms.length ≤ 2 ^ 40) (q : Me.Rd h ro.ms ms) : Okr (VQ (iV (nickL u ms 0)) h) (run V0 (.fn 102) l [S ro.V, S (sV u)] h) := ⟨_, _, rq102 ro u ms l h hn q, rfl, Keep.app _ _ (Nat.le_refl _)⟩
theorem r_l6Rank (ro : Ro) (u : Bs) (rs : List Rk) (l : Nat) (h : AH) (hn : rs.length ≤ 2 ^ 40) (q : Rk.Rd h ro.rs rs) : Okr (VQ (iV (rankL u rs)) h) (run V0 (.fn 103) l [S ro.V, S (sV u)] h) := ⟨_, _, rq103 ro u rs l h hn q, rfl, Keep.app _ _ (Nat.le_refl _)⟩
theorem r_l6Owners (ro : Ro) (rs : List Rk) (l : Nat) (h : AH) (hn : rs.length ≤ 2 ^ 40) (q : Rk.Rd h ro.rs rs) : Okr (VQ (iV (ownL rs 0)) h) (run V0 (.fn 60) l [S ro.V] h) := ⟨_, _, rq60 ro rs l h hn q, rfl, Keep.app _ _ (Nat.le_refl _)⟩
set_option maxHeartbeats 4000000 in
theorem L58 (R : Rm) (sm : R.Sm) (mv rv : Value) (l ir : Nat) (H0 : AH) (hl : l ≤ H0.length) (hir : ir < H0.length) (er0 : H0[ir]? = some (.row 0 5 (R.ro mv rv).C)) (qm0 : Me.Rd H0 mv R.ms) (qr0 : Rk.Rd H0 rv R.rs) :
    ∀ (r d : List Me) (h : AH), Keep H0.length H0 h → d ++ r = R.ms →
      Okr (VQ (.bool (memsOk R.ms R.rs r d.length && decide (R.ms.length ≤ 5))) H0) (L58_0 l (pV ir 0 0) (iV d.length) h) := by
  have hm : R.ms.length ≤ 2 ^ 40 := by have := sm.m; omega
  have hr : R.rs.length ≤ 2 ^ 40 := by have := sm.k; omega
  have d5 : decide ((R.ms.length : Int) ≤ (5 : Int)) = decide (R.ms.length ≤ 5) := by rw [Bool.eq_iff_iff]; simp; omega
  intro r
  induction r with
  | nil =>
    intro d h k hd
    have er := k.get er0 hir
    have qm := qm0.keep k
    rw [List.append_nil] at hd
    have hlm := qm.len
    have hlt : decide ((d.length : Int) < (R.ms.length : Int)) = false := decide_eq_false (by rw [hd]; omega)
    refine okr_code Tryz.func58 rfl rfl ?_
    simp (dsimp := false) (disch := first | exact dI | fail) only [XOB, ↓XXs, ↓XD, ↓YX, ZB, Nat.reduceAdd, Nat.reducePow, ↓reduceIte, eq_self, Int.reduceEq, Nat.reduceEqDiff, Nat.reduceMul, Nat.reduceLeDiff, Int.reduceBEq, Int.reduceLT, Tryz.f58, ↓XH2, XRN, ZC, ZE, ZH, eq_self, Nat.reduceLeDiff, Nat.reduceBEq, slV_new, reduceIte, ↓op_extract, tupAt_mk, lenV_sl, Bool.not_true, Bool.not_false, er, hlm, hlt, d5]
    exact Okr.ret ⟨rfl, k⟩
  | cons x r ih =>
    intro d h k hd
    have er := k.get er0 hir
    have qm := qm0.keep k
    have qr := qr0.keep k
    obtain ⟨hb1, hb2⟩ := sm.ms x (by rw [← hd]; simp)
    have hdl := congrArg List.length hd
    simp only [List.length_append, List.length_cons] at hdl
    have hlm := qm.len
    have hlt : decide ((d.length : Int) < (R.ms.length : Int)) = true := decide_eq_true (by omega)
    obtain ⟨pp, hix, hld⟩ := Me.Rd.get (d := d) (x := x) (r := r) (by rw [hd]; exact qm)
    have hw : IntKind.i64.wrap ((d.length : Int) + 1) = ((d.length + 1 : Nat) : Int) := natCast_succ_wrap (by omega) rfl
    have hlh : l ≤ h.length := by have := k.1; omega
    have kx : Keep h.length h (h ++ [AObj.row 0 3 [sV x.user, sV x.nick, iV x.role]]) := Keep.app _ _ (Nat.le_refl _)
    have n0 : ∀ a b c : Value, [a, b, c][0]? = some a := fun _ _ _ => rfl
    have n1 : ∀ a b c : Value, [a, b, c][1]? = some b := fun _ _ _ => rfl
    have n2 : ∀ a b c : Value, [a, b, c][2]? = some c := fun _ _ _ => rfl
    refine okr_code Tryz.func58 rfl rfl ?_
    simp (dsimp := false) (disch := first | exact dI | fail) only [XOB, ↓XXs, ↓XD, ↓YX, ZB, Nat.reduceAdd, Nat.reducePow, ↓reduceIte, eq_self, Int.reduceEq, Nat.reduceEqDiff, Nat.reduceMul, Nat.reduceLeDiff, Int.reduceBEq, Int.reduceLT, Tryz.f58, ↓XH2, XRN, ZC, ZE, ZH, eq_self, Nat.reduceLeDiff, Nat.reduceBEq, slV_new, reduceIte, ↓op_extract, tupAt_mk, lenV_sl, Bool.not_true, Bool.not_false, hlm, hlt, hix, hld, er, hlh]
    have er1 := kx.get er (lt_of_get er)
    have ex1 : (h ++ [AObj.row 0 3 [sV x.user, sV x.nick, iV x.role]])[h.length]? = some (.row 0 3 [sV x.user, sV x.nick, iV x.role]) := by simp
    have K1 := k.trans (kx.le k.1)
    have qm1 := qm.keep kx
    have qr1 := qr.keep kx
    refine okr_call (r_l4User x.user (by omega) l _) ?_
    rintro _ h2 ⟨rfl, k2⟩
    have er2 := k2.get er1 (lt_of_get er1)
    have ex2 := k2.get ex1 (lt_of_get ex1)
    have K2 := K1.trans (k2.le K1.1)
    have qm2 := qm1.keep k2
    have qr2 := qr1.keep k2
    have hl2 : l ≤ h2.length := by have := K2.1; omega
    with_reducible refine okr_if (fun q1 => ?_) (fun q1 => ?_)
    · simp (dsimp := false) (disch := first | exact dI | fail) only [XOB, ↓XXs, ↓XD, ↓YX, ZB, Nat.reduceAdd, Nat.reducePow, ↓reduceIte, eq_self, Int.reduceEq, Nat.reduceEqDiff, Nat.reduceMul, Nat.reduceLeDiff, Int.reduceBEq, Int.reduceLT, Tryz.f58, ↓XH2, XRN, ZC, ZE, ZH, eq_self, Nat.reduceLeDiff, Nat.reduceBEq, slV_new, reduceIte, ↓op_extract, tupAt_mk, lenV_sl, Bool.not_true, Bool.not_false, er2, ex2, n0, n1, n2, rq56, eq_int, ne_int, hw]
      exact Okr.ret ⟨by congr 1; simp only [Bool.not_eq_true', Bool.not_eq_false'] at q1; simp [memsOk, memOk, q1], K2⟩
    · simp (dsimp := false) (disch := first | exact dI | fail) only [XOB, ↓XXs, ↓XD, ↓YX, ZB, Nat.reduceAdd, Nat.reducePow, ↓reduceIte, eq_self, Int.reduceEq, Nat.reduceEqDiff, Nat.reduceMul, Nat.reduceLeDiff, Int.reduceBEq, Int.reduceLT, Tryz.f58, ↓XH2, XRN, ZC, ZE, ZH, eq_self, Nat.reduceLeDiff, Nat.reduceBEq, slV_new, reduceIte, ↓op_extract, tupAt_mk, lenV_sl, Bool.not_true, Bool.not_false, er2, ex2, n0, n1, n2, rq56, eq_int, ne_int, hw]
      refine okr_call (rq100 x.nick (by omega) l _ hl2) ?_
      rintro _ h3 ⟨rfl, k3⟩
      have er3 := k3.get er2 (lt_of_get er2)
      have ex3 := k3.get ex2 (lt_of_get ex2)
      have K3 := K2.trans (k3.le K2.1)
      have qm3 := qm2.keep k3
      have qr3 := qr2.keep k3
      have hl3 : l ≤ h3.length := by have := K3.1; omega
      with_reducible refine okr_if (fun q2 => ?_) (fun q2 => ?_)
      · simp (dsimp := false) (disch := first | exact dI | fail) only [XOB, ↓XXs, ↓XD, ↓YX, ZB, Nat.reduceAdd, Nat.reducePow, ↓reduceIte, eq_self, Int.reduceEq, Nat.reduceEqDiff, Nat.reduceMul, Nat.reduceLeDiff, Int.reduceBEq, Int.reduceLT, Tryz.f58, ↓XH2, XRN, ZC, ZE, ZH, eq_self, Nat.reduceLeDiff, Nat.reduceBEq, slV_new, reduceIte, ↓op_extract, tupAt_mk, lenV_sl, Bool.not_true, Bool.not_false, er3, ex3, n0, n1, n2, rq56, eq_int, ne_int, hw]
        exact Okr.ret ⟨by congr 1; simp only [Bool.not_eq_true', Bool.not_eq_false'] at q1 q2; simp [memsOk, memOk, q1, q2], K3⟩
      · simp (dsimp := false) (disch := first | exact dI | fail) only [XOB, ↓XXs, ↓XD, ↓YX, ZB, Nat.reduceAdd, Nat.reducePow, ↓reduceIte, eq_self, Int.reduceEq, Nat.reduceEqDiff, Nat.reduceMul, Nat.reduceLeDiff, Int.reduceBEq, Int.reduceLT, Tryz.f58, ↓XH2, XRN, ZC, ZE, ZH, eq_self, Nat.reduceLeDiff, Nat.reduceBEq, slV_new, reduceIte, ↓op_extract, tupAt_mk, lenV_sl, Bool.not_true, Bool.not_false, er3, ex3, n0, n1, n2, rq56, eq_int, ne_int, hw]
        with_reducible refine okr_if (fun q5 => ?_) (fun q5 => ?_)
        · simp (dsimp := false) (disch := first | exact dI | fail) only [XOB, ↓XXs, ↓XD, ↓YX, ZB, Nat.reduceAdd, Nat.reducePow, ↓reduceIte, eq_self, Int.reduceEq, Nat.reduceEqDiff, Nat.reduceMul, Nat.reduceLeDiff, Int.reduceBEq, Int.reduceLT, Tryz.f58, ↓XH2, XRN, ZC, ZE, ZH, eq_self, Nat.reduceLeDiff, Nat.reduceBEq, slV_new, reduceIte, ↓op_extract, tupAt_mk, lenV_sl, Bool.not_true, Bool.not_false, er3, ex3, n0, n1, n2, rq56, eq_int, ne_int, hw]
          exact Okr.ret ⟨by congr 1; simp only [Bool.not_eq_true', Bool.not_eq_false'] at q1 q2 q5; simp [memsOk, memOk, q1, q2, q5], K3⟩
        · simp (dsimp := false) (disch := first | exact dI | fail) only [XOB, ↓XXs, ↓XD, ↓YX, ZB, Nat.reduceAdd, Nat.reducePow, ↓reduceIte, eq_self, Int.reduceEq, Nat.reduceEqDiff, Nat.reduceMul, Nat.reduceLeDiff, Int.reduceBEq, Int.reduceLT, Tryz.f58, ↓XH2, XRN, ZC, ZE, ZH, eq_self, Nat.reduceLeDiff, Nat.reduceBEq, slV_new, reduceIte, ↓op_extract, tupAt_mk, lenV_sl, Bool.not_true, Bool.not_false, er3, ex3, n0, n1, n2, rq56, eq_int, ne_int, hw]
          refine okr_call (r_l6Of (R.ro mv rv) x.user R.ms l _ hm qm3) ?_
          rintro _ h4 ⟨rfl, k4⟩
          have er4 := k4.get er3 (lt_of_get er3)
          have ex4 := k4.get ex3 (lt_of_get ex3)
          have K4 := K3.trans (k4.le K3.1)
          have qm4 := qm3.keep k4
          have qr4 := qr3.keep k4
          have hl4 : l ≤ h4.length := by have := K4.1; omega
          simp (dsimp := false) (disch := first | exact dI | fail) only [XOB, ↓XXs, ↓XD, ↓YX, ZB, Nat.reduceAdd, Nat.reducePow, ↓reduceIte, eq_self, Int.reduceEq, Nat.reduceEqDiff, Nat.reduceMul, Nat.reduceLeDiff, Int.reduceBEq, Int.reduceLT, Tryz.f58, ↓XH2, XRN, ZC, ZE, ZH, eq_self, Nat.reduceLeDiff, Nat.reduceBEq, slV_new, reduceIte, ↓op_extract, tupAt_mk, lenV_sl, Bool.not_true, Bool.not_false, er4, ex4, n0, n1, n2, rq56, eq_int, ne_int, hw]
          with_reducible refine okr_if (fun q3 => ?_) (fun q3 => ?_)
          · simp (dsimp := false) (disch := first | exact dI | fail) only [XOB, ↓XXs, ↓XD, ↓YX, ZB, Nat.reduceAdd, Nat.reducePow, ↓reduceIte, eq_self, Int.reduceEq, Nat.reduceEqDiff, Nat.reduceMul, Nat.reduceLeDiff, Int.reduceBEq, Int.reduceLT, Tryz.f58, ↓XH2, XRN, ZC, ZE, ZH, eq_self, Nat.reduceLeDiff, Nat.reduceBEq, slV_new, reduceIte, ↓op_extract, tupAt_mk, lenV_sl, Bool.not_true, Bool.not_false, er4, ex4, n0, n1, n2, rq56, eq_int, ne_int, hw]
            exact Okr.ret ⟨by congr 1; simp only [Bool.not_eq_true', Bool.not_eq_false'] at q1 q2 q5 q3; simp [memsOk, memOk, q1, q2, q5, q3], K4⟩
          · simp (dsimp := false) (disch := first | exact dI | fail) only [XOB, ↓XXs, ↓XD, ↓YX, ZB, Nat.reduceAdd, Nat.reducePow, ↓reduceIte, eq_self, Int.reduceEq, Nat.reduceEqDiff, Nat.reduceMul, Nat.reduceLeDiff, Int.reduceBEq, Int.reduceLT, Tryz.f58, ↓XH2, XRN, ZC, ZE, ZH, eq_self, Nat.reduceLeDiff, Nat.reduceBEq, slV_new, reduceIte, ↓op_extract, tupAt_mk, lenV_sl, Bool.not_true, Bool.not_false, er4, ex4, n0, n1, n2, rq56, eq_int, ne_int, hw]
            refine okr_call (r_l6Nick (R.ro mv rv) x.nick R.ms l _ hm qm4) ?_
            rintro _ h5 ⟨rfl, k5⟩
            have er5 := k5.get er4 (lt_of_get er4)
            have ex5 := k5.get ex4 (lt_of_get ex4)
            have K5 := K4.trans (k5.le K4.1)
            have qm5 := qm4.keep k5
            have qr5 := qr4.keep k5
            have hl5 : l ≤ h5.length := by have := K5.1; omega
            simp (dsimp := false) (disch := first | exact dI | fail) only [XOB, ↓XXs, ↓XD, ↓YX, ZB, Nat.reduceAdd, Nat.reducePow, ↓reduceIte, eq_self, Int.reduceEq, Nat.reduceEqDiff, Nat.reduceMul, Nat.reduceLeDiff, Int.reduceBEq, Int.reduceLT, Tryz.f58, ↓XH2, XRN, ZC, ZE, ZH, eq_self, Nat.reduceLeDiff, Nat.reduceBEq, slV_new, reduceIte, ↓op_extract, tupAt_mk, lenV_sl, Bool.not_true, Bool.not_false, er5, ex5, n0, n1, n2, rq56, eq_int, ne_int, hw]
            with_reducible refine okr_if (fun q4 => ?_) (fun q4 => ?_)
            · simp (dsimp := false) (disch := first | exact dI | fail) only [XOB, ↓XXs, ↓XD, ↓YX, ZB, Nat.reduceAdd, Nat.reducePow, ↓reduceIte, eq_self, Int.reduceEq, Nat.reduceEqDiff, Nat.reduceMul, Nat.reduceLeDiff, Int.reduceBEq, Int.reduceLT, Tryz.f58, ↓XH2, XRN, ZC, ZE, ZH, eq_self, Nat.reduceLeDiff, Nat.reduceBEq, slV_new, reduceIte, ↓op_extract, tupAt_mk, lenV_sl, Bool.not_true, Bool.not_false, er5, ex5, n0, n1, n2, rq56, eq_int, ne_int, hw]
              exact Okr.ret ⟨by congr 1; simp only [Bool.not_eq_true', Bool.not_eq_false'] at q1 q2 q5 q3 q4; simp [memsOk, memOk, q1, q2, q5, q3, q4], K5⟩
            · simp (dsimp := false) (disch := first | exact dI | fail) only [XOB, ↓XXs, ↓XD, ↓YX, ZB, Nat.reduceAdd, Nat.reducePow, ↓reduceIte, eq_self, Int.reduceEq, Nat.reduceEqDiff, Nat.reduceMul, Nat.reduceLeDiff, Int.reduceBEq, Int.reduceLT, Tryz.f58, ↓XH2, XRN, ZC, ZE, ZH, eq_self, Nat.reduceLeDiff, Nat.reduceBEq, slV_new, reduceIte, ↓op_extract, tupAt_mk, lenV_sl, Bool.not_true, Bool.not_false, er5, ex5, n0, n1, n2, rq56, eq_int, ne_int, hw]
              refine okr_call (r_l6Rank (R.ro mv rv) x.user R.rs l _ hr qr5) ?_
              rintro _ h6 ⟨rfl, k6⟩
              have er6 := k6.get er5 (lt_of_get er5)
              have ex6 := k6.get ex5 (lt_of_get ex5)
              have K6 := K5.trans (k6.le K5.1)
              have qm6 := qm5.keep k6
              have qr6 := qr5.keep k6
              have hl6 : l ≤ h6.length := by have := K6.1; omega
              simp (dsimp := false) (disch := first | exact dI | fail) only [XOB, ↓XXs, ↓XD, ↓YX, ZB, Nat.reduceAdd, Nat.reducePow, ↓reduceIte, eq_self, Int.reduceEq, Nat.reduceEqDiff, Nat.reduceMul, Nat.reduceLeDiff, Int.reduceBEq, Int.reduceLT, Tryz.f58, ↓XH2, XRN, ZC, ZE, ZH, eq_self, Nat.reduceLeDiff, Nat.reduceBEq, slV_new, reduceIte, ↓op_extract, tupAt_mk, lenV_sl, Bool.not_true, Bool.not_false, er6, ex6, n0, n1, n2, rq56, eq_int, ne_int, hw]
              with_reducible refine okr_if (fun q6 => ?_) (fun q6 => ?_)
              · simp (dsimp := false) (disch := first | exact dI | fail) only [XOB, ↓XXs, ↓XD, ↓YX, ZB, Nat.reduceAdd, Nat.reducePow, ↓reduceIte, eq_self, Int.reduceEq, Nat.reduceEqDiff, Nat.reduceMul, Nat.reduceLeDiff, Int.reduceBEq, Int.reduceLT, Tryz.f58, ↓XH2, XRN, ZC, ZE, ZH, eq_self, Nat.reduceLeDiff, Nat.reduceBEq, slV_new, reduceIte, ↓op_extract, tupAt_mk, lenV_sl, Bool.not_true, Bool.not_false, er6, ex6, n0, n1, n2, rq56, eq_int, ne_int, hw]
                exact Okr.ret ⟨by congr 1; simp only [Bool.not_eq_true', Bool.not_eq_false'] at q1 q2 q5 q3 q4 q6; simp [memsOk, memOk, q1, q2, q5, q3, q4, q6], K6⟩
              · simp (dsimp := false) (disch := first | exact dI | fail) only [XOB, ↓XXs, ↓XD, ↓YX, ZB, Nat.reduceAdd, Nat.reducePow, ↓reduceIte, eq_self, Int.reduceEq, Nat.reduceEqDiff, Nat.reduceMul, Nat.reduceLeDiff, Int.reduceBEq, Int.reduceLT, Tryz.f58, ↓XH2, XRN, ZC, ZE, ZH, eq_self, Nat.reduceLeDiff, Nat.reduceBEq, slV_new, reduceIte, ↓op_extract, tupAt_mk, lenV_sl, Bool.not_true, Bool.not_false, er6, ex6, n0, n1, n2, rq56, eq_int, ne_int, hw]
                simp only [Bool.not_eq_true', Bool.not_eq_false'] at q1 q2 q5 q3 q4 q6
                have hmm : memOk R.ms R.rs x d.length = true := by simp [memOk, q1, q2, q5, q3, q4, q6]
                have := ih (d ++ [x]) h6 K6 (by rw [← hd]; simp)
                rw [List.length_append] at this
                rw [memsOk, hmm, Bool.true_and]
                exact this
theorem rq58 (R : Rm) (sm : R.Sm) (mv rv : Value) (l : Nat) (h : AH) (hl : l ≤ h.length) (qm : Me.Rd h mv R.ms) (qr : Rk.Rd h rv R.rs) :
    Okr (VQ (.bool (memsOk R.ms R.rs R.ms 0 && decide (R.ms.length ≤ 5))) h) (run V0 (.fn 58) l [S (R.ro mv rv).V] h) := by
  have kx : Keep h.length h (h ++ [AObj.row 0 5 [sV R.name, iV R.next, mv, rv, sV R.sub]]) := Keep.app _ _ (Nat.le_refl _)
  refine okr_fn Tryz.func58 rfl rfl rfl rfl ?_
  simp (dsimp := false) (disch := first | exact dI | fail) only [XOB, ↓XXs, ↓XD, ↓YX, ZB, Nat.reduceAdd, Nat.reducePow, ↓reduceIte, eq_self, Int.reduceEq, Nat.reduceEqDiff, Nat.reduceMul, Nat.reduceLeDiff, Int.reduceBEq, Int.reduceLT, Tryz.f58, ↓XH2, XRN, ZC, ZE, ZH, eq_self, Nat.reduceLeDiff, Nat.reduceBEq, slV_new, reduceIte, ↓op_extract, tupAt_mk, lenV_sl, Bool.not_true, Bool.not_false]
  refine (L58 R sm mv rv l h.length _ (by have := kx.1; omega) (by simp) (by simp) (qm.keep kx) (qr.keep kx) R.ms [] _ (Keep.refl _ _) rfl).mono ?_
  rintro v h' ⟨rfl, k3⟩
  exact ⟨rfl, kx.trans (k3.le kx.1)⟩
set_option maxHeartbeats 4000000 in
theorem L59 (R : Rm) (sm : R.Sm) (mv rv : Value) (l ir : Nat) (H0 : AH) (hl : l ≤ H0.length) (hir : ir < H0.length) (er0 : H0[ir]? = some (.row 0 5 (R.ro mv rv).C)) (qr0 : Rk.Rd H0 rv R.rs) :
    ∀ (r d : List Rk) (h : AH), Keep H0.length H0 h → d ++ r = R.rs →
      Okr (VQ (.bool (ranksOk r d.getLast? && decide (R.rs.length ≤ 6))) H0) (L59_0 l (pV ir 0 0) (iV d.length) h) := by
  have hr : R.rs.length ≤ 2 ^ 40 := by have := sm.k; omega
  have d6 : decide ((R.rs.length : Int) ≤ (6 : Int)) = decide (R.rs.length ≤ 6) := by rw [Bool.eq_iff_iff]; simp; omega
  intro r
  induction r with
  | nil =>
    intro d h k hd
    have er := k.get er0 hir
    have qr := qr0.keep k
    rw [List.append_nil] at hd
    have hlr := qr.len
    have hlt : decide ((d.length : Int) < (R.rs.length : Int)) = false := decide_eq_false (by rw [hd]; omega)
    refine okr_code Tryz.func59 rfl rfl ?_
    simp (dsimp := false) (disch := first | exact dI | fail) only [XOB, ↓XXs, ↓XD, ↓YX, ZB, Nat.reduceAdd, Nat.reducePow, ↓reduceIte, eq_self, Int.reduceEq, Nat.reduceEqDiff, Nat.reduceMul, Nat.reduceLeDiff, Int.reduceBEq, Int.reduceLT, Tryz.f59, ↓XH2, XRN, ZC, ZE, ZH, eq_self, Nat.reduceLeDiff, Nat.reduceBEq, slV_new, reduceIte, ↓op_extract, tupAt_mk, lenV_sl, Bool.not_true, Bool.not_false, er, hlr, hlt, d6]
    exact Okr.ret ⟨rfl, k⟩
  | cons x r ih =>
    intro d h k hd
    have er := k.get er0 hir
    have qr := qr0.keep k
    have hbx := sm.rs x (by rw [← hd]; simp)
    have hdl := congrArg List.length hd
    simp only [List.length_append, List.length_cons] at hdl
    have hlr := qr.len
    have hlt : decide ((d.length : Int) < (R.rs.length : Int)) = true := decide_eq_true (by omega)
    obtain ⟨pp, hix, hld⟩ := Rk.Rd.get (d := d) (x := x) (r := r) (by rw [hd]; exact qr)
    have hw : IntKind.i64.wrap ((d.length : Int) + 1) = ((d.length + 1 : Nat) : Int) := natCast_succ_wrap (by omega) rfl
    have hlh : l ≤ h.length := by have := k.1; omega
    have kx : Keep h.length h (h ++ [AObj.row 0 2 [sV x.user, iV x.num]]) := Keep.app _ _ (Nat.le_refl _)
    refine okr_code Tryz.func59 rfl rfl ?_
    simp (dsimp := false) (disch := first | exact dI | fail) only [XOB, ↓XXs, ↓XD, ↓YX, ZB, Nat.reduceAdd, Nat.reducePow, ↓reduceIte, eq_self, Int.reduceEq, Nat.reduceEqDiff, Nat.reduceMul, Nat.reduceLeDiff, Int.reduceBEq, Int.reduceLT, Tryz.f59, ↓XH2, XRN, ZC, ZE, ZH, eq_self, Nat.reduceLeDiff, Nat.reduceBEq, slV_new, reduceIte, ↓op_extract, tupAt_mk, lenV_sl, Bool.not_true, Bool.not_false, hlr, hlt, hix, hld, er, hlh]
    refine okr_call (r_l4User x.user (by omega) l _) ?_
    rintro _ h2 ⟨rfl, k2⟩
    have k02 := kx.trans (k2.le kx.1)
    have er2 := k02.get er (lt_of_get er)
    have ex2 : h2[h.length]? = some (.row 0 2 [sV x.user, iV x.num]) := k2.get (by simp) (by simp)
    have K2 := k.trans (k02.le k.1)
    have n3 : ∀ v : Value, [sV x.user, v][1]? = some v := fun _ => rfl
    have n2 : ∀ v : Value, [sV x.user, v][0]? = some (sV x.user) := fun _ => rfl
    have qr2 := qr.keep k02
    have nxt : rnkOk x = true → prevOk d.getLast? x.user = true → Okr (VQ (.bool (ranksOk (x :: r) d.getLast? && decide (R.rs.length ≤ 6))) H0) (L59_0 l (pV ir 0 0) (iV (d.length + 1 : Nat)) h2) := by
      intro p1 p2
      have := ih (d ++ [x]) h2 K2 (by rw [← hd]; simp)
      rw [List.getLast?_concat, List.length_append] at this
      rw [ranksOk, p1, p2]
      exact this
    rcases List.eq_nil_or_concat d with hd0 | ⟨d', y, hd0⟩
    · have hi : decide ((0 : Int) < (d.length : Int)) = false := decide_eq_false (by rw [hd0]; simp)
      have hp : prevOk d.getLast? x.user = true := by rw [hd0]; rfl
      have hx : True = True := rfl
      have i1 : IntKind.i64.wrap ((d.length : Int) - 1) = -1 := by rw [hd0]; rfl
      have i2 : ixAddr rv (-1) 2 = none := by rcases qr2 with ⟨rfl, _⟩ | ⟨id, g, c, rfl, e⟩ <;> rfl
      have i3 : addOff rv 0 = none := by rcases qr2 with ⟨rfl, _⟩ | ⟨id, g, c, rfl, e⟩ <;> rfl
      have i4 : ld h2 rv = none := by rcases qr2 with ⟨rfl, _⟩ | ⟨id, g, c, rfl, e⟩ <;> rfl
      with_reducible refine okr_if (fun q1 => ?_) (fun q1 => ?_)
      · simp (dsimp := false) (disch := first | exact dI | fail) only [XOB, ↓XXs, ↓XD, ↓YX, ZB, Nat.reduceAdd, Nat.reducePow, ↓reduceIte, eq_self, Int.reduceEq, Nat.reduceEqDiff, Nat.reduceMul, Nat.reduceLeDiff, Int.reduceBEq, Int.reduceLT, Tryz.f59, ↓XH2, XRN, ZC, ZE, ZH, eq_self, Nat.reduceLeDiff, Nat.reduceBEq, slV_new, reduceIte, ↓op_extract, tupAt_mk, lenV_sl, Bool.not_true, Bool.not_false, hi, er2, i1, i2, i3, i4, ex2, n2, n3, rq56, eq_int, hw]
        exact Okr.ret ⟨by congr 1; simp only [Bool.not_eq_true', Bool.not_eq_false', hx] at q1; simp [ranksOk, rnkOk, hp, q1], K2⟩
      · simp (dsimp := false) (disch := first | exact dI | fail) only [XOB, ↓XXs, ↓XD, ↓YX, ZB, Nat.reduceAdd, Nat.reducePow, ↓reduceIte, eq_self, Int.reduceEq, Nat.reduceEqDiff, Nat.reduceMul, Nat.reduceLeDiff, Int.reduceBEq, Int.reduceLT, Tryz.f59, ↓XH2, XRN, ZC, ZE, ZH, eq_self, Nat.reduceLeDiff, Nat.reduceBEq, slV_new, reduceIte, ↓op_extract, tupAt_mk, lenV_sl, Bool.not_true, Bool.not_false, hi, er2, i1, i2, i3, i4, ex2, n2, n3, rq56, eq_int, hw]
        with_reducible refine okr_if (fun q3 => ?_) (fun q3 => ?_)
        · simp (dsimp := false) (disch := first | exact dI | fail) only [XOB, ↓XXs, ↓XD, ↓YX, ZB, Nat.reduceAdd, Nat.reducePow, ↓reduceIte, eq_self, Int.reduceEq, Nat.reduceEqDiff, Nat.reduceMul, Nat.reduceLeDiff, Int.reduceBEq, Int.reduceLT, Tryz.f59, ↓XH2, XRN, ZC, ZE, ZH, eq_self, Nat.reduceLeDiff, Nat.reduceBEq, slV_new, reduceIte, ↓op_extract, tupAt_mk, lenV_sl, Bool.not_true, Bool.not_false, hi, er2, i1, i2, i3, i4, ex2, n2, n3, rq56, eq_int, hw]
          exact Okr.ret ⟨by congr 1; simp only [Bool.not_eq_true', Bool.not_eq_false', hx] at q1 q3; simp [ranksOk, rnkOk, hp, q1, q3], K2⟩
        · simp (dsimp := false) (disch := first | exact dI | fail) only [XOB, ↓XXs, ↓XD, ↓YX, ZB, Nat.reduceAdd, Nat.reducePow, ↓reduceIte, eq_self, Int.reduceEq, Nat.reduceEqDiff, Nat.reduceMul, Nat.reduceLeDiff, Int.reduceBEq, Int.reduceLT, Tryz.f59, ↓XH2, XRN, ZC, ZE, ZH, eq_self, Nat.reduceLeDiff, Nat.reduceBEq, slV_new, reduceIte, ↓op_extract, tupAt_mk, lenV_sl, Bool.not_true, Bool.not_false, hi, er2, i1, i2, i3, i4, ex2, n2, n3, rq56, eq_int, hw]
          with_reducible refine okr_if (fun q4 => ?_) (fun q4 => ?_)
          · simp (dsimp := false) (disch := first | exact dI | fail) only [XOB, ↓XXs, ↓XD, ↓YX, ZB, Nat.reduceAdd, Nat.reducePow, ↓reduceIte, eq_self, Int.reduceEq, Nat.reduceEqDiff, Nat.reduceMul, Nat.reduceLeDiff, Int.reduceBEq, Int.reduceLT, Tryz.f59, ↓XH2, XRN, ZC, ZE, ZH, eq_self, Nat.reduceLeDiff, Nat.reduceBEq, slV_new, reduceIte, ↓op_extract, tupAt_mk, lenV_sl, Bool.not_true, Bool.not_false, hi, er2, i1, i2, i3, i4, ex2, n2, n3, rq56, eq_int, hw]
            exact Okr.ret ⟨by congr 1; simp only [Bool.not_eq_true', Bool.not_eq_false', hx] at q1 q3 q4; simp [ranksOk, rnkOk, hp, q1, q3, q4], K2⟩
          · simp (dsimp := false) (disch := first | exact dI | fail) only [XOB, ↓XXs, ↓XD, ↓YX, ZB, Nat.reduceAdd, Nat.reducePow, ↓reduceIte, eq_self, Int.reduceEq, Nat.reduceEqDiff, Nat.reduceMul, Nat.reduceLeDiff, Int.reduceBEq, Int.reduceLT, Tryz.f59, ↓XH2, XRN, ZC, ZE, ZH, eq_self, Nat.reduceLeDiff, Nat.reduceBEq, slV_new, reduceIte, ↓op_extract, tupAt_mk, lenV_sl, Bool.not_true, Bool.not_false, hi, er2, i1, i2, i3, i4, ex2, n2, n3, rq56, eq_int, hw]
            simp only [Bool.not_eq_true', Bool.not_eq_false'] at q1 q3
            exact nxt (by simp [rnkOk, q1, q3, q4]) hp
    · rw [List.concat_eq_append] at hd0
      have hi : decide ((0 : Int) < (d.length : Int)) = true := decide_eq_true (by rw [hd0]; simp)
      have hds : d' ++ y :: x :: r = R.rs := by rw [← hd, hd0]; simp
      rw [← hds] at qr2
      rcases qr2 with ⟨_, q⟩ | ⟨iy, gy, cy, hrv, ey⟩
      · simp at q
      have hp : prevOk d.getLast? x.user = ltB y.user x.user := by rw [hd0, List.getLast?_append]; rfl
      have hdd : d.length = d'.length + 1 := by rw [hd0]; simp
      have hw1 : IntKind.i64.wrap ((d.length : Int) - 1) = (d'.length : Int) := by rw [wrap64 (by omega)]; omega
      have hix2 : ixAddr rv (d'.length : Int) 2 = some (pV iy (d'.length * 2) gy) := by rw [hrv, ixAddr_sl (by simp)]; simp
      have c0 : (Rk.R (d' ++ y :: x :: r))[d'.length * 2 + 0]? = some (sV y.user) := Rk.cell d' y (x :: r) 0 (by decide)
      have hx : (Op.bytesLess (B x.user).toList (B y.user).toList || decide (B x.user = B y.user)) = !ltB y.user x.user := by
        rw [ltB_flip]; unfold ltB; rw [Lib.toList_data, Lib.toList_data, eqB]; rfl
      with_reducible refine okr_if (fun q1 => ?_) (fun q1 => ?_)
      · simp (dsimp := false) (disch := first | exact dI | fail) only [XOB, ↓XXs, ↓XD, ↓YX, ZB, Nat.reduceAdd, Nat.reducePow, ↓reduceIte, eq_self, Int.reduceEq, Nat.reduceEqDiff, Nat.reduceMul, Nat.reduceLeDiff, Int.reduceBEq, Int.reduceLT, Tryz.f59, ↓XH2, XRN, ZC, ZE, ZH, eq_self, Nat.reduceLeDiff, Nat.reduceBEq, slV_new, reduceIte, ↓op_extract, tupAt_mk, lenV_sl, Bool.not_true, Bool.not_false, hi, er2, hw1, hix2, c0, ey, ex2, n2, n3, rq56, eq_int, hw, hx]
        exact Okr.ret ⟨by congr 1; simp only [Bool.not_eq_true', Bool.not_eq_false', hx] at q1; simp [ranksOk, rnkOk, hp, q1], K2⟩
      · simp (dsimp := false) (disch := first | exact dI | fail) only [XOB, ↓XXs, ↓XD, ↓YX, ZB, Nat.reduceAdd, Nat.reducePow, ↓reduceIte, eq_self, Int.reduceEq, Nat.reduceEqDiff, Nat.reduceMul, Nat.reduceLeDiff, Int.reduceBEq, Int.reduceLT, Tryz.f59, ↓XH2, XRN, ZC, ZE, ZH, eq_self, Nat.reduceLeDiff, Nat.reduceBEq, slV_new, reduceIte, ↓op_extract, tupAt_mk, lenV_sl, Bool.not_true, Bool.not_false, hi, er2, hw1, hix2, c0, ey, ex2, n2, n3, rq56, eq_int, hw, hx]
        with_reducible refine okr_if (fun q3 => ?_) (fun q3 => ?_)
        · simp (dsimp := false) (disch := first | exact dI | fail) only [XOB, ↓XXs, ↓XD, ↓YX, ZB, Nat.reduceAdd, Nat.reducePow, ↓reduceIte, eq_self, Int.reduceEq, Nat.reduceEqDiff, Nat.reduceMul, Nat.reduceLeDiff, Int.reduceBEq, Int.reduceLT, Tryz.f59, ↓XH2, XRN, ZC, ZE, ZH, eq_self, Nat.reduceLeDiff, Nat.reduceBEq, slV_new, reduceIte, ↓op_extract, tupAt_mk, lenV_sl, Bool.not_true, Bool.not_false, hi, er2, hw1, hix2, c0, ey, ex2, n2, n3, rq56, eq_int, hw, hx]
          exact Okr.ret ⟨by congr 1; simp only [Bool.not_eq_true', Bool.not_eq_false', hx] at q1 q3; simp [ranksOk, rnkOk, hp, q1, q3], K2⟩
        · simp (dsimp := false) (disch := first | exact dI | fail) only [XOB, ↓XXs, ↓XD, ↓YX, ZB, Nat.reduceAdd, Nat.reducePow, ↓reduceIte, eq_self, Int.reduceEq, Nat.reduceEqDiff, Nat.reduceMul, Nat.reduceLeDiff, Int.reduceBEq, Int.reduceLT, Tryz.f59, ↓XH2, XRN, ZC, ZE, ZH, eq_self, Nat.reduceLeDiff, Nat.reduceBEq, slV_new, reduceIte, ↓op_extract, tupAt_mk, lenV_sl, Bool.not_true, Bool.not_false, hi, er2, hw1, hix2, c0, ey, ex2, n2, n3, rq56, eq_int, hw, hx]
          with_reducible refine okr_if (fun q4 => ?_) (fun q4 => ?_)
          · simp (dsimp := false) (disch := first | exact dI | fail) only [XOB, ↓XXs, ↓XD, ↓YX, ZB, Nat.reduceAdd, Nat.reducePow, ↓reduceIte, eq_self, Int.reduceEq, Nat.reduceEqDiff, Nat.reduceMul, Nat.reduceLeDiff, Int.reduceBEq, Int.reduceLT, Tryz.f59, ↓XH2, XRN, ZC, ZE, ZH, eq_self, Nat.reduceLeDiff, Nat.reduceBEq, slV_new, reduceIte, ↓op_extract, tupAt_mk, lenV_sl, Bool.not_true, Bool.not_false, hi, er2, hw1, hix2, c0, ey, ex2, n2, n3, rq56, eq_int, hw, hx]
            exact Okr.ret ⟨by congr 1; simp only [Bool.not_eq_true', Bool.not_eq_false', hx] at q1 q3 q4; simp [ranksOk, rnkOk, hp, q1, q3, q4], K2⟩
          · simp (dsimp := false) (disch := first | exact dI | fail) only [XOB, ↓XXs, ↓XD, ↓YX, ZB, Nat.reduceAdd, Nat.reducePow, ↓reduceIte, eq_self, Int.reduceEq, Nat.reduceEqDiff, Nat.reduceMul, Nat.reduceLeDiff, Int.reduceBEq, Int.reduceLT, Tryz.f59, ↓XH2, XRN, ZC, ZE, ZH, eq_self, Nat.reduceLeDiff, Nat.reduceBEq, slV_new, reduceIte, ↓op_extract, tupAt_mk, lenV_sl, Bool.not_true, Bool.not_false, hi, er2, hw1, hix2, c0, ey, ex2, n2, n3, rq56, eq_int, hw, hx]
            with_reducible refine okr_if (fun q2 => ?_) (fun q2 => ?_)
            · simp (dsimp := false) (disch := first | exact dI | fail) only [XOB, ↓XXs, ↓XD, ↓YX, ZB, Nat.reduceAdd, Nat.reducePow, ↓reduceIte, eq_self, Int.reduceEq, Nat.reduceEqDiff, Nat.reduceMul, Nat.reduceLeDiff, Int.reduceBEq, Int.reduceLT, Tryz.f59, ↓XH2, XRN, ZC, ZE, ZH, eq_self, Nat.reduceLeDiff, Nat.reduceBEq, slV_new, reduceIte, ↓op_extract, tupAt_mk, lenV_sl, Bool.not_true, Bool.not_false, hi, er2, hw1, hix2, c0, ey, ex2, n2, n3, rq56, eq_int, hw, hx]
              exact Okr.ret ⟨by congr 1; simp only [Bool.not_eq_true', Bool.not_eq_false', hx] at q1 q3 q4 q2; simp [ranksOk, rnkOk, hp, q1, q3, q4, q2], K2⟩
            · simp (dsimp := false) (disch := first | exact dI | fail) only [XOB, ↓XXs, ↓XD, ↓YX, ZB, Nat.reduceAdd, Nat.reducePow, ↓reduceIte, eq_self, Int.reduceEq, Nat.reduceEqDiff, Nat.reduceMul, Nat.reduceLeDiff, Int.reduceBEq, Int.reduceLT, Tryz.f59, ↓XH2, XRN, ZC, ZE, ZH, eq_self, Nat.reduceLeDiff, Nat.reduceBEq, slV_new, reduceIte, ↓op_extract, tupAt_mk, lenV_sl, Bool.not_true, Bool.not_false, hi, er2, hw1, hix2, c0, ey, ex2, n2, n3, rq56, eq_int, hw, hx]
              simp only [Bool.not_eq_true', Bool.not_eq_false'] at q1 q3 q2
              exact nxt (by simp [rnkOk, q1, q3, q4]) (by rw [hp, q2])
theorem rq59 (R : Rm) (sm : R.Sm) (mv rv : Value) (l : Nat) (h : AH) (hl : l ≤ h.length) (qr : Rk.Rd h rv R.rs) :
    Okr (VQ (.bool (ranksOk R.rs none && decide (R.rs.length ≤ 6))) h) (run V0 (.fn 59) l [S (R.ro mv rv).V] h) := by
  have kx : Keep h.length h (h ++ [AObj.row 0 5 [sV R.name, iV R.next, mv, rv, sV R.sub]]) := Keep.app _ _ (Nat.le_refl _)
  refine okr_fn Tryz.func59 rfl rfl rfl rfl ?_
  simp (dsimp := false) (disch := first | exact dI | fail) only [XOB, ↓XXs, ↓XD, ↓YX, ZB, Nat.reduceAdd, Nat.reducePow, ↓reduceIte, eq_self, Int.reduceEq, Nat.reduceEqDiff, Nat.reduceMul, Nat.reduceLeDiff, Int.reduceBEq, Int.reduceLT, Tryz.f59, ↓XH2, XRN, ZC, ZE, ZH, eq_self, Nat.reduceLeDiff, Nat.reduceBEq, slV_new, reduceIte, ↓op_extract, tupAt_mk, lenV_sl, Bool.not_true, Bool.not_false]
  refine (L59 R sm mv rv l h.length _ (by have := kx.1; omega) (by simp) (by simp) (qr.keep kx) R.rs [] _ (Keep.refl _ _) rfl).mono ?_
  rintro v h' ⟨rfl, k3⟩
  exact ⟨rfl, kx.trans (k3.le kx.1)⟩
end Go.Abs
namespace Go.Abs
open Go.Proofs
set_option maxRecDepth 100000
set_option linter.unusedSimpArgs false
set_option linter.unusedVariables false
set_option pp.maxSteps 20000
set_option pp.deepTerms true
theorem r_l5Body (s : Bs) (hs : s.length ≤ 2 ^ 40) (l : Nat) (h : AH) (hl : l ≤ h.length) : Okr (VQ (.bool (bodyOkL s)) h) (run V0 (.fn 57) l [S (sV s)] h) := by
  obtain ⟨h', a, k⟩ := rq57 s hs l h hl
  exact ⟨_, h', a, rfl, k⟩
set_option maxHeartbeats 4000000 in
theorem rq22 (R : Rm) (sm : R.Sm) (mv rv : Value) (l : Nat) (h : AH) (hl : l ≤ h.length) (qm : Me.Rd h mv R.ms) (qr : Rk.Rd h rv R.rs) :
    Okr (VQ (.bool R.ok) h) (run V0 (.fn 22) l [S (R.ro mv rv).V] h) := by
  have hm : R.ms.length ≤ 2 ^ 40 := by have := sm.m; omega
  have hr : R.rs.length ≤ 2 ^ 40 := by have := sm.k; omega
  have k1 : Keep h.length h (h ++ [AObj.row 0 5 [sV R.name, iV R.next, mv, rv, sV R.sub]]) := Keep.app _ _ (Nat.le_refl _)
  have hnm := sm.nm
  have hsb := sm.sb
  have hlm := qm.len
  have hlr := qr.len
  have dd : ∀ n : Nat, decide (0 < (n : Int)) = decide (0 < n) := fun n => decide_eq_decide.2 (by omega)
  have dm : ((R.ms.length : Int) == 0) = decide (R.ms = []) := by rw [Bool.eq_iff_iff]; simp
  have dr : ((R.rs.length : Int) == 0) = decide (R.rs = []) := by rw [Bool.eq_iff_iff]; simp
  have d0 : (R.next == 0) = decide (R.next = 0) := eq_int _ _
  have er1 : (h ++ [AObj.row 0 5 [sV R.name, iV R.next, mv, rv, sV R.sub]])[h.length]? = some (.row 0 5 [sV R.name, iV R.next, mv, rv, sV R.sub]) := by simp
  have K1 := k1
  have qm1 := qm.keep k1
  have qr1 := qr.keep k1
  refine okr_fn Tryz.func22 rfl rfl rfl rfl ?_
  simp (dsimp := false) (disch := first | exact dI | fail) only [XOB, ↓XXs, ↓XD, ↓YX, ZB, Nat.reduceAdd, Nat.reducePow, ↓reduceIte, eq_self, Int.reduceEq, Nat.reduceEqDiff, Nat.reduceMul, Nat.reduceLeDiff, Int.reduceBEq, Int.reduceLT, Tryz.f22, ↓XH2, XRN, ZC, ZE, ZH, eq_self, Nat.reduceLeDiff, Nat.reduceBEq, slV_new, reduceIte, ↓op_extract, tupAt_mk, lenV_sl, Bool.not_true, Bool.not_false]
  refine okr_call (r_l4User R.name (by omega) l _) ?_
  rintro _ h2 ⟨rfl, k2⟩
  have er2 := k2.get er1 (lt_of_get er1)
  have K2 := K1.trans (k2.le K1.1)
  have qm2 := qm1.keep k2
  have qr2 := qr1.keep k2
  have hl2 : l ≤ h2.length := by have := K2.1; omega
  with_reducible refine okr_if (fun q1 => ?_) (fun q1 => ?_)
  · simp (dsimp := false) (disch := first | exact dI | fail) only [XOB, ↓XXs, ↓XD, ↓YX, ZB, Nat.reduceAdd, Nat.reducePow, ↓reduceIte, eq_self, Int.reduceEq, Nat.reduceEqDiff, Nat.reduceMul, Nat.reduceLeDiff, Int.reduceBEq, Int.reduceLT, Tryz.f22, ↓XH2, XRN, ZC, ZE, ZH, eq_self, Nat.reduceLeDiff, Nat.reduceBEq, slV_new, reduceIte, ↓op_extract, tupAt_mk, lenV_sl, Bool.not_true, Bool.not_false, er2, rq56, hlm, hlr, dd, d0, dm, dr, eqB]
    exact Okr.ret ⟨by congr 1; simp only [Bool.not_eq_true', Bool.not_eq_false'] at q1; simp [Rm.ok, q1], K2⟩
  · simp (dsimp := false) (disch := first | exact dI | fail) only [XOB, ↓XXs, ↓XD, ↓YX, ZB, Nat.reduceAdd, Nat.reducePow, ↓reduceIte, eq_self, Int.reduceEq, Nat.reduceEqDiff, Nat.reduceMul, Nat.reduceLeDiff, Int.reduceBEq, Int.reduceLT, Tryz.f22, ↓XH2, XRN, ZC, ZE, ZH, eq_self, Nat.reduceLeDiff, Nat.reduceBEq, slV_new, reduceIte, ↓op_extract, tupAt_mk, lenV_sl, Bool.not_true, Bool.not_false, er2, rq56, hlm, hlr, dd, d0, dm, dr, eqB]
    with_reducible refine okr_if (fun q2 => ?_) (fun q2 => ?_)
    · simp (dsimp := false) (disch := first | exact dI | fail) only [XOB, ↓XXs, ↓XD, ↓YX, ZB, Nat.reduceAdd, Nat.reducePow, ↓reduceIte, eq_self, Int.reduceEq, Nat.reduceEqDiff, Nat.reduceMul, Nat.reduceLeDiff, Int.reduceBEq, Int.reduceLT, Tryz.f22, ↓XH2, XRN, ZC, ZE, ZH, eq_self, Nat.reduceLeDiff, Nat.reduceBEq, slV_new, reduceIte, ↓op_extract, tupAt_mk, lenV_sl, Bool.not_true, Bool.not_false, er2, rq56, hlm, hlr, dd, d0, dm, dr, eqB]
      exact Okr.ret ⟨by congr 1; simp only [Bool.not_eq_true', Bool.not_eq_false'] at q1 q2; simp [Rm.ok, q1, q2], K2⟩
    · simp (dsimp := false) (disch := first | exact dI | fail) only [XOB, ↓XXs, ↓XD, ↓YX, ZB, Nat.reduceAdd, Nat.reducePow, ↓reduceIte, eq_self, Int.reduceEq, Nat.reduceEqDiff, Nat.reduceMul, Nat.reduceLeDiff, Int.reduceBEq, Int.reduceLT, Tryz.f22, ↓XH2, XRN, ZC, ZE, ZH, eq_self, Nat.reduceLeDiff, Nat.reduceBEq, slV_new, reduceIte, ↓op_extract, tupAt_mk, lenV_sl, Bool.not_true, Bool.not_false, er2, rq56, hlm, hlr, dd, d0, dm, dr, eqB]
      with_reducible refine okr_if (fun q3 => ?_) (fun q3 => ?_)
      · simp (dsimp := false) (disch := first | exact dI | fail) only [XOB, ↓XXs, ↓XD, ↓YX, ZB, Nat.reduceAdd, Nat.reducePow, ↓reduceIte, eq_self, Int.reduceEq, Nat.reduceEqDiff, Nat.reduceMul, Nat.reduceLeDiff, Int.reduceBEq, Int.reduceLT, Tryz.f22, ↓XH2, XRN, ZC, ZE, ZH, eq_self, Nat.reduceLeDiff, Nat.reduceBEq, slV_new, reduceIte, ↓op_extract, tupAt_mk, lenV_sl, Bool.not_true, Bool.not_false, er2, rq56, hlm, hlr, dd, d0, dm, dr, eqB]
        refine okr_call (r_l5Body R.sub (by omega) l _ hl2) ?_
        rintro _ h3 ⟨rfl, k3⟩
        have er3 := k3.get er2 (lt_of_get er2)
        have K3 := K2.trans (k3.le K2.1)
        have qm3 := qm2.keep k3
        have qr3 := qr2.keep k3
        have hl3 : l ≤ h3.length := by have := K3.1; omega
        with_reducible refine okr_if (fun q4 => ?_) (fun q4 => ?_)
        · simp (dsimp := false) (disch := first | exact dI | fail) only [XOB, ↓XXs, ↓XD, ↓YX, ZB, Nat.reduceAdd, Nat.reducePow, ↓reduceIte, eq_self, Int.reduceEq, Nat.reduceEqDiff, Nat.reduceMul, Nat.reduceLeDiff, Int.reduceBEq, Int.reduceLT, Tryz.f22, ↓XH2, XRN, ZC, ZE, ZH, eq_self, Nat.reduceLeDiff, Nat.reduceBEq, slV_new, reduceIte, ↓op_extract, tupAt_mk, lenV_sl, Bool.not_true, Bool.not_false, er3, rq56, hlm, hlr, dd, d0, dm, dr, eqB]
          exact Okr.ret ⟨by congr 1; simp only [Bool.not_eq_true', decide_eq_false_iff_not] at q3 q4; simp [Rm.ok, subOk, q3, q4], K3⟩
        · have hsub : subOk R.sub = true := by simp only [Bool.not_eq_false'] at q4; simp [subOk, q4]
          simp (dsimp := false) (disch := first | exact dI | fail) only [XOB, ↓XXs, ↓XD, ↓YX, ZB, Nat.reduceAdd, Nat.reducePow, ↓reduceIte, eq_self, Int.reduceEq, Nat.reduceEqDiff, Nat.reduceMul, Nat.reduceLeDiff, Int.reduceBEq, Int.reduceLT, Tryz.f22, ↓XH2, XRN, ZC, ZE, ZH, eq_self, Nat.reduceLeDiff, Nat.reduceBEq, slV_new, reduceIte, ↓op_extract, tupAt_mk, lenV_sl, Bool.not_true, Bool.not_false, er3, rq56, hlm, hlr, dd, d0, dm, dr, eqB]
          refine okr_call (rq58 R sm mv rv l _ hl3 qm3 qr3) ?_
          rintro _ h4 ⟨rfl, k4⟩
          have er4 := k4.get er3 (lt_of_get er3)
          have K4 := K3.trans (k4.le K3.1)
          have qm4 := qm3.keep k4
          have qr4 := qr3.keep k4
          have hl4 : l ≤ h4.length := by have := K4.1; omega
          with_reducible refine okr_if (fun q5 => ?_) (fun q5 => ?_)
          · simp (dsimp := false) (disch := first | exact dI | fail) only [XOB, ↓XXs, ↓XD, ↓YX, ZB, Nat.reduceAdd, Nat.reducePow, ↓reduceIte, eq_self, Int.reduceEq, Nat.reduceEqDiff, Nat.reduceMul, Nat.reduceLeDiff, Int.reduceBEq, Int.reduceLT, Tryz.f22, ↓XH2, XRN, ZC, ZE, ZH, eq_self, Nat.reduceLeDiff, Nat.reduceBEq, slV_new, reduceIte, ↓op_extract, tupAt_mk, lenV_sl, Bool.not_true, Bool.not_false, er4, rq56, hlm, hlr, dd, d0, dm, dr, eqB]
            exact Okr.ret ⟨by congr 1; simp only [Bool.not_eq_true', Bool.and_eq_false_iff] at q5; simp only [Rm.ok]; rcases q5 with w | w <;> simp [w], K4⟩
          · simp (dsimp := false) (disch := first | exact dI | fail) only [XOB, ↓XXs, ↓XD, ↓YX, ZB, Nat.reduceAdd, Nat.reducePow, ↓reduceIte, eq_self, Int.reduceEq, Nat.reduceEqDiff, Nat.reduceMul, Nat.reduceLeDiff, Int.reduceBEq, Int.reduceLT, Tryz.f22, ↓XH2, XRN, ZC, ZE, ZH, eq_self, Nat.reduceLeDiff, Nat.reduceBEq, slV_new, reduceIte, ↓op_extract, tupAt_mk, lenV_sl, Bool.not_true, Bool.not_false, er4, rq56, hlm, hlr, dd, d0, dm, dr, eqB]
            refine okr_call (rq59 R sm mv rv l _ hl4 qr4) ?_
            rintro _ h5 ⟨rfl, k5⟩
            have er5 := k5.get er4 (lt_of_get er4)
            have K5 := K4.trans (k5.le K4.1)
            have qm5 := qm4.keep k5
            have qr5 := qr4.keep k5
            have hl5 : l ≤ h5.length := by have := K5.1; omega
            with_reducible refine okr_if (fun q6 => ?_) (fun q6 => ?_)
            · simp (dsimp := false) (disch := first | exact dI | fail) only [XOB, ↓XXs, ↓XD, ↓YX, ZB, Nat.reduceAdd, Nat.reducePow, ↓reduceIte, eq_self, Int.reduceEq, Nat.reduceEqDiff, Nat.reduceMul, Nat.reduceLeDiff, Int.reduceBEq, Int.reduceLT, Tryz.f22, ↓XH2, XRN, ZC, ZE, ZH, eq_self, Nat.reduceLeDiff, Nat.reduceBEq, slV_new, reduceIte, ↓op_extract, tupAt_mk, lenV_sl, Bool.not_true, Bool.not_false, er5, rq56, hlm, hlr, dd, d0, dm, dr, eqB]
              exact Okr.ret ⟨by congr 1; simp only [Bool.not_eq_true', Bool.and_eq_false_iff] at q6; simp only [Rm.ok]; rcases q6 with w | w <;> simp [w], K5⟩
            · simp (dsimp := false) (disch := first | exact dI | fail) only [XOB, ↓XXs, ↓XD, ↓YX, ZB, Nat.reduceAdd, Nat.reducePow, ↓reduceIte, eq_self, Int.reduceEq, Nat.reduceEqDiff, Nat.reduceMul, Nat.reduceLeDiff, Int.reduceBEq, Int.reduceLT, Tryz.f22, ↓XH2, XRN, ZC, ZE, ZH, eq_self, Nat.reduceLeDiff, Nat.reduceBEq, slV_new, reduceIte, ↓op_extract, tupAt_mk, lenV_sl, Bool.not_true, Bool.not_false, er5, rq56, hlm, hlr, dd, d0, dm, dr, eqB]
              refine okr_call (r_l6Owners (R.ro mv rv) R.rs l _ hr qr5) ?_
              rintro _ h6 ⟨rfl, k6⟩
              have er6 := k6.get er5 (lt_of_get er5)
              have K6 := K5.trans (k6.le K5.1)
              have qm6 := qm5.keep k6
              have qr6 := qr5.keep k6
              have hl6 : l ≤ h6.length := by have := K6.1; omega
              have hk : R.ok = finL R := by
                simp only [Bool.not_eq_true', Bool.not_eq_false', Bool.and_eq_true] at q1 q2 hsub q5 q6
                simp [Rm.ok, finL, q1, q2, hsub, q5, q6]
              rw [hk]
              unfold finL
              cases w1 : decide (0 < ownL R.rs 0) with
              | true =>
                simp (dsimp := false) (disch := first | exact dI | fail) only [XOB, ↓XXs, ↓XD, ↓YX, ZB, Nat.reduceAdd, Nat.reducePow, ↓reduceIte, eq_self, Int.reduceEq, Nat.reduceEqDiff, Nat.reduceMul, Nat.reduceLeDiff, Int.reduceBEq, Int.reduceLT, Tryz.f22, ↓XH2, XRN, ZC, ZE, ZH, eq_self, Nat.reduceLeDiff, Nat.reduceBEq, slV_new, reduceIte, ↓op_extract, tupAt_mk, lenV_sl, Bool.not_true, Bool.not_false, er6, rq56, hlm, hlr, dd, d0, dm, dr, eqB, w1]
                exact Okr.ret ⟨rfl, K6⟩
              | false =>
                cases w2 : decide (R.next = 0) with
                | false =>
                  simp (dsimp := false) (disch := first | exact dI | fail) only [XOB, ↓XXs, ↓XD, ↓YX, ZB, Nat.reduceAdd, Nat.reducePow, ↓reduceIte, eq_self, Int.reduceEq, Nat.reduceEqDiff, Nat.reduceMul, Nat.reduceLeDiff, Int.reduceBEq, Int.reduceLT, Tryz.f22, ↓XH2, XRN, ZC, ZE, ZH, eq_self, Nat.reduceLeDiff, Nat.reduceBEq, slV_new, reduceIte, ↓op_extract, tupAt_mk, lenV_sl, Bool.not_true, Bool.not_false, er6, rq56, hlm, hlr, dd, d0, dm, dr, eqB, w1, w2]
                  exact Okr.ret ⟨rfl, K6⟩
                | true =>
                  cases w3 : decide (R.ms = []) with
                  | false =>
                    simp (dsimp := false) (disch := first | exact dI | fail) only [XOB, ↓XXs, ↓XD, ↓YX, ZB, Nat.reduceAdd, Nat.reducePow, ↓reduceIte, eq_self, Int.reduceEq, Nat.reduceEqDiff, Nat.reduceMul, Nat.reduceLeDiff, Int.reduceBEq, Int.reduceLT, Tryz.f22, ↓XH2, XRN, ZC, ZE, ZH, eq_self, Nat.reduceLeDiff, Nat.reduceBEq, slV_new, reduceIte, ↓op_extract, tupAt_mk, lenV_sl, Bool.not_true, Bool.not_false, er6, rq56, hlm, hlr, dd, d0, dm, dr, eqB, w1, w2, w3]
                    exact Okr.ret ⟨rfl, K6⟩
                  | true =>
                    cases w4 : decide (R.rs = []) with
                    | false =>
                      simp (dsimp := false) (disch := first | exact dI | fail) only [XOB, ↓XXs, ↓XD, ↓YX, ZB, Nat.reduceAdd, Nat.reducePow, ↓reduceIte, eq_self, Int.reduceEq, Nat.reduceEqDiff, Nat.reduceMul, Nat.reduceLeDiff, Int.reduceBEq, Int.reduceLT, Tryz.f22, ↓XH2, XRN, ZC, ZE, ZH, eq_self, Nat.reduceLeDiff, Nat.reduceBEq, slV_new, reduceIte, ↓op_extract, tupAt_mk, lenV_sl, Bool.not_true, Bool.not_false, er6, rq56, hlm, hlr, dd, d0, dm, dr, eqB, w1, w2, w3, w4]
                      exact Okr.ret ⟨rfl, K6⟩
                    | true =>
                      simp (dsimp := false) (disch := first | exact dI | fail) only [XOB, ↓XXs, ↓XD, ↓YX, ZB, Nat.reduceAdd, Nat.reducePow, ↓reduceIte, eq_self, Int.reduceEq, Nat.reduceEqDiff, Nat.reduceMul, Nat.reduceLeDiff, Int.reduceBEq, Int.reduceLT, Tryz.f22, ↓XH2, XRN, ZC, ZE, ZH, eq_self, Nat.reduceLeDiff, Nat.reduceBEq, slV_new, reduceIte, ↓op_extract, tupAt_mk, lenV_sl, Bool.not_true, Bool.not_false, er6, rq56, hlm, hlr, dd, d0, dm, dr, eqB, w1, w2, w3, w4]
                      exact Okr.ret ⟨rfl, K6⟩
      · have hsub : subOk R.sub = true := by simp only [Bool.not_eq_false'] at q3; simp [subOk, q3]
        simp (dsimp := false) (disch := first | exact dI | fail) only [XOB, ↓XXs, ↓XD, ↓YX, ZB, Nat.reduceAdd, Nat.reducePow, ↓reduceIte, eq_self, Int.reduceEq, Nat.reduceEqDiff, Nat.reduceMul, Nat.reduceLeDiff, Int.reduceBEq, Int.reduceLT, Tryz.f22, ↓XH2, XRN, ZC, ZE, ZH, eq_self, Nat.reduceLeDiff, Nat.reduceBEq, slV_new, reduceIte, ↓op_extract, tupAt_mk, lenV_sl, Bool.not_true, Bool.not_false, er2, rq56, hlm, hlr, dd, d0, dm, dr, eqB]
        refine okr_call (rq58 R sm mv rv l _ hl2 qm2 qr2) ?_
        rintro _ h3 ⟨rfl, k3⟩
        have er3 := k3.get er2 (lt_of_get er2)
        have K3 := K2.trans (k3.le K2.1)
        have qm3 := qm2.keep k3
        have qr3 := qr2.keep k3
        have hl3 : l ≤ h3.length := by have := K3.1; omega
        with_reducible refine okr_if (fun q5 => ?_) (fun q5 => ?_)
        · simp (dsimp := false) (disch := first | exact dI | fail) only [XOB, ↓XXs, ↓XD, ↓YX, ZB, Nat.reduceAdd, Nat.reducePow, ↓reduceIte, eq_self, Int.reduceEq, Nat.reduceEqDiff, Nat.reduceMul, Nat.reduceLeDiff, Int.reduceBEq, Int.reduceLT, Tryz.f22, ↓XH2, XRN, ZC, ZE, ZH, eq_self, Nat.reduceLeDiff, Nat.reduceBEq, slV_new, reduceIte, ↓op_extract, tupAt_mk, lenV_sl, Bool.not_true, Bool.not_false, er3, rq56, hlm, hlr, dd, d0, dm, dr, eqB]
          exact Okr.ret ⟨by congr 1; simp only [Bool.not_eq_true', Bool.and_eq_false_iff] at q5; simp only [Rm.ok]; rcases q5 with w | w <;> simp [w], K3⟩
        · simp (dsimp := false) (disch := first | exact dI | fail) only [XOB, ↓XXs, ↓XD, ↓YX, ZB, Nat.reduceAdd, Nat.reducePow, ↓reduceIte, eq_self, Int.reduceEq, Nat.reduceEqDiff, Nat.reduceMul, Nat.reduceLeDiff, Int.reduceBEq, Int.reduceLT, Tryz.f22, ↓XH2, XRN, ZC, ZE, ZH, eq_self, Nat.reduceLeDiff, Nat.reduceBEq, slV_new, reduceIte, ↓op_extract, tupAt_mk, lenV_sl, Bool.not_true, Bool.not_false, er3, rq56, hlm, hlr, dd, d0, dm, dr, eqB]
          refine okr_call (rq59 R sm mv rv l _ hl3 qr3) ?_
          rintro _ h4 ⟨rfl, k4⟩
          have er4 := k4.get er3 (lt_of_get er3)
          have K4 := K3.trans (k4.le K3.1)
          have qm4 := qm3.keep k4
          have qr4 := qr3.keep k4
          have hl4 : l ≤ h4.length := by have := K4.1; omega
          with_reducible refine okr_if (fun q6 => ?_) (fun q6 => ?_)
          · simp (dsimp := false) (disch := first | exact dI | fail) only [XOB, ↓XXs, ↓XD, ↓YX, ZB, Nat.reduceAdd, Nat.reducePow, ↓reduceIte, eq_self, Int.reduceEq, Nat.reduceEqDiff, Nat.reduceMul, Nat.reduceLeDiff, Int.reduceBEq, Int.reduceLT, Tryz.f22, ↓XH2, XRN, ZC, ZE, ZH, eq_self, Nat.reduceLeDiff, Nat.reduceBEq, slV_new, reduceIte, ↓op_extract, tupAt_mk, lenV_sl, Bool.not_true, Bool.not_false, er4, rq56, hlm, hlr, dd, d0, dm, dr, eqB]
            exact Okr.ret ⟨by congr 1; simp only [Bool.not_eq_true', Bool.and_eq_false_iff] at q6; simp only [Rm.ok]; rcases q6 with w | w <;> simp [w], K4⟩
          · simp (dsimp := false) (disch := first | exact dI | fail) only [XOB, ↓XXs, ↓XD, ↓YX, ZB, Nat.reduceAdd, Nat.reducePow, ↓reduceIte, eq_self, Int.reduceEq, Nat.reduceEqDiff, Nat.reduceMul, Nat.reduceLeDiff, Int.reduceBEq, Int.reduceLT, Tryz.f22, ↓XH2, XRN, ZC, ZE, ZH, eq_self, Nat.reduceLeDiff, Nat.reduceBEq, slV_new, reduceIte, ↓op_extract, tupAt_mk, lenV_sl, Bool.not_true, Bool.not_false, er4, rq56, hlm, hlr, dd, d0, dm, dr, eqB]
            refine okr_call (r_l6Owners (R.ro mv rv) R.rs l _ hr qr4) ?_
            rintro _ h5 ⟨rfl, k5⟩
            have er5 := k5.get er4 (lt_of_get er4)
            have K5 := K4.trans (k5.le K4.1)
            have qm5 := qm4.keep k5
            have qr5 := qr4.keep k5
            have hl5 : l ≤ h5.length := by have := K5.1; omega
            have hk : R.ok = finL R := by
              simp only [Bool.not_eq_true', Bool.not_eq_false', Bool.and_eq_true] at q1 q2 hsub q5 q6
              simp [Rm.ok, finL, q1, q2, hsub, q5, q6]
            rw [hk]
            unfold finL
            cases w1 : decide (0 < ownL R.rs 0) with
            | true =>
              simp (dsimp := false) (disch := first | exact dI | fail) only [XOB, ↓XXs, ↓XD, ↓YX, ZB, Nat.reduceAdd, Nat.reducePow, ↓reduceIte, eq_self, Int.reduceEq, Nat.reduceEqDiff, Nat.reduceMul, Nat.reduceLeDiff, Int.reduceBEq, Int.reduceLT, Tryz.f22, ↓XH2, XRN, ZC, ZE, ZH, eq_self, Nat.reduceLeDiff, Nat.reduceBEq, slV_new, reduceIte, ↓op_extract, tupAt_mk, lenV_sl, Bool.not_true, Bool.not_false, er5, rq56, hlm, hlr, dd, d0, dm, dr, eqB, w1]
              exact Okr.ret ⟨rfl, K5⟩
            | false =>
              cases w2 : decide (R.next = 0) with
              | false =>
                simp (dsimp := false) (disch := first | exact dI | fail) only [XOB, ↓XXs, ↓XD, ↓YX, ZB, Nat.reduceAdd, Nat.reducePow, ↓reduceIte, eq_self, Int.reduceEq, Nat.reduceEqDiff, Nat.reduceMul, Nat.reduceLeDiff, Int.reduceBEq, Int.reduceLT, Tryz.f22, ↓XH2, XRN, ZC, ZE, ZH, eq_self, Nat.reduceLeDiff, Nat.reduceBEq, slV_new, reduceIte, ↓op_extract, tupAt_mk, lenV_sl, Bool.not_true, Bool.not_false, er5, rq56, hlm, hlr, dd, d0, dm, dr, eqB, w1, w2]
                exact Okr.ret ⟨rfl, K5⟩
              | true =>
                cases w3 : decide (R.ms = []) with
                | false =>
                  simp (dsimp := false) (disch := first | exact dI | fail) only [XOB, ↓XXs, ↓XD, ↓YX, ZB, Nat.reduceAdd, Nat.reducePow, ↓reduceIte, eq_self, Int.reduceEq, Nat.reduceEqDiff, Nat.reduceMul, Nat.reduceLeDiff, Int.reduceBEq, Int.reduceLT, Tryz.f22, ↓XH2, XRN, ZC, ZE, ZH, eq_self, Nat.reduceLeDiff, Nat.reduceBEq, slV_new, reduceIte, ↓op_extract, tupAt_mk, lenV_sl, Bool.not_true, Bool.not_false, er5, rq56, hlm, hlr, dd, d0, dm, dr, eqB, w1, w2, w3]
                  exact Okr.ret ⟨rfl, K5⟩
                | true =>
                  cases w4 : decide (R.rs = []) with
                  | false =>
                    simp (dsimp := false) (disch := first | exact dI | fail) only [XOB, ↓XXs, ↓XD, ↓YX, ZB, Nat.reduceAdd, Nat.reducePow, ↓reduceIte, eq_self, Int.reduceEq, Nat.reduceEqDiff, Nat.reduceMul, Nat.reduceLeDiff, Int.reduceBEq, Int.reduceLT, Tryz.f22, ↓XH2, XRN, ZC, ZE, ZH, eq_self, Nat.reduceLeDiff, Nat.reduceBEq, slV_new, reduceIte, ↓op_extract, tupAt_mk, lenV_sl, Bool.not_true, Bool.not_false, er5, rq56, hlm, hlr, dd, d0, dm, dr, eqB, w1, w2, w3, w4]
                    exact Okr.ret ⟨rfl, K5⟩
                  | true =>
                    simp (dsimp := false) (disch := first | exact dI | fail) only [XOB, ↓XXs, ↓XD, ↓YX, ZB, Nat.reduceAdd, Nat.reducePow, ↓reduceIte, eq_self, Int.reduceEq, Nat.reduceEqDiff, Nat.reduceMul, Nat.reduceLeDiff, Int.reduceBEq, Int.reduceLT, Tryz.f22, ↓XH2, XRN, ZC, ZE, ZH, eq_self, Nat.reduceLeDiff, Nat.reduceBEq, slV_new, reduceIte, ↓op_extract, tupAt_mk, lenV_sl, Bool.not_true, Bool.not_false, er5, rq56, hlm, hlr, dd, d0, dm, dr, eqB, w1, w2, w3, w4]
                    exact Okr.ret ⟨rfl, K5⟩
end Go.Abs
