/- That the law FnExactRoomGet answers true. For every text; no condition. -/
import Derived.Test.YtoijpmokcdifnaaGreatDoorRoomE
import Derived.Test.YtoijpmokcdifnaaGreatDoorRoomD
namespace Go.Abs
open Go.Proofs
set_option maxRecDepth 100000
set_option linter.unusedSimpArgs false
set_option linter.unusedVariables false
set_option pp.maxSteps 20000
set_option pp.deepTerms true
set_option maxHeartbeats 4000000 in
theorem r14 (nm sub : Bs) (nx : Int) (ms : List Me) (rs : List Rk) (hm : ms.length ≤ 2 ^ 21) (hr : rs.length ≤ 2 ^ 21) (mv rv : Value) (l lo k : Nat) (h : AH) (hl : l ≤ lo) (hlo : lo ≤ h.length) (qm : Me.OwL lo h mv ms) (qr : Rk.OwL lo h rv rs) (h1 : 0 < k) (hb : k ≤ 2 ^ 20) :
    Okr (fun v h' => v = iV (k + 3 * ms.length + 2 * rs.length : Nat) ∧ Me.OwL lo h' mv (marksMe k ms.length) ∧ Rk.OwL lo h' rv (marksRk (k + 3 * ms.length) rs.length) ∧ Keep lo h h' ∧ ∀ (j g : Nat) (cs : List Value), h[j]? = some (.row g 5 cs) → h'[j]? = some (.row g 5 cs)) (run V0 (.fn 14) l [S (.agg ⟨[sV nm, iV nx, mv, rv, sV sub]⟩), S (iV k)] h) := by
  have kx : Keep h.length h (h ++ [AObj.row 0 5 [sV nm, iV nx, mv, rv, sV sub]]) := Keep.app _ _ (Nat.le_refl _)
  refine okr_fn Tryz.func14 rfl rfl rfl rfl ?_
  simp (dsimp := false) (disch := (first | (refine dS ?_; kernel_rfl) | (refine dM ?_; kernel_rfl) | (refine dO ?_; simp (disch := ((try simp only [ZL]) <;> omega)) only [ZK, ZL]; done) | (refine dK ?_; (repeat first | exact Keep.refl _ _ | exact Keep.app _ _ (Nat.le_refl _) | assumption | refine Keep.ap ?_ | refine Keep.st (by first | omega | (simp only [ZL]; omega)) ?_); done) | ((try simp only [ZL]) <;> omega) | fail)) only [XOB, ↓XXs, ↓XD, ↓YX, ZB, Nat.reduceAdd, Nat.reducePow, ↓reduceIte, eq_self, Int.reduceEq, Nat.reduceEqDiff, Nat.reduceMul, Nat.reduceLeDiff, Int.reduceBEq, Int.reduceLT, Tryz.f14, ↓XH2, XRN, ZC, ZE, ZH, eq_self, Nat.reduceLeDiff, Nat.reduceBEq, slV_new, reduceIte, ↓op_extract, tupAt_mk, lenV_sl, Bool.not_true, Bool.not_false]
  obtain ⟨g1, a1, o1, c1⟩ := r36 mv l lo k ms _ (qm.keep kx) hl (by omega) h1 (by omega)
  have er : g1[h.length]? = some (.row 0 5 [sV nm, iV nx, mv, rv, sV sub]) := c1.oth _ _ _ _ (by simp) (by decide)
  obtain ⟨g2, a2, o2, c2⟩ := r37 rv l lo (k + 3 * ms.length) rs g1 ((qr.keep kx).ch c1 (by decide)) hl (by omega) (by omega) (by omega)
  simp (dsimp := false) (disch := (first | (refine dS ?_; kernel_rfl) | (refine dM ?_; kernel_rfl) | (refine dO ?_; simp (disch := ((try simp only [ZL]) <;> omega)) only [ZK, ZL]; done) | (refine dK ?_; (repeat first | exact Keep.refl _ _ | exact Keep.app _ _ (Nat.le_refl _) | assumption | refine Keep.ap ?_ | refine Keep.st (by first | omega | (simp only [ZL]; omega)) ?_); done) | ((try simp only [ZL]) <;> omega) | fail)) only [XOB, ↓XXs, ↓XD, ↓YX, ZB, Nat.reduceAdd, Nat.reducePow, ↓reduceIte, eq_self, Int.reduceEq, Nat.reduceEqDiff, Nat.reduceMul, Nat.reduceLeDiff, Int.reduceBEq, Int.reduceLT, Tryz.f14, ↓XH2, XRN, ZC, ZE, ZH, eq_self, Nat.reduceLeDiff, Nat.reduceBEq, slV_new, reduceIte, ↓op_extract, tupAt_mk, lenV_sl, Bool.not_true, Bool.not_false, a1, er, a2]
  exact Okr.ret ⟨rfl, o1.ch c2 (by decide), o2, ((kx.le hlo).trans c1.keep).trans c2.keep, fun j g cs e => c2.oth _ _ _ _ (c1.oth _ _ _ _ (kx.get e (lt_of_get e)) (by decide)) (by decide)⟩
set_option maxHeartbeats 4000000 in
theorem r15 (nm sub : Bs) (nx : Int) (n m : Nat) (hm : n ≤ 2 ^ 21) (hr : m ≤ 2 ^ 21) (mv rv : Value) (l lo k : Nat) (h : AH) (hl : l ≤ h.length) (qm : Me.OwL lo h mv (marksMe k n)) (qr : Rk.OwL lo h rv (marksRk (k + 3 * n) m)) (h1 : 0 < k) (hb : k ≤ 2 ^ 20) :
    Okr (VQ (iV (k + 3 * n + 2 * m : Nat)) h) (run V0 (.fn 15) l [S (.agg ⟨[sV nm, iV nx, mv, rv, sV sub]⟩), S (iV k)] h) := by
  have kx : Keep h.length h (h ++ [AObj.row 0 5 [sV nm, iV nx, mv, rv, sV sub]]) := Keep.app _ _ (Nat.le_refl _)
  refine okr_fn Tryz.func15 rfl rfl rfl rfl ?_
  simp (dsimp := false) (disch := (first | (refine dS ?_; kernel_rfl) | (refine dM ?_; kernel_rfl) | (refine dO ?_; simp (disch := ((try simp only [ZL]) <;> omega)) only [ZK, ZL]; done) | (refine dK ?_; (repeat first | exact Keep.refl _ _ | exact Keep.app _ _ (Nat.le_refl _) | assumption | refine Keep.ap ?_ | refine Keep.st (by first | omega | (simp only [ZL]; omega)) ?_); done) | ((try simp only [ZL]) <;> omega) | fail)) only [XOB, ↓XXs, ↓XD, ↓YX, ZB, Nat.reduceAdd, Nat.reducePow, ↓reduceIte, eq_self, Int.reduceEq, Nat.reduceEqDiff, Nat.reduceMul, Nat.reduceLeDiff, Int.reduceBEq, Int.reduceLT, Tryz.f15, ↓XH2, XRN, ZC, ZE, ZH, eq_self, Nat.reduceLeDiff, Nat.reduceBEq, slV_new, reduceIte, ↓op_extract, tupAt_mk, lenV_sl, Bool.not_true, Bool.not_false]
  obtain ⟨g1, a1, k1⟩ := r38 mv l lo k n _ (qm.keep kx) (by omega) h1 (by omega)
  have er : g1[h.length]? = some (.row 0 5 [sV nm, iV nx, mv, rv, sV sub]) := k1.get (by simp) (by simp)
  have K1 := kx.trans (k1.le kx.1)
  obtain ⟨g2, a2, k2⟩ := r39 rv l lo (k + 3 * n) m g1 (qr.keep K1) (by omega) (by omega) (by omega)
  have q1 : decide (((k + 3 * n : Nat) : Int) < 0) = false := by rw [decide_eq_false_iff_not]; omega
  have q2 : decide (((k + 3 * n + 2 * m : Nat) : Int) < 0) = false := by rw [decide_eq_false_iff_not]; omega
  simp (dsimp := false) (disch := (first | (refine dS ?_; kernel_rfl) | (refine dM ?_; kernel_rfl) | (refine dO ?_; simp (disch := ((try simp only [ZL]) <;> omega)) only [ZK, ZL]; done) | (refine dK ?_; (repeat first | exact Keep.refl _ _ | exact Keep.app _ _ (Nat.le_refl _) | assumption | refine Keep.ap ?_ | refine Keep.st (by first | omega | (simp only [ZL]; omega)) ?_); done) | ((try simp only [ZL]) <;> omega) | fail)) only [XOB, ↓XXs, ↓XD, ↓YX, ZB, Nat.reduceAdd, Nat.reducePow, ↓reduceIte, eq_self, Int.reduceEq, Nat.reduceEqDiff, Nat.reduceMul, Nat.reduceLeDiff, Int.reduceBEq, Int.reduceLT, Tryz.f15, ↓XH2, XRN, ZC, ZE, ZH, eq_self, Nat.reduceLeDiff, Nat.reduceBEq, slV_new, reduceIte, ↓op_extract, tupAt_mk, lenV_sl, Bool.not_true, Bool.not_false, a1, er, a2, q1, q2]
  exact Okr.ret ⟨rfl, K1.trans (k2.le K1.1)⟩
end Go.Abs
namespace Go.Abs
open Go.Proofs
set_option maxRecDepth 100000
set_option linter.unusedSimpArgs false
set_option linter.unusedVariables false
set_option pp.maxSteps 20000
set_option pp.deepTerms true
/-- the room of a text, or an empty one -/
def rmOf (s : Bs) : Rm := (getS s).getD ⟨[], 0, [], [], []⟩
theorem rmOf_sm (s : Bs) : (rmOf s).Sm := by
  unfold rmOf
  cases hq : getS s with
  | none => exact ⟨by simp, by simp, by simp, by simp, fun x hx => by simp at hx, fun x hx => by simp at hx⟩
  | some R =>
    have b := Rm.ok_bd ((getS_iff s R).1 hq).1
    have b1 := b.nm; have b2 := b.sb; have b3 := b.m; have b4 := b.k
    exact ⟨by simp; omega, by simp; omega, by simp; omega, by simp; omega, fun x hx => by have := b.ms x (by simpa using hx); omega, fun x hx => by have := b.rs x (by simpa using hx); omega⟩
theorem rmOf_small (s : Bs) : (rmOf s).ms.length ≤ 5 ∧ (rmOf s).rs.length ≤ 6 := by
  unfold rmOf
  cases hq : getS s with
  | none => simp
  | some R =>
    have b := Rm.ok_bd ((getS_iff s R).1 hq).1
    exact ⟨by simpa using b.m, by simpa using b.k⟩
theorem get_v {s : Bs} {o : Option Rm} {H0 h : AH} {v : Value} (ho : sealL s o = getS s) (q : GetQ s o H0 v h) : ∃ mv rv, v = .tuple ⟨[.agg ⟨[sV (rmOf s).name, iV (rmOf s).next, mv, rv, sV (rmOf s).sub]⟩, .bool (getS s).isSome]⟩ ∧ Me.OwL H0.length h mv (rmOf s).ms ∧ Rk.OwL H0.length h rv (rmOf s).rs ∧ Keep H0.length H0 h := by
  obtain ⟨q, k⟩ := q
  rw [ho] at q
  unfold rmOf
  cases hq : getS s with
  | none =>
    rw [hq] at q
    exact ⟨.slice none 0 0, .slice none 0 0, q, .inl ⟨rfl, rfl⟩, .inl ⟨rfl, rfl⟩, k⟩
  | some R =>
    rw [hq] at q
    obtain ⟨mv, rv, rfl, m, r⟩ := q
    exact ⟨mv, rv, rfl, m, r, k⟩
set_option maxHeartbeats 8000000 in
theorem r4 (s : Bs) (l : Nat) (h : AH) (hl : l ≤ h.length) : Okr (fun v _ => v = .bool true) (run V0 (.fn 4) l [S (sV s)] h) := by
  have n5 : ∀ a b c d e : Value, [a, b, c, d, e].length = 5 := fun _ _ _ _ _ => rfl
  have le5 : (5 ≤ 5) = True := by simp
  have tk : ∀ a b c d e : Value, List.take 5 [a, b, c, d, e] = [a, b, c, d, e] := fun _ _ _ _ _ => rfl
  have hsz := size_B s
  have sm := rmOf_sm s
  obtain ⟨sm1, sm2⟩ := rmOf_small s
  refine okr_fn Tryz.func4 rfl rfl rfl rfl ?_
  simp (dsimp := false) (disch := (first | (refine dS ?_; kernel_rfl) | (refine dM ?_; kernel_rfl) | (refine dO ?_; simp (disch := ((try simp only [ZL]) <;> omega)) only [ZK, ZL]; done) | (refine dK ?_; (repeat first | exact Keep.refl _ _ | exact Keep.app _ _ (Nat.le_refl _) | assumption | refine Keep.ap ?_ | refine Keep.st (by first | omega | (simp only [ZL]; omega)) ?_); done) | ((try simp only [ZL]) <;> omega) | fail)) only [XOB, ↓XXs, ↓XD, ↓YX, ZB, Nat.reduceAdd, Nat.reducePow, ↓reduceIte, eq_self, Int.reduceEq, Nat.reduceEqDiff, Nat.reduceMul, Nat.reduceLeDiff, Int.reduceBEq, Int.reduceLT, Tryz.f4, ↓XH2, XRN, ZC, ZE, ZH, eq_self, Nat.reduceLeDiff, Nat.reduceBEq, slV_new, reduceIte, ↓op_extract, tupAt_mk, lenV_sl, Bool.not_true, Bool.not_false, hsz]
  with_reducible refine okr_if (fun q0 => ?_) (fun q0 => ?_)
  · simp (dsimp := false) (disch := (first | (refine dS ?_; kernel_rfl) | (refine dM ?_; kernel_rfl) | (refine dO ?_; simp (disch := ((try simp only [ZL]) <;> omega)) only [ZK, ZL]; done) | (refine dK ?_; (repeat first | exact Keep.refl _ _ | exact Keep.app _ _ (Nat.le_refl _) | assumption | refine Keep.ap ?_ | refine Keep.st (by first | omega | (simp only [ZL]; omega)) ?_); done) | ((try simp only [ZL]) <;> omega) | fail)) only [XOB, ↓XXs, ↓XD, ↓YX, ZB, Nat.reduceAdd, Nat.reducePow, ↓reduceIte, eq_self, Int.reduceEq, Nat.reduceEqDiff, Nat.reduceMul, Nat.reduceLeDiff, Int.reduceBEq, Int.reduceLT, Tryz.f4, ↓XH2, XRN, ZC, ZE, ZH, eq_self, Nat.reduceLeDiff, Nat.reduceBEq, slV_new, reduceIte, ↓op_extract, tupAt_mk, lenV_sl, Bool.not_true, Bool.not_false]
    exact Okr.ret rfl
  · simp only [decide_eq_false_iff_not] at q0
    have hs2 : s.length ≤ 2 ^ 20 := by omega
    simp (dsimp := false) (disch := (first | (refine dS ?_; kernel_rfl) | (refine dM ?_; kernel_rfl) | (refine dO ?_; simp (disch := ((try simp only [ZL]) <;> omega)) only [ZK, ZL]; done) | (refine dK ?_; (repeat first | exact Keep.refl _ _ | exact Keep.app _ _ (Nat.le_refl _) | assumption | refine Keep.ap ?_ | refine Keep.st (by first | omega | (simp only [ZL]; omega)) ?_); done) | ((try simp only [ZL]) <;> omega) | fail)) only [XOB, ↓XXs, ↓XD, ↓YX, ZB, Nat.reduceAdd, Nat.reducePow, ↓reduceIte, eq_self, Int.reduceEq, Nat.reduceEqDiff, Nat.reduceMul, Nat.reduceLeDiff, Int.reduceBEq, Int.reduceLT, Tryz.f4, ↓XH2, XRN, ZC, ZE, ZH, eq_self, Nat.reduceLeDiff, Nat.reduceBEq, slV_new, reduceIte, ↓op_extract, tupAt_mk, lenV_sl, Bool.not_true, Bool.not_false, hsz]
    refine okr_call (r12 s hs2 l h hl) ?_
    rintro v1 h1 q1
    obtain ⟨mv1, rv1, rfl, m1, r1, k1⟩ := get_v rfl q1
    have hl1 : l ≤ h1.length := by have := k1.1; omega
    have om1 := m1.one
    have or1 := r1.one
    have cc : ∀ (H : AH) (x : AObj), (H ++ [x])[H.length]? = some x := fun H x => List.getElem?_concat_length ..
    simp (dsimp := false) (disch := (first | (refine dS ?_; kernel_rfl) | (refine dM ?_; kernel_rfl) | (refine dO ?_; simp (disch := ((try simp only [ZL]) <;> omega)) only [ZK, ZL]; done) | (refine dK ?_; (repeat first | exact Keep.refl _ _ | exact Keep.app _ _ (Nat.le_refl _) | assumption | refine Keep.ap ?_ | refine Keep.st (by first | omega | (simp only [ZL]; omega)) ?_); done) | ((try simp only [ZL]) <;> omega) | fail)) only [XOB, ↓XXs, ↓XD, ↓YX, ZB, Nat.reduceAdd, Nat.reducePow, ↓reduceIte, eq_self, Int.reduceEq, Nat.reduceEqDiff, Nat.reduceMul, Nat.reduceLeDiff, Int.reduceBEq, Int.reduceLT, Tryz.f4, ↓XH2, XRN, ZC, ZE, ZH, eq_self, Nat.reduceLeDiff, Nat.reduceBEq, slV_new, reduceIte, ↓op_extract, tupAt_mk, lenV_sl, Bool.not_true, Bool.not_false, hsz, unc, nilL, aggOf, Option.bind_some, hl1, om1, or1, Bool.and_true, and_self, if_true, cc, n5]
    generalize hWd : [sV (rmOf s).name, iV (rmOf s).next, mv1, rv1, sV (rmOf s).sub] = W
    obtain ⟨H1, hH1⟩ : ∃ H1 : AH, H1 = h1 ++ [AObj.row 0 5 W] := ⟨_, rfl⟩
    rw [← hH1]
    have kH1 : Keep h1.length h1 H1 := by rw [hH1]; exact Keep.app _ _ (Nat.le_refl _)
    have eW : H1[h1.length]? = some (.row 0 5 W) := by rw [hH1]; exact cc _ _
    have hl2 : l ≤ H1.length := by have := kH1.1; omega
    refine okr_call (r13 s hs2 l _ hl2) ?_
    rintro v2 h2 q2
    obtain ⟨mv2, rv2, rfl, m2, r2, k2⟩ := get_v (get_same s) q2
    have hl3 : l ≤ h2.length := by have := k2.1; omega
    have om2 := m2.one
    have or2 := r2.one
    have eW2 := k2.get eW (lt_of_get eW)
    have eW3 : ∀ X, (h2 ++ [X])[h1.length]? = some (.row 0 5 W) := fun X => by rw [List.getElem?_append_left (lt_of_get eW2)]; exact eW2
    have nW : W.length = 5 := by rw [← hWd]; rfl
    have tW : List.take 5 W = W := by rw [← hWd]; rfl
    simp (dsimp := false) (disch := (first | (refine dS ?_; kernel_rfl) | (refine dM ?_; kernel_rfl) | (refine dO ?_; simp (disch := ((try simp only [ZL]) <;> omega)) only [ZK, ZL]; done) | (refine dK ?_; (repeat first | exact Keep.refl _ _ | exact Keep.app _ _ (Nat.le_refl _) | assumption | refine Keep.ap ?_ | refine Keep.st (by first | omega | (simp only [ZL]; omega)) ?_); done) | ((try simp only [ZL]) <;> omega) | fail)) only [XOB, ↓XXs, ↓XD, ↓YX, ZB, Nat.reduceAdd, Nat.reducePow, ↓reduceIte, eq_self, Int.reduceEq, Nat.reduceEqDiff, Nat.reduceMul, Nat.reduceLeDiff, Int.reduceBEq, Int.reduceLT, Tryz.f4, ↓XH2, XRN, ZC, ZE, ZH, eq_self, Nat.reduceLeDiff, Nat.reduceBEq, slV_new, reduceIte, ↓op_extract, tupAt_mk, lenV_sl, Bool.not_true, Bool.not_false, unc, nilL, aggOf, Option.bind_some, hl3, om2, or2, Bool.and_true, and_self, if_true, cc, n5, eW3, nW, le5, tk, tW, decide_true]
    generalize hGd : [sV (rmOf s).name, iV (rmOf s).next, mv2, rv2, sV (rmOf s).sub] = G
    obtain ⟨H2, hH2⟩ : ∃ H2 : AH, H2 = h2 ++ [AObj.row 0 5 G] := ⟨_, rfl⟩
    rw [← hH2]
    have kH2 : Keep h2.length h2 H2 := by rw [hH2]; exact Keep.app _ _ (Nat.le_refl _)
    have eG : H2[h2.length]? = some (.row 0 5 G) := by rw [hH2]; exact cc _ _
    have nG : G.length = 5 := by rw [← hGd]; rfl
    have tG : List.take 5 G = G := by rw [← hGd]; rfl
    have K12 : Keep H1.length H1 H2 := k2.trans (kH2.le k2.1)
    have m1' := (m1.keep kH1).keep K12
    have r1' := (r1.keep kH1).keep K12
    have m2' := m2.keep kH2
    have r2' := r2.keep kH2
    have vW : ∀ H : AH, Me.Rd H mv1 (rmOf s).ms → Rk.Rd H rv1 (rmOf s).rs → RmV H (rmOf s) (.agg ⟨W⟩) := fun H a b => ⟨mv1, rv1, by rw [← hWd], a, b, om1, or1⟩
    refine okr_call (r11 (rmOf s) sm (.agg ⟨G⟩) (.agg ⟨W⟩) _ _ (by first | exact Nat.le_refl _ | (have := k2.1; have := kH2.1; omega)) ⟨mv2, rv2, by rw [← hGd], m2'.rd, r2'.rd, om2, or2⟩ (vW _ m1'.rd r1'.rd)) ?_
    rintro _ h3 ⟨rfl, k3⟩
    have eG3 := k3.get eG (lt_of_get eG)
    simp (dsimp := false) (disch := (first | (refine dS ?_; kernel_rfl) | (refine dM ?_; kernel_rfl) | (refine dO ?_; simp (disch := ((try simp only [ZL]) <;> omega)) only [ZK, ZL]; done) | (refine dK ?_; (repeat first | exact Keep.refl _ _ | exact Keep.app _ _ (Nat.le_refl _) | assumption | refine Keep.ap ?_ | refine Keep.st (by first | omega | (simp only [ZL]; omega)) ?_); done) | ((try simp only [ZL]) <;> omega) | fail)) only [XOB, ↓XXs, ↓XD, ↓YX, ZB, Nat.reduceAdd, Nat.reducePow, ↓reduceIte, eq_self, Int.reduceEq, Nat.reduceEqDiff, Nat.reduceMul, Nat.reduceLeDiff, Int.reduceBEq, Int.reduceLT, Tryz.f4, ↓XH2, XRN, ZC, ZE, ZH, eq_self, Nat.reduceLeDiff, Nat.reduceBEq, slV_new, reduceIte, ↓op_extract, tupAt_mk, lenV_sl, Bool.not_true, Bool.not_false, boolNe, eG3, nG, le5, tG, decide_true]
    have K23 : Keep H2.length H2 h3 := k3
    have lo2 : H1.length ≤ h2.length := k2.1
    have a14 := r14 (rmOf s).name (rmOf s).sub (rmOf s).next (rmOf s).ms (rmOf s).rs (by omega) (by omega) mv2 rv2 l H1.length 1 h3 hl2 (by have := kH2.1; have := k3.1; omega) (m2'.keep k3) (r2'.keep k3) (by omega) (by omega)
    rw [hGd] at a14
    refine okr_call a14 ?_
    rintro _ h4 ⟨rfl, m4, r4, K34, g4⟩
    have eG4 := g4 _ _ _ eG3
    simp (dsimp := false) (disch := (first | (refine dS ?_; kernel_rfl) | (refine dM ?_; kernel_rfl) | (refine dO ?_; simp (disch := ((try simp only [ZL]) <;> omega)) only [ZK, ZL]; done) | (refine dK ?_; (repeat first | exact Keep.refl _ _ | exact Keep.app _ _ (Nat.le_refl _) | assumption | refine Keep.ap ?_ | refine Keep.st (by first | omega | (simp only [ZL]; omega)) ?_); done) | ((try simp only [ZL]) <;> omega) | fail)) only [XOB, ↓XXs, ↓XD, ↓YX, ZB, Nat.reduceAdd, Nat.reducePow, ↓reduceIte, eq_self, Int.reduceEq, Nat.reduceEqDiff, Nat.reduceMul, Nat.reduceLeDiff, Int.reduceBEq, Int.reduceLT, Tryz.f4, ↓XH2, XRN, ZC, ZE, ZH, eq_self, Nat.reduceLeDiff, Nat.reduceBEq, slV_new, reduceIte, ↓op_extract, tupAt_mk, lenV_sl, Bool.not_true, Bool.not_false, eG4, nG, le5, tG, decide_true]
    have hl4 : l ≤ h4.length := by have := K34.1; have := k3.1; have := kH2.1; omega
    have a15 := r15 (rmOf s).name (rmOf s).sub (rmOf s).next (rmOf s).ms.length (rmOf s).rs.length (by omega) (by omega) mv2 rv2 l H1.length 1 h4 hl4 m4 r4 (by omega) (by omega)
    rw [hGd] at a15
    refine okr_call a15 ?_
    rintro _ h5 ⟨rfl, k5⟩
    have p1 : decide (((1 + (3 * (rmOf s).ms.length + 2 * (rmOf s).rs.length) : Nat) : Int) < 0) = false := by rw [decide_eq_false_iff_not]; omega
    have p2 : (((1 + (3 * (rmOf s).ms.length + 2 * (rmOf s).rs.length) : Nat) : Int) != ((1 + (3 * (rmOf s).ms.length + 2 * (rmOf s).rs.length) : Nat) : Int)) = false := by simp
    simp (dsimp := false) (disch := (first | (refine dS ?_; kernel_rfl) | (refine dM ?_; kernel_rfl) | (refine dO ?_; simp (disch := ((try simp only [ZL]) <;> omega)) only [ZK, ZL]; done) | (refine dK ?_; (repeat first | exact Keep.refl _ _ | exact Keep.app _ _ (Nat.le_refl _) | assumption | refine Keep.ap ?_ | refine Keep.st (by first | omega | (simp only [ZL]; omega)) ?_); done) | ((try simp only [ZL]) <;> omega) | fail)) only [XOB, ↓XXs, ↓XD, ↓YX, ZB, Nat.reduceAdd, Nat.reducePow, ↓reduceIte, eq_self, Int.reduceEq, Nat.reduceEqDiff, Nat.reduceMul, Nat.reduceLeDiff, Int.reduceBEq, Int.reduceLT, Tryz.f4, ↓XH2, XRN, ZC, ZE, ZH, eq_self, Nat.reduceLeDiff, Nat.reduceBEq, slV_new, reduceIte, ↓op_extract, tupAt_mk, lenV_sl, Bool.not_true, Bool.not_false, p1, p2]
    have hl5 : l ≤ h5.length := by have := k5.1; omega
    refine okr_call (r13 s hs2 l _ hl5) ?_
    rintro v6 h6 q6
    obtain ⟨mv6, rv6, rfl, m6, r6, k6⟩ := get_v (get_same s) q6
    have hl6 : l ≤ h6.length := by have := k6.1; omega
    have om6 := m6.one
    have or6 := r6.one
    have kW4 : Keep H1.length H1 h4 := (K12.trans (K23.le K12.1)).trans K34
    have kW6 : Keep H1.length H1 h6 := (kW4.trans (k5.le kW4.1)).trans (k6.le (by have := kW4.1; have := k5.1; omega))
    have eW6 := kW6.get eW (lt_of_get eW)
    have eW7 : ∀ X, (h6 ++ [X])[h1.length]? = some (.row 0 5 W) := fun X => by rw [List.getElem?_append_left (lt_of_get eW6)]; exact eW6
    simp (dsimp := false) (disch := (first | (refine dS ?_; kernel_rfl) | (refine dM ?_; kernel_rfl) | (refine dO ?_; simp (disch := ((try simp only [ZL]) <;> omega)) only [ZK, ZL]; done) | (refine dK ?_; (repeat first | exact Keep.refl _ _ | exact Keep.app _ _ (Nat.le_refl _) | assumption | refine Keep.ap ?_ | refine Keep.st (by first | omega | (simp only [ZL]; omega)) ?_); done) | ((try simp only [ZL]) <;> omega) | fail)) only [XOB, ↓XXs, ↓XD, ↓YX, ZB, Nat.reduceAdd, Nat.reducePow, ↓reduceIte, eq_self, Int.reduceEq, Nat.reduceEqDiff, Nat.reduceMul, Nat.reduceLeDiff, Int.reduceBEq, Int.reduceLT, Tryz.f4, ↓XH2, XRN, ZC, ZE, ZH, eq_self, Nat.reduceLeDiff, Nat.reduceBEq, slV_new, reduceIte, ↓op_extract, tupAt_mk, lenV_sl, Bool.not_true, Bool.not_false, unc, nilL, aggOf, Option.bind_some, hl6, om6, or6, Bool.and_true, and_self, if_true, cc, n5, eW7, nW, le5, tk, tW, decide_true]
    generalize hHd : [sV (rmOf s).name, iV (rmOf s).next, mv6, rv6, sV (rmOf s).sub] = HH
    obtain ⟨H7, hH7⟩ : ∃ H7 : AH, H7 = h6 ++ [AObj.row 0 5 HH] := ⟨_, rfl⟩
    rw [← hH7]
    have kH7 : Keep h6.length h6 H7 := by rw [hH7]; exact Keep.app _ _ (Nat.le_refl _)
    have kW7 : Keep H1.length H1 H7 := kW6.trans (kH7.le kW6.1)
    have m1'' := (m1.keep kH1).keep kW7
    have r1'' := (r1.keep kH1).keep kW7
    refine okr_call (r11 (rmOf s) sm (.agg ⟨HH⟩) (.agg ⟨W⟩) _ _ (by first | exact Nat.le_refl _ | (have := kH7.1; omega)) ⟨mv6, rv6, by rw [← hHd], (m6.keep kH7).rd, (r6.keep kH7).rd, om6, or6⟩ (vW _ m1''.rd r1''.rd)) ?_
    rintro _ h8 ⟨rfl, k8⟩
    have k58 : Keep h5.length h5 h8 := (k6.trans (kH7.le k6.1)).trans (k8.le (by have := k6.1; have := kH7.1; omega))
    have k48 : Keep h4.length h4 h8 := k5.trans (k58.le k5.1)
    have eG8 := k48.get eG4 (lt_of_get eG4)
    simp (dsimp := false) (disch := (first | (refine dS ?_; kernel_rfl) | (refine dM ?_; kernel_rfl) | (refine dO ?_; simp (disch := ((try simp only [ZL]) <;> omega)) only [ZK, ZL]; done) | (refine dK ?_; (repeat first | exact Keep.refl _ _ | exact Keep.app _ _ (Nat.le_refl _) | assumption | refine Keep.ap ?_ | refine Keep.st (by first | omega | (simp only [ZL]; omega)) ?_); done) | ((try simp only [ZL]) <;> omega) | fail)) only [XOB, ↓XXs, ↓XD, ↓YX, ZB, Nat.reduceAdd, Nat.reducePow, ↓reduceIte, eq_self, Int.reduceEq, Nat.reduceEqDiff, Nat.reduceMul, Nat.reduceLeDiff, Int.reduceBEq, Int.reduceLT, Tryz.f4, ↓XH2, XRN, ZC, ZE, ZH, eq_self, Nat.reduceLeDiff, Nat.reduceBEq, slV_new, reduceIte, ↓op_extract, tupAt_mk, lenV_sl, Bool.not_true, Bool.not_false, boolNe, eG8, nG, le5, tG, decide_true]
    have a19 := r15 (rmOf s).name (rmOf s).sub (rmOf s).next (rmOf s).ms.length (rmOf s).rs.length (by omega) (by omega) mv2 rv2 l H1.length 1 h8 (by have := k48.1; omega) (m4.keep k48) (r4.keep k48) (by omega) (by omega)
    rw [hGd] at a19
    refine okr_call a19 ?_
    rintro _ h9 ⟨rfl, k9⟩
    simp (dsimp := false) (disch := (first | (refine dS ?_; kernel_rfl) | (refine dM ?_; kernel_rfl) | (refine dO ?_; simp (disch := ((try simp only [ZL]) <;> omega)) only [ZK, ZL]; done) | (refine dK ?_; (repeat first | exact Keep.refl _ _ | exact Keep.app _ _ (Nat.le_refl _) | assumption | refine Keep.ap ?_ | refine Keep.st (by first | omega | (simp only [ZL]; omega)) ?_); done) | ((try simp only [ZL]) <;> omega) | fail)) only [XOB, ↓XXs, ↓XD, ↓YX, ZB, Nat.reduceAdd, Nat.reducePow, ↓reduceIte, eq_self, Int.reduceEq, Nat.reduceEqDiff, Nat.reduceMul, Nat.reduceLeDiff, Int.reduceBEq, Int.reduceLT, Tryz.f4, ↓XH2, XRN, ZC, ZE, ZH, eq_self, Nat.reduceLeDiff, Nat.reduceBEq, slV_new, reduceIte, ↓op_extract, tupAt_mk, lenV_sl, Bool.not_true, Bool.not_false, p1, p2]
    exact Okr.ret rfl
theorem rz4 (va : Value) (s : Bs) (l : Nat) (h : AH) (e : va = sV s) (hl : l ≤ h.length) : ∃ h', run V0 (.fn 4) l [S va] h = some (.ret (.bool true) h') := by
  subst e
  obtain ⟨v, h', e, rfl⟩ := r4 s l h hl
  exact ⟨h', e⟩
end Go.Abs
