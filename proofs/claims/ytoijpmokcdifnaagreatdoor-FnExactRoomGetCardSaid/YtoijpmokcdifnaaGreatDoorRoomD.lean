/- That two rooms are compared. For every room; no condition. -/
import Derived.Test.YtoijpmokcdifnaaGreatDoorRoomC
namespace Go.Abs
open Go.Proofs
set_option maxRecDepth 100000
set_option linter.unusedSimpArgs false
set_option linter.unusedVariables false
set_option pp.maxSteps 20000
set_option pp.deepTerms true
theorem r63 (x : Me) (l : Nat) (h : AH) (hl : l ≤ h.length) : Okr (VQ x.V h) (run V0 (.fn 63) l [S x.V] h) := by
  refine okr_fn Tryz.func63 rfl rfl rfl rfl ?_
  simp (dsimp := false) (disch := (first | (refine dS ?_; kernel_rfl) | (refine dM ?_; kernel_rfl) | (refine dO ?_; simp (disch := ((try simp only [ZL]) <;> omega)) only [ZK, ZL]; done) | (refine dK ?_; (repeat first | exact Keep.refl _ _ | exact Keep.app _ _ (Nat.le_refl _) | assumption | refine Keep.ap ?_ | refine Keep.st (by first | omega | (simp only [ZL]; omega)) ?_); done) | ((try simp only [ZL]) <;> omega) | fail)) only [XOB, ↓XXs, ↓XD, ↓YX, ZB, Nat.reduceAdd, Nat.reducePow, ↓reduceIte, eq_self, Int.reduceEq, Nat.reduceEqDiff, Nat.reduceMul, Nat.reduceLeDiff, Int.reduceBEq, Int.reduceLT, Tryz.f63, ↓XH2, XRN, ZC, ZE, ZH, eq_self, Nat.reduceLeDiff, Nat.reduceBEq, slV_new, reduceIte, ↓op_extract, tupAt_mk, lenV_sl, Bool.not_true, Bool.not_false]
  exact Okr.ret ⟨rfl, Keep.app _ _ (Nat.le_refl _)⟩
theorem r71 (x : Me) (l : Nat) (h : AH) (hl : l ≤ h.length) : Okr (VQ (.bool true) h) (run V0 (.fn 71) l [S x.V, S x.V] h) := by
  have hne : (x.role != x.role) = false := by simp
  refine okr_fn Tryz.func71 rfl rfl rfl rfl ?_
  simp (dsimp := false) (disch := (first | (refine dS ?_; kernel_rfl) | (refine dM ?_; kernel_rfl) | (refine dO ?_; simp (disch := ((try simp only [ZL]) <;> omega)) only [ZK, ZL]; done) | (refine dK ?_; (repeat first | exact Keep.refl _ _ | exact Keep.app _ _ (Nat.le_refl _) | assumption | refine Keep.ap ?_ | refine Keep.st (by first | omega | (simp only [ZL]; omega)) ?_); done) | ((try simp only [ZL]) <;> omega) | fail)) only [XOB, ↓XXs, ↓XD, ↓YX, ZB, Nat.reduceAdd, Nat.reducePow, ↓reduceIte, eq_self, Int.reduceEq, Nat.reduceEqDiff, Nat.reduceMul, Nat.reduceLeDiff, Int.reduceBEq, Int.reduceLT, Tryz.f71, ↓XH2, XRN, ZC, ZE, ZH, eq_self, Nat.reduceLeDiff, Nat.reduceBEq, slV_new, reduceIte, ↓op_extract, tupAt_mk, lenV_sl, Bool.not_true, Bool.not_false, hne]
  exact Okr.ret ⟨rfl, Keep.app _ _ (Nat.le_refl _)⟩
theorem L24 (v : Value) (l id n : Nat) (H0 : AH) (hl : l ≤ id) (h0 : H0.length ≤ id) (hlh : l ≤ H0.length) (hn : n ≤ 2 ^ 40) (xs : List Me) (q0 : Me.Rd H0 v xs) (hxs : xs.length = n) : ∀ (r d : List Me) (h : AH), d ++ r = xs → Keep H0.length H0 h →
    h[id]? = some (.row 0 3 (Me.R d ++ repL r.length [sV [], sV [], iV 0])) →
    Okr (fun v' h' => v' = slV id 0 n n ∧ h'[id]? = some (.row 0 3 (Me.R xs)) ∧ Keep H0.length H0 h') (L24_0 l v (slV id 0 n n) (iV d.length) h) := by
  intro r
  induction r with
  | nil =>
    intro d h hd k e
    have hlen := (q0.keep k).len
    rw [List.append_nil] at hd
    have hlt : decide ((d.length : Int) < (xs.length : Int)) = false := by rw [decide_eq_false_iff_not, hd]; omega
    refine okr_code Tryz.func24 rfl rfl ?_
    simp (dsimp := false) (disch := (first | (refine dS ?_; kernel_rfl) | (refine dM ?_; kernel_rfl) | (refine dO ?_; simp (disch := ((try simp only [ZL]) <;> omega)) only [ZK, ZL]; done) | (refine dK ?_; (repeat first | exact Keep.refl _ _ | exact Keep.app _ _ (Nat.le_refl _) | assumption | refine Keep.ap ?_ | refine Keep.st (by first | omega | (simp only [ZL]; omega)) ?_); done) | ((try simp only [ZL]) <;> omega) | fail)) only [XOB, ↓XXs, ↓XD, ↓YX, ZB, Nat.reduceAdd, Nat.reducePow, ↓reduceIte, eq_self, Int.reduceEq, Nat.reduceEqDiff, Nat.reduceMul, Nat.reduceLeDiff, Int.reduceBEq, Int.reduceLT, Tryz.f24, slV_new, reduceIte, ↓op_extract, tupAt_mk, lenV_sl, Bool.not_true, Bool.not_false, hlen, hlt]
    exact Okr.ret ⟨rfl, by rw [e, hd]; simp [repL], k⟩
  | cons x r ih =>
    intro d h hd k e
    have q := q0.keep k
    have hdl := congrArg List.length hd
    simp only [List.length_append, List.length_cons] at hdl
    have hlen := q.len
    obtain ⟨p, hp, hld⟩ := Me.Rd.get (d := d) (x := x) (r := r) (by rw [hd]; exact q)
    have hlt : decide ((d.length : Int) < (xs.length : Int)) = true := by rw [decide_eq_true_iff]; omega
    have hix : ixAddr (slV id 0 n n) (d.length : Int) 3 = some (pV id (d.length * 3) 0) := by rw [ixAddr_sl (by omega)]; simp
    have hw : IntKind.i64.wrap ((d.length : Int) + 1) = ((d.length + 1 : Nat) : Int) := natCast_succ_wrap (by omega) rfl
    have hag : aggOf x.V = some x.C := rfl
    refine okr_code Tryz.func24 rfl rfl ?_
    simp (dsimp := false) (disch := (first | (refine dS ?_; kernel_rfl) | (refine dM ?_; kernel_rfl) | (refine dO ?_; simp (disch := ((try simp only [ZL]) <;> omega)) only [ZK, ZL]; done) | (refine dK ?_; (repeat first | exact Keep.refl _ _ | exact Keep.app _ _ (Nat.le_refl _) | assumption | refine Keep.ap ?_ | refine Keep.st (by first | omega | (simp only [ZL]; omega)) ?_); done) | ((try simp only [ZL]) <;> omega) | fail)) only [XOB, ↓XXs, ↓XD, ↓YX, ZB, Nat.reduceAdd, Nat.reducePow, ↓reduceIte, eq_self, Int.reduceEq, Nat.reduceEqDiff, Nat.reduceMul, Nat.reduceLeDiff, Int.reduceBEq, Int.reduceLT, Tryz.f24, slV_new, reduceIte, ↓op_extract, tupAt_mk, lenV_sl, Bool.not_true, Bool.not_false, hlen, hlt, hp, hld, hix, hw]
    refine okr_call (r63 x l h (by have := k.1; omega)) ?_
    rintro _ h1 ⟨rfl, k1⟩
    have e1 := k1.get e (lt_of_get e)
    have hst : stN l h1 (pV id (d.length * 3) 0) x.C = some (h1.set id (.row 0 3 (Me.R (d ++ [x]) ++ repL r.length [sV [], sV [], iV 0]))) := by
      rw [stN_of hl e1 (by rw [List.length_append, Me.R_len]; simp [repL]; omega) rfl]
      have hrep : repL (r.length + 1) [sV [], sV [], iV 0] = [sV [], sV [], iV 0] ++ repL r.length [sV [], sV [], iV 0] := by simp [repL, List.replicate_succ]
      have := setMany_mid (Me.R d) [sV [], sV [], iV 0] (repL r.length [sV [], sV [], iV 0]) x.C rfl
      rw [Me.R_len] at this
      simp only [List.length_cons]
      rw [hrep, Nat.mul_comm, this, Me.R_app, Me.R_cons]
      simp [Me.R]
    simp (dsimp := false) (disch := (first | (refine dS ?_; kernel_rfl) | (refine dM ?_; kernel_rfl) | (refine dO ?_; simp (disch := ((try simp only [ZL]) <;> omega)) only [ZK, ZL]; done) | (refine dK ?_; (repeat first | exact Keep.refl _ _ | exact Keep.app _ _ (Nat.le_refl _) | assumption | refine Keep.ap ?_ | refine Keep.st (by first | omega | (simp only [ZL]; omega)) ?_); done) | ((try simp only [ZL]) <;> omega) | fail)) only [XOB, ↓XXs, ↓XD, ↓YX, ZB, Nat.reduceAdd, Nat.reducePow, ↓reduceIte, eq_self, Int.reduceEq, Nat.reduceEqDiff, Nat.reduceMul, Nat.reduceLeDiff, Int.reduceBEq, Int.reduceLT, Tryz.f24, slV_new, reduceIte, ↓op_extract, tupAt_mk, lenV_sl, Bool.not_true, Bool.not_false, hag, hst, hix, hw]
    have := ih (d ++ [x]) _ (by rw [← hd]; simp) ((k.trans (k1.le k.1)).trans (Keep.set _ _ _ h0)) (get_set _ e1)
    rw [List.length_append] at this
    exact this
theorem r24 (v : Value) (l : Nat) (xs : List Me) (h : AH) (q : Me.Rd h v xs) (hn : xs.length ≤ 2 ^ 30) (hl : l ≤ h.length) :
    Okr (fun v' h' => ∃ id, v' = slV id 0 xs.length xs.length ∧ h'[id]? = some (.row 0 3 (Me.R xs)) ∧ Keep h.length h h') (run V0 (.fn 24) l [S v] h) := by
  have hlen := q.len
  have hm : (0 ≤ (xs.length : Int) ∧ (xs.length : Int) ≤ (xs.length : Int) ∧ (xs.length : Int) ≤ 9223372036854775807 ∧ ((40 : Nat) : Int) * (xs.length : Int) ≤ 2 ^ 47) = True := eq_true (by omega)
  refine okr_fn Tryz.func24 rfl rfl rfl rfl ?_
  simp (disch := (first | (refine dS ?_; kernel_rfl) | (refine dM ?_; kernel_rfl) | (refine dO ?_; simp (disch := ((try simp only [ZL]) <;> omega)) only [ZK, ZL]; done) | (refine dK ?_; (repeat first | exact Keep.refl _ _ | exact Keep.app _ _ (Nat.le_refl _) | assumption | refine Keep.ap ?_ | refine Keep.st (by first | omega | (simp only [ZL]; omega)) ?_); done) | ((try simp only [ZL]) <;> omega) | fail)) only [↓XX, ↓XD, ↓YX, ZB, Nat.reduceAdd, Nat.reducePow, ↓reduceIte, eq_self, Int.reduceEq, Nat.reduceEqDiff, Nat.reduceMul, Nat.reduceLeDiff, Tryz.f24, hlen, hm, if_true, Int.toNat_natCast, newS]
  refine (L24 v l h.length xs.length h hl (Nat.le_refl _) hl (by omega) xs q rfl xs [] (h ++ [AObj.row 0 3 (repL xs.length [sV [], sV [], iV 0])]) rfl (Keep.app _ _ (Nat.le_refl _)) (by simp [Me.R])).mono ?_
  rintro v' h' ⟨rfl, a, b⟩
  exact ⟨h.length, rfl, a, b⟩
theorem L29 (a b : Value) (l n : Nat) (H0 : AH) (hlh : l ≤ H0.length) (hn : n ≤ 2 ^ 40) (xs : List Me) (qa : Me.Rd H0 a xs) (qb : Me.Rd H0 b xs) (hxs : xs.length = n) : ∀ (r d : List Me) (h : AH), d ++ r = xs → Keep H0.length H0 h →
    Okr (VQ (.bool true) H0) (L29_0 l a b (iV d.length) h) := by
  intro r
  induction r with
  | nil =>
    intro d h hd k
    have hlen := (qa.keep k).len
    rw [List.append_nil] at hd
    have hlt : decide ((d.length : Int) < (xs.length : Int)) = false := by rw [decide_eq_false_iff_not, hd]; omega
    refine okr_code Tryz.func29 rfl rfl ?_
    simp (dsimp := false) (disch := (first | (refine dS ?_; kernel_rfl) | (refine dM ?_; kernel_rfl) | (refine dO ?_; simp (disch := ((try simp only [ZL]) <;> omega)) only [ZK, ZL]; done) | (refine dK ?_; (repeat first | exact Keep.refl _ _ | exact Keep.app _ _ (Nat.le_refl _) | assumption | refine Keep.ap ?_ | refine Keep.st (by first | omega | (simp only [ZL]; omega)) ?_); done) | ((try simp only [ZL]) <;> omega) | fail)) only [XOB, ↓XXs, ↓XD, ↓YX, ZB, Nat.reduceAdd, Nat.reducePow, ↓reduceIte, eq_self, Int.reduceEq, Nat.reduceEqDiff, Nat.reduceMul, Nat.reduceLeDiff, Int.reduceBEq, Int.reduceLT, Tryz.f29, slV_new, reduceIte, ↓op_extract, tupAt_mk, lenV_sl, Bool.not_true, Bool.not_false, hlen, hlt]
    exact Okr.ret ⟨rfl, k⟩
  | cons x r ih =>
    intro d h hd k
    have q1 := qa.keep k
    have q2 := qb.keep k
    have hdl := congrArg List.length hd
    simp only [List.length_append, List.length_cons] at hdl
    have hlen := q1.len
    obtain ⟨p, hp, hld⟩ := Me.Rd.get (d := d) (x := x) (r := r) (by rw [hd]; exact q1)
    obtain ⟨p2, hp2, hld2⟩ := Me.Rd.get (d := d) (x := x) (r := r) (by rw [hd]; exact q2)
    have hlt : decide ((d.length : Int) < (xs.length : Int)) = true := by rw [decide_eq_true_iff]; omega
    have hw : IntKind.i64.wrap ((d.length : Int) + 1) = ((d.length + 1 : Nat) : Int) := natCast_succ_wrap (by omega) rfl
    refine okr_code Tryz.func29 rfl rfl ?_
    simp (dsimp := false) (disch := (first | (refine dS ?_; kernel_rfl) | (refine dM ?_; kernel_rfl) | (refine dO ?_; simp (disch := ((try simp only [ZL]) <;> omega)) only [ZK, ZL]; done) | (refine dK ?_; (repeat first | exact Keep.refl _ _ | exact Keep.app _ _ (Nat.le_refl _) | assumption | refine Keep.ap ?_ | refine Keep.st (by first | omega | (simp only [ZL]; omega)) ?_); done) | ((try simp only [ZL]) <;> omega) | fail)) only [XOB, ↓XXs, ↓XD, ↓YX, ZB, Nat.reduceAdd, Nat.reducePow, ↓reduceIte, eq_self, Int.reduceEq, Nat.reduceEqDiff, Nat.reduceMul, Nat.reduceLeDiff, Int.reduceBEq, Int.reduceLT, Tryz.f29, slV_new, reduceIte, ↓op_extract, tupAt_mk, lenV_sl, Bool.not_true, Bool.not_false, hlen, hlt, hp, hld, hp2, hld2, hw]
    refine okr_call (r71 x l h (by have := k.1; omega)) ?_
    rintro _ h1 ⟨rfl, k1⟩
    simp (dsimp := false) (disch := (first | (refine dS ?_; kernel_rfl) | (refine dM ?_; kernel_rfl) | (refine dO ?_; simp (disch := ((try simp only [ZL]) <;> omega)) only [ZK, ZL]; done) | (refine dK ?_; (repeat first | exact Keep.refl _ _ | exact Keep.app _ _ (Nat.le_refl _) | assumption | refine Keep.ap ?_ | refine Keep.st (by first | omega | (simp only [ZL]; omega)) ?_); done) | ((try simp only [ZL]) <;> omega) | fail)) only [XOB, ↓XXs, ↓XD, ↓YX, ZB, Nat.reduceAdd, Nat.reducePow, ↓reduceIte, eq_self, Int.reduceEq, Nat.reduceEqDiff, Nat.reduceMul, Nat.reduceLeDiff, Int.reduceBEq, Int.reduceLT, Tryz.f29, slV_new, reduceIte, ↓op_extract, tupAt_mk, lenV_sl, Bool.not_true, Bool.not_false, hlen, hlt, hp, hld, hp2, hld2, hw]
    have := ih (d ++ [x]) h1 (by rw [← hd]; simp) (k.trans (k1.le k.1))
    rw [List.length_append] at this
    exact this
theorem r29 (a b : Value) (l : Nat) (xs : List Me) (h : AH) (qa : Me.Rd h a xs) (qb : Me.Rd h b xs) (hn : xs.length ≤ 2 ^ 30) (hl : l ≤ h.length) :
    Okr (VQ (.bool true) h) (run V0 (.fn 29) l [S a, S b] h) := by
  have h1 := qa.len
  have h2 := qb.len
  have hne : ((xs.length : Int) != (xs.length : Int)) = false := by simp
  refine okr_fn Tryz.func29 rfl rfl rfl rfl ?_
  simp (dsimp := false) (disch := (first | (refine dS ?_; kernel_rfl) | (refine dM ?_; kernel_rfl) | (refine dO ?_; simp (disch := ((try simp only [ZL]) <;> omega)) only [ZK, ZL]; done) | (refine dK ?_; (repeat first | exact Keep.refl _ _ | exact Keep.app _ _ (Nat.le_refl _) | assumption | refine Keep.ap ?_ | refine Keep.st (by first | omega | (simp only [ZL]; omega)) ?_); done) | ((try simp only [ZL]) <;> omega) | fail)) only [XOB, ↓XXs, ↓XD, ↓YX, ZB, Nat.reduceAdd, Nat.reducePow, ↓reduceIte, eq_self, Int.reduceEq, Nat.reduceEqDiff, Nat.reduceMul, Nat.reduceLeDiff, Int.reduceBEq, Int.reduceLT, Tryz.f29, slV_new, reduceIte, ↓op_extract, tupAt_mk, lenV_sl, Bool.not_true, Bool.not_false, h1, h2, hne]
  exact L29 a b l xs.length h hl (by omega) xs qa qb rfl xs [] h rfl (Keep.refl _ _)
def Me.Ln (x : Me) (k : Int) : Prop := x.user.length ≤ k ∧ x.nick.length ≤ k
def Me.F63 (x : Me) : Prop := x.user.length ≤ 9223372036854775807 ∧ x.nick.length ≤ 9223372036854775807
theorem r53 (x : Me) (hx : x.F63) (k : Int) (hk : 0 ≤ k ∧ k ≤ 2 ^ 40) (l : Nat) (h : AH) (hl : l ≤ h.length) :
    Okr (fun v h' => ∃ z : Int, v = iV z ∧ -1 ≤ z ∧ z ≤ k ∧ (0 ≤ z → x.Ln k) ∧ Keep h.length h h') (run V0 (.fn 53) l [S x.V, S (iV k)] h) := by
  unfold Me.F63 at hx
  refine okr_fn Tryz.func53 rfl rfl rfl rfl ?_
  have w0 : IntKind.i64.wrap (k - (x.user.length : Int)) = k - (x.user.length : Int) := wrap64 (by omega)
  simp (dsimp := false) (disch := (first | (refine dS ?_; kernel_rfl) | (refine dM ?_; kernel_rfl) | (refine dO ?_; simp (disch := ((try simp only [ZL]) <;> omega)) only [ZK, ZL]; done) | (refine dK ?_; (repeat first | exact Keep.refl _ _ | exact Keep.app _ _ (Nat.le_refl _) | assumption | refine Keep.ap ?_ | refine Keep.st (by first | omega | (simp only [ZL]; omega)) ?_); done) | ((try simp only [ZL]) <;> omega) | fail)) only [XOB, ↓XXs, ↓XD, ↓YX, ZB, Nat.reduceAdd, Nat.reducePow, ↓reduceIte, eq_self, Int.reduceEq, Nat.reduceEqDiff, Nat.reduceMul, Nat.reduceLeDiff, Int.reduceBEq, Int.reduceLT, Tryz.f53, ↓XH2, XRN, ZC, ZE, ZH, eq_self, Nat.reduceLeDiff, Nat.reduceBEq, slV_new, reduceIte, ↓op_extract, tupAt_mk, lenV_sl, Bool.not_true, Bool.not_false, size_B, w0]
  with_reducible refine okr_if (fun q0 => ?_) (fun q0 => ?_)
  · simp (dsimp := false) (disch := (first | (refine dS ?_; kernel_rfl) | (refine dM ?_; kernel_rfl) | (refine dO ?_; simp (disch := ((try simp only [ZL]) <;> omega)) only [ZK, ZL]; done) | (refine dK ?_; (repeat first | exact Keep.refl _ _ | exact Keep.app _ _ (Nat.le_refl _) | assumption | refine Keep.ap ?_ | refine Keep.st (by first | omega | (simp only [ZL]; omega)) ?_); done) | ((try simp only [ZL]) <;> omega) | fail)) only [XOB, ↓XXs, ↓XD, ↓YX, ZB, Nat.reduceAdd, Nat.reducePow, ↓reduceIte, eq_self, Int.reduceEq, Nat.reduceEqDiff, Nat.reduceMul, Nat.reduceLeDiff, Int.reduceBEq, Int.reduceLT, Tryz.f53, ↓XH2, XRN, ZC, ZE, ZH, eq_self, Nat.reduceLeDiff, Nat.reduceBEq, slV_new, reduceIte, ↓op_extract, tupAt_mk, lenV_sl, Bool.not_true, Bool.not_false]
    exact Okr.ret ⟨-1, rfl, by omega, by omega, fun q => by omega, Keep.app _ _ (Nat.le_refl _)⟩
  · simp only [decide_eq_false_iff_not] at q0
    have w1 : IntKind.i64.wrap (k - (x.user.length : Int) - (x.nick.length : Int)) = k - (x.user.length : Int) - (x.nick.length : Int) := wrap64 (by omega)
    simp (dsimp := false) (disch := (first | (refine dS ?_; kernel_rfl) | (refine dM ?_; kernel_rfl) | (refine dO ?_; simp (disch := ((try simp only [ZL]) <;> omega)) only [ZK, ZL]; done) | (refine dK ?_; (repeat first | exact Keep.refl _ _ | exact Keep.app _ _ (Nat.le_refl _) | assumption | refine Keep.ap ?_ | refine Keep.st (by first | omega | (simp only [ZL]; omega)) ?_); done) | ((try simp only [ZL]) <;> omega) | fail)) only [XOB, ↓XXs, ↓XD, ↓YX, ZB, Nat.reduceAdd, Nat.reducePow, ↓reduceIte, eq_self, Int.reduceEq, Nat.reduceEqDiff, Nat.reduceMul, Nat.reduceLeDiff, Int.reduceBEq, Int.reduceLT, Tryz.f53, ↓XH2, XRN, ZC, ZE, ZH, eq_self, Nat.reduceLeDiff, Nat.reduceBEq, slV_new, reduceIte, ↓op_extract, tupAt_mk, lenV_sl, Bool.not_true, Bool.not_false, size_B, w0, w1]
    with_reducible refine okr_if (fun q1 => ?_) (fun q1 => ?_)
    · simp (dsimp := false) (disch := (first | (refine dS ?_; kernel_rfl) | (refine dM ?_; kernel_rfl) | (refine dO ?_; simp (disch := ((try simp only [ZL]) <;> omega)) only [ZK, ZL]; done) | (refine dK ?_; (repeat first | exact Keep.refl _ _ | exact Keep.app _ _ (Nat.le_refl _) | assumption | refine Keep.ap ?_ | refine Keep.st (by first | omega | (simp only [ZL]; omega)) ?_); done) | ((try simp only [ZL]) <;> omega) | fail)) only [XOB, ↓XXs, ↓XD, ↓YX, ZB, Nat.reduceAdd, Nat.reducePow, ↓reduceIte, eq_self, Int.reduceEq, Nat.reduceEqDiff, Nat.reduceMul, Nat.reduceLeDiff, Int.reduceBEq, Int.reduceLT, Tryz.f53, ↓XH2, XRN, ZC, ZE, ZH, eq_self, Nat.reduceLeDiff, Nat.reduceBEq, slV_new, reduceIte, ↓op_extract, tupAt_mk, lenV_sl, Bool.not_true, Bool.not_false]
      exact Okr.ret ⟨-1, rfl, by omega, by omega, fun q => by omega, Keep.app _ _ (Nat.le_refl _)⟩
    · simp only [decide_eq_false_iff_not] at q1
      simp (dsimp := false) (disch := (first | (refine dS ?_; kernel_rfl) | (refine dM ?_; kernel_rfl) | (refine dO ?_; simp (disch := ((try simp only [ZL]) <;> omega)) only [ZK, ZL]; done) | (refine dK ?_; (repeat first | exact Keep.refl _ _ | exact Keep.app _ _ (Nat.le_refl _) | assumption | refine Keep.ap ?_ | refine Keep.st (by first | omega | (simp only [ZL]; omega)) ?_); done) | ((try simp only [ZL]) <;> omega) | fail)) only [XOB, ↓XXs, ↓XD, ↓YX, ZB, Nat.reduceAdd, Nat.reducePow, ↓reduceIte, eq_self, Int.reduceEq, Nat.reduceEqDiff, Nat.reduceMul, Nat.reduceLeDiff, Int.reduceBEq, Int.reduceLT, Tryz.f53, ↓XH2, XRN, ZC, ZE, ZH, eq_self, Nat.reduceLeDiff, Nat.reduceBEq, slV_new, reduceIte, ↓op_extract, tupAt_mk, lenV_sl, Bool.not_true, Bool.not_false, size_B, w0, w1]
      refine Okr.ret ⟨_, rfl, by omega, by omega, fun q => ?_, Keep.app _ _ (Nat.le_refl _)⟩
      unfold Me.Ln
      omega
theorem L20 (v : Value) (l : Nat) (H0 : AH) (hlh : l ≤ H0.length) (xs : List Me) (q0 : Me.Rd H0 v xs) (hn : xs.length ≤ 2 ^ 40) (hf : ∀ x ∈ xs, x.F63) (k0 : Int) (hk0 : k0 ≤ 2 ^ 40) : ∀ (r d : List Me) (k : Int) (h : AH), d ++ r = xs → 0 ≤ k → k ≤ k0 → Keep H0.length H0 h →
    Okr (fun v h' => ∃ z : Int, v = iV z ∧ -1 ≤ z ∧ z ≤ k0 ∧ (0 ≤ z → ∀ x ∈ r, x.Ln k0) ∧ Keep H0.length H0 h') (L20_0 l v (iV k) (iV d.length) h) := by
  intro r
  induction r with
  | nil =>
    intro d k h hd hk1 hk2 kp
    have hlen := (q0.keep kp).len
    rw [List.append_nil] at hd
    have hlt : decide ((d.length : Int) < (xs.length : Int)) = false := by rw [decide_eq_false_iff_not, hd]; omega
    refine okr_code Tryz.func20 rfl rfl ?_
    simp (dsimp := false) (disch := (first | (refine dS ?_; kernel_rfl) | (refine dM ?_; kernel_rfl) | (refine dO ?_; simp (disch := ((try simp only [ZL]) <;> omega)) only [ZK, ZL]; done) | (refine dK ?_; (repeat first | exact Keep.refl _ _ | exact Keep.app _ _ (Nat.le_refl _) | assumption | refine Keep.ap ?_ | refine Keep.st (by first | omega | (simp only [ZL]; omega)) ?_); done) | ((try simp only [ZL]) <;> omega) | fail)) only [XOB, ↓XXs, ↓XD, ↓YX, ZB, Nat.reduceAdd, Nat.reducePow, ↓reduceIte, eq_self, Int.reduceEq, Nat.reduceEqDiff, Nat.reduceMul, Nat.reduceLeDiff, Int.reduceBEq, Int.reduceLT, Tryz.f20, slV_new, reduceIte, ↓op_extract, tupAt_mk, lenV_sl, Bool.not_true, Bool.not_false, hlen, hlt]
    exact Okr.ret ⟨k, rfl, by omega, hk2, (fun _ x hx => by cases hx), kp⟩
  | cons x r ih =>
    intro d k h hd hk1 hk2 kp
    have q := q0.keep kp
    have hdl := congrArg List.length hd
    simp only [List.length_append, List.length_cons] at hdl
    have hlen := q.len
    obtain ⟨p, hp, hld⟩ := Me.Rd.get (d := d) (x := x) (r := r) (by rw [hd]; exact q)
    have hlt : decide ((d.length : Int) < (xs.length : Int)) = true := by rw [decide_eq_true_iff]; omega
    have hw : IntKind.i64.wrap ((d.length : Int) + 1) = ((d.length + 1 : Nat) : Int) := natCast_succ_wrap (by omega) rfl
    refine okr_code Tryz.func20 rfl rfl ?_
    simp (dsimp := false) (disch := (first | (refine dS ?_; kernel_rfl) | (refine dM ?_; kernel_rfl) | (refine dO ?_; simp (disch := ((try simp only [ZL]) <;> omega)) only [ZK, ZL]; done) | (refine dK ?_; (repeat first | exact Keep.refl _ _ | exact Keep.app _ _ (Nat.le_refl _) | assumption | refine Keep.ap ?_ | refine Keep.st (by first | omega | (simp only [ZL]; omega)) ?_); done) | ((try simp only [ZL]) <;> omega) | fail)) only [XOB, ↓XXs, ↓XD, ↓YX, ZB, Nat.reduceAdd, Nat.reducePow, ↓reduceIte, eq_self, Int.reduceEq, Nat.reduceEqDiff, Nat.reduceMul, Nat.reduceLeDiff, Int.reduceBEq, Int.reduceLT, Tryz.f20, slV_new, reduceIte, ↓op_extract, tupAt_mk, lenV_sl, Bool.not_true, Bool.not_false, hlen, hlt, hp, hld, hw]
    refine okr_call (r53 x (hf x (by rw [← hd]; simp)) k ⟨hk1, by omega⟩ l h (by have := kp.1; omega)) ?_
    rintro _ h1 ⟨z, rfl, z1, z2, z3, k1⟩
    simp (dsimp := false) (disch := (first | (refine dS ?_; kernel_rfl) | (refine dM ?_; kernel_rfl) | (refine dO ?_; simp (disch := ((try simp only [ZL]) <;> omega)) only [ZK, ZL]; done) | (refine dK ?_; (repeat first | exact Keep.refl _ _ | exact Keep.app _ _ (Nat.le_refl _) | assumption | refine Keep.ap ?_ | refine Keep.st (by first | omega | (simp only [ZL]; omega)) ?_); done) | ((try simp only [ZL]) <;> omega) | fail)) only [XOB, ↓XXs, ↓XD, ↓YX, ZB, Nat.reduceAdd, Nat.reducePow, ↓reduceIte, eq_self, Int.reduceEq, Nat.reduceEqDiff, Nat.reduceMul, Nat.reduceLeDiff, Int.reduceBEq, Int.reduceLT, Tryz.f20, slV_new, reduceIte, ↓op_extract, tupAt_mk, lenV_sl, Bool.not_true, Bool.not_false, hlen, hlt, hp, hld, hw]
    with_reducible refine okr_if (fun qz => ?_) (fun qz => ?_)
    · simp (dsimp := false) (disch := (first | (refine dS ?_; kernel_rfl) | (refine dM ?_; kernel_rfl) | (refine dO ?_; simp (disch := ((try simp only [ZL]) <;> omega)) only [ZK, ZL]; done) | (refine dK ?_; (repeat first | exact Keep.refl _ _ | exact Keep.app _ _ (Nat.le_refl _) | assumption | refine Keep.ap ?_ | refine Keep.st (by first | omega | (simp only [ZL]; omega)) ?_); done) | ((try simp only [ZL]) <;> omega) | fail)) only [XOB, ↓XXs, ↓XD, ↓YX, ZB, Nat.reduceAdd, Nat.reducePow, ↓reduceIte, eq_self, Int.reduceEq, Nat.reduceEqDiff, Nat.reduceMul, Nat.reduceLeDiff, Int.reduceBEq, Int.reduceLT, Tryz.f20, slV_new, reduceIte, ↓op_extract, tupAt_mk, lenV_sl, Bool.not_true, Bool.not_false, hlen, hlt, hp, hld, hw]
      exact Okr.ret ⟨-1, rfl, by omega, by omega, fun q => by omega, kp.trans (k1.le kp.1)⟩
    · simp only [decide_eq_false_iff_not] at qz
      simp (dsimp := false) (disch := (first | (refine dS ?_; kernel_rfl) | (refine dM ?_; kernel_rfl) | (refine dO ?_; simp (disch := ((try simp only [ZL]) <;> omega)) only [ZK, ZL]; done) | (refine dK ?_; (repeat first | exact Keep.refl _ _ | exact Keep.app _ _ (Nat.le_refl _) | assumption | refine Keep.ap ?_ | refine Keep.st (by first | omega | (simp only [ZL]; omega)) ?_); done) | ((try simp only [ZL]) <;> omega) | fail)) only [XOB, ↓XXs, ↓XD, ↓YX, ZB, Nat.reduceAdd, Nat.reducePow, ↓reduceIte, eq_self, Int.reduceEq, Nat.reduceEqDiff, Nat.reduceMul, Nat.reduceLeDiff, Int.reduceBEq, Int.reduceLT, Tryz.f20, slV_new, reduceIte, ↓op_extract, tupAt_mk, lenV_sl, Bool.not_true, Bool.not_false, hlen, hlt, hp, hld, hw]
      have := ih (d ++ [x]) z h1 (by rw [← hd]; simp) (by omega) (by omega) (kp.trans (k1.le kp.1))
      rw [List.length_append] at this
      refine Okr.mono this ?_
      rintro v' h' ⟨y, rfl, y1, y2, y3, y4⟩
      refine ⟨y, rfl, y1, y2, fun q w hw => ?_, y4⟩
      rcases List.mem_cons.1 hw with rfl | hw
      · have := z3 (by omega)
        unfold Me.Ln at this ⊢
        omega
      · exact y3 q w hw
theorem r20 (v : Value) (l : Nat) (xs : List Me) (h : AH) (q : Me.Rd h v xs) (hn : xs.length ≤ 9223372036854775807) (hf : ∀ x ∈ xs, x.F63) (k : Int) (hk : 0 ≤ k ∧ k ≤ 2 ^ 40) (hl : l ≤ h.length) :
    Okr (fun v h' => ∃ z : Int, v = iV z ∧ -1 ≤ z ∧ z ≤ k ∧ (0 ≤ z → (xs.length : Int) ≤ k ∧ ∀ x ∈ xs, x.Ln k) ∧ Keep h.length h h') (run V0 (.fn 20) l [S v, S (iV k)] h) := by
  have hlen := q.len
  have w0 : IntKind.i64.wrap (k - (xs.length : Int)) = k - (xs.length : Int) := wrap64 (by omega)
  refine okr_fn Tryz.func20 rfl rfl rfl rfl ?_
  simp (dsimp := false) (disch := (first | (refine dS ?_; kernel_rfl) | (refine dM ?_; kernel_rfl) | (refine dO ?_; simp (disch := ((try simp only [ZL]) <;> omega)) only [ZK, ZL]; done) | (refine dK ?_; (repeat first | exact Keep.refl _ _ | exact Keep.app _ _ (Nat.le_refl _) | assumption | refine Keep.ap ?_ | refine Keep.st (by first | omega | (simp only [ZL]; omega)) ?_); done) | ((try simp only [ZL]) <;> omega) | fail)) only [XOB, ↓XXs, ↓XD, ↓YX, ZB, Nat.reduceAdd, Nat.reducePow, ↓reduceIte, eq_self, Int.reduceEq, Nat.reduceEqDiff, Nat.reduceMul, Nat.reduceLeDiff, Int.reduceBEq, Int.reduceLT, Tryz.f20, slV_new, reduceIte, ↓op_extract, tupAt_mk, lenV_sl, Bool.not_true, Bool.not_false, hlen, w0]
  with_reducible refine okr_if (fun qz => ?_) (fun qz => ?_)
  · simp (dsimp := false) (disch := (first | (refine dS ?_; kernel_rfl) | (refine dM ?_; kernel_rfl) | (refine dO ?_; simp (disch := ((try simp only [ZL]) <;> omega)) only [ZK, ZL]; done) | (refine dK ?_; (repeat first | exact Keep.refl _ _ | exact Keep.app _ _ (Nat.le_refl _) | assumption | refine Keep.ap ?_ | refine Keep.st (by first | omega | (simp only [ZL]; omega)) ?_); done) | ((try simp only [ZL]) <;> omega) | fail)) only [XOB, ↓XXs, ↓XD, ↓YX, ZB, Nat.reduceAdd, Nat.reducePow, ↓reduceIte, eq_self, Int.reduceEq, Nat.reduceEqDiff, Nat.reduceMul, Nat.reduceLeDiff, Int.reduceBEq, Int.reduceLT, Tryz.f20, slV_new, reduceIte, ↓op_extract, tupAt_mk, lenV_sl, Bool.not_true, Bool.not_false, hlen, w0]
    exact Okr.ret ⟨-1, rfl, by omega, by omega, fun q => by omega, Keep.refl _ _⟩
  · simp only [decide_eq_false_iff_not] at qz
    simp (dsimp := false) (disch := (first | (refine dS ?_; kernel_rfl) | (refine dM ?_; kernel_rfl) | (refine dO ?_; simp (disch := ((try simp only [ZL]) <;> omega)) only [ZK, ZL]; done) | (refine dK ?_; (repeat first | exact Keep.refl _ _ | exact Keep.app _ _ (Nat.le_refl _) | assumption | refine Keep.ap ?_ | refine Keep.st (by first | omega | (simp only [ZL]; omega)) ?_); done) | ((try simp only [ZL]) <;> omega) | fail)) only [XOB, ↓XXs, ↓XD, ↓YX, ZB, Nat.reduceAdd, Nat.reducePow, ↓reduceIte, eq_self, Int.reduceEq, Nat.reduceEqDiff, Nat.reduceMul, Nat.reduceLeDiff, Int.reduceBEq, Int.reduceLT, Tryz.f20, slV_new, reduceIte, ↓op_extract, tupAt_mk, lenV_sl, Bool.not_true, Bool.not_false, hlen, w0]
    refine Okr.mono (L20 v l h hl xs q (by omega) hf k hk.2 xs [] (k - (xs.length : Int)) h rfl (by omega) (by omega) (Keep.refl _ _)) ?_
    rintro v' h' ⟨y, rfl, y1, y2, y3, y4⟩
    exact ⟨y, rfl, y1, y2, fun q => ⟨by omega, y3 q⟩, y4⟩
theorem r64 (x : Rk) (l : Nat) (h : AH) (hl : l ≤ h.length) : Okr (VQ x.V h) (run V0 (.fn 64) l [S x.V] h) := by
  refine okr_fn Tryz.func64 rfl rfl rfl rfl ?_
  simp (dsimp := false) (disch := (first | (refine dS ?_; kernel_rfl) | (refine dM ?_; kernel_rfl) | (refine dO ?_; simp (disch := ((try simp only [ZL]) <;> omega)) only [ZK, ZL]; done) | (refine dK ?_; (repeat first | exact Keep.refl _ _ | exact Keep.app _ _ (Nat.le_refl _) | assumption | refine Keep.ap ?_ | refine Keep.st (by first | omega | (simp only [ZL]; omega)) ?_); done) | ((try simp only [ZL]) <;> omega) | fail)) only [XOB, ↓XXs, ↓XD, ↓YX, ZB, Nat.reduceAdd, Nat.reducePow, ↓reduceIte, eq_self, Int.reduceEq, Nat.reduceEqDiff, Nat.reduceMul, Nat.reduceLeDiff, Int.reduceBEq, Int.reduceLT, Tryz.f64, ↓XH2, XRN, ZC, ZE, ZH, eq_self, Nat.reduceLeDiff, Nat.reduceBEq, slV_new, reduceIte, ↓op_extract, tupAt_mk, lenV_sl, Bool.not_true, Bool.not_false]
  exact Okr.ret ⟨rfl, Keep.app _ _ (Nat.le_refl _)⟩
theorem r72 (x : Rk) (l : Nat) (h : AH) (hl : l ≤ h.length) : Okr (VQ (.bool true) h) (run V0 (.fn 72) l [S x.V, S x.V] h) := by
  have hne : (x.num != x.num) = false := by simp
  refine okr_fn Tryz.func72 rfl rfl rfl rfl ?_
  simp (dsimp := false) (disch := (first | (refine dS ?_; kernel_rfl) | (refine dM ?_; kernel_rfl) | (refine dO ?_; simp (disch := ((try simp only [ZL]) <;> omega)) only [ZK, ZL]; done) | (refine dK ?_; (repeat first | exact Keep.refl _ _ | exact Keep.app _ _ (Nat.le_refl _) | assumption | refine Keep.ap ?_ | refine Keep.st (by first | omega | (simp only [ZL]; omega)) ?_); done) | ((try simp only [ZL]) <;> omega) | fail)) only [XOB, ↓XXs, ↓XD, ↓YX, ZB, Nat.reduceAdd, Nat.reducePow, ↓reduceIte, eq_self, Int.reduceEq, Nat.reduceEqDiff, Nat.reduceMul, Nat.reduceLeDiff, Int.reduceBEq, Int.reduceLT, Tryz.f72, ↓XH2, XRN, ZC, ZE, ZH, eq_self, Nat.reduceLeDiff, Nat.reduceBEq, slV_new, reduceIte, ↓op_extract, tupAt_mk, lenV_sl, Bool.not_true, Bool.not_false, hne]
  exact Okr.ret ⟨rfl, Keep.app _ _ (Nat.le_refl _)⟩
theorem L25 (v : Value) (l id n : Nat) (H0 : AH) (hl : l ≤ id) (h0 : H0.length ≤ id) (hlh : l ≤ H0.length) (hn : n ≤ 2 ^ 40) (xs : List Rk) (q0 : Rk.Rd H0 v xs) (hxs : xs.length = n) : ∀ (r d : List Rk) (h : AH), d ++ r = xs → Keep H0.length H0 h →
    h[id]? = some (.row 0 2 (Rk.R d ++ repL r.length [sV [], iV 0])) →
    Okr (fun v' h' => v' = slV id 0 n n ∧ h'[id]? = some (.row 0 2 (Rk.R xs)) ∧ Keep H0.length H0 h') (L25_0 l v (slV id 0 n n) (iV d.length) h) := by
  intro r
  induction r with
  | nil =>
    intro d h hd k e
    have hlen := (q0.keep k).len
    rw [List.append_nil] at hd
    have hlt : decide ((d.length : Int) < (xs.length : Int)) = false := by rw [decide_eq_false_iff_not, hd]; omega
    refine okr_code Tryz.func25 rfl rfl ?_
    simp (dsimp := false) (disch := (first | (refine dS ?_; kernel_rfl) | (refine dM ?_; kernel_rfl) | (refine dO ?_; simp (disch := ((try simp only [ZL]) <;> omega)) only [ZK, ZL]; done) | (refine dK ?_; (repeat first | exact Keep.refl _ _ | exact Keep.app _ _ (Nat.le_refl _) | assumption | refine Keep.ap ?_ | refine Keep.st (by first | omega | (simp only [ZL]; omega)) ?_); done) | ((try simp only [ZL]) <;> omega) | fail)) only [XOB, ↓XXs, ↓XD, ↓YX, ZB, Nat.reduceAdd, Nat.reducePow, ↓reduceIte, eq_self, Int.reduceEq, Nat.reduceEqDiff, Nat.reduceMul, Nat.reduceLeDiff, Int.reduceBEq, Int.reduceLT, Tryz.f25, slV_new, reduceIte, ↓op_extract, tupAt_mk, lenV_sl, Bool.not_true, Bool.not_false, hlen, hlt]
    exact Okr.ret ⟨rfl, by rw [e, hd]; simp [repL], k⟩
  | cons x r ih =>
    intro d h hd k e
    have q := q0.keep k
    have hdl := congrArg List.length hd
    simp only [List.length_append, List.length_cons] at hdl
    have hlen := q.len
    obtain ⟨p, hp, hld⟩ := Rk.Rd.get (d := d) (x := x) (r := r) (by rw [hd]; exact q)
    have hlt : decide ((d.length : Int) < (xs.length : Int)) = true := by rw [decide_eq_true_iff]; omega
    have hix : ixAddr (slV id 0 n n) (d.length : Int) 2 = some (pV id (d.length * 2) 0) := by rw [ixAddr_sl (by omega)]; simp
    have hw : IntKind.i64.wrap ((d.length : Int) + 1) = ((d.length + 1 : Nat) : Int) := natCast_succ_wrap (by omega) rfl
    have hag : aggOf x.V = some x.C := rfl
    refine okr_code Tryz.func25 rfl rfl ?_
    simp (dsimp := false) (disch := (first | (refine dS ?_; kernel_rfl) | (refine dM ?_; kernel_rfl) | (refine dO ?_; simp (disch := ((try simp only [ZL]) <;> omega)) only [ZK, ZL]; done) | (refine dK ?_; (repeat first | exact Keep.refl _ _ | exact Keep.app _ _ (Nat.le_refl _) | assumption | refine Keep.ap ?_ | refine Keep.st (by first | omega | (simp only [ZL]; omega)) ?_); done) | ((try simp only [ZL]) <;> omega) | fail)) only [XOB, ↓XXs, ↓XD, ↓YX, ZB, Nat.reduceAdd, Nat.reducePow, ↓reduceIte, eq_self, Int.reduceEq, Nat.reduceEqDiff, Nat.reduceMul, Nat.reduceLeDiff, Int.reduceBEq, Int.reduceLT, Tryz.f25, slV_new, reduceIte, ↓op_extract, tupAt_mk, lenV_sl, Bool.not_true, Bool.not_false, hlen, hlt, hp, hld, hix, hw]
    refine okr_call (r64 x l h (by have := k.1; omega)) ?_
    rintro _ h1 ⟨rfl, k1⟩
    have e1 := k1.get e (lt_of_get e)
    have hst : stN l h1 (pV id (d.length * 2) 0) x.C = some (h1.set id (.row 0 2 (Rk.R (d ++ [x]) ++ repL r.length [sV [], iV 0]))) := by
      rw [stN_of hl e1 (by rw [List.length_append, Rk.R_len]; simp [repL]; omega) rfl]
      have hrep : repL (r.length + 1) [sV [], iV 0] = [sV [], iV 0] ++ repL r.length [sV [], iV 0] := by simp [repL, List.replicate_succ]
      have := setMany_mid (Rk.R d) [sV [], iV 0] (repL r.length [sV [], iV 0]) x.C rfl
      rw [Rk.R_len] at this
      simp only [List.length_cons]
      rw [hrep, Nat.mul_comm, this, Rk.R_app, Rk.R_cons]
      simp [Rk.R]
    simp (dsimp := false) (disch := (first | (refine dS ?_; kernel_rfl) | (refine dM ?_; kernel_rfl) | (refine dO ?_; simp (disch := ((try simp only [ZL]) <;> omega)) only [ZK, ZL]; done) | (refine dK ?_; (repeat first | exact Keep.refl _ _ | exact Keep.app _ _ (Nat.le_refl _) | assumption | refine Keep.ap ?_ | refine Keep.st (by first | omega | (simp only [ZL]; omega)) ?_); done) | ((try simp only [ZL]) <;> omega) | fail)) only [XOB, ↓XXs, ↓XD, ↓YX, ZB, Nat.reduceAdd, Nat.reducePow, ↓reduceIte, eq_self, Int.reduceEq, Nat.reduceEqDiff, Nat.reduceMul, Nat.reduceLeDiff, Int.reduceBEq, Int.reduceLT, Tryz.f25, slV_new, reduceIte, ↓op_extract, tupAt_mk, lenV_sl, Bool.not_true, Bool.not_false, hag, hst, hix, hw]
    have := ih (d ++ [x]) _ (by rw [← hd]; simp) ((k.trans (k1.le k.1)).trans (Keep.set _ _ _ h0)) (get_set _ e1)
    rw [List.length_append] at this
    exact this
theorem r25 (v : Value) (l : Nat) (xs : List Rk) (h : AH) (q : Rk.Rd h v xs) (hn : xs.length ≤ 2 ^ 30) (hl : l ≤ h.length) :
    Okr (fun v' h' => ∃ id, v' = slV id 0 xs.length xs.length ∧ h'[id]? = some (.row 0 2 (Rk.R xs)) ∧ Keep h.length h h') (run V0 (.fn 25) l [S v] h) := by
  have hlen := q.len
  have hm : (0 ≤ (xs.length : Int) ∧ (xs.length : Int) ≤ (xs.length : Int) ∧ (xs.length : Int) ≤ 9223372036854775807 ∧ ((24 : Nat) : Int) * (xs.length : Int) ≤ 2 ^ 47) = True := eq_true (by omega)
  refine okr_fn Tryz.func25 rfl rfl rfl rfl ?_
  simp (disch := (first | (refine dS ?_; kernel_rfl) | (refine dM ?_; kernel_rfl) | (refine dO ?_; simp (disch := ((try simp only [ZL]) <;> omega)) only [ZK, ZL]; done) | (refine dK ?_; (repeat first | exact Keep.refl _ _ | exact Keep.app _ _ (Nat.le_refl _) | assumption | refine Keep.ap ?_ | refine Keep.st (by first | omega | (simp only [ZL]; omega)) ?_); done) | ((try simp only [ZL]) <;> omega) | fail)) only [↓XX, ↓XD, ↓YX, ZB, Nat.reduceAdd, Nat.reducePow, ↓reduceIte, eq_self, Int.reduceEq, Nat.reduceEqDiff, Nat.reduceMul, Nat.reduceLeDiff, Tryz.f25, hlen, hm, if_true, Int.toNat_natCast, newS]
  refine (L25 v l h.length xs.length h hl (Nat.le_refl _) hl (by omega) xs q rfl xs [] (h ++ [AObj.row 0 2 (repL xs.length [sV [], iV 0])]) rfl (Keep.app _ _ (Nat.le_refl _)) (by simp [Rk.R])).mono ?_
  rintro v' h' ⟨rfl, a, b⟩
  exact ⟨h.length, rfl, a, b⟩
theorem L30 (a b : Value) (l n : Nat) (H0 : AH) (hlh : l ≤ H0.length) (hn : n ≤ 2 ^ 40) (xs : List Rk) (qa : Rk.Rd H0 a xs) (qb : Rk.Rd H0 b xs) (hxs : xs.length = n) : ∀ (r d : List Rk) (h : AH), d ++ r = xs → Keep H0.length H0 h →
    Okr (VQ (.bool true) H0) (L30_0 l a b (iV d.length) h) := by
  intro r
  induction r with
  | nil =>
    intro d h hd k
    have hlen := (qa.keep k).len
    rw [List.append_nil] at hd
    have hlt : decide ((d.length : Int) < (xs.length : Int)) = false := by rw [decide_eq_false_iff_not, hd]; omega
    refine okr_code Tryz.func30 rfl rfl ?_
    simp (dsimp := false) (disch := (first | (refine dS ?_; kernel_rfl) | (refine dM ?_; kernel_rfl) | (refine dO ?_; simp (disch := ((try simp only [ZL]) <;> omega)) only [ZK, ZL]; done) | (refine dK ?_; (repeat first | exact Keep.refl _ _ | exact Keep.app _ _ (Nat.le_refl _) | assumption | refine Keep.ap ?_ | refine Keep.st (by first | omega | (simp only [ZL]; omega)) ?_); done) | ((try simp only [ZL]) <;> omega) | fail)) only [XOB, ↓XXs, ↓XD, ↓YX, ZB, Nat.reduceAdd, Nat.reducePow, ↓reduceIte, eq_self, Int.reduceEq, Nat.reduceEqDiff, Nat.reduceMul, Nat.reduceLeDiff, Int.reduceBEq, Int.reduceLT, Tryz.f30, slV_new, reduceIte, ↓op_extract, tupAt_mk, lenV_sl, Bool.not_true, Bool.not_false, hlen, hlt]
    exact Okr.ret ⟨rfl, k⟩
  | cons x r ih =>
    intro d h hd k
    have q1 := qa.keep k
    have q2 := qb.keep k
    have hdl := congrArg List.length hd
    simp only [List.length_append, List.length_cons] at hdl
    have hlen := q1.len
    obtain ⟨p, hp, hld⟩ := Rk.Rd.get (d := d) (x := x) (r := r) (by rw [hd]; exact q1)
    obtain ⟨p2, hp2, hld2⟩ := Rk.Rd.get (d := d) (x := x) (r := r) (by rw [hd]; exact q2)
    have hlt : decide ((d.length : Int) < (xs.length : Int)) = true := by rw [decide_eq_true_iff]; omega
    have hw : IntKind.i64.wrap ((d.length : Int) + 1) = ((d.length + 1 : Nat) : Int) := natCast_succ_wrap (by omega) rfl
    refine okr_code Tryz.func30 rfl rfl ?_
    simp (dsimp := false) (disch := (first | (refine dS ?_; kernel_rfl) | (refine dM ?_; kernel_rfl) | (refine dO ?_; simp (disch := ((try simp only [ZL]) <;> omega)) only [ZK, ZL]; done) | (refine dK ?_; (repeat first | exact Keep.refl _ _ | exact Keep.app _ _ (Nat.le_refl _) | assumption | refine Keep.ap ?_ | refine Keep.st (by first | omega | (simp only [ZL]; omega)) ?_); done) | ((try simp only [ZL]) <;> omega) | fail)) only [XOB, ↓XXs, ↓XD, ↓YX, ZB, Nat.reduceAdd, Nat.reducePow, ↓reduceIte, eq_self, Int.reduceEq, Nat.reduceEqDiff, Nat.reduceMul, Nat.reduceLeDiff, Int.reduceBEq, Int.reduceLT, Tryz.f30, slV_new, reduceIte, ↓op_extract, tupAt_mk, lenV_sl, Bool.not_true, Bool.not_false, hlen, hlt, hp, hld, hp2, hld2, hw]
    refine okr_call (r72 x l h (by have := k.1; omega)) ?_
    rintro _ h1 ⟨rfl, k1⟩
    simp (dsimp := false) (disch := (first | (refine dS ?_; kernel_rfl) | (refine dM ?_; kernel_rfl) | (refine dO ?_; simp (disch := ((try simp only [ZL]) <;> omega)) only [ZK, ZL]; done) | (refine dK ?_; (repeat first | exact Keep.refl _ _ | exact Keep.app _ _ (Nat.le_refl _) | assumption | refine Keep.ap ?_ | refine Keep.st (by first | omega | (simp only [ZL]; omega)) ?_); done) | ((try simp only [ZL]) <;> omega) | fail)) only [XOB, ↓XXs, ↓XD, ↓YX, ZB, Nat.reduceAdd, Nat.reducePow, ↓reduceIte, eq_self, Int.reduceEq, Nat.reduceEqDiff, Nat.reduceMul, Nat.reduceLeDiff, Int.reduceBEq, Int.reduceLT, Tryz.f30, slV_new, reduceIte, ↓op_extract, tupAt_mk, lenV_sl, Bool.not_true, Bool.not_false, hlen, hlt, hp, hld, hp2, hld2, hw]
    have := ih (d ++ [x]) h1 (by rw [← hd]; simp) (k.trans (k1.le k.1))
    rw [List.length_append] at this
    exact this
theorem r30 (a b : Value) (l : Nat) (xs : List Rk) (h : AH) (qa : Rk.Rd h a xs) (qb : Rk.Rd h b xs) (hn : xs.length ≤ 2 ^ 30) (hl : l ≤ h.length) :
    Okr (VQ (.bool true) h) (run V0 (.fn 30) l [S a, S b] h) := by
  have h1 := qa.len
  have h2 := qb.len
  have hne : ((xs.length : Int) != (xs.length : Int)) = false := by simp
  refine okr_fn Tryz.func30 rfl rfl rfl rfl ?_
  simp (dsimp := false) (disch := (first | (refine dS ?_; kernel_rfl) | (refine dM ?_; kernel_rfl) | (refine dO ?_; simp (disch := ((try simp only [ZL]) <;> omega)) only [ZK, ZL]; done) | (refine dK ?_; (repeat first | exact Keep.refl _ _ | exact Keep.app _ _ (Nat.le_refl _) | assumption | refine Keep.ap ?_ | refine Keep.st (by first | omega | (simp only [ZL]; omega)) ?_); done) | ((try simp only [ZL]) <;> omega) | fail)) only [XOB, ↓XXs, ↓XD, ↓YX, ZB, Nat.reduceAdd, Nat.reducePow, ↓reduceIte, eq_self, Int.reduceEq, Nat.reduceEqDiff, Nat.reduceMul, Nat.reduceLeDiff, Int.reduceBEq, Int.reduceLT, Tryz.f30, slV_new, reduceIte, ↓op_extract, tupAt_mk, lenV_sl, Bool.not_true, Bool.not_false, h1, h2, hne]
  exact L30 a b l xs.length h hl (by omega) xs qa qb rfl xs [] h rfl (Keep.refl _ _)
def Rk.Ln (x : Rk) (k : Int) : Prop := x.user.length ≤ k
def Rk.F63 (x : Rk) : Prop := x.user.length ≤ 9223372036854775807
theorem r54 (x : Rk) (hx : x.F63) (k : Int) (hk : 0 ≤ k ∧ k ≤ 2 ^ 40) (l : Nat) (h : AH) (hl : l ≤ h.length) :
    Okr (fun v h' => ∃ z : Int, v = iV z ∧ -1 ≤ z ∧ z ≤ k ∧ (0 ≤ z → x.Ln k) ∧ Keep h.length h h') (run V0 (.fn 54) l [S x.V, S (iV k)] h) := by
  unfold Rk.F63 at hx
  refine okr_fn Tryz.func54 rfl rfl rfl rfl ?_
  have w0 : IntKind.i64.wrap (k - (x.user.length : Int)) = k - (x.user.length : Int) := wrap64 (by omega)
  simp (dsimp := false) (disch := (first | (refine dS ?_; kernel_rfl) | (refine dM ?_; kernel_rfl) | (refine dO ?_; simp (disch := ((try simp only [ZL]) <;> omega)) only [ZK, ZL]; done) | (refine dK ?_; (repeat first | exact Keep.refl _ _ | exact Keep.app _ _ (Nat.le_refl _) | assumption | refine Keep.ap ?_ | refine Keep.st (by first | omega | (simp only [ZL]; omega)) ?_); done) | ((try simp only [ZL]) <;> omega) | fail)) only [XOB, ↓XXs, ↓XD, ↓YX, ZB, Nat.reduceAdd, Nat.reducePow, ↓reduceIte, eq_self, Int.reduceEq, Nat.reduceEqDiff, Nat.reduceMul, Nat.reduceLeDiff, Int.reduceBEq, Int.reduceLT, Tryz.f54, ↓XH2, XRN, ZC, ZE, ZH, eq_self, Nat.reduceLeDiff, Nat.reduceBEq, slV_new, reduceIte, ↓op_extract, tupAt_mk, lenV_sl, Bool.not_true, Bool.not_false, size_B, w0]
  with_reducible refine okr_if (fun q0 => ?_) (fun q0 => ?_)
  · simp (dsimp := false) (disch := (first | (refine dS ?_; kernel_rfl) | (refine dM ?_; kernel_rfl) | (refine dO ?_; simp (disch := ((try simp only [ZL]) <;> omega)) only [ZK, ZL]; done) | (refine dK ?_; (repeat first | exact Keep.refl _ _ | exact Keep.app _ _ (Nat.le_refl _) | assumption | refine Keep.ap ?_ | refine Keep.st (by first | omega | (simp only [ZL]; omega)) ?_); done) | ((try simp only [ZL]) <;> omega) | fail)) only [XOB, ↓XXs, ↓XD, ↓YX, ZB, Nat.reduceAdd, Nat.reducePow, ↓reduceIte, eq_self, Int.reduceEq, Nat.reduceEqDiff, Nat.reduceMul, Nat.reduceLeDiff, Int.reduceBEq, Int.reduceLT, Tryz.f54, ↓XH2, XRN, ZC, ZE, ZH, eq_self, Nat.reduceLeDiff, Nat.reduceBEq, slV_new, reduceIte, ↓op_extract, tupAt_mk, lenV_sl, Bool.not_true, Bool.not_false]
    exact Okr.ret ⟨-1, rfl, by omega, by omega, fun q => by omega, Keep.app _ _ (Nat.le_refl _)⟩
  · simp only [decide_eq_false_iff_not] at q0
    simp (dsimp := false) (disch := (first | (refine dS ?_; kernel_rfl) | (refine dM ?_; kernel_rfl) | (refine dO ?_; simp (disch := ((try simp only [ZL]) <;> omega)) only [ZK, ZL]; done) | (refine dK ?_; (repeat first | exact Keep.refl _ _ | exact Keep.app _ _ (Nat.le_refl _) | assumption | refine Keep.ap ?_ | refine Keep.st (by first | omega | (simp only [ZL]; omega)) ?_); done) | ((try simp only [ZL]) <;> omega) | fail)) only [XOB, ↓XXs, ↓XD, ↓YX, ZB, Nat.reduceAdd, Nat.reducePow, ↓reduceIte, eq_self, Int.reduceEq, Nat.reduceEqDiff, Nat.reduceMul, Nat.reduceLeDiff, Int.reduceBEq, Int.reduceLT, Tryz.f54, ↓XH2, XRN, ZC, ZE, ZH, eq_self, Nat.reduceLeDiff, Nat.reduceBEq, slV_new, reduceIte, ↓op_extract, tupAt_mk, lenV_sl, Bool.not_true, Bool.not_false, size_B, w0]
    refine Okr.ret ⟨_, rfl, by omega, by omega, fun q => ?_, Keep.app _ _ (Nat.le_refl _)⟩
    unfold Rk.Ln
    omega
theorem L21 (v : Value) (l : Nat) (H0 : AH) (hlh : l ≤ H0.length) (xs : List Rk) (q0 : Rk.Rd H0 v xs) (hn : xs.length ≤ 2 ^ 40) (hf : ∀ x ∈ xs, x.F63) (k0 : Int) (hk0 : k0 ≤ 2 ^ 40) : ∀ (r d : List Rk) (k : Int) (h : AH), d ++ r = xs → 0 ≤ k → k ≤ k0 → Keep H0.length H0 h →
    Okr (fun v h' => ∃ z : Int, v = iV z ∧ -1 ≤ z ∧ z ≤ k0 ∧ (0 ≤ z → ∀ x ∈ r, x.Ln k0) ∧ Keep H0.length H0 h') (L21_0 l v (iV k) (iV d.length) h) := by
  intro r
  induction r with
  | nil =>
    intro d k h hd hk1 hk2 kp
    have hlen := (q0.keep kp).len
    rw [List.append_nil] at hd
    have hlt : decide ((d.length : Int) < (xs.length : Int)) = false := by rw [decide_eq_false_iff_not, hd]; omega
    refine okr_code Tryz.func21 rfl rfl ?_
    simp (dsimp := false) (disch := (first | (refine dS ?_; kernel_rfl) | (refine dM ?_; kernel_rfl) | (refine dO ?_; simp (disch := ((try simp only [ZL]) <;> omega)) only [ZK, ZL]; done) | (refine dK ?_; (repeat first | exact Keep.refl _ _ | exact Keep.app _ _ (Nat.le_refl _) | assumption | refine Keep.ap ?_ | refine Keep.st (by first | omega | (simp only [ZL]; omega)) ?_); done) | ((try simp only [ZL]) <;> omega) | fail)) only [XOB, ↓XXs, ↓XD, ↓YX, ZB, Nat.reduceAdd, Nat.reducePow, ↓reduceIte, eq_self, Int.reduceEq, Nat.reduceEqDiff, Nat.reduceMul, Nat.reduceLeDiff, Int.reduceBEq, Int.reduceLT, Tryz.f21, slV_new, reduceIte, ↓op_extract, tupAt_mk, lenV_sl, Bool.not_true, Bool.not_false, hlen, hlt]
    exact Okr.ret ⟨k, rfl, by omega, hk2, (fun _ x hx => by cases hx), kp⟩
  | cons x r ih =>
    intro d k h hd hk1 hk2 kp
    have q := q0.keep kp
    have hdl := congrArg List.length hd
    simp only [List.length_append, List.length_cons] at hdl
    have hlen := q.len
    obtain ⟨p, hp, hld⟩ := Rk.Rd.get (d := d) (x := x) (r := r) (by rw [hd]; exact q)
    have hlt : decide ((d.length : Int) < (xs.length : Int)) = true := by rw [decide_eq_true_iff]; omega
    have hw : IntKind.i64.wrap ((d.length : Int) + 1) = ((d.length + 1 : Nat) : Int) := natCast_succ_wrap (by omega) rfl
    refine okr_code Tryz.func21 rfl rfl ?_
    simp (dsimp := false) (disch := (first | (refine dS ?_; kernel_rfl) | (refine dM ?_; kernel_rfl) | (refine dO ?_; simp (disch := ((try simp only [ZL]) <;> omega)) only [ZK, ZL]; done) | (refine dK ?_; (repeat first | exact Keep.refl _ _ | exact Keep.app _ _ (Nat.le_refl _) | assumption | refine Keep.ap ?_ | refine Keep.st (by first | omega | (simp only [ZL]; omega)) ?_); done) | ((try simp only [ZL]) <;> omega) | fail)) only [XOB, ↓XXs, ↓XD, ↓YX, ZB, Nat.reduceAdd, Nat.reducePow, ↓reduceIte, eq_self, Int.reduceEq, Nat.reduceEqDiff, Nat.reduceMul, Nat.reduceLeDiff, Int.reduceBEq, Int.reduceLT, Tryz.f21, slV_new, reduceIte, ↓op_extract, tupAt_mk, lenV_sl, Bool.not_true, Bool.not_false, hlen, hlt, hp, hld, hw]
    refine okr_call (r54 x (hf x (by rw [← hd]; simp)) k ⟨hk1, by omega⟩ l h (by have := kp.1; omega)) ?_
    rintro _ h1 ⟨z, rfl, z1, z2, z3, k1⟩
    simp (dsimp := false) (disch := (first | (refine dS ?_; kernel_rfl) | (refine dM ?_; kernel_rfl) | (refine dO ?_; simp (disch := ((try simp only [ZL]) <;> omega)) only [ZK, ZL]; done) | (refine dK ?_; (repeat first | exact Keep.refl _ _ | exact Keep.app _ _ (Nat.le_refl _) | assumption | refine Keep.ap ?_ | refine Keep.st (by first | omega | (simp only [ZL]; omega)) ?_); done) | ((try simp only [ZL]) <;> omega) | fail)) only [XOB, ↓XXs, ↓XD, ↓YX, ZB, Nat.reduceAdd, Nat.reducePow, ↓reduceIte, eq_self, Int.reduceEq, Nat.reduceEqDiff, Nat.reduceMul, Nat.reduceLeDiff, Int.reduceBEq, Int.reduceLT, Tryz.f21, slV_new, reduceIte, ↓op_extract, tupAt_mk, lenV_sl, Bool.not_true, Bool.not_false, hlen, hlt, hp, hld, hw]
    with_reducible refine okr_if (fun qz => ?_) (fun qz => ?_)
    · simp (dsimp := false) (disch := (first | (refine dS ?_; kernel_rfl) | (refine dM ?_; kernel_rfl) | (refine dO ?_; simp (disch := ((try simp only [ZL]) <;> omega)) only [ZK, ZL]; done) | (refine dK ?_; (repeat first | exact Keep.refl _ _ | exact Keep.app _ _ (Nat.le_refl _) | assumption | refine Keep.ap ?_ | refine Keep.st (by first | omega | (simp only [ZL]; omega)) ?_); done) | ((try simp only [ZL]) <;> omega) | fail)) only [XOB, ↓XXs, ↓XD, ↓YX, ZB, Nat.reduceAdd, Nat.reducePow, ↓reduceIte, eq_self, Int.reduceEq, Nat.reduceEqDiff, Nat.reduceMul, Nat.reduceLeDiff, Int.reduceBEq, Int.reduceLT, Tryz.f21, slV_new, reduceIte, ↓op_extract, tupAt_mk, lenV_sl, Bool.not_true, Bool.not_false, hlen, hlt, hp, hld, hw]
      exact Okr.ret ⟨-1, rfl, by omega, by omega, fun q => by omega, kp.trans (k1.le kp.1)⟩
    · simp only [decide_eq_false_iff_not] at qz
      simp (dsimp := false) (disch := (first | (refine dS ?_; kernel_rfl) | (refine dM ?_; kernel_rfl) | (refine dO ?_; simp (disch := ((try simp only [ZL]) <;> omega)) only [ZK, ZL]; done) | (refine dK ?_; (repeat first | exact Keep.refl _ _ | exact Keep.app _ _ (Nat.le_refl _) | assumption | refine Keep.ap ?_ | refine Keep.st (by first | omega | (simp only [ZL]; omega)) ?_); done) | ((try simp only [ZL]) <;> omega) | fail)) only [XOB, ↓XXs, ↓XD, ↓YX, ZB, Nat.reduceAdd, Nat.reducePow, ↓reduceIte, eq_self, Int.reduceEq, Nat.reduceEqDiff, Nat.reduceMul, Nat.reduceLeDiff, Int.reduceBEq, Int.reduceLT, Tryz.f21, slV_new, reduceIte, ↓op_extract, tupAt_mk, lenV_sl, Bool.not_true, Bool.not_false, hlen, hlt, hp, hld, hw]
      have := ih (d ++ [x]) z h1 (by rw [← hd]; simp) (by omega) (by omega) (kp.trans (k1.le kp.1))
      rw [List.length_append] at this
      refine Okr.mono this ?_
      rintro v' h' ⟨y, rfl, y1, y2, y3, y4⟩
      refine ⟨y, rfl, y1, y2, fun q w hw => ?_, y4⟩
      rcases List.mem_cons.1 hw with rfl | hw
      · have := z3 (by omega)
        unfold Rk.Ln at this ⊢
        omega
      · exact y3 q w hw
theorem r21 (v : Value) (l : Nat) (xs : List Rk) (h : AH) (q : Rk.Rd h v xs) (hn : xs.length ≤ 9223372036854775807) (hf : ∀ x ∈ xs, x.F63) (k : Int) (hk : 0 ≤ k ∧ k ≤ 2 ^ 40) (hl : l ≤ h.length) :
    Okr (fun v h' => ∃ z : Int, v = iV z ∧ -1 ≤ z ∧ z ≤ k ∧ (0 ≤ z → (xs.length : Int) ≤ k ∧ ∀ x ∈ xs, x.Ln k) ∧ Keep h.length h h') (run V0 (.fn 21) l [S v, S (iV k)] h) := by
  have hlen := q.len
  have w0 : IntKind.i64.wrap (k - (xs.length : Int)) = k - (xs.length : Int) := wrap64 (by omega)
  refine okr_fn Tryz.func21 rfl rfl rfl rfl ?_
  simp (dsimp := false) (disch := (first | (refine dS ?_; kernel_rfl) | (refine dM ?_; kernel_rfl) | (refine dO ?_; simp (disch := ((try simp only [ZL]) <;> omega)) only [ZK, ZL]; done) | (refine dK ?_; (repeat first | exact Keep.refl _ _ | exact Keep.app _ _ (Nat.le_refl _) | assumption | refine Keep.ap ?_ | refine Keep.st (by first | omega | (simp only [ZL]; omega)) ?_); done) | ((try simp only [ZL]) <;> omega) | fail)) only [XOB, ↓XXs, ↓XD, ↓YX, ZB, Nat.reduceAdd, Nat.reducePow, ↓reduceIte, eq_self, Int.reduceEq, Nat.reduceEqDiff, Nat.reduceMul, Nat.reduceLeDiff, Int.reduceBEq, Int.reduceLT, Tryz.f21, slV_new, reduceIte, ↓op_extract, tupAt_mk, lenV_sl, Bool.not_true, Bool.not_false, hlen, w0]
  with_reducible refine okr_if (fun qz => ?_) (fun qz => ?_)
  · simp (dsimp := false) (disch := (first | (refine dS ?_; kernel_rfl) | (refine dM ?_; kernel_rfl) | (refine dO ?_; simp (disch := ((try simp only [ZL]) <;> omega)) only [ZK, ZL]; done) | (refine dK ?_; (repeat first | exact Keep.refl _ _ | exact Keep.app _ _ (Nat.le_refl _) | assumption | refine Keep.ap ?_ | refine Keep.st (by first | omega | (simp only [ZL]; omega)) ?_); done) | ((try simp only [ZL]) <;> omega) | fail)) only [XOB, ↓XXs, ↓XD, ↓YX, ZB, Nat.reduceAdd, Nat.reducePow, ↓reduceIte, eq_self, Int.reduceEq, Nat.reduceEqDiff, Nat.reduceMul, Nat.reduceLeDiff, Int.reduceBEq, Int.reduceLT, Tryz.f21, slV_new, reduceIte, ↓op_extract, tupAt_mk, lenV_sl, Bool.not_true, Bool.not_false, hlen, w0]
    exact Okr.ret ⟨-1, rfl, by omega, by omega, fun q => by omega, Keep.refl _ _⟩
  · simp only [decide_eq_false_iff_not] at qz
    simp (dsimp := false) (disch := (first | (refine dS ?_; kernel_rfl) | (refine dM ?_; kernel_rfl) | (refine dO ?_; simp (disch := ((try simp only [ZL]) <;> omega)) only [ZK, ZL]; done) | (refine dK ?_; (repeat first | exact Keep.refl _ _ | exact Keep.app _ _ (Nat.le_refl _) | assumption | refine Keep.ap ?_ | refine Keep.st (by first | omega | (simp only [ZL]; omega)) ?_); done) | ((try simp only [ZL]) <;> omega) | fail)) only [XOB, ↓XXs, ↓XD, ↓YX, ZB, Nat.reduceAdd, Nat.reducePow, ↓reduceIte, eq_self, Int.reduceEq, Nat.reduceEqDiff, Nat.reduceMul, Nat.reduceLeDiff, Int.reduceBEq, Int.reduceLT, Tryz.f21, slV_new, reduceIte, ↓op_extract, tupAt_mk, lenV_sl, Bool.not_true, Bool.not_false, hlen, w0]
    refine Okr.mono (L21 v l h hl xs q (by omega) hf k hk.2 xs [] (k - (xs.length : Int)) h rfl (by omega) (by omega) (Keep.refl _ _)) ?_
    rintro v' h' ⟨y, rfl, y1, y2, y3, y4⟩
    exact ⟨y, rfl, y1, y2, fun q => ⟨by omega, y3 q⟩, y4⟩
end Go.Abs
namespace Go.Abs
open Go.Proofs
set_option maxRecDepth 100000
set_option linter.unusedSimpArgs false
set_option linter.unusedVariables false
set_option pp.maxSteps 20000
set_option pp.deepTerms true
/-- a room's value, and what it holds -/
structure RmV (h : AH) (R : Rm) (v : Value) : Prop where
  ex : ∃ mv rv, v = (R.ro mv rv).V ∧ Me.Rd h mv R.ms ∧ Rk.Rd h rv R.rs ∧ oneCell mv = true ∧ oneCell rv = true
theorem RmV.keep {h h' : AH} {R : Rm} {v : Value} (q : RmV h R v) (k : Keep h.length h h') : RmV h' R v := by
  obtain ⟨mv, rv, a, b, c, d, e⟩ := q.ex
  exact ⟨mv, rv, a, b.keep k, c.keep k, d, e⟩
theorem Me.Rd.one {h : AH} {v : Value} {xs : List Me} (q : Me.Rd h v xs) : oneCell v = true := by rcases q with ⟨rfl, _⟩ | ⟨_, _, _, rfl, _⟩ <;> rfl
theorem Rk.Rd.one {h : AH} {v : Value} {xs : List Rk} (q : Rk.Rd h v xs) : oneCell v = true := by rcases q with ⟨rfl, _⟩ | ⟨_, _, _, rfl, _⟩ <;> rfl
set_option maxHeartbeats 4000000 in
theorem r9 (R : Rm) (sm : R.Sm) (mv rv : Value) (l : Nat) (h : AH) (hl : l ≤ h.length) (qm : Me.Rd h mv R.ms) (qr : Rk.Rd h rv R.rs) :
    Okr (fun v h' => RmV h' R v ∧ Keep h.length h h') (run V0 (.fn 9) l [S (R.ro mv rv).V] h) := by
  have hm := sm.m
  have hr := sm.k
  refine okr_fn Tryz.func9 rfl rfl rfl rfl ?_
  simp (dsimp := false) (disch := (first | (refine dS ?_; kernel_rfl) | (refine dM ?_; kernel_rfl) | (refine dO ?_; simp (disch := ((try simp only [ZL]) <;> omega)) only [ZK, ZL]; done) | (refine dK ?_; (repeat first | exact Keep.refl _ _ | exact Keep.app _ _ (Nat.le_refl _) | assumption | refine Keep.ap ?_ | refine Keep.st (by first | omega | (simp only [ZL]; omega)) ?_); done) | ((try simp only [ZL]) <;> omega) | fail)) only [XOB, ↓XXs, ↓XD, ↓YX, ZB, Nat.reduceAdd, Nat.reducePow, ↓reduceIte, eq_self, Int.reduceEq, Nat.reduceEqDiff, Nat.reduceMul, Nat.reduceLeDiff, Int.reduceBEq, Int.reduceLT, Tryz.f9, ↓XH2, XRN, ZC, ZE, ZH, eq_self, Nat.reduceLeDiff, Nat.reduceBEq, slV_new, reduceIte, ↓op_extract, tupAt_mk, lenV_sl, Bool.not_true, Bool.not_false]
  have kx : Keep h.length h (h ++ [AObj.row 0 5 [sV R.name, iV R.next, mv, rv, sV R.sub], AObj.row 0 5 [sV [], iV 0, .slice none 0 0, .slice none 0 0, sV []], AObj.row 0 5 [sV R.name, iV R.next, .slice none 0 0, .slice none 0 0, sV []]]) := Keep.app _ _ (Nat.le_refl _)
  refine okr_call (r24 mv l R.ms _ (qm.keep kx) (by omega) (by simp; omega)) ?_
  rintro _ h1 ⟨im, rfl, em, k1⟩
  have e0 : h1[h.length]? = some (.row 0 5 [sV R.name, iV R.next, mv, rv, sV R.sub]) := k1.get (by simp) (by simp)
  have e2 : h1[h.length + 2]? = some (.row 0 5 [sV R.name, iV R.next, .slice none 0 0, .slice none 0 0, sV []]) := k1.get (by simp) (by simp)
  have hl1 := k1.1
  simp only [List.length_append, List.length_cons, List.length_nil, Nat.zero_add] at hl1
  have o1 : oneCell (slV im 0 R.ms.length R.ms.length) = true := rfl
  have hne : h.length + 2 ≠ h.length := by omega
  have n5 : ∀ a b c d e : Value, [a, b, c, d, e].length = 5 := fun _ _ _ _ _ => rfl
  have le3 : (3 ≤ 5) = True := by simp
  have le4 : (4 ≤ 5) = True := by simp
  have f0 : ∀ X, (h1.set (h.length + 2) X)[h.length]? = some (.row 0 5 [sV R.name, iV R.next, mv, rv, sV R.sub]) := fun X => by rw [List.getElem?_set_ne hne, e0]
  have him : h.length + 3 ≤ im ∨ True := .inr trivial
  simp (dsimp := false) (disch := (first | (refine dS ?_; kernel_rfl) | (refine dM ?_; kernel_rfl) | (refine dO ?_; simp (disch := ((try simp only [ZL]) <;> omega)) only [ZK, ZL]; done) | (refine dK ?_; (repeat first | exact Keep.refl _ _ | exact Keep.app _ _ (Nat.le_refl _) | assumption | refine Keep.ap ?_ | refine Keep.st (by first | omega | (simp only [ZL]; omega)) ?_); done) | ((try simp only [ZL]) <;> omega) | fail)) only [XOB, ↓XXs, ↓XD, ↓YX, ZB, Nat.reduceAdd, Nat.reducePow, ↓reduceIte, eq_self, Int.reduceEq, Nat.reduceEqDiff, Nat.reduceMul, Nat.reduceLeDiff, Int.reduceBEq, Int.reduceLT, Tryz.f9, ↓XH2, XRN, ZC, ZE, ZH, eq_self, Nat.reduceLeDiff, Nat.reduceBEq, slV_new, reduceIte, ↓op_extract, tupAt_mk, lenV_sl, Bool.not_true, Bool.not_false, e0, e2, o1, f0, decide_true, n5, le3, and_self, if_true]
  have him2 : im ≠ h.length + 2 := fun q => by rw [q, e2] at em; cases em
  have K1 : Keep h.length h h1 := kx.trans (k1.le kx.1)
  have K2 : Keep h.length h (h1.set (h.length + 2) (.row 0 5 [sV R.name, iV R.next, slV im 0 R.ms.length R.ms.length, .slice none 0 0, sV []])) := K1.trans (Keep.set _ _ _ (by omega))
  refine okr_call (r25 rv l R.rs _ (qr.keep K2) (by omega) (by have := K2.1; omega)) ?_
  rintro _ h3 ⟨ik, rfl, ek, k3⟩
  have K3 : Keep h.length h h3 := K2.trans (k3.le K2.1)
  have e30 : h3[h.length]? = some (.row 0 5 [sV R.name, iV R.next, mv, rv, sV R.sub]) := k3.get (f0 _) (by simp; omega)
  have e32 : h3[h.length + 2]? = some (.row 0 5 [sV R.name, iV R.next, slV im 0 R.ms.length R.ms.length, .slice none 0 0, sV []]) := k3.get (List.getElem?_set_self (by omega)) (by simp; omega)
  have e3m : h3[im]? = some (.row 0 3 (Me.R R.ms)) := k3.get (by rw [List.getElem?_set_ne him2.symm]; exact em) (by simp; exact lt_of_get em)
  have hik : ik ≠ h.length + 2 := fun q => by rw [q, e32] at ek; cases ek
  have hl3 := lt_of_get e32
  have o2 : oneCell (slV ik 0 R.rs.length R.rs.length) = true := rfl
  have g0 : ∀ X, (h3.set (h.length + 2) X)[h.length]? = some (.row 0 5 [sV R.name, iV R.next, mv, rv, sV R.sub]) := fun X => by rw [List.getElem?_set_ne hne, e30]
  have g2 : ∀ X, (h3.set (h.length + 2) X)[h.length + 2]? = some X := fun X => List.getElem?_set_self hl3
  have le5 : (5 ≤ 5) = True := by simp
  have c4 : ∀ a b c d e : Value, [a, b, c, d, e][4]? = some e := fun _ _ _ _ _ => rfl
  simp (dsimp := false) (disch := (first | (refine dS ?_; kernel_rfl) | (refine dM ?_; kernel_rfl) | (refine dO ?_; simp (disch := ((try simp only [ZL]) <;> omega)) only [ZK, ZL]; done) | (refine dK ?_; (repeat first | exact Keep.refl _ _ | exact Keep.app _ _ (Nat.le_refl _) | assumption | refine Keep.ap ?_ | refine Keep.st (by first | omega | (simp only [ZL]; omega)) ?_); done) | ((try simp only [ZL]) <;> omega) | fail)) only [XOB, ↓XXs, ↓XD, ↓YX, ZB, Nat.reduceAdd, Nat.reducePow, ↓reduceIte, eq_self, Int.reduceEq, Nat.reduceEqDiff, Nat.reduceMul, Nat.reduceLeDiff, Int.reduceBEq, Int.reduceLT, Tryz.f9, ↓XH2, XRN, ZC, ZE, ZH, eq_self, Nat.reduceLeDiff, Nat.reduceBEq, slV_new, reduceIte, ↓op_extract, tupAt_mk, lenV_sl, Bool.not_true, Bool.not_false, e30, e32, o2, g0, g2, decide_true, n5, le4, le5, and_self, if_true, List.set_set, c4]
  have e11 : h1[h.length + 1]? = some (.row 0 5 [sV [], iV 0, .slice none 0 0, .slice none 0 0, sV []]) := k1.get (by simp) (by simp)
  have e31 : h3[h.length + 1]? = some (.row 0 5 [sV [], iV 0, .slice none 0 0, .slice none 0 0, sV []]) := k3.get (by rw [List.getElem?_set_ne (by omega)]; exact e11) (by simp; omega)
  have him1 : im ≠ h.length + 1 := fun q => by rw [q, e11] at em; cases em
  have hik1 : ik ≠ h.length + 1 := fun q => by rw [q, e31] at ek; cases ek
  have g1 : ∀ X Y, ((h3.set (h.length + 2) X).set (h.length + 1) Y)[h.length + 1]? = some Y := fun X Y => List.getElem?_set_self (by simp; exact lt_of_get e31)
  have tk : ∀ a b c d e : Value, List.take 5 [a, b, c, d, e] = [a, b, c, d, e] := fun _ _ _ _ _ => rfl
  have st : ∀ a b c d e a' b' c' d' e' : Value, ((((([a, b, c, d, e].set 0 a').set 1 b').set 2 c').set 3 d').set 4 e') = [a', b', c', d', e'] := fun _ _ _ _ _ _ _ _ _ _ => rfl
  simp only [e31, decide_true, n5, le5, if_true, g1, st, tk]
  refine Okr.ret ⟨⟨slV im 0 R.ms.length R.ms.length, slV ik 0 R.rs.length R.rs.length, rfl, .inr ⟨im, 0, _, rfl, ?_⟩, .inr ⟨ik, 0, _, rfl, ?_⟩, rfl, rfl⟩, ?_⟩
  · rw [List.getElem?_set_ne him1.symm, List.getElem?_set_ne him2.symm]; exact e3m
  · rw [List.getElem?_set_ne hik1.symm, List.getElem?_set_ne hik.symm]; exact ek
  · exact (K3.trans (Keep.set _ _ _ (by omega))).trans (Keep.set _ _ _ (by omega))
set_option maxHeartbeats 4000000 in
theorem r11 (R : Rm) (sm : R.Sm) (va vb : Value) (l : Nat) (h : AH) (hl : l ≤ h.length) (qa : RmV h R va) (qb : RmV h R vb) :
    Okr (VQ (.bool true) h) (run V0 (.fn 11) l [S va, S vb] h) := by
  have hm := sm.m
  have hr := sm.k
  obtain ⟨mv, rv, rfl, qm, qr, -, -⟩ := qa.ex
  obtain ⟨mv', rv', rfl, qm', qr', -, -⟩ := qb.ex
  have hne : (R.next != R.next) = false := by simp
  have n5 : ∀ a b c d e : Value, [a, b, c, d, e].length = 5 := fun _ _ _ _ _ => rfl
  have c2 : ∀ a b c d e : Value, [a, b, c, d, e][2]? = some c := fun _ _ _ _ _ => rfl
  have c3 : ∀ a b c d e : Value, [a, b, c, d, e][3]? = some d := fun _ _ _ _ _ => rfl
  have c4 : ∀ a b c d e : Value, [a, b, c, d, e][4]? = some e := fun _ _ _ _ _ => rfl
  have kx : Keep h.length h (h ++ [AObj.row 0 5 [sV R.name, iV R.next, mv, rv, sV R.sub], AObj.row 0 5 [sV R.name, iV R.next, mv', rv', sV R.sub]]) := Keep.app _ _ (Nat.le_refl _)
  refine okr_fn Tryz.func11 rfl rfl rfl rfl ?_
  simp (dsimp := false) (disch := (first | (refine dS ?_; kernel_rfl) | (refine dM ?_; kernel_rfl) | (refine dO ?_; simp (disch := ((try simp only [ZL]) <;> omega)) only [ZK, ZL]; done) | (refine dK ?_; (repeat first | exact Keep.refl _ _ | exact Keep.app _ _ (Nat.le_refl _) | assumption | refine Keep.ap ?_ | refine Keep.st (by first | omega | (simp only [ZL]; omega)) ?_); done) | ((try simp only [ZL]) <;> omega) | fail)) only [XOB, ↓XXs, ↓XD, ↓YX, ZB, Nat.reduceAdd, Nat.reducePow, ↓reduceIte, eq_self, Int.reduceEq, Nat.reduceEqDiff, Nat.reduceMul, Nat.reduceLeDiff, Int.reduceBEq, Int.reduceLT, Tryz.f11, ↓XH2, XRN, ZC, ZE, ZH, eq_self, Nat.reduceLeDiff, Nat.reduceBEq, slV_new, reduceIte, ↓op_extract, tupAt_mk, lenV_sl, Bool.not_true, Bool.not_false, hne]
  refine okr_call (r29 mv mv' l R.ms _ (qm.keep kx) (qm'.keep kx) (by omega) (by simp; omega)) ?_
  rintro _ h1 ⟨rfl, k1⟩
  have ea : h1[h.length]? = some (.row 0 5 [sV R.name, iV R.next, mv, rv, sV R.sub]) := k1.get (by simp) (by simp)
  have eb : h1[h.length + 1]? = some (.row 0 5 [sV R.name, iV R.next, mv', rv', sV R.sub]) := k1.get (by simp) (by simp)
  have K1 := kx.trans (k1.le kx.1)
  simp (dsimp := false) (disch := (first | (refine dS ?_; kernel_rfl) | (refine dM ?_; kernel_rfl) | (refine dO ?_; simp (disch := ((try simp only [ZL]) <;> omega)) only [ZK, ZL]; done) | (refine dK ?_; (repeat first | exact Keep.refl _ _ | exact Keep.app _ _ (Nat.le_refl _) | assumption | refine Keep.ap ?_ | refine Keep.st (by first | omega | (simp only [ZL]; omega)) ?_); done) | ((try simp only [ZL]) <;> omega) | fail)) only [XOB, ↓XXs, ↓XD, ↓YX, ZB, Nat.reduceAdd, Nat.reducePow, ↓reduceIte, eq_self, Int.reduceEq, Nat.reduceEqDiff, Nat.reduceMul, Nat.reduceLeDiff, Int.reduceBEq, Int.reduceLT, Tryz.f11, ↓XH2, XRN, ZC, ZE, ZH, eq_self, Nat.reduceLeDiff, Nat.reduceBEq, slV_new, reduceIte, ↓op_extract, tupAt_mk, lenV_sl, Bool.not_true, Bool.not_false, hne, ea, eb, c2, c3, c4]
  refine okr_call (r30 rv rv' l R.rs _ (qr.keep K1) (qr'.keep K1) (by omega) (by have := K1.1; omega)) ?_
  rintro _ h2 ⟨rfl, k2⟩
  have ea2 := k2.get ea (lt_of_get ea)
  have eb2 := k2.get eb (lt_of_get eb)
  simp (dsimp := false) (disch := (first | (refine dS ?_; kernel_rfl) | (refine dM ?_; kernel_rfl) | (refine dO ?_; simp (disch := ((try simp only [ZL]) <;> omega)) only [ZK, ZL]; done) | (refine dK ?_; (repeat first | exact Keep.refl _ _ | exact Keep.app _ _ (Nat.le_refl _) | assumption | refine Keep.ap ?_ | refine Keep.st (by first | omega | (simp only [ZL]; omega)) ?_); done) | ((try simp only [ZL]) <;> omega) | fail)) only [XOB, ↓XXs, ↓XD, ↓YX, ZB, Nat.reduceAdd, Nat.reducePow, ↓reduceIte, eq_self, Int.reduceEq, Nat.reduceEqDiff, Nat.reduceMul, Nat.reduceLeDiff, Int.reduceBEq, Int.reduceLT, Tryz.f11, ↓XH2, XRN, ZC, ZE, ZH, eq_self, Nat.reduceLeDiff, Nat.reduceBEq, slV_new, reduceIte, ↓op_extract, tupAt_mk, lenV_sl, Bool.not_true, Bool.not_false, hne, ea2, eb2, c2, c3, c4]
  exact Okr.ret ⟨rfl, K1.trans (k2.le K1.1)⟩
/-- texts that an input can have -/
structure Rm.F63 (R : Rm) : Prop where
  nm : R.name.length ≤ 9223372036854775807
  sb : R.sub.length ≤ 9223372036854775807
  m : R.ms.length ≤ 9223372036854775807
  k : R.rs.length ≤ 9223372036854775807
  ms : ∀ x ∈ R.ms, x.F63
  rs : ∀ x ∈ R.rs, x.F63
set_option maxHeartbeats 4000000 in
theorem r7 (R : Rm) (f : R.F63) (mv rv : Value) (k : Int) (hk : 0 ≤ k ∧ k ≤ 2 ^ 20) (l : Nat) (h : AH) (hl : l ≤ h.length) (qm : Me.Rd h mv R.ms) (qr : Rk.Rd h rv R.rs) :
    Okr (fun v h' => ∃ z : Int, v = iV z ∧ (0 ≤ z → R.Sm) ∧ Keep h.length h h') (run V0 (.fn 7) l [S (R.ro mv rv).V, S (iV k)] h) := by
  have f1 := f.nm
  have f2 := f.sb
  have c2 : ∀ a b c d e : Value, [a, b, c, d, e][2]? = some c := fun _ _ _ _ _ => rfl
  have c3 : ∀ a b c d e : Value, [a, b, c, d, e][3]? = some d := fun _ _ _ _ _ => rfl
  have c4 : ∀ a b c d e : Value, [a, b, c, d, e][4]? = some e := fun _ _ _ _ _ => rfl
  have kx : Keep h.length h (h ++ [AObj.row 0 5 [sV R.name, iV R.next, mv, rv, sV R.sub]]) := Keep.app _ _ (Nat.le_refl _)
  have w0 : IntKind.i64.wrap (k - (R.name.length : Int)) = k - (R.name.length : Int) := wrap64 (by omega)
  refine okr_fn Tryz.func7 rfl rfl rfl rfl ?_
  simp (dsimp := false) (disch := (first | (refine dS ?_; kernel_rfl) | (refine dM ?_; kernel_rfl) | (refine dO ?_; simp (disch := ((try simp only [ZL]) <;> omega)) only [ZK, ZL]; done) | (refine dK ?_; (repeat first | exact Keep.refl _ _ | exact Keep.app _ _ (Nat.le_refl _) | assumption | refine Keep.ap ?_ | refine Keep.st (by first | omega | (simp only [ZL]; omega)) ?_); done) | ((try simp only [ZL]) <;> omega) | fail)) only [XOB, ↓XXs, ↓XD, ↓YX, ZB, Nat.reduceAdd, Nat.reducePow, ↓reduceIte, eq_self, Int.reduceEq, Nat.reduceEqDiff, Nat.reduceMul, Nat.reduceLeDiff, Int.reduceBEq, Int.reduceLT, Tryz.f7, ↓XH2, XRN, ZC, ZE, ZH, eq_self, Nat.reduceLeDiff, Nat.reduceBEq, slV_new, reduceIte, ↓op_extract, tupAt_mk, lenV_sl, Bool.not_true, Bool.not_false, size_B, w0]
  with_reducible refine okr_if (fun q0 => ?_) (fun q0 => ?_)
  · simp (dsimp := false) (disch := (first | (refine dS ?_; kernel_rfl) | (refine dM ?_; kernel_rfl) | (refine dO ?_; simp (disch := ((try simp only [ZL]) <;> omega)) only [ZK, ZL]; done) | (refine dK ?_; (repeat first | exact Keep.refl _ _ | exact Keep.app _ _ (Nat.le_refl _) | assumption | refine Keep.ap ?_ | refine Keep.st (by first | omega | (simp only [ZL]; omega)) ?_); done) | ((try simp only [ZL]) <;> omega) | fail)) only [XOB, ↓XXs, ↓XD, ↓YX, ZB, Nat.reduceAdd, Nat.reducePow, ↓reduceIte, eq_self, Int.reduceEq, Nat.reduceEqDiff, Nat.reduceMul, Nat.reduceLeDiff, Int.reduceBEq, Int.reduceLT, Tryz.f7, ↓XH2, XRN, ZC, ZE, ZH, eq_self, Nat.reduceLeDiff, Nat.reduceBEq, slV_new, reduceIte, ↓op_extract, tupAt_mk, lenV_sl, Bool.not_true, Bool.not_false]
    exact Okr.ret ⟨-1, rfl, fun q => by omega, kx⟩
  · simp only [decide_eq_false_iff_not] at q0
    simp (dsimp := false) (disch := (first | (refine dS ?_; kernel_rfl) | (refine dM ?_; kernel_rfl) | (refine dO ?_; simp (disch := ((try simp only [ZL]) <;> omega)) only [ZK, ZL]; done) | (refine dK ?_; (repeat first | exact Keep.refl _ _ | exact Keep.app _ _ (Nat.le_refl _) | assumption | refine Keep.ap ?_ | refine Keep.st (by first | omega | (simp only [ZL]; omega)) ?_); done) | ((try simp only [ZL]) <;> omega) | fail)) only [XOB, ↓XXs, ↓XD, ↓YX, ZB, Nat.reduceAdd, Nat.reducePow, ↓reduceIte, eq_self, Int.reduceEq, Nat.reduceEqDiff, Nat.reduceMul, Nat.reduceLeDiff, Int.reduceBEq, Int.reduceLT, Tryz.f7, ↓XH2, XRN, ZC, ZE, ZH, eq_self, Nat.reduceLeDiff, Nat.reduceBEq, slV_new, reduceIte, ↓op_extract, tupAt_mk, lenV_sl, Bool.not_true, Bool.not_false]
    refine okr_call (r20 mv l R.ms _ (qm.keep kx) f.m f.ms _ ⟨by omega, by omega⟩ (by simp; omega)) ?_
    rintro _ h1 ⟨z1, rfl, y1, y2, y3, k1⟩
    have ea : h1[h.length]? = some (.row 0 5 [sV R.name, iV R.next, mv, rv, sV R.sub]) := k1.get (by simp) (by simp)
    have K1 := kx.trans (k1.le kx.1)
    simp (dsimp := false) (disch := (first | (refine dS ?_; kernel_rfl) | (refine dM ?_; kernel_rfl) | (refine dO ?_; simp (disch := ((try simp only [ZL]) <;> omega)) only [ZK, ZL]; done) | (refine dK ?_; (repeat first | exact Keep.refl _ _ | exact Keep.app _ _ (Nat.le_refl _) | assumption | refine Keep.ap ?_ | refine Keep.st (by first | omega | (simp only [ZL]; omega)) ?_); done) | ((try simp only [ZL]) <;> omega) | fail)) only [XOB, ↓XXs, ↓XD, ↓YX, ZB, Nat.reduceAdd, Nat.reducePow, ↓reduceIte, eq_self, Int.reduceEq, Nat.reduceEqDiff, Nat.reduceMul, Nat.reduceLeDiff, Int.reduceBEq, Int.reduceLT, Tryz.f7, ↓XH2, XRN, ZC, ZE, ZH, eq_self, Nat.reduceLeDiff, Nat.reduceBEq, slV_new, reduceIte, ↓op_extract, tupAt_mk, lenV_sl, Bool.not_true, Bool.not_false, ea, c2, c3, c4]
    with_reducible refine okr_if (fun q1 => ?_) (fun q1 => ?_)
    · simp (dsimp := false) (disch := (first | (refine dS ?_; kernel_rfl) | (refine dM ?_; kernel_rfl) | (refine dO ?_; simp (disch := ((try simp only [ZL]) <;> omega)) only [ZK, ZL]; done) | (refine dK ?_; (repeat first | exact Keep.refl _ _ | exact Keep.app _ _ (Nat.le_refl _) | assumption | refine Keep.ap ?_ | refine Keep.st (by first | omega | (simp only [ZL]; omega)) ?_); done) | ((try simp only [ZL]) <;> omega) | fail)) only [XOB, ↓XXs, ↓XD, ↓YX, ZB, Nat.reduceAdd, Nat.reducePow, ↓reduceIte, eq_self, Int.reduceEq, Nat.reduceEqDiff, Nat.reduceMul, Nat.reduceLeDiff, Int.reduceBEq, Int.reduceLT, Tryz.f7, ↓XH2, XRN, ZC, ZE, ZH, eq_self, Nat.reduceLeDiff, Nat.reduceBEq, slV_new, reduceIte, ↓op_extract, tupAt_mk, lenV_sl, Bool.not_true, Bool.not_false]
      exact Okr.ret ⟨-1, rfl, fun q => by omega, K1⟩
    · simp only [decide_eq_false_iff_not] at q1
      simp (dsimp := false) (disch := (first | (refine dS ?_; kernel_rfl) | (refine dM ?_; kernel_rfl) | (refine dO ?_; simp (disch := ((try simp only [ZL]) <;> omega)) only [ZK, ZL]; done) | (refine dK ?_; (repeat first | exact Keep.refl _ _ | exact Keep.app _ _ (Nat.le_refl _) | assumption | refine Keep.ap ?_ | refine Keep.st (by first | omega | (simp only [ZL]; omega)) ?_); done) | ((try simp only [ZL]) <;> omega) | fail)) only [XOB, ↓XXs, ↓XD, ↓YX, ZB, Nat.reduceAdd, Nat.reducePow, ↓reduceIte, eq_self, Int.reduceEq, Nat.reduceEqDiff, Nat.reduceMul, Nat.reduceLeDiff, Int.reduceBEq, Int.reduceLT, Tryz.f7, ↓XH2, XRN, ZC, ZE, ZH, eq_self, Nat.reduceLeDiff, Nat.reduceBEq, slV_new, reduceIte, ↓op_extract, tupAt_mk, lenV_sl, Bool.not_true, Bool.not_false, ea, c2, c3, c4]
      refine okr_call (r21 rv l R.rs _ (qr.keep K1) f.k f.rs _ ⟨by omega, by omega⟩ (by have := K1.1; omega)) ?_
      rintro _ h2 ⟨z2, rfl, x1, x2, x3, k2⟩
      have ea2 := k2.get ea (lt_of_get ea)
      have K2 := K1.trans (k2.le K1.1)
      simp (dsimp := false) (disch := (first | (refine dS ?_; kernel_rfl) | (refine dM ?_; kernel_rfl) | (refine dO ?_; simp (disch := ((try simp only [ZL]) <;> omega)) only [ZK, ZL]; done) | (refine dK ?_; (repeat first | exact Keep.refl _ _ | exact Keep.app _ _ (Nat.le_refl _) | assumption | refine Keep.ap ?_ | refine Keep.st (by first | omega | (simp only [ZL]; omega)) ?_); done) | ((try simp only [ZL]) <;> omega) | fail)) only [XOB, ↓XXs, ↓XD, ↓YX, ZB, Nat.reduceAdd, Nat.reducePow, ↓reduceIte, eq_self, Int.reduceEq, Nat.reduceEqDiff, Nat.reduceMul, Nat.reduceLeDiff, Int.reduceBEq, Int.reduceLT, Tryz.f7, ↓XH2, XRN, ZC, ZE, ZH, eq_self, Nat.reduceLeDiff, Nat.reduceBEq, slV_new, reduceIte, ↓op_extract, tupAt_mk, lenV_sl, Bool.not_true, Bool.not_false, ea2, c2, c3, c4]
      with_reducible refine okr_if (fun q2 => ?_) (fun q2 => ?_)
      · simp (dsimp := false) (disch := (first | (refine dS ?_; kernel_rfl) | (refine dM ?_; kernel_rfl) | (refine dO ?_; simp (disch := ((try simp only [ZL]) <;> omega)) only [ZK, ZL]; done) | (refine dK ?_; (repeat first | exact Keep.refl _ _ | exact Keep.app _ _ (Nat.le_refl _) | assumption | refine Keep.ap ?_ | refine Keep.st (by first | omega | (simp only [ZL]; omega)) ?_); done) | ((try simp only [ZL]) <;> omega) | fail)) only [XOB, ↓XXs, ↓XD, ↓YX, ZB, Nat.reduceAdd, Nat.reducePow, ↓reduceIte, eq_self, Int.reduceEq, Nat.reduceEqDiff, Nat.reduceMul, Nat.reduceLeDiff, Int.reduceBEq, Int.reduceLT, Tryz.f7, ↓XH2, XRN, ZC, ZE, ZH, eq_self, Nat.reduceLeDiff, Nat.reduceBEq, slV_new, reduceIte, ↓op_extract, tupAt_mk, lenV_sl, Bool.not_true, Bool.not_false]
        exact Okr.ret ⟨-1, rfl, fun q => by omega, K2⟩
      · simp only [decide_eq_false_iff_not] at q2
        have w1 : IntKind.i64.wrap (z2 - (R.sub.length : Int)) = z2 - (R.sub.length : Int) := wrap64 (by omega)
        simp (dsimp := false) (disch := (first | (refine dS ?_; kernel_rfl) | (refine dM ?_; kernel_rfl) | (refine dO ?_; simp (disch := ((try simp only [ZL]) <;> omega)) only [ZK, ZL]; done) | (refine dK ?_; (repeat first | exact Keep.refl _ _ | exact Keep.app _ _ (Nat.le_refl _) | assumption | refine Keep.ap ?_ | refine Keep.st (by first | omega | (simp only [ZL]; omega)) ?_); done) | ((try simp only [ZL]) <;> omega) | fail)) only [XOB, ↓XXs, ↓XD, ↓YX, ZB, Nat.reduceAdd, Nat.reducePow, ↓reduceIte, eq_self, Int.reduceEq, Nat.reduceEqDiff, Nat.reduceMul, Nat.reduceLeDiff, Int.reduceBEq, Int.reduceLT, Tryz.f7, ↓XH2, XRN, ZC, ZE, ZH, eq_self, Nat.reduceLeDiff, Nat.reduceBEq, slV_new, reduceIte, ↓op_extract, tupAt_mk, lenV_sl, Bool.not_true, Bool.not_false, ea2, c2, c3, c4, size_B, w1]
        with_reducible refine okr_if (fun q3 => ?_) (fun q3 => ?_)
        · simp (dsimp := false) (disch := (first | (refine dS ?_; kernel_rfl) | (refine dM ?_; kernel_rfl) | (refine dO ?_; simp (disch := ((try simp only [ZL]) <;> omega)) only [ZK, ZL]; done) | (refine dK ?_; (repeat first | exact Keep.refl _ _ | exact Keep.app _ _ (Nat.le_refl _) | assumption | refine Keep.ap ?_ | refine Keep.st (by first | omega | (simp only [ZL]; omega)) ?_); done) | ((try simp only [ZL]) <;> omega) | fail)) only [XOB, ↓XXs, ↓XD, ↓YX, ZB, Nat.reduceAdd, Nat.reducePow, ↓reduceIte, eq_self, Int.reduceEq, Nat.reduceEqDiff, Nat.reduceMul, Nat.reduceLeDiff, Int.reduceBEq, Int.reduceLT, Tryz.f7, ↓XH2, XRN, ZC, ZE, ZH, eq_self, Nat.reduceLeDiff, Nat.reduceBEq, slV_new, reduceIte, ↓op_extract, tupAt_mk, lenV_sl, Bool.not_true, Bool.not_false]
          exact Okr.ret ⟨-1, rfl, fun q => by omega, K2⟩
        · simp only [decide_eq_false_iff_not] at q3
          simp (dsimp := false) (disch := (first | (refine dS ?_; kernel_rfl) | (refine dM ?_; kernel_rfl) | (refine dO ?_; simp (disch := ((try simp only [ZL]) <;> omega)) only [ZK, ZL]; done) | (refine dK ?_; (repeat first | exact Keep.refl _ _ | exact Keep.app _ _ (Nat.le_refl _) | assumption | refine Keep.ap ?_ | refine Keep.st (by first | omega | (simp only [ZL]; omega)) ?_); done) | ((try simp only [ZL]) <;> omega) | fail)) only [XOB, ↓XXs, ↓XD, ↓YX, ZB, Nat.reduceAdd, Nat.reducePow, ↓reduceIte, eq_self, Int.reduceEq, Nat.reduceEqDiff, Nat.reduceMul, Nat.reduceLeDiff, Int.reduceBEq, Int.reduceLT, Tryz.f7, ↓XH2, XRN, ZC, ZE, ZH, eq_self, Nat.reduceLeDiff, Nat.reduceBEq, slV_new, reduceIte, ↓op_extract, tupAt_mk, lenV_sl, Bool.not_true, Bool.not_false, size_B, w1]
          obtain ⟨y4, y5⟩ := y3 (by omega)
          obtain ⟨x4, x5⟩ := x3 (by omega)
          refine Okr.ret ⟨_, rfl, fun _ => ⟨by omega, by omega, by omega, by omega, fun x hx => ?_, fun x hx => ?_⟩, K2⟩
          · have := y5 x hx
            unfold Me.Ln at this
            omega
          · have := x5 x hx
            unfold Rk.Ln at this
            omega
set_option maxHeartbeats 4000000 in
theorem r3 (R : Rm) (f : R.F63) (mv rv : Value) (l : Nat) (h : AH) (hl : l ≤ h.length) (qm : Me.Rd h mv R.ms) (qr : Rk.Rd h rv R.rs) :
    Okr (fun v _ => v = .bool true) (run V0 (.fn 3) l [S (R.ro mv rv).V] h) := by
  refine okr_fn Tryz.func3 rfl rfl rfl rfl ?_
  simp (dsimp := false) (disch := (first | (refine dS ?_; kernel_rfl) | (refine dM ?_; kernel_rfl) | (refine dO ?_; simp (disch := ((try simp only [ZL]) <;> omega)) only [ZK, ZL]; done) | (refine dK ?_; (repeat first | exact Keep.refl _ _ | exact Keep.app _ _ (Nat.le_refl _) | assumption | refine Keep.ap ?_ | refine Keep.st (by first | omega | (simp only [ZL]; omega)) ?_); done) | ((try simp only [ZL]) <;> omega) | fail)) only [XOB, ↓XXs, ↓XD, ↓YX, ZB, Nat.reduceAdd, Nat.reducePow, ↓reduceIte, eq_self, Int.reduceEq, Nat.reduceEqDiff, Nat.reduceMul, Nat.reduceLeDiff, Int.reduceBEq, Int.reduceLT, Tryz.f3, ↓XH2, XRN, ZC, ZE, ZH, eq_self, Nat.reduceLeDiff, Nat.reduceBEq, slV_new, reduceIte, ↓op_extract, tupAt_mk, lenV_sl, Bool.not_true, Bool.not_false]
  have kx : Keep h.length h (h ++ [AObj.row 0 5 [sV R.name, iV R.next, mv, rv, sV R.sub]]) := Keep.app _ _ (Nat.le_refl _)
  refine okr_call (r7 R f mv rv 1048576 ⟨by omega, by omega⟩ l _ (by simp; omega) (qm.keep kx) (qr.keep kx)) ?_
  rintro _ h1 ⟨z, rfl, z1, k1⟩
  have e1 : h1[h.length]? = some (.row 0 5 [sV R.name, iV R.next, mv, rv, sV R.sub]) := k1.get (by simp) (by simp)
  have K1 := kx.trans (k1.le kx.1)
  simp (dsimp := false) (disch := (first | (refine dS ?_; kernel_rfl) | (refine dM ?_; kernel_rfl) | (refine dO ?_; simp (disch := ((try simp only [ZL]) <;> omega)) only [ZK, ZL]; done) | (refine dK ?_; (repeat first | exact Keep.refl _ _ | exact Keep.app _ _ (Nat.le_refl _) | assumption | refine Keep.ap ?_ | refine Keep.st (by first | omega | (simp only [ZL]; omega)) ?_); done) | ((try simp only [ZL]) <;> omega) | fail)) only [XOB, ↓XXs, ↓XD, ↓YX, ZB, Nat.reduceAdd, Nat.reducePow, ↓reduceIte, eq_self, Int.reduceEq, Nat.reduceEqDiff, Nat.reduceMul, Nat.reduceLeDiff, Int.reduceBEq, Int.reduceLT, Tryz.f3, ↓XH2, XRN, ZC, ZE, ZH, eq_self, Nat.reduceLeDiff, Nat.reduceBEq, slV_new, reduceIte, ↓op_extract, tupAt_mk, lenV_sl, Bool.not_true, Bool.not_false, e1]
  with_reducible refine okr_if (fun q0 => ?_) (fun q0 => ?_)
  · simp (dsimp := false) (disch := (first | (refine dS ?_; kernel_rfl) | (refine dM ?_; kernel_rfl) | (refine dO ?_; simp (disch := ((try simp only [ZL]) <;> omega)) only [ZK, ZL]; done) | (refine dK ?_; (repeat first | exact Keep.refl _ _ | exact Keep.app _ _ (Nat.le_refl _) | assumption | refine Keep.ap ?_ | refine Keep.st (by first | omega | (simp only [ZL]; omega)) ?_); done) | ((try simp only [ZL]) <;> omega) | fail)) only [XOB, ↓XXs, ↓XD, ↓YX, ZB, Nat.reduceAdd, Nat.reducePow, ↓reduceIte, eq_self, Int.reduceEq, Nat.reduceEqDiff, Nat.reduceMul, Nat.reduceLeDiff, Int.reduceBEq, Int.reduceLT, Tryz.f3, ↓XH2, XRN, ZC, ZE, ZH, eq_self, Nat.reduceLeDiff, Nat.reduceBEq, slV_new, reduceIte, ↓op_extract, tupAt_mk, lenV_sl, Bool.not_true, Bool.not_false]
    exact Okr.ret rfl
  · simp only [decide_eq_false_iff_not] at q0
    have sm := z1 (by omega)
    simp (dsimp := false) (disch := (first | (refine dS ?_; kernel_rfl) | (refine dM ?_; kernel_rfl) | (refine dO ?_; simp (disch := ((try simp only [ZL]) <;> omega)) only [ZK, ZL]; done) | (refine dK ?_; (repeat first | exact Keep.refl _ _ | exact Keep.app _ _ (Nat.le_refl _) | assumption | refine Keep.ap ?_ | refine Keep.st (by first | omega | (simp only [ZL]; omega)) ?_); done) | ((try simp only [ZL]) <;> omega) | fail)) only [XOB, ↓XXs, ↓XD, ↓YX, ZB, Nat.reduceAdd, Nat.reducePow, ↓reduceIte, eq_self, Int.reduceEq, Nat.reduceEqDiff, Nat.reduceMul, Nat.reduceLeDiff, Int.reduceBEq, Int.reduceLT, Tryz.f3, ↓XH2, XRN, ZC, ZE, ZH, eq_self, Nat.reduceLeDiff, Nat.reduceBEq, slV_new, reduceIte, ↓op_extract, tupAt_mk, lenV_sl, Bool.not_true, Bool.not_false, e1]
    refine okr_call (r9 R sm mv rv l _ (by have := K1.1; omega) (qm.keep K1) (qr.keep K1)) ?_
    rintro v2 h2 ⟨q2, k2⟩
    have K2 := K1.trans (k2.le K1.1)
    have e2 := k2.get e1 (lt_of_get e1)
    obtain ⟨mv2, rv2, rfl, m2, r2, o2, p2⟩ := q2.ex
    refine okr_call (r8 R sm mv2 rv2 l _ (by have := K2.1; omega) m2 r2) ?_
    rintro _ h3 ⟨rfl, k3⟩
    have K3 := K2.trans (k3.le K2.1)
    have e3 := k3.get e2 (lt_of_get e2)
    simp (dsimp := false) (disch := (first | (refine dS ?_; kernel_rfl) | (refine dM ?_; kernel_rfl) | (refine dO ?_; simp (disch := ((try simp only [ZL]) <;> omega)) only [ZK, ZL]; done) | (refine dK ?_; (repeat first | exact Keep.refl _ _ | exact Keep.app _ _ (Nat.le_refl _) | assumption | refine Keep.ap ?_ | refine Keep.st (by first | omega | (simp only [ZL]; omega)) ?_); done) | ((try simp only [ZL]) <;> omega) | fail)) only [XOB, ↓XXs, ↓XD, ↓YX, ZB, Nat.reduceAdd, Nat.reducePow, ↓reduceIte, eq_self, Int.reduceEq, Nat.reduceEqDiff, Nat.reduceMul, Nat.reduceLeDiff, Int.reduceBEq, Int.reduceLT, Tryz.f3, ↓XH2, XRN, ZC, ZE, ZH, eq_self, Nat.reduceLeDiff, Nat.reduceBEq, slV_new, reduceIte, ↓op_extract, tupAt_mk, lenV_sl, Bool.not_true, Bool.not_false, e3]
    refine okr_call (r9 R sm mv rv l _ (by have := K3.1; omega) (qm.keep K3) (qr.keep K3)) ?_
    rintro v4 h4 ⟨q4, k4⟩
    have K4 := K3.trans (k4.le K3.1)
    have e4 := k4.get e3 (lt_of_get e3)
    obtain ⟨mv4, rv4, rfl, m4, r4, o4, p4⟩ := q4.ex
    have n5 : ∀ a b c d e : Value, [a, b, c, d, e].length = 5 := fun _ _ _ _ _ => rfl
    have le5 : (5 ≤ 5) = True := by simp
    have tk : ∀ a b c d e : Value, List.take 5 [a, b, c, d, e] = [a, b, c, d, e] := fun _ _ _ _ _ => rfl
    have hl4 : l ≤ h4.length := by have := K4.1; omega
    have cc : ∀ x : AObj, (h4 ++ [x])[h4.length]? = some x := fun x => List.getElem?_concat_length ..
    simp (dsimp := false) (disch := (first | (refine dS ?_; kernel_rfl) | (refine dM ?_; kernel_rfl) | (refine dO ?_; simp (disch := ((try simp only [ZL]) <;> omega)) only [ZK, ZL]; done) | (refine dK ?_; (repeat first | exact Keep.refl _ _ | exact Keep.app _ _ (Nat.le_refl _) | assumption | refine Keep.ap ?_ | refine Keep.st (by first | omega | (simp only [ZL]; omega)) ?_); done) | ((try simp only [ZL]) <;> omega) | fail)) only [XOB, ↓XXs, ↓XD, ↓YX, ZB, Nat.reduceAdd, Nat.reducePow, ↓reduceIte, eq_self, Int.reduceEq, Nat.reduceEqDiff, Nat.reduceMul, Nat.reduceLeDiff, Int.reduceBEq, Int.reduceLT, Tryz.f3, ↓XH2, XRN, ZC, ZE, ZH, eq_self, Nat.reduceLeDiff, Nat.reduceBEq, slV_new, reduceIte, ↓op_extract, tupAt_mk, lenV_sl, Bool.not_true, Bool.not_false, e4, hl4, o4, p4, and_self, if_true, cc, n5, le5, tk, decide_true, Bool.and_true]
    have K5 : Keep h.length h (h4 ++ [AObj.row 0 5 [sV R.name, iV R.next, mv4, rv4, sV R.sub]]) := K4.trans (Keep.app _ _ K4.1)
    have kk : Keep h4.length h4 (h4 ++ [AObj.row 0 5 [sV R.name, iV R.next, mv4, rv4, sV R.sub]]) := Keep.app _ _ (Nat.le_refl _)
    refine okr_call (r10 R sm mv4 rv4 l _ (by have := K5.1; omega) (m4.keep kk) (r4.keep kk)) ?_
    rintro _ h5 ⟨rfl, k5⟩
    have e45 : h5[h4.length]? = some (AObj.row 0 5 [sV R.name, iV R.next, mv4, rv4, sV R.sub]) := k5.get (cc _) (by simp)
    have e5 : h5[h.length]? = some (.row 0 5 [sV R.name, iV R.next, mv, rv, sV R.sub]) := k5.get (by rw [List.getElem?_append_left (lt_of_get e4)]; exact e4) (by simp; have := lt_of_get e4; omega)
    have K6 := K5.trans (k5.le K5.1)
    have nb : (!decide (B (if R.ok = true then R.put else []) = B (if R.ok = true then R.put else []))) = false := by simp
    simp (dsimp := false) (disch := (first | (refine dS ?_; kernel_rfl) | (refine dM ?_; kernel_rfl) | (refine dO ?_; simp (disch := ((try simp only [ZL]) <;> omega)) only [ZK, ZL]; done) | (refine dK ?_; (repeat first | exact Keep.refl _ _ | exact Keep.app _ _ (Nat.le_refl _) | assumption | refine Keep.ap ?_ | refine Keep.st (by first | omega | (simp only [ZL]; omega)) ?_); done) | ((try simp only [ZL]) <;> omega) | fail)) only [XOB, ↓XXs, ↓XD, ↓YX, ZB, Nat.reduceAdd, Nat.reducePow, ↓reduceIte, eq_self, Int.reduceEq, Nat.reduceEqDiff, Nat.reduceMul, Nat.reduceLeDiff, Int.reduceBEq, Int.reduceLT, Tryz.f3, ↓XH2, XRN, ZC, ZE, ZH, eq_self, Nat.reduceLeDiff, Nat.reduceBEq, slV_new, reduceIte, ↓op_extract, tupAt_mk, lenV_sl, Bool.not_true, Bool.not_false, nb, e45, e5, n5, le5, tk, decide_true]
    refine okr_call (r9 R sm mv rv h5.length _ (Nat.le_refl _) (qm.keep K6) (qr.keep K6)) ?_
    rintro v7 h7 ⟨q7, k7⟩
    have j4 : RmV h7 R (R.ro mv4 rv4).V := ((q4.keep kk).keep (k5.le (by simp))).keep (k7.le (by have := k5.1; simp at this; omega))
    have K7 := K6.trans (k7.le K6.1)
    refine okr_call (r11 R sm _ _ l _ (by have := K7.1; omega) j4 q7) ?_
    rintro _ h8 ⟨rfl, k8⟩
    simp (dsimp := false) (disch := (first | (refine dS ?_; kernel_rfl) | (refine dM ?_; kernel_rfl) | (refine dO ?_; simp (disch := ((try simp only [ZL]) <;> omega)) only [ZK, ZL]; done) | (refine dK ?_; (repeat first | exact Keep.refl _ _ | exact Keep.app _ _ (Nat.le_refl _) | assumption | refine Keep.ap ?_ | refine Keep.st (by first | omega | (simp only [ZL]; omega)) ?_); done) | ((try simp only [ZL]) <;> omega) | fail)) only [XOB, ↓XXs, ↓XD, ↓YX, ZB, Nat.reduceAdd, Nat.reducePow, ↓reduceIte, eq_self, Int.reduceEq, Nat.reduceEqDiff, Nat.reduceMul, Nat.reduceLeDiff, Int.reduceBEq, Int.reduceLT, Tryz.f3, ↓XH2, XRN, ZC, ZE, ZH, eq_self, Nat.reduceLeDiff, Nat.reduceBEq, slV_new, reduceIte, ↓op_extract, tupAt_mk, lenV_sl, Bool.not_true, Bool.not_false]
    exact Okr.ret rfl
end Go.Abs
