/- That the law FnSeekNow answers true. For every code; no condition. -/
import Derived.Test.YtdhogmkdmbfijaaSeekA
namespace Go.Abs
open Go.Proofs
set_option maxRecDepth 100000
set_option linter.unusedSimpArgs false
set_option linter.unusedVariables false
set_option pp.maxSteps 20000
set_option pp.deepTerms true
def TrueQ (v : Value) (h' : AH) : Prop := v = .bool true
theorem hb_log {l : Nat} {a b : Value} {h : AH} {xs ys : List En} (e : xs = ys) (hx : xs.length ≤ 2 ^ 20) (qa : En.Rw h a xs) (qb : En.Rw h b ys) : run V0 (.fn 29) l [S a, S b] h = some (.ret (.bool true) h) := by
  subst e
  rw [r29 l a b h xs xs hx hx qa qb, decide_eq_true rfl]
structure DrawN (H : AH) (v : Value) (h' : AH) : Prop where
  ex : ∃ i g log rm, v = .tuple ⟨[slV i g log.length log.length, sV rm]⟩ ∧ h'[i]? = some (.row g 9 (En.R log)) ∧ H.length ≤ i ∧ Inc log ∧ log.length ≤ 60 ∧ rm.length ≤ 64
  k : Keep H.length H h'
theorem r27 (va : Value) (n l : Nat) (h : AH) (r : Cd h va n) (hl : l ≤ h.length) (hn : n ≤ 2 ^ 62) :
    Okr (DrawN h) (run V0 (.fn 27) l [S va] h) := by
  refine okr_fn Try.func27 rfl rfl rfl rfl ?_
  obtain ⟨vb, m, h1, a1, r1, hm, k1⟩ := r52 va n l h r hn
  have hid1 := lt_of_get r1.1
  simp (dsimp := false) (disch := (first | (refine dS ?_; kernel_rfl) | (refine dM ?_; kernel_rfl) | (refine dO ?_; simp (disch := ((try simp only [ZL]) <;> omega)) only [ZK, ZL]; done) | (refine dK ?_; (repeat first | exact Keep.refl _ _ | exact Keep.app _ _ (Nat.le_refl _) | assumption | refine Keep.ap ?_ | refine Keep.st (by first | omega | (simp only [ZL]; omega)) ?_); done) | ((try simp only [ZL]) <;> omega) | fail)) only [XOB, ↓XXs, ↓XD, ↓YX, ZB, Nat.reduceAdd, Nat.reducePow, ↓reduceIte, eq_self, Int.reduceEq, Nat.reduceEqDiff, Nat.reduceMul, Nat.reduceLeDiff, Int.reduceBEq, Int.reduceLT, Try.f27, ↓XH2, XRN, ZC, ZE, ZH, eq_self, Nat.reduceLeDiff, Nat.reduceBEq, slV_new, ZS, reduceIte, ↓op_extract, a1]
  refine okr_call (r66 r1 hl (by omega) (by omega)) ?_
  rintro _ h3 ⟨⟨i2, g2, log, rfl, e2, hi2, hinc, h60⟩, ⟨p3, hp3, r3⟩, k3⟩
  have hid3 := lt_of_get r3.1
  have hk1 := k1.1
  have hl2 := lt_of_get e2
  try simp (dsimp := false) (disch := (first | (refine dS ?_; kernel_rfl) | (refine dM ?_; kernel_rfl) | (refine dO ?_; simp (disch := ((try simp only [ZL]) <;> omega)) only [ZK, ZL]; done) | (refine dK ?_; (repeat first | exact Keep.refl _ _ | exact Keep.app _ _ (Nat.le_refl _) | assumption | refine Keep.ap ?_ | refine Keep.st (by first | omega | (simp only [ZL]; omega)) ?_); done) | ((try simp only [ZL]) <;> omega) | fail)) only [XOB, ↓XXs, ↓XD, ↓YX, ZB, Nat.reduceAdd, Nat.reducePow, ↓reduceIte, eq_self, Int.reduceEq, Nat.reduceEqDiff, Nat.reduceMul, Nat.reduceLeDiff, Int.reduceBEq, Int.reduceLT, Try.f27, ↓XH2, XRN, ZC, ZE, ZH, eq_self, Nat.reduceLeDiff, Nat.reduceBEq, slV_new, ZS, reduceIte, ↓op_extract, a1]
  refine okr_call (okr_of [_, _, _, _] r3.ap hl (by simp (disch := (first | (refine dS ?_; kernel_rfl) | (refine dM ?_; kernel_rfl) | (refine dO ?_; simp (disch := ((try simp only [ZL]) <;> omega)) only [ZK, ZL]; done) | (refine dK ?_; (repeat first | exact Keep.refl _ _ | exact Keep.app _ _ (Nat.le_refl _) | assumption | refine Keep.ap ?_ | refine Keep.st (by first | omega | (simp only [ZL]; omega)) ?_); done) | ((try simp only [ZL]) <;> omega) | fail)) only [↓XH2, XRN, ZC, ZE, ZH, eq_self, Nat.reduceLeDiff, Nat.reduceBEq] <;> rfl) rfl rfl (by omega) (by simp) (by simp) (by omega) (by omega)) ?_
  rintro _ _ ⟨⟨x1, rfl, hx1⟩, rfl⟩
  have fx : x1.length ≤ 64 := by simp only [List.mem_cons, List.not_mem_nil, or_false] at hx1; rcases hx1 with q | q | q | q <;> rw [q] <;> decide
  try simp (dsimp := false) (disch := (first | (refine dS ?_; kernel_rfl) | (refine dM ?_; kernel_rfl) | (refine dO ?_; simp (disch := ((try simp only [ZL]) <;> omega)) only [ZK, ZL]; done) | (refine dK ?_; (repeat first | exact Keep.refl _ _ | exact Keep.app _ _ (Nat.le_refl _) | assumption | refine Keep.ap ?_ | refine Keep.st (by first | omega | (simp only [ZL]; omega)) ?_); done) | ((try simp only [ZL]) <;> omega) | fail)) only [XOB, ↓XXs, ↓XD, ↓YX, ZB, Nat.reduceAdd, Nat.reducePow, ↓reduceIte, eq_self, Int.reduceEq, Nat.reduceEqDiff, Nat.reduceMul, Nat.reduceLeDiff, Int.reduceBEq, Int.reduceLT, Try.f27, ↓XH2, XRN, ZC, ZE, ZH, eq_self, Nat.reduceLeDiff, Nat.reduceBEq, slV_new, ZS, reduceIte, ↓op_extract, a1]
  with_reducible refine Okr.ret ?_
  refine ⟨⟨i2, g2, log, x1, rfl, by simp (disch := (first | (refine dS ?_; kernel_rfl) | (refine dM ?_; kernel_rfl) | (refine dO ?_; simp (disch := ((try simp only [ZL]) <;> omega)) only [ZK, ZL]; done) | (refine dK ?_; (repeat first | exact Keep.refl _ _ | exact Keep.app _ _ (Nat.le_refl _) | assumption | refine Keep.ap ?_ | refine Keep.st (by first | omega | (simp only [ZL]; omega)) ?_); done) | ((try simp only [ZL]) <;> omega) | fail)) only [↓XH2, XRN, ZC, ZE, ZH, eq_self, Nat.reduceLeDiff, Nat.reduceBEq, e2], by omega, hinc, h60, fx⟩, k1.trans ((Keep.ofKX k3 (by omega) (Nat.le_refl _)).trans ((Keep.set h3 h.length _ (Nat.le_refl _)).trans (Keep.app _ _ (by simp; omega))))⟩
/-- the law's search: one step forth in the list -/
theorem L7c (l iA gA : Nat) (v5 v7 : Value) (lst all : List En) (h : AH) (hA : all.length ≤ 2 ^ 20) (hB : lst.length ≤ 2 ^ 20) (q5 : En.Rw h v5 lst) (eA : h[iA]? = some (.row gA 9 (En.R all))) (pw : all.Pairwise fun a b => a.seq < b.seq) (d r : List En) (x : En) (hd : d ++ x :: r = lst) :
    ∀ (t p : List En) (a i : Int), p ++ t = all → ((x :: r).map bare).Sublist (t.map bare) → a = p.length → i = d.length →
      ∃ p' t', p' ++ t' = all ∧ (r.map bare).Sublist (t'.map bare) ∧ ∀ P, Okr P (L7_1 l v5 (slV iA gA all.length all.length) v7 (iV p'.length) (iV ((d.length + 1 : Nat) : Int)) h) → Okr P (L7_2 l v5 (slV iA gA all.length all.length) v7 (iV a) (iV i) h) := by
  have l5 := q5.len
  obtain ⟨i5, g5, t5, hix5, hh5, hp5⟩ := (hd ▸ q5 : En.Rw h v5 (d ++ x :: r)).at
  have hll : d.length + r.length + 1 = lst.length := by rw [← hd]; simp; omega
  have hw5 : IntKind.i64.wrap ((d.length : Int) + 1) = ((d.length + 1 : Nat) : Int) := natCast_succ_wrap (by omega) rfl
  intro t
  induction t with
  | nil => intro p a i hp st; exact absurd (List.sublist_nil.1 st) (by simp)
  | cons y t ih =>
    rintro p a i hp st rfl rfl
    have hpl : p.length + t.length + 1 = all.length := by rw [← hp]; simp; omega
    have hlt : decide ((p.length : Int) < (all.length : Int)) = true := decide_eq_true (by omega)
    have heq : ((p.length : Int) == (all.length : Int)) = false := by rw [beq_eq_false_iff_ne]; omega
    have hix : ixAddr (slV iA gA all.length all.length) (p.length : Int) 9 = some (pV iA (p.length * 9) gA) := by rw [ixAddr_sl (by omega)]; simp
    have hw : IntKind.i64.wrap ((p.length : Int) + 1) = ((p.length + 1 : Nat) : Int) := natCast_succ_wrap (by omega) rfl
    have eA' : h[iA]? = some (.row gA 9 (En.R (p ++ y :: t))) := by rw [eA, hp]
    by_cases hs : y.seq = x.seq
    · have hb := seek_found st hs (by rw [← hp] at pw; exact (List.pairwise_append.1 pw).2.1)
      have hu : x.user = y.user := by have := congrArg En.user hb; exact this
      have hi : x.id = y.id := by have := congrArg En.id hb; exact this
      have hne : (y.seq != x.seq) = false := by rw [hs]; simp
      have b1 : decide (B x.user = B y.user) = true := by rw [hu]; simp
      have b2 : decide (B x.id = B y.id) = true := by rw [hi]; simp
      refine ⟨p, y :: t, hp, ((List.sublist_cons_self _ _).map bare).trans st, fun P o => ?_⟩
      refine okr_code Try.func7 rfl rfl ?_
      simp (dsimp := false) (disch := (first | (refine dS ?_; kernel_rfl) | (refine dM ?_; kernel_rfl) | (refine dO ?_; simp (disch := ((try simp only [ZL]) <;> omega)) only [ZK, ZL]; done) | (refine dK ?_; (repeat first | exact Keep.refl _ _ | exact Keep.app _ _ (Nat.le_refl _) | assumption | refine Keep.ap ?_ | refine Keep.st (by first | omega | (simp only [ZL]; omega)) ?_); done) | ((try simp only [ZL]) <;> omega) | fail)) only [XOB, ↓XXs, ↓XD, ↓YX, ZB, Nat.reduceAdd, Nat.reducePow, ↓reduceIte, eq_self, Int.reduceEq, Nat.reduceEqDiff, Nat.reduceMul, Nat.reduceLeDiff, Int.reduceBEq, Int.reduceLT, Try.f7, ↓XH2, XRN, ZC, ZE, ZH, eq_self, Nat.reduceLeDiff, Nat.reduceBEq, slV_new, ZS, reduceIte, ↓op_extract, l5, hix5, hh5, hw5, hlt, heq, hix, hw, eA', hne, b1, b2]
      exact o
    · have hne : (y.seq != x.seq) = true := by simpa using hs
      obtain ⟨p', t', i1, i2, i3⟩ := ih (p ++ [y]) ((p.length + 1 : Nat) : Int) (d.length : Int) (by simp [hp]) (seek_skip st hs) (by simp) rfl
      refine ⟨p', t', i1, i2, fun P o => ?_⟩
      have o2 := i3 P o
      refine okr_code Try.func7 rfl rfl ?_
      simp (dsimp := false) (disch := (first | (refine dS ?_; kernel_rfl) | (refine dM ?_; kernel_rfl) | (refine dO ?_; simp (disch := ((try simp only [ZL]) <;> omega)) only [ZK, ZL]; done) | (refine dK ?_; (repeat first | exact Keep.refl _ _ | exact Keep.app _ _ (Nat.le_refl _) | assumption | refine Keep.ap ?_ | refine Keep.st (by first | omega | (simp only [ZL]; omega)) ?_); done) | ((try simp only [ZL]) <;> omega) | fail)) only [XOB, ↓XXs, ↓XD, ↓YX, ZB, Nat.reduceAdd, Nat.reducePow, ↓reduceIte, eq_self, Int.reduceEq, Nat.reduceEqDiff, Nat.reduceMul, Nat.reduceLeDiff, Int.reduceBEq, Int.reduceLT, Try.f7, ↓XH2, XRN, ZC, ZE, ZH, eq_self, Nat.reduceLeDiff, Nat.reduceBEq, slV_new, ZS, reduceIte, ↓op_extract, l5, hix5, hh5, hw5, hlt, heq, hix, hw, eA', hne]
      exact o2
theorem L7b (l iA gA m : Nat) (v5 : Value) (lst all : List En) (h : AH) (hA : all.length ≤ 2 ^ 20) (hB : lst.length ≤ all.length) (hm : m ≤ lst.length) (q5 : En.Rw h v5 lst) (eA : h[iA]? = some (.row gA 9 (En.R all))) (pw : all.Pairwise fun a b => a.seq < b.seq) :
    ∀ (r d p t : List En) (a i : Int), d ++ r = lst → p ++ t = all → (r.map bare).Sublist (t.map bare) → a = p.length → i = d.length →
      Okr TrueQ (L7_1 l v5 (slV iA gA all.length all.length) (iV m) (iV a) (iV i) h) := by
  have l5 := q5.len
  intro r
  induction r with
  | nil =>
    rintro d p t a i hd hp st rfl rfl
    rw [List.append_nil] at hd
    subst hd
    have hlt : decide ((d.length : Int) < (d.length : Int)) = false := decide_eq_false (by omega)
    have h1 : decide ((m : Int) ≤ (d.length : Int)) = true := decide_eq_true (by omega)
    have h2 : decide ((d.length : Int) ≤ (all.length : Int)) = true := decide_eq_true (by omega)
    refine okr_code Try.func7 rfl rfl ?_
    simp (dsimp := false) (disch := (first | (refine dS ?_; kernel_rfl) | (refine dM ?_; kernel_rfl) | (refine dO ?_; simp (disch := ((try simp only [ZL]) <;> omega)) only [ZK, ZL]; done) | (refine dK ?_; (repeat first | exact Keep.refl _ _ | exact Keep.app _ _ (Nat.le_refl _) | assumption | refine Keep.ap ?_ | refine Keep.st (by first | omega | (simp only [ZL]; omega)) ?_); done) | ((try simp only [ZL]) <;> omega) | fail)) only [XOB, ↓XXs, ↓XD, ↓YX, ZB, Nat.reduceAdd, Nat.reducePow, ↓reduceIte, eq_self, Int.reduceEq, Nat.reduceEqDiff, Nat.reduceMul, Nat.reduceLeDiff, Int.reduceBEq, Int.reduceLT, Try.f7, ↓XH2, XRN, ZC, ZE, ZH, eq_self, Nat.reduceLeDiff, Nat.reduceBEq, slV_new, ZS, reduceIte, ↓op_extract, l5, hlt, h1, h2]
    with_reducible refine Okr.ret ?_
    rfl
  | cons x r ih =>
    rintro d p t a i hd hp st rfl rfl
    have hll : d.length + r.length + 1 = lst.length := by rw [← hd]; simp; omega
    have hlt : decide ((d.length : Int) < (lst.length : Int)) = true := decide_eq_true (by omega)
    obtain ⟨p', t', i1, i2, i3⟩ := L7c l iA gA v5 (iV m) lst all h hA (by omega) q5 eA pw d r x hd t p p.length d.length hp st rfl rfl
    refine okr_code Try.func7 rfl rfl ?_
    simp (dsimp := false) (disch := (first | (refine dS ?_; kernel_rfl) | (refine dM ?_; kernel_rfl) | (refine dO ?_; simp (disch := ((try simp only [ZL]) <;> omega)) only [ZK, ZL]; done) | (refine dK ?_; (repeat first | exact Keep.refl _ _ | exact Keep.app _ _ (Nat.le_refl _) | assumption | refine Keep.ap ?_ | refine Keep.st (by first | omega | (simp only [ZL]; omega)) ?_); done) | ((try simp only [ZL]) <;> omega) | fail)) only [XOB, ↓XXs, ↓XD, ↓YX, ZB, Nat.reduceAdd, Nat.reducePow, ↓reduceIte, eq_self, Int.reduceEq, Nat.reduceEqDiff, Nat.reduceMul, Nat.reduceLeDiff, Int.reduceBEq, Int.reduceLT, Try.f7, ↓XH2, XRN, ZC, ZE, ZH, eq_self, Nat.reduceLeDiff, Nat.reduceBEq, slV_new, ZS, reduceIte, ↓op_extract, l5, hlt]
    exact i3 _ (ih (d ++ [x]) p' t' _ _ (by simp [hd]) i1 i2 rfl (by simp))
def bareN (e : En) : Bool := decide (e.ref = [])
theorem L7a (l iA gA : Nat) (v5 : Value) (lst all : List En) (h : AH) (hA : all.length ≤ 2 ^ 20) (hB : lst.length ≤ all.length) (hm : (all.filter bareN).length ≤ lst.length) (q5 : En.Rw h v5 lst) (eA : h[iA]? = some (.row gA 9 (En.R all))) (pw : all.Pairwise fun a b => a.seq < b.seq) (st : (lst.map bare).Sublist (all.map bare)) :
    ∀ (r d : List En) (m i : Int), d ++ r = all → m = ((d.filter bareN).length : Nat) → i = d.length →
      Okr TrueQ (L7_0 l v5 (slV iA gA all.length all.length) (iV m) (iV i) h) := by
  intro r
  induction r with
  | nil =>
    rintro d m i hd rfl rfl
    rw [List.append_nil] at hd
    subst hd
    have hlt : decide ((d.length : Int) < (d.length : Int)) = false := decide_eq_false (by omega)
    refine okr_code Try.func7 rfl rfl ?_
    simp (dsimp := false) (disch := (first | (refine dS ?_; kernel_rfl) | (refine dM ?_; kernel_rfl) | (refine dO ?_; simp (disch := ((try simp only [ZL]) <;> omega)) only [ZK, ZL]; done) | (refine dK ?_; (repeat first | exact Keep.refl _ _ | exact Keep.app _ _ (Nat.le_refl _) | assumption | refine Keep.ap ?_ | refine Keep.st (by first | omega | (simp only [ZL]; omega)) ?_); done) | ((try simp only [ZL]) <;> omega) | fail)) only [XOB, ↓XXs, ↓XD, ↓YX, ZB, Nat.reduceAdd, Nat.reducePow, ↓reduceIte, eq_self, Int.reduceEq, Nat.reduceEqDiff, Nat.reduceMul, Nat.reduceLeDiff, Int.reduceBEq, Int.reduceLT, Try.f7, ↓XH2, XRN, ZC, ZE, ZH, eq_self, Nat.reduceLeDiff, Nat.reduceBEq, slV_new, ZS, reduceIte, ↓op_extract, hlt]
    exact L7b l iA gA _ v5 lst d h hA hB hm q5 eA pw lst [] [] d 0 0 rfl rfl st rfl rfl
  | cons x r ih =>
    rintro d m i hd rfl rfl
    have hll : d.length + r.length + 1 = all.length := by rw [← hd]; simp; omega
    have hfl := List.length_filter_le bareN d
    have hlt : decide ((d.length : Int) < (all.length : Int)) = true := decide_eq_true (by omega)
    have hix : ixAddr (slV iA gA all.length all.length) (d.length : Int) 9 = some (pV iA (d.length * 9) gA) := by rw [ixAddr_sl (by omega)]; simp
    have hw : IntKind.i64.wrap ((d.length : Int) + 1) = ((d.length + 1 : Nat) : Int) := natCast_succ_wrap (by omega) rfl
    have hw2 : IntKind.i64.wrap (((d.filter bareN).length : Int) + 1) = (((d.filter bareN).length + 1 : Nat) : Int) := natCast_succ_wrap (by omega) rfl
    have eA' : h[iA]? = some (.row gA 9 (En.R (d ++ x :: r))) := by rw [eA, hd]
    have b1 := B_dec x.ref []
    refine okr_code Try.func7 rfl rfl ?_
    cases q : decide (x.ref = []) with
    | true =>
      rw [q] at b1
      simp (dsimp := false) (disch := (first | (refine dS ?_; kernel_rfl) | (refine dM ?_; kernel_rfl) | (refine dO ?_; simp (disch := ((try simp only [ZL]) <;> omega)) only [ZK, ZL]; done) | (refine dK ?_; (repeat first | exact Keep.refl _ _ | exact Keep.app _ _ (Nat.le_refl _) | assumption | refine Keep.ap ?_ | refine Keep.st (by first | omega | (simp only [ZL]; omega)) ?_); done) | ((try simp only [ZL]) <;> omega) | fail)) only [XOB, ↓XXs, ↓XD, ↓YX, ZB, Nat.reduceAdd, Nat.reducePow, ↓reduceIte, eq_self, Int.reduceEq, Nat.reduceEqDiff, Nat.reduceMul, Nat.reduceLeDiff, Int.reduceBEq, Int.reduceLT, Try.f7, ↓XH2, XRN, ZC, ZE, ZH, eq_self, Nat.reduceLeDiff, Nat.reduceBEq, slV_new, ZS, reduceIte, ↓op_extract, hlt, hix, hw, hw2, eA', b1]
      exact ih (d ++ [x]) _ _ (by simp [hd]) (by rw [List.filter_append, List.filter_cons, show bareN x = true from q]; simp) (by simp)
    | false =>
      rw [q] at b1
      simp (dsimp := false) (disch := (first | (refine dS ?_; kernel_rfl) | (refine dM ?_; kernel_rfl) | (refine dO ?_; simp (disch := ((try simp only [ZL]) <;> omega)) only [ZK, ZL]; done) | (refine dK ?_; (repeat first | exact Keep.refl _ _ | exact Keep.app _ _ (Nat.le_refl _) | assumption | refine Keep.ap ?_ | refine Keep.st (by first | omega | (simp only [ZL]; omega)) ?_); done) | ((try simp only [ZL]) <;> omega) | fail)) only [XOB, ↓XXs, ↓XD, ↓YX, ZB, Nat.reduceAdd, Nat.reducePow, ↓reduceIte, eq_self, Int.reduceEq, Nat.reduceEqDiff, Nat.reduceMul, Nat.reduceLeDiff, Int.reduceBEq, Int.reduceLT, Try.f7, ↓XH2, XRN, ZC, ZE, ZH, eq_self, Nat.reduceLeDiff, Nat.reduceBEq, slV_new, ZS, reduceIte, ↓op_extract, hlt, hix, hw, hw2, eA', b1]
      exact ih (d ++ [x]) _ _ (by simp [hd]) (by rw [List.filter_append, List.filter_cons, show bareN x = false from q]; simp) (by simp)
theorem r7 (va : Value) (n l : Nat) (h : AH) (r : Cd h va n) (hl : l ≤ h.length) :
    Okr TrueQ (run V0 (.fn 7) l [S va] h) := by
  have lv := r.len
  refine okr_fn Try.func7 rfl rfl rfl rfl ?_
  simp (dsimp := false) (disch := (first | (refine dS ?_; kernel_rfl) | (refine dM ?_; kernel_rfl) | (refine dO ?_; simp (disch := ((try simp only [ZL]) <;> omega)) only [ZK, ZL]; done) | (refine dK ?_; (repeat first | exact Keep.refl _ _ | exact Keep.app _ _ (Nat.le_refl _) | assumption | refine Keep.ap ?_ | refine Keep.st (by first | omega | (simp only [ZL]; omega)) ?_); done) | ((try simp only [ZL]) <;> omega) | fail)) only [XOB, ↓XXs, ↓XD, ↓YX, ZB, Nat.reduceAdd, Nat.reducePow, ↓reduceIte, eq_self, Int.reduceEq, Nat.reduceEqDiff, Nat.reduceMul, Nat.reduceLeDiff, Int.reduceBEq, Int.reduceLT, Try.f7, ↓XH2, XRN, ZC, ZE, ZH, eq_self, Nat.reduceLeDiff, Nat.reduceBEq, slV_new, ZS, reduceIte, ↓op_extract, lv]
  refine okr_if (fun t => ?_) (fun t => ?_)
  · try simp (dsimp := false) (disch := (first | (refine dS ?_; kernel_rfl) | (refine dM ?_; kernel_rfl) | (refine dO ?_; simp (disch := ((try simp only [ZL]) <;> omega)) only [ZK, ZL]; done) | (refine dK ?_; (repeat first | exact Keep.refl _ _ | exact Keep.app _ _ (Nat.le_refl _) | assumption | refine Keep.ap ?_ | refine Keep.st (by first | omega | (simp only [ZL]; omega)) ?_); done) | ((try simp only [ZL]) <;> omega) | fail)) only [XOB, ↓XXs, ↓XD, ↓YX, ZB, Nat.reduceAdd, Nat.reducePow, ↓reduceIte, eq_self, Int.reduceEq, Nat.reduceEqDiff, Nat.reduceMul, Nat.reduceLeDiff, Int.reduceBEq, Int.reduceLT, Try.f7, ↓XH2, XRN, ZC, ZE, ZH, eq_self, Nat.reduceLeDiff, Nat.reduceBEq, slV_new, ZS, reduceIte, ↓op_extract, lv]
    with_reducible refine Okr.ret ?_
    rfl
  have hn : n ≤ 2 ^ 20 := by have := of_decide_eq_false t; omega
  try simp (dsimp := false) (disch := (first | (refine dS ?_; kernel_rfl) | (refine dM ?_; kernel_rfl) | (refine dO ?_; simp (disch := ((try simp only [ZL]) <;> omega)) only [ZK, ZL]; done) | (refine dK ?_; (repeat first | exact Keep.refl _ _ | exact Keep.app _ _ (Nat.le_refl _) | assumption | refine Keep.ap ?_ | refine Keep.st (by first | omega | (simp only [ZL]; omega)) ?_); done) | ((try simp only [ZL]) <;> omega) | fail)) only [XOB, ↓XXs, ↓XD, ↓YX, ZB, Nat.reduceAdd, Nat.reducePow, ↓reduceIte, eq_self, Int.reduceEq, Nat.reduceEqDiff, Nat.reduceMul, Nat.reduceLeDiff, Int.reduceBEq, Int.reduceLT, Try.f7, ↓XH2, XRN, ZC, ZE, ZH, eq_self, Nat.reduceLeDiff, Nat.reduceBEq, slV_new, ZS, reduceIte, ↓op_extract, lv]
  refine okr_call (r27 va n l h r hl (by omega)) ?_
  rintro _ h2 ⟨⟨i2, g2, log, rm, rfl, e2, hi2, hinc, h60, frm⟩, k2⟩
  have hk2 := k2.1
  try simp (dsimp := false) (disch := (first | (refine dS ?_; kernel_rfl) | (refine dM ?_; kernel_rfl) | (refine dO ?_; simp (disch := ((try simp only [ZL]) <;> omega)) only [ZK, ZL]; done) | (refine dK ?_; (repeat first | exact Keep.refl _ _ | exact Keep.app _ _ (Nat.le_refl _) | assumption | refine Keep.ap ?_ | refine Keep.st (by first | omega | (simp only [ZL]; omega)) ?_); done) | ((try simp only [ZL]) <;> omega) | fail)) only [XOB, ↓XXs, ↓XD, ↓YX, ZB, Nat.reduceAdd, Nat.reducePow, ↓reduceIte, eq_self, Int.reduceEq, Nat.reduceEqDiff, Nat.reduceMul, Nat.reduceLeDiff, Int.reduceBEq, Int.reduceLT, Try.f7, ↓XH2, XRN, ZC, ZE, ZH, eq_self, Nat.reduceLeDiff, Nat.reduceBEq, slV_new, ZS, reduceIte, ↓op_extract, lv]
  refine okr_call (r28 rfl (by omega) e2 (by omega)) ?_
  rintro v3 h3 ⟨w3, k3⟩
  have hk3 := k3.1
  have e23 := k3.get e2 (lt_of_get e2)
  try simp (dsimp := false) (disch := (first | (refine dS ?_; kernel_rfl) | (refine dM ?_; kernel_rfl) | (refine dO ?_; simp (disch := ((try simp only [ZL]) <;> omega)) only [ZK, ZL]; done) | (refine dK ?_; (repeat first | exact Keep.refl _ _ | exact Keep.app _ _ (Nat.le_refl _) | assumption | refine Keep.ap ?_ | refine Keep.st (by first | omega | (simp only [ZL]; omega)) ?_); done) | ((try simp only [ZL]) <;> omega) | fail)) only [XOB, ↓XXs, ↓XD, ↓YX, ZB, Nat.reduceAdd, Nat.reducePow, ↓reduceIte, eq_self, Int.reduceEq, Nat.reduceEqDiff, Nat.reduceMul, Nat.reduceLeDiff, Int.reduceBEq, Int.reduceLT, Try.f7, ↓XH2, XRN, ZC, ZE, ZH, eq_self, Nat.reduceLeDiff, Nat.reduceBEq, slV_new, ZS, reduceIte, ↓op_extract, lv]
  refine okr_call (r30s rfl (by omega) e23 (by omega)) ?_
  rintro v4 h4 ⟨w4, k4⟩
  have hk4 := k4.1
  have e24 := k4.get e23 (lt_of_get e23)
  have w34 := w3.keep k4
  have hnl := nowL_len rm log
  have a5 := hb_log (l := l) rfl (by omega) w34 w4
  try simp (dsimp := false) (disch := (first | (refine dS ?_; kernel_rfl) | (refine dM ?_; kernel_rfl) | (refine dO ?_; simp (disch := ((try simp only [ZL]) <;> omega)) only [ZK, ZL]; done) | (refine dK ?_; (repeat first | exact Keep.refl _ _ | exact Keep.app _ _ (Nat.le_refl _) | assumption | refine Keep.ap ?_ | refine Keep.st (by first | omega | (simp only [ZL]; omega)) ?_); done) | ((try simp only [ZL]) <;> omega) | fail)) only [XOB, ↓XXs, ↓XD, ↓YX, ZB, Nat.reduceAdd, Nat.reducePow, ↓reduceIte, eq_self, Int.reduceEq, Nat.reduceEqDiff, Nat.reduceMul, Nat.reduceLeDiff, Int.reduceBEq, Int.reduceLT, Try.f7, ↓XH2, XRN, ZC, ZE, ZH, eq_self, Nat.reduceLeDiff, Nat.reduceBEq, slV_new, ZS, reduceIte, ↓op_extract, lv, a5]
  refine okr_call (r31 rfl (by omega) e24 (by omega)) ?_
  rintro _ h5 ⟨i5, g5, rfl, e5, hi5, k5⟩
  have w35 := w34.keep k5
  have hfl := List.length_filter_le (talkL rm) log
  try simp (dsimp := false) (disch := (first | (refine dS ?_; kernel_rfl) | (refine dM ?_; kernel_rfl) | (refine dO ?_; simp (disch := ((try simp only [ZL]) <;> omega)) only [ZK, ZL]; done) | (refine dK ?_; (repeat first | exact Keep.refl _ _ | exact Keep.app _ _ (Nat.le_refl _) | assumption | refine Keep.ap ?_ | refine Keep.st (by first | omega | (simp only [ZL]; omega)) ?_); done) | ((try simp only [ZL]) <;> omega) | fail)) only [XOB, ↓XXs, ↓XD, ↓YX, ZB, Nat.reduceAdd, Nat.reducePow, ↓reduceIte, eq_self, Int.reduceEq, Nat.reduceEqDiff, Nat.reduceMul, Nat.reduceLeDiff, Int.reduceBEq, Int.reduceLT, Try.f7, ↓XH2, XRN, ZC, ZE, ZH, eq_self, Nat.reduceLeDiff, Nat.reduceBEq, slV_new, ZS, reduceIte, ↓op_extract, lv, a5]
  have h1 := now_len (log.filter (talkL rm)) []
  have h2 := now_bare (log.filter (talkL rm)) []
  simp only [List.length_nil, Nat.zero_add, List.map_nil, List.nil_append] at h1 h2
  exact L7a l i5 g5 v3 (nowL rm log) (log.filter (talkL rm)) h5 (by omega) h1.1 h1.2 w35 e5 (talk_inc hinc) h2 _ [] 0 0 rfl rfl rfl
theorem rz7 (va : Value) (n l : Nat) (h : AH) (r : Cd h va n) (hl : l ≤ h.length) : ∃ h', run V0 (.fn 7) l [S va] h = some (.ret (.bool true) h') := by
  obtain ⟨v, h', e, rfl⟩ := r7 va n l h r hl
  exact ⟨h', e⟩
end Go.Abs
