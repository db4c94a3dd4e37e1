/- That the law FnSeek answers true. For every code; no condition. -/
import Derived.Test.YtdhogmkdmbfijaaSeekA
import Derived.Test.YtdhogmkdmbfijaaWordsA
namespace Go.Abs
open Go.Proofs
set_option maxRecDepth 100000
set_option linter.unusedSimpArgs false
set_option linter.unusedVariables false
set_option pp.maxSteps 20000
set_option pp.deepTerms true
def TrueQ (v : Value) (h' : AH) : Prop := v = .bool true
theorem hb_log {l : Nat} {a b : Value} {h : AH} {xs ys : List En} (e : xs = ys) (hx : xs.length ≤ 2 ^ 20) (qa : En.Rw h a xs) (qb : En.Rw h b ys) : run V0 (.fn 29) l [S a, S b] h = some (.ret (.bool true) h) := by
  subst e
  rw [r29 l a b h xs xs hx hx qa qb, decide_eq_true rfl]
structure DrawN (H : AH) (v : Value) (h' : AH) : Prop where
  ex : ∃ i g log rm, v = .tuple ⟨[slV i g log.length log.length, sV rm]⟩ ∧ h'[i]? = some (.row g 9 (En.R log)) ∧ H.length ≤ i ∧ Inc log ∧ log.length ≤ 60 ∧ rm.length ≤ 64
  k : Keep H.length H h'
theorem r27 (va : Value) (n l : Nat) (h : AH) (r : Cd h va n) (hl : l ≤ h.length) (hn : n ≤ 2 ^ 62) :
    Okr (DrawN h) (run V0 (.fn 27) l [S va] h) := by
  refine okr_fn Try.func27 rfl rfl rfl rfl ?_
  obtain ⟨vb, m, h1, a1, r1, hm, k1⟩ := r52 va n l h r hn
  have hid1 := lt_of_get r1.1
  simp (dsimp := false) (disch := (first | (refine dS ?_; kernel_rfl) | (refine dM ?_; kernel_rfl) | (refine dO ?_; simp (disch := ((try simp only [ZL]) <;> omega)) only [ZK, ZL]; done) | (refine dK ?_; (repeat first | exact Keep.refl _ _ | exact Keep.app _ _ (Nat.le_refl _) | assumption | refine Keep.ap ?_ | refine Keep.st (by first | omega | (simp only [ZL]; omega)) ?_); done) | ((try simp only [ZL]) <;> omega) | fail)) only [XOB, ↓XXs, ↓XD, ↓YX, ZB, Nat.reduceAdd, Nat.reducePow, ↓reduceIte, eq_self, Int.reduceEq, Nat.reduceEqDiff, Nat.reduceMul, Nat.reduceLeDiff, Int.reduceBEq, Int.reduceLT, Try.f27, ↓XH2, XRN, ZC, ZE, ZH, eq_self, Nat.reduceLeDiff, Nat.reduceBEq, slV_new, ZS, reduceIte, ↓op_extract, a1]
  refine okr_call (r66 r1 hl (by omega) (by omega)) ?_
  rintro _ h3 ⟨⟨i2, g2, log, rfl, e2, hi2, hinc, h60⟩, ⟨p3, hp3, r3⟩, k3⟩
  have hid3 := lt_of_get r3.1
  have hk1 := k1.1
  have hl2 := lt_of_get e2
  try simp (dsimp := false) (disch := (first | (refine dS ?_; kernel_rfl) | (refine dM ?_; kernel_rfl) | (refine dO ?_; simp (disch := ((try simp only [ZL]) <;> omega)) only [ZK, ZL]; done) | (refine dK ?_; (repeat first | exact Keep.refl _ _ | exact Keep.app _ _ (Nat.le_refl _) | assumption | refine Keep.ap ?_ | refine Keep.st (by first | omega | (simp only [ZL]; omega)) ?_); done) | ((try simp only [ZL]) <;> omega) | fail)) only [XOB, ↓XXs, ↓XD, ↓YX, ZB, Nat.reduceAdd, Nat.reducePow, ↓reduceIte, eq_self, Int.reduceEq, Nat.reduceEqDiff, Nat.reduceMul, Nat.reduceLeDiff, Int.reduceBEq, Int.reduceLT, Try.f27, ↓XH2, XRN, ZC, ZE, ZH, eq_self, Nat.reduceLeDiff, Nat.reduceBEq, slV_new, ZS, reduceIte, ↓op_extract, a1]
  refine okr_call (okr_of [_, _, _, _] r3.ap hl (by simp (disch := (first | (refine dS ?_; kernel_rfl) | (refine dM ?_; kernel_rfl) | (refine dO ?_; simp (disch := ((try simp only [ZL]) <;> omega)) only [ZK, ZL]; done) | (refine dK ?_; (repeat first | exact Keep.refl _ _ | exact Keep.app _ _ (Nat.le_refl _) | assumption | refine Keep.ap ?_ | refine Keep.st (by first | omega | (simp only [ZL]; omega)) ?_); done) | ((try simp only [ZL]) <;> omega) | fail)) only [↓XH2, XRN, ZC, ZE, ZH, eq_self, Nat.reduceLeDiff, Nat.reduceBEq] <;> rfl) rfl rfl (by omega) (by simp) (by simp) (by omega) (by omega)) ?_
  rintro _ _ ⟨⟨x1, rfl, hx1⟩, rfl⟩
  have fx : x1.length ≤ 64 := by simp only [List.mem_cons, List.not_mem_nil, or_false] at hx1; rcases hx1 with q | q | q | q <;> rw [q] <;> decide
  try simp (dsimp := false) (disch := (first | (refine dS ?_; kernel_rfl) | (refine dM ?_; kernel_rfl) | (refine dO ?_; simp (disch := ((try simp only [ZL]) <;> omega)) only [ZK, ZL]; done) | (refine dK ?_; (repeat first | exact Keep.refl _ _ | exact Keep.app _ _ (Nat.le_refl _) | assumption | refine Keep.ap ?_ | refine Keep.st (by first | omega | (simp only [ZL]; omega)) ?_); done) | ((try simp only [ZL]) <;> omega) | fail)) only [XOB, ↓XXs, ↓XD, ↓YX, ZB, Nat.reduceAdd, Nat.reducePow, ↓reduceIte, eq_self, Int.reduceEq, Nat.reduceEqDiff, Nat.reduceMul, Nat.reduceLeDiff, Int.reduceBEq, Int.reduceLT, Try.f27, ↓XH2, XRN, ZC, ZE, ZH, eq_self, Nat.reduceLeDiff, Nat.reduceBEq, slV_new, ZS, reduceIte, ↓op_extract, a1]
  with_reducible refine Okr.ret ?_
  refine ⟨⟨i2, g2, log, x1, rfl, by simp (disch := (first | (refine dS ?_; kernel_rfl) | (refine dM ?_; kernel_rfl) | (refine dO ?_; simp (disch := ((try simp only [ZL]) <;> omega)) only [ZK, ZL]; done) | (refine dK ?_; (repeat first | exact Keep.refl _ _ | exact Keep.app _ _ (Nat.le_refl _) | assumption | refine Keep.ap ?_ | refine Keep.st (by first | omega | (simp only [ZL]; omega)) ?_); done) | ((try simp only [ZL]) <;> omega) | fail)) only [↓XH2, XRN, ZC, ZE, ZH, eq_self, Nat.reduceLeDiff, Nat.reduceBEq, e2], by omega, hinc, h60, fx⟩, k1.trans ((Keep.ofKX k3 (by omega) (Nat.le_refl _)).trans ((Keep.set h3 h.length _ (Nat.le_refl _)).trans (Keep.app _ _ (by simp; omega))))⟩
/-- the law's search: one step forth in the list -/
theorem L7c (l iA gA : Nat) (v5 v7 : Value) (lst all : List En) (h : AH) (hA : all.length ≤ 2 ^ 20) (hB : lst.length ≤ 2 ^ 20) (q5 : En.Rw h v5 lst) (eA : h[iA]? = some (.row gA 9 (En.R all))) (pw : all.Pairwise fun a b => a.seq < b.seq) (d r : List En) (x : En) (hd : d ++ x :: r = lst) :
    ∀ (t p : List En) (a i : Int), p ++ t = all → ((x :: r).map bare).Sublist (t.map bare) → a = p.length → i = d.length →
      ∃ p' t', p' ++ t' = all ∧ (r.map bare).Sublist (t'.map bare) ∧ ∀ P, Okr P (L7_1 l v5 (slV iA gA all.length all.length) v7 (iV p'.length) (iV ((d.length + 1 : Nat) : Int)) h) → Okr P (L7_2 l v5 (slV iA gA all.length all.length) v7 (iV a) (iV i) h) := by
  have l5 := q5.len
  obtain ⟨i5, g5, t5, hix5, hh5, hp5⟩ := (hd ▸ q5 : En.Rw h v5 (d ++ x :: r)).at
  have hll : d.length + r.length + 1 = lst.length := by rw [← hd]; simp; omega
  have hw5 : IntKind.i64.wrap ((d.length : Int) + 1) = ((d.length + 1 : Nat) : Int) := natCast_succ_wrap (by omega) rfl
  intro t
  induction t with
  | nil => intro p a i hp st; exact absurd (List.sublist_nil.1 st) (by simp)
  | cons y t ih =>
    rintro p a i hp st rfl rfl
    have hpl : p.length + t.length + 1 = all.length := by rw [← hp]; simp; omega
    have hlt : decide ((p.length : Int) < (all.length : Int)) = true := decide_eq_true (by omega)
    have heq : ((p.length : Int) == (all.length : Int)) = false := by rw [beq_eq_false_iff_ne]; omega
    have hix : ixAddr (slV iA gA all.length all.length) (p.length : Int) 9 = some (pV iA (p.length * 9) gA) := by rw [ixAddr_sl (by omega)]; simp
    have hw : IntKind.i64.wrap ((p.length : Int) + 1) = ((p.length + 1 : Nat) : Int) := natCast_succ_wrap (by omega) rfl
    have eA' : h[iA]? = some (.row gA 9 (En.R (p ++ y :: t))) := by rw [eA, hp]
    by_cases hs : y.seq = x.seq
    · have hb := seek_found st hs (by rw [← hp] at pw; exact (List.pairwise_append.1 pw).2.1)
      have hu : x.user = y.user := by have := congrArg En.user hb; exact this
      have hi : x.id = y.id := by have := congrArg En.id hb; exact this
      have hne : (y.seq != x.seq) = false := by rw [hs]; simp
      have b1 : decide (B x.user = B y.user) = true := by rw [hu]; simp
      have b2 : decide (B x.id = B y.id) = true := by rw [hi]; simp
      refine ⟨p, y :: t, hp, ((List.sublist_cons_self _ _).map bare).trans st, fun P o => ?_⟩
      refine okr_code Try.func7 rfl rfl ?_
      simp (dsimp := false) (disch := (first | (refine dS ?_; kernel_rfl) | (refine dM ?_; kernel_rfl) | (refine dO ?_; simp (disch := ((try simp only [ZL]) <;> omega)) only [ZK, ZL]; done) | (refine dK ?_; (repeat first | exact Keep.refl _ _ | exact Keep.app _ _ (Nat.le_refl _) | assumption | refine Keep.ap ?_ | refine Keep.st (by first | omega | (simp only [ZL]; omega)) ?_); done) | ((try simp only [ZL]) <;> omega) | fail)) only [XOB, ↓XXs, ↓XD, ↓YX, ZB, Nat.reduceAdd, Nat.reducePow, ↓reduceIte, eq_self, Int.reduceEq, Nat.reduceEqDiff, Nat.reduceMul, Nat.reduceLeDiff, Int.reduceBEq, Int.reduceLT, Try.f7, ↓XH2, XRN, ZC, ZE, ZH, eq_self, Nat.reduceLeDiff, Nat.reduceBEq, slV_new, ZS, reduceIte, ↓op_extract, l5, hix5, hh5, hw5, hlt, heq, hix, hw, eA', hne, b1, b2]
      exact o
    · have hne : (y.seq != x.seq) = true := by simpa using hs
      obtain ⟨p', t', i1, i2, i3⟩ := ih (p ++ [y]) ((p.length + 1 : Nat) : Int) (d.length : Int) (by simp [hp]) (seek_skip st hs) (by simp) rfl
      refine ⟨p', t', i1, i2, fun P o => ?_⟩
      have o2 := i3 P o
      refine okr_code Try.func7 rfl rfl ?_
      simp (dsimp := false) (disch := (first | (refine dS ?_; kernel_rfl) | (refine dM ?_; kernel_rfl) | (refine dO ?_; simp (disch := ((try simp only [ZL]) <;> omega)) only [ZK, ZL]; done) | (refine dK ?_; (repeat first | exact Keep.refl _ _ | exact Keep.app _ _ (Nat.le_refl _) | assumption | refine Keep.ap ?_ | refine Keep.st (by first | omega | (simp only [ZL]; omega)) ?_); done) | ((try simp only [ZL]) <;> omega) | fail)) only [XOB, ↓XXs, ↓XD, ↓YX, ZB, Nat.reduceAdd, Nat.reducePow, ↓reduceIte, eq_self, Int.reduceEq, Nat.reduceEqDiff, Nat.reduceMul, Nat.reduceLeDiff, Int.reduceBEq, Int.reduceLT, Try.f7, ↓XH2, XRN, ZC, ZE, ZH, eq_self, Nat.reduceLeDiff, Nat.reduceBEq, slV_new, ZS, reduceIte, ↓op_extract, l5, hix5, hh5, hw5, hlt, heq, hix, hw, eA', hne]
      exact o2
theorem L7b (l iA gA m : Nat) (v5 : Value) (lst all : List En) (h : AH) (hA : all.length ≤ 2 ^ 20) (hB : lst.length ≤ all.length) (hm : m ≤ lst.length) (q5 : En.Rw h v5 lst) (eA : h[iA]? = some (.row gA 9 (En.R all))) (pw : all.Pairwise fun a b => a.seq < b.seq) :
    ∀ (r d p t : List En) (a i : Int), d ++ r = lst → p ++ t = all → (r.map bare).Sublist (t.map bare) → a = p.length → i = d.length →
      Okr TrueQ (L7_1 l v5 (slV iA gA all.length all.length) (iV m) (iV a) (iV i) h) := by
  have l5 := q5.len
  intro r
  induction r with
  | nil =>
    rintro d p t a i hd hp st rfl rfl
    rw [List.append_nil] at hd
    subst hd
    have hlt : decide ((d.length : Int) < (d.length : Int)) = false := decide_eq_false (by omega)
    have h1 : decide ((m : Int) ≤ (d.length : Int)) = true := decide_eq_true (by omega)
    have h2 : decide ((d.length : Int) ≤ (all.length : Int)) = true := decide_eq_true (by omega)
    refine okr_code Try.func7 rfl rfl ?_
    simp (dsimp := false) (disch := (first | (refine dS ?_; kernel_rfl) | (refine dM ?_; kernel_rfl) | (refine dO ?_; simp (disch := ((try simp only [ZL]) <;> omega)) only [ZK, ZL]; done) | (refine dK ?_; (repeat first | exact Keep.refl _ _ | exact Keep.app _ _ (Nat.le_refl _) | assumption | refine Keep.ap ?_ | refine Keep.st (by first | omega | (simp only [ZL]; omega)) ?_); done) | ((try simp only [ZL]) <;> omega) | fail)) only [XOB, ↓XXs, ↓XD, ↓YX, ZB, Nat.reduceAdd, Nat.reducePow, ↓reduceIte, eq_self, Int.reduceEq, Nat.reduceEqDiff, Nat.reduceMul, Nat.reduceLeDiff, Int.reduceBEq, Int.reduceLT, Try.f7, ↓XH2, XRN, ZC, ZE, ZH, eq_self, Nat.reduceLeDiff, Nat.reduceBEq, slV_new, ZS, reduceIte, ↓op_extract, l5, hlt, h1, h2]
    with_reducible refine Okr.ret ?_
    rfl
  | cons x r ih =>
    rintro d p t a i hd hp st rfl rfl
    have hll : d.length + r.length + 1 = lst.length := by rw [← hd]; simp; omega
    have hlt : decide ((d.length : Int) < (lst.length : Int)) = true := decide_eq_true (by omega)
    obtain ⟨p', t', i1, i2, i3⟩ := L7c l iA gA v5 (iV m) lst all h hA (by omega) q5 eA pw d r x hd t p p.length d.length hp st rfl rfl
    refine okr_code Try.func7 rfl rfl ?_
    simp (dsimp := false) (disch := (first | (refine dS ?_; kernel_rfl) | (refine dM ?_; kernel_rfl) | (refine dO ?_; simp (disch := ((try simp only [ZL]) <;> omega)) only [ZK, ZL]; done) | (refine dK ?_; (repeat first | exact Keep.refl _ _ | exact Keep.app _ _ (Nat.le_refl _) | assumption | refine Keep.ap ?_ | refine Keep.st (by first | omega | (simp only [ZL]; omega)) ?_); done) | ((try simp only [ZL]) <;> omega) | fail)) only [XOB, ↓XXs, ↓XD, ↓YX, ZB, Nat.reduceAdd, Nat.reducePow, ↓reduceIte, eq_self, Int.reduceEq, Nat.reduceEqDiff, Nat.reduceMul, Nat.reduceLeDiff, Int.reduceBEq, Int.reduceLT, Try.f7, ↓XH2, XRN, ZC, ZE, ZH, eq_self, Nat.reduceLeDiff, Nat.reduceBEq, slV_new, ZS, reduceIte, ↓op_extract, l5, hlt]
    exact i3 _ (ih (d ++ [x]) p' t' _ _ (by simp [hd]) i1 i2 rfl (by simp))
def bareN (e : En) : Bool := decide (e.ref = [])
theorem L7a (l iA gA : Nat) (v5 : Value) (lst all : List En) (h : AH) (hA : all.length ≤ 2 ^ 20) (hB : lst.length ≤ all.length) (hm : (all.filter bareN).length ≤ lst.length) (q5 : En.Rw h v5 lst) (eA : h[iA]? = some (.row gA 9 (En.R all))) (pw : all.Pairwise fun a b => a.seq < b.seq) (st : (lst.map bare).Sublist (all.map bare)) :
    ∀ (r d : List En) (m i : Int), d ++ r = all → m = ((d.filter bareN).length : Nat) → i = d.length →
      Okr TrueQ (L7_0 l v5 (slV iA gA all.length all.length) (iV m) (iV i) h) := by
  intro r
  induction r with
  | nil =>
    rintro d m i hd rfl rfl
    rw [List.append_nil] at hd
    subst hd
    have hlt : decide ((d.length : Int) < (d.length : Int)) = false := decide_eq_false (by omega)
    refine okr_code Try.func7 rfl rfl ?_
    simp (dsimp := false) (disch := (first | (refine dS ?_; kernel_rfl) | (refine dM ?_; kernel_rfl) | (refine dO ?_; simp (disch := ((try simp only [ZL]) <;> omega)) only [ZK, ZL]; done) | (refine dK ?_; (repeat first | exact Keep.refl _ _ | exact Keep.app _ _ (Nat.le_refl _) | assumption | refine Keep.ap ?_ | refine Keep.st (by first | omega | (simp only [ZL]; omega)) ?_); done) | ((try simp only [ZL]) <;> omega) | fail)) only [XOB, ↓XXs, ↓XD, ↓YX, ZB, Nat.reduceAdd, Nat.reducePow, ↓reduceIte, eq_self, Int.reduceEq, Nat.reduceEqDiff, Nat.reduceMul, Nat.reduceLeDiff, Int.reduceBEq, Int.reduceLT, Try.f7, ↓XH2, XRN, ZC, ZE, ZH, eq_self, Nat.reduceLeDiff, Nat.reduceBEq, slV_new, ZS, reduceIte, ↓op_extract, hlt]
    exact L7b l iA gA _ v5 lst d h hA hB hm q5 eA pw lst [] [] d 0 0 rfl rfl st rfl rfl
  | cons x r ih =>
    rintro d m i hd rfl rfl
    have hll : d.length + r.length + 1 = all.length := by rw [← hd]; simp; omega
    have hfl := List.length_filter_le bareN d
    have hlt : decide ((d.length : Int) < (all.length : Int)) = true := decide_eq_true (by omega)
    have hix : ixAddr (slV iA gA all.length all.length) (d.length : Int) 9 = some (pV iA (d.length * 9) gA) := by rw [ixAddr_sl (by omega)]; simp
    have hw : IntKind.i64.wrap ((d.length : Int) + 1) = ((d.length + 1 : Nat) : Int) := natCast_succ_wrap (by omega) rfl
    have hw2 : IntKind.i64.wrap (((d.filter bareN).length : Int) + 1) = (((d.filter bareN).length + 1 : Nat) : Int) := natCast_succ_wrap (by omega) rfl
    have eA' : h[iA]? = some (.row gA 9 (En.R (d ++ x :: r))) := by rw [eA, hd]
    have b1 := B_dec x.ref []
    refine okr_code Try.func7 rfl rfl ?_
    cases q : decide (x.ref = []) with
    | true =>
      rw [q] at b1
      simp (dsimp := false) (disch := (first | (refine dS ?_; kernel_rfl) | (refine dM ?_; kernel_rfl) | (refine dO ?_; simp (disch := ((try simp only [ZL]) <;> omega)) only [ZK, ZL]; done) | (refine dK ?_; (repeat first | exact Keep.refl _ _ | exact Keep.app _ _ (Nat.le_refl _) | assumption | refine Keep.ap ?_ | refine Keep.st (by first | omega | (simp only [ZL]; omega)) ?_); done) | ((try simp only [ZL]) <;> omega) | fail)) only [XOB, ↓XXs, ↓XD, ↓YX, ZB, Nat.reduceAdd, Nat.reducePow, ↓reduceIte, eq_self, Int.reduceEq, Nat.reduceEqDiff, Nat.reduceMul, Nat.reduceLeDiff, Int.reduceBEq, Int.reduceLT, Try.f7, ↓XH2, XRN, ZC, ZE, ZH, eq_self, Nat.reduceLeDiff, Nat.reduceBEq, slV_new, ZS, reduceIte, ↓op_extract, hlt, hix, hw, hw2, eA', b1]
      exact ih (d ++ [x]) _ _ (by simp [hd]) (by rw [List.filter_append, List.filter_cons, show bareN x = true from q]; simp) (by simp)
    | false =>
      rw [q] at b1
      simp (dsimp := false) (disch := (first | (refine dS ?_; kernel_rfl) | (refine dM ?_; kernel_rfl) | (refine dO ?_; simp (disch := ((try simp only [ZL]) <;> omega)) only [ZK, ZL]; done) | (refine dK ?_; (repeat first | exact Keep.refl _ _ | exact Keep.app _ _ (Nat.le_refl _) | assumption | refine Keep.ap ?_ | refine Keep.st (by first | omega | (simp only [ZL]; omega)) ?_); done) | ((try simp only [ZL]) <;> omega) | fail)) only [XOB, ↓XXs, ↓XD, ↓YX, ZB, Nat.reduceAdd, Nat.reducePow, ↓reduceIte, eq_self, Int.reduceEq, Nat.reduceEqDiff, Nat.reduceMul, Nat.reduceLeDiff, Int.reduceBEq, Int.reduceLT, Try.f7, ↓XH2, XRN, ZC, ZE, ZH, eq_self, Nat.reduceLeDiff, Nat.reduceBEq, slV_new, ZS, reduceIte, ↓op_extract, hlt, hix, hw, hw2, eA', b1]
      exact ih (d ++ [x]) _ _ (by simp [hd]) (by rw [List.filter_append, List.filter_cons, show bareN x = false from q]; simp) (by simp)
theorem r7 (va : Value) (n l : Nat) (h : AH) (r : Cd h va n) (hl : l ≤ h.length) :
    Okr TrueQ (run V0 (.fn 7) l [S va] h) := by
  have lv := r.len
  refine okr_fn Try.func7 rfl rfl rfl rfl ?_
  simp (dsimp := false) (disch := (first | (refine dS ?_; kernel_rfl) | (refine dM ?_; kernel_rfl) | (refine dO ?_; simp (disch := ((try simp only [ZL]) <;> omega)) only [ZK, ZL]; done) | (refine dK ?_; (repeat first | exact Keep.refl _ _ | exact Keep.app _ _ (Nat.le_refl _) | assumption | refine Keep.ap ?_ | refine Keep.st (by first | omega | (simp only [ZL]; omega)) ?_); done) | ((try simp only [ZL]) <;> omega) | fail)) only [XOB, ↓XXs, ↓XD, ↓YX, ZB, Nat.reduceAdd, Nat.reducePow, ↓reduceIte, eq_self, Int.reduceEq, Nat.reduceEqDiff, Nat.reduceMul, Nat.reduceLeDiff, Int.reduceBEq, Int.reduceLT, Try.f7, ↓XH2, XRN, ZC, ZE, ZH, eq_self, Nat.reduceLeDiff, Nat.reduceBEq, slV_new, ZS, reduceIte, ↓op_extract, lv]
  refine okr_if (fun t => ?_) (fun t => ?_)
  · try simp (dsimp := false) (disch := (first | (refine dS ?_; kernel_rfl) | (refine dM ?_; kernel_rfl) | (refine dO ?_; simp (disch := ((try simp only [ZL]) <;> omega)) only [ZK, ZL]; done) | (refine dK ?_; (repeat first | exact Keep.refl _ _ | exact Keep.app _ _ (Nat.le_refl _) | assumption | refine Keep.ap ?_ | refine Keep.st (by first | omega | (simp only [ZL]; omega)) ?_); done) | ((try simp only [ZL]) <;> omega) | fail)) only [XOB, ↓XXs, ↓XD, ↓YX, ZB, Nat.reduceAdd, Nat.reducePow, ↓reduceIte, eq_self, Int.reduceEq, Nat.reduceEqDiff, Nat.reduceMul, Nat.reduceLeDiff, Int.reduceBEq, Int.reduceLT, Try.f7, ↓XH2, XRN, ZC, ZE, ZH, eq_self, Nat.reduceLeDiff, Nat.reduceBEq, slV_new, ZS, reduceIte, ↓op_extract, lv]
    with_reducible refine Okr.ret ?_
    rfl
  have hn : n ≤ 2 ^ 20 := by have := of_decide_eq_false t; omega
  try simp (dsimp := false) (disch := (first | (refine dS ?_; kernel_rfl) | (refine dM ?_; kernel_rfl) | (refine dO ?_; simp (disch := ((try simp only [ZL]) <;> omega)) only [ZK, ZL]; done) | (refine dK ?_; (repeat first | exact Keep.refl _ _ | exact Keep.app _ _ (Nat.le_refl _) | assumption | refine Keep.ap ?_ | refine Keep.st (by first | omega | (simp only [ZL]; omega)) ?_); done) | ((try simp only [ZL]) <;> omega) | fail)) only [XOB, ↓XXs, ↓XD, ↓YX, ZB, Nat.reduceAdd, Nat.reducePow, ↓reduceIte, eq_self, Int.reduceEq, Nat.reduceEqDiff, Nat.reduceMul, Nat.reduceLeDiff, Int.reduceBEq, Int.reduceLT, Try.f7, ↓XH2, XRN, ZC, ZE, ZH, eq_self, Nat.reduceLeDiff, Nat.reduceBEq, slV_new, ZS, reduceIte, ↓op_extract, lv]
  refine okr_call (r27 va n l h r hl (by omega)) ?_
  rintro _ h2 ⟨⟨i2, g2, log, rm, rfl, e2, hi2, hinc, h60, frm⟩, k2⟩
  have hk2 := k2.1
  try simp (dsimp := false) (disch := (first | (refine dS ?_; kernel_rfl) | (refine dM ?_; kernel_rfl) | (refine dO ?_; simp (disch := ((try simp only [ZL]) <;> omega)) only [ZK, ZL]; done) | (refine dK ?_; (repeat first | exact Keep.refl _ _ | exact Keep.app _ _ (Nat.le_refl _) | assumption | refine Keep.ap ?_ | refine Keep.st (by first | omega | (simp only [ZL]; omega)) ?_); done) | ((try simp only [ZL]) <;> omega) | fail)) only [XOB, ↓XXs, ↓XD, ↓YX, ZB, Nat.reduceAdd, Nat.reducePow, ↓reduceIte, eq_self, Int.reduceEq, Nat.reduceEqDiff, Nat.reduceMul, Nat.reduceLeDiff, Int.reduceBEq, Int.reduceLT, Try.f7, ↓XH2, XRN, ZC, ZE, ZH, eq_self, Nat.reduceLeDiff, Nat.reduceBEq, slV_new, ZS, reduceIte, ↓op_extract, lv]
  refine okr_call (r28 rfl (by omega) e2 (by omega)) ?_
  rintro v3 h3 q3
  obtain ⟨w3, k3⟩ := q3.fi
  have hk3 := k3.1
  have e23 := k3.get e2 (lt_of_get e2)
  try simp (dsimp := false) (disch := (first | (refine dS ?_; kernel_rfl) | (refine dM ?_; kernel_rfl) | (refine dO ?_; simp (disch := ((try simp only [ZL]) <;> omega)) only [ZK, ZL]; done) | (refine dK ?_; (repeat first | exact Keep.refl _ _ | exact Keep.app _ _ (Nat.le_refl _) | assumption | refine Keep.ap ?_ | refine Keep.st (by first | omega | (simp only [ZL]; omega)) ?_); done) | ((try simp only [ZL]) <;> omega) | fail)) only [XOB, ↓XXs, ↓XD, ↓YX, ZB, Nat.reduceAdd, Nat.reducePow, ↓reduceIte, eq_self, Int.reduceEq, Nat.reduceEqDiff, Nat.reduceMul, Nat.reduceLeDiff, Int.reduceBEq, Int.reduceLT, Try.f7, ↓XH2, XRN, ZC, ZE, ZH, eq_self, Nat.reduceLeDiff, Nat.reduceBEq, slV_new, ZS, reduceIte, ↓op_extract, lv]
  refine okr_call (r30s rfl (by omega) e23 (by omega)) ?_
  rintro v4 h4 q4
  obtain ⟨w4, k4⟩ := q4.fi
  have hk4 := k4.1
  have e24 := k4.get e23 (lt_of_get e23)
  have w34 := w3.keep k4
  have hnl := nowL_len rm log
  have a5 := hb_log (l := l) rfl (by omega) w34 w4
  try simp (dsimp := false) (disch := (first | (refine dS ?_; kernel_rfl) | (refine dM ?_; kernel_rfl) | (refine dO ?_; simp (disch := ((try simp only [ZL]) <;> omega)) only [ZK, ZL]; done) | (refine dK ?_; (repeat first | exact Keep.refl _ _ | exact Keep.app _ _ (Nat.le_refl _) | assumption | refine Keep.ap ?_ | refine Keep.st (by first | omega | (simp only [ZL]; omega)) ?_); done) | ((try simp only [ZL]) <;> omega) | fail)) only [XOB, ↓XXs, ↓XD, ↓YX, ZB, Nat.reduceAdd, Nat.reducePow, ↓reduceIte, eq_self, Int.reduceEq, Nat.reduceEqDiff, Nat.reduceMul, Nat.reduceLeDiff, Int.reduceBEq, Int.reduceLT, Try.f7, ↓XH2, XRN, ZC, ZE, ZH, eq_self, Nat.reduceLeDiff, Nat.reduceBEq, slV_new, ZS, reduceIte, ↓op_extract, lv, a5]
  refine okr_call (r31 rfl (by omega) e24 (by omega)) ?_
  rintro _ h5 ⟨i5, g5, rfl, e5, hi5, k5⟩
  have w35 := w34.keep k5
  have hfl := List.length_filter_le (talkL rm) log
  try simp (dsimp := false) (disch := (first | (refine dS ?_; kernel_rfl) | (refine dM ?_; kernel_rfl) | (refine dO ?_; simp (disch := ((try simp only [ZL]) <;> omega)) only [ZK, ZL]; done) | (refine dK ?_; (repeat first | exact Keep.refl _ _ | exact Keep.app _ _ (Nat.le_refl _) | assumption | refine Keep.ap ?_ | refine Keep.st (by first | omega | (simp only [ZL]; omega)) ?_); done) | ((try simp only [ZL]) <;> omega) | fail)) only [XOB, ↓XXs, ↓XD, ↓YX, ZB, Nat.reduceAdd, Nat.reducePow, ↓reduceIte, eq_self, Int.reduceEq, Nat.reduceEqDiff, Nat.reduceMul, Nat.reduceLeDiff, Int.reduceBEq, Int.reduceLT, Try.f7, ↓XH2, XRN, ZC, ZE, ZH, eq_self, Nat.reduceLeDiff, Nat.reduceBEq, slV_new, ZS, reduceIte, ↓op_extract, lv, a5]
  have h1 := now_len (log.filter (talkL rm)) []
  have h2 := now_bare (log.filter (talkL rm)) []
  simp only [List.length_nil, Nat.zero_add, List.map_nil, List.nil_append] at h1 h2
  exact L7a l i5 g5 v3 (nowL rm log) (log.filter (talkL rm)) h5 (by omega) h1.1 h1.2 w35 e5 (talk_inc hinc) h2 _ [] 0 0 rfl rfl rfl
theorem rz7 (va : Value) (n l : Nat) (h : AH) (r : Cd h va n) (hl : l ≤ h.length) : ∃ h', run V0 (.fn 7) l [S va] h = some (.ret (.bool true) h') := by
  obtain ⟨v, h', e, rfl⟩ := r7 va n l h r hl
  exact ⟨h', e⟩
end Go.Abs
namespace Go.Abs
open Go.Proofs
set_option maxRecDepth 100000
set_option linter.unusedSimpArgs false
set_option linter.unusedVariables false
set_option pp.maxSteps 20000
set_option pp.deepTerms true
theorem wordsF_len : ∀ (f : Nat) (s : Bs) (out : List Bs), s.length ≤ f → (wordsF f out s).length ≤ out.length + s.length := by
  intro f
  induction f with
  | zero => intro s out hf; simp [wordsF]
  | succ f ih =>
    intro s out hf
    cases s with
    | nil => simp [wordsF]
    | cons b s =>
      simp only [List.length_cons] at hf
      simp only [wordsF]
      have hd : ((b :: s).drop ((spanW (b :: s)).length + 1)).length ≤ s.length := by rw [List.length_drop, List.length_cons]; omega
      have h1 := ih ((b :: s).drop ((spanW (b :: s)).length + 1)) (addW out ((spanW (b :: s)).map lowB)) (by omega)
      have h2 := addW_len out ((spanW (b :: s)).map lowB)
      simp only [List.length_cons]
      omega
theorem wordsL_len (s : Bs) : (wordsL s).length ≤ s.length := by
  have := wordsF_len s.length s [] (Nat.le_refl _)
  simpa [wordsL] using this
/-- eqStringS: its loop -/
def hasL (ws : List Bs) (s : Bs) : Bool := ws.all fun w => decide (w ∈ wordsL s)
def seekL (ws : List Bs) (now : List En) : List Int := (now.filter fun e => hasL ws e.text).map En.seq
def iC (xs : List Int) : List Value := xs.map iV
theorem iC_len (xs : List Int) : (iC xs).length = xs.length := by simp [iC]
theorem iC_app (a b : List Int) : iC (a ++ b) = iC a ++ iC b := by simp [iC]
theorem iC_get (d : List Int) (x : Int) (r : List Int) : (iC (d ++ x :: r))[d.length]? = some (iV x) := by simp [iC]
theorem iC_one (x : Int) : iC [x] = [iV x] := rfl
theorem In.app3 {lim : Nat} {h : AH} {id g g2 no nh : Nat} {os : List Int} {cs ys : List Value} (y : Int) (e : h[id]? = some (.row g 1 cs)) (e2 : h[nh]? = some (.row g2 1 ys)) (hc : cs = iC os) (hno : no = os.length) (hl : lim ≤ id) (hb : os.length ≤ 2 ^ 30) (hy : ys = [iV y]) :
    ∃ z, app lim h (slV id g no no) (slV nh g2 1 1) 1 1 8 = some z ∧ ∃ g', z = (slV id g' (no + 1) (no + 1), h.set id (.row g' 1 (iC (os ++ [y])))) := by
  subst hc hno hy
  obtain ⟨z, e1, g', rfl⟩ := okr_app (lim := lim) (id := id) (g := g) (tg := 1) (n := os.length) (k := 1) (by' := 8) (cs := iC os) (x := slV nh g2 1 1) (ds := [iV y]) (src_new (sz := 1) (tg := 1) e2 rfl) e (by rw [iC_len]; omega) hl (by omega)
  exact ⟨_, e1, g', by rw [iC_app, iC_one]⟩
abbrev skV (ic : Nat) : Value := .func (.func 75) ⟨[]⟩ ⟨[pV ic 0 0]⟩
theorem r75 {ic iH gh l : Nat} {has : List Bs} {w : Bs} {h : AH} (hn : has.length ≤ 2 ^ 40) (ec : h[ic]? = some (.row 0 1 [slV iH gh has.length has.length])) (eh : h[iH]? = some (.row gh 1 (sC has))) :
    run V0 (.fn 75) l [S (sV w), S (pV ic 0 0)] h = some (.ret (.bool (!decide (w ∈ has))) h) := by
  have a1 := r49 iH gh has.length has hn l w h eh
  have hld : ld h (pV ic 0 0) = some (slV iH gh has.length has.length) := ld_of ec rfl
  refine run_fn Try.func75 rfl rfl rfl rfl ?_
  simp only [↓XX, ↓XD, ↓YX, ZB, Nat.reduceAdd, Nat.reducePow, ↓reduceIte, eq_self, Int.reduceEq, Nat.reduceEqDiff, Nat.reduceMul, Nat.reduceLeDiff, Try.f75, hld, a1]
def notIn (has : List Bs) : List Bs → Nat → Int
  | [], _ => -1
  | w :: r, k => if w ∈ has then notIn has r (k + 1) else k
theorem notIn_none (has : List Bs) : ∀ (r : List Bs) (k : Nat), decide (0 ≤ notIn has r k) = !(r.all fun w => decide (w ∈ has))
  | [], k => rfl
  | w :: r, k => by
    by_cases q : w ∈ has
    · have e1 : notIn has (w :: r) k = notIn has r (k + 1) := by simp only [notIn, if_pos q]
      rw [e1, notIn_none has r, List.all_cons, decide_eq_true q, Bool.true_and]
    · have e1 : notIn has (w :: r) k = (k : Int) := by simp only [notIn, if_neg q]
      rw [e1, List.all_cons, decide_eq_false q, Bool.false_and]
      exact decide_eq_true (by omega)
theorem L107 {ic iH gh l n iw gw : Nat} {has : List Bs} {h : AH} (hn : has.length ≤ 2 ^ 40) (hn2 : n ≤ 2 ^ 40) (ec : h[ic]? = some (.row 0 1 [slV iH gh has.length has.length])) (eh : h[iH]? = some (.row gh 1 (sC has))) :
    ∀ (r d : List Bs) (i : Int), d.length + r.length = n → i = d.length → h[iw]? = some (.row gw 1 (sC (d ++ r))) →
      L107_0 l (slV iw gw n n) (skV ic) (iV n) (iV i) h = some (.ret (iV (notIn has r d.length)) h) := by
  intro r
  induction r with
  | nil =>
    rintro d i hk rfl e
    simp only [List.length_nil, Nat.add_zero] at hk
    have hlt : decide ((d.length : Int) < (n : Int)) = false := by rw [decide_eq_false_iff_not]; omega
    refine run_code Try.func107 rfl rfl ?_
    simp only [↓XX, ↓XD, ↓YX, ZB, Nat.reduceAdd, Nat.reducePow, ↓reduceIte, eq_self, Int.reduceEq, Nat.reduceEqDiff, Nat.reduceMul, Nat.reduceLeDiff, Try.f107, hlt, notIn]
  | cons w r ih =>
    rintro d i hk rfl e
    simp only [List.length_cons] at hk
    have hlt : decide ((d.length : Int) < (n : Int)) = true := by rw [decide_eq_true_iff]; omega
    have hix : ixAddr (slV iw gw n n) (d.length : Int) 1 = some (pV iw d.length gw) := by rw [ixAddr_sl (by omega)]; simp
    have hld : ld h (pV iw d.length gw) = some (sV w) := ld_of e (by rw [sC_get])
    have hw : IntKind.i64.wrap ((d.length : Int) + 1) = (((d ++ [w]).length : Nat) : Int) := natCast_succ_wrap (by omega) (by simp)
    have a1 := r75 (l := l) (w := w) hn ec eh
    have i1 := ih (d ++ [w]) ((d ++ [w]).length : Nat) (by simp; omega) rfl (by rw [e]; simp)
    refine run_code Try.func107 rfl rfl ?_
    cases q : decide (w ∈ has) with
    | true =>
      rw [q] at a1
      simp only [↓XX, ↓XD, ↓YX, ZB, Nat.reduceAdd, Nat.reducePow, ↓reduceIte, eq_self, Int.reduceEq, Nat.reduceEqDiff, Nat.reduceMul, Nat.reduceLeDiff, Try.f107, hlt, hix, hld, a1, Bool.not_true, hw]
      rw [i1]; simp [notIn, of_decide_eq_true q]
    | false =>
      rw [q] at a1
      simp only [↓XX, ↓XD, ↓YX, ZB, Nat.reduceAdd, Nat.reducePow, ↓reduceIte, eq_self, Int.reduceEq, Nat.reduceEqDiff, Nat.reduceMul, Nat.reduceLeDiff, Try.f107, hlt, hix, hld, a1, Bool.not_false]
      simp [notIn, of_decide_eq_false q]
theorem r74 {ic iH gh l n iw gw : Nat} {has ws : List Bs} {h : AH} (hn : has.length ≤ 2 ^ 40) (hk : n = ws.length) (hn2 : n ≤ 2 ^ 40) (ec : h[ic]? = some (.row 0 1 [slV iH gh has.length has.length])) (eh : h[iH]? = some (.row gh 1 (sC has))) (e : h[iw]? = some (.row gw 1 (sC ws))) :
    run V0 (.fn 74) l [S (slV iw gw n n), S (skV ic)] h = some (.ret (.bool (!(ws.all fun w => decide (w ∈ has)))) h) := by
  have i1 := L107 (l := l) hn hn2 ec eh ws [] 0 (by simp; omega) rfl (by simpa using e)
  have a1 : run V0 (.fn 107) l [S (slV iw gw n n), S (skV ic)] h = some (.ret (iV (notIn has ws 0)) h) := by
    refine run_fn Try.func107 rfl rfl rfl rfl ?_
    simp only [↓XX, ↓XD, ↓YX, ZB, Nat.reduceAdd, Nat.reducePow, ↓reduceIte, eq_self, Int.reduceEq, Nat.reduceEqDiff, Nat.reduceMul, Nat.reduceLeDiff, Try.f107, lenV]
    exact i1
  refine run_fn Try.func74 rfl rfl rfl rfl ?_
  simp only [↓XX, ↓XD, ↓YX, ZB, Nat.reduceAdd, Nat.reducePow, ↓reduceIte, eq_self, Int.reduceEq, Nat.reduceEqDiff, Nat.reduceMul, Nat.reduceLeDiff, Try.f74, a1, notIn_none]
/-- spec.l14Has -/
theorem L108 {iH gh l n iw gw : Nat} {has : List Bs} {h : AH} (hn : has.length ≤ 2 ^ 40) (hn2 : n ≤ 2 ^ 40) (eh : h[iH]? = some (.row gh 1 (sC has))) :
    ∀ (r d : List Bs) (i : Int), d.length + r.length = n → i = d.length → h[iw]? = some (.row gw 1 (sC (d ++ r))) →
      L108_0 l (slV iH gh has.length has.length) (slV iw gw n n) (iV i) h = some (.ret (.bool (r.all fun w => decide (w ∈ has))) h) := by
  intro r
  induction r with
  | nil =>
    rintro d i hk rfl e
    simp only [List.length_nil, Nat.add_zero] at hk
    have hlt : decide ((d.length : Int) < (n : Int)) = false := by rw [decide_eq_false_iff_not]; omega
    refine run_code Try.func108 rfl rfl ?_
    simp only [↓XX, ↓XD, ↓YX, ZB, Nat.reduceAdd, Nat.reducePow, ↓reduceIte, eq_self, Int.reduceEq, Nat.reduceEqDiff, Nat.reduceMul, Nat.reduceLeDiff, Try.f108, lenV, hlt, List.all_nil]
  | cons w r ih =>
    rintro d i hk rfl e
    simp only [List.length_cons] at hk
    have hlt : decide ((d.length : Int) < (n : Int)) = true := by rw [decide_eq_true_iff]; omega
    have hix : ixAddr (slV iw gw n n) (d.length : Int) 1 = some (pV iw d.length gw) := by rw [ixAddr_sl (by omega)]; simp
    have hld : ld h (pV iw d.length gw) = some (sV w) := ld_of e (by rw [sC_get])
    have hw : IntKind.i64.wrap ((d.length : Int) + 1) = (((d ++ [w]).length : Nat) : Int) := natCast_succ_wrap (by omega) (by simp)
    have a1 := r85 iH gh has.length has hn l w h eh
    have i1 := ih (d ++ [w]) ((d ++ [w]).length : Nat) (by simp; omega) rfl (by rw [e]; simp)
    have hf := findL_lt w has 0
    refine run_code Try.func108 rfl rfl ?_
    rw [List.all_cons]
    cases q : decide (w ∈ has) with
    | true =>
      have hz : decide (findL w has 0 < 0) = false := decide_eq_false (fun z => hf.1 z (of_decide_eq_true q))
      simp only [↓XX, ↓XD, ↓YX, ZB, Nat.reduceAdd, Nat.reducePow, ↓reduceIte, eq_self, Int.reduceEq, Nat.reduceEqDiff, Nat.reduceMul, Nat.reduceLeDiff, Try.f108, lenV, hlt, hix, hld, a1, hz, hw, Bool.true_and]
      exact i1
    | false =>
      have hz : decide (findL w has 0 < 0) = true := decide_eq_true (hf.2 (of_decide_eq_false q))
      simp only [↓XX, ↓XD, ↓YX, ZB, Nat.reduceAdd, Nat.reducePow, ↓reduceIte, eq_self, Int.reduceEq, Nat.reduceEqDiff, Nat.reduceMul, Nat.reduceLeDiff, Try.f108, lenV, hlt, hix, hld, a1, hz, Bool.false_and]
theorem r108 {iH gh l n iw gw : Nat} {has ws : List Bs} {h : AH} (hn : has.length ≤ 2 ^ 40) (hk : n = ws.length) (hn2 : n ≤ 2 ^ 40) (eh : h[iH]? = some (.row gh 1 (sC has))) (e : h[iw]? = some (.row gw 1 (sC ws))) :
    run V0 (.fn 108) l [S (slV iH gh has.length has.length), S (slV iw gw n n)] h = some (.ret (.bool (ws.all fun w => decide (w ∈ has))) h) := by
  have i1 := L108 (l := l) hn hn2 eh ws [] 0 (by simp; omega) rfl (by simpa using e)
  refine run_fn Try.func108 rfl rfl rfl rfl ?_
  simp only [↓XX, ↓XD, ↓YX, ZB, Nat.reduceAdd, Nat.reducePow, ↓reduceIte, eq_self, Int.reduceEq, Nat.reduceEqDiff, Nat.reduceMul, Nat.reduceLeDiff, Try.f108]
  exact i1
theorem seekL_app (ws : List Bs) (a b : List En) : seekL ws (a ++ b) = seekL ws a ++ seekL ws b := by simp [seekL]
theorem seekL_one (ws : List Bs) (e : En) : seekL ws [e] = if hasL ws e.text = true then [e.seq] else [] := by
  unfold seekL
  rw [List.filter_cons]
  split <;> rfl
theorem seekL_len (ws : List Bs) (a : List En) : (seekL ws a).length ≤ a.length := by
  unfold seekL
  rw [List.length_map]
  exact List.length_filter_le _ _
/-- what finding leaves -/
def SkQ (h : AH) (xs : List Int) (v : Value) (h' : AH) : Prop := ∃ i g, v = slV i g xs.length xs.length ∧ h'[i]? = some (.row g 1 (iC xs)) ∧ h.length ≤ i ∧ Keep h.length h h'
/-- impl.SeekOf: its loop -/
theorem L36 (l iW gW iN gN n : Nat) (ws : List Bs) (now : List En) (H1 : AH) (hn : now.length = n) (hn2 : n ≤ 2 ^ 20) (hw0 : ws.length ≤ 2 ^ 30) (ft : ∀ x ∈ now, x.text.length ≤ 64) (hl : l ≤ H1.length) :
    ∀ (r d : List En), d ++ r = now → ∀ (iO gO no : Nat) (i : Int) (out : List Int) (h : AH), iO ≠ iW → iO ≠ iN → h[iW]? = some (.row gW 1 (sC ws)) → h[iN]? = some (.row gN 9 (En.R now)) → Keep H1.length H1 h → H1.length ≤ iO → h[iO]? = some (.row gO 1 (iC out)) → no = out.length → out.length ≤ d.length → i = d.length →
      Okr (SkQ H1 (out ++ seekL ws r)) (L36_0 l (slV iW gW ws.length ws.length) (slV iO gO no no) (slV iN gN n n) (iV n) (iV i) h) := by
  intro r
  induction r with
  | nil =>
    rintro d hd iO gO no i out h hOW hON eW eN k hiO eO rfl hod rfl
    rw [List.append_nil] at hd
    subst hd hn
    have hlt : decide ((d.length : Int) < (d.length : Int)) = false := decide_eq_false (by omega)
    have hcut := slCut_lenW (n := out.length) (c := out.length) (off := 0) eO (Nat.le_refl _)
    refine okr_code Try.func36 rfl rfl ?_
    simp (dsimp := false) (disch := (first | (refine dS ?_; kernel_rfl) | (refine dM ?_; kernel_rfl) | (refine dO ?_; simp (disch := ((try simp only [ZL]) <;> omega)) only [ZK, ZL]; done) | (refine dK ?_; (repeat first | exact Keep.refl _ _ | exact Keep.app _ _ (Nat.le_refl _) | assumption | refine Keep.ap ?_ | refine Keep.st (by first | omega | (simp only [ZL]; omega)) ?_); done) | ((try simp only [ZL]) <;> omega) | fail)) only [XOB, ↓XXs, ↓XD, ↓YX, ZB, Nat.reduceAdd, Nat.reducePow, ↓reduceIte, eq_self, Int.reduceEq, Nat.reduceEqDiff, Nat.reduceMul, Nat.reduceLeDiff, Int.reduceBEq, Int.reduceLT, Try.f36, ↓XH2, XRN, ZC, ZE, ZH, eq_self, Nat.reduceLeDiff, Nat.reduceBEq, slV_new, ZS, reduceIte, ↓op_extract, hlt, hcut]
    with_reducible refine Okr.ret ?_
    exact ⟨iO, gO, by simp [seekL], by simpa [seekL] using eO, hiO, k⟩
  | cons x r ih =>
    rintro d hd iO gO no i out h hOW hON eW eN k hiO eO rfl hod rfl
    have hk := k.1
    have hll : d.length + r.length + 1 = n := by rw [← hn, ← hd]; simp; omega
    have hlt : decide ((d.length : Int) < (n : Int)) = true := decide_eq_true (by omega)
    have hw : IntKind.i64.wrap ((d.length : Int) + 1) = ((d.length + 1 : Nat) : Int) := natCast_succ_wrap (by omega) rfl
    have hix : ixAddr (slV iN gN n n) (d.length : Int) 9 = some (pV iN (d.length * 9) gN) := by rw [ixAddr_sl (by omega)]; simp
    have c1 : ((En.R now).drop (d.length * 9)).take 9 = En.C x := by rw [← hd]; exact En.get d x r
    have l1 : d.length * 9 + 9 ≤ (En.R now).length := by rw [En.R_len]; omega
    have hlh : l ≤ h.length := by omega
    have hO := lt_of_get eO
    have hW := lt_of_get eW
    have hN := lt_of_get eN
    have hx : x.text.length ≤ 64 := ft x (by rw [← hd]; simp)
    have k0 : Keep h.length h (h ++ [AObj.row 0 9 x.C]) := Keep.app _ _ (Nat.le_refl _)
    obtain ⟨i2, g2, h2, a2, e2, hi2, k2⟩ := r14 x.text (by omega) l (h ++ [AObj.row 0 9 x.C]) (by simp; omega)
    simp only [List.length_append, List.length_singleton] at hi2
    have k02 := k0.trans (k2.le k0.1)
    have hk2 := k02.1
    have eW2 := k02.get eW hW
    have eN2 := k02.get eN hN
    have eO2 := k02.get eO hO
    have eB2 : h2[h.length]? = some (.row 0 9 x.C) := k2.get (by simp) (by simp)
    have hB2 := lt_of_get eB2
    have h22 := lt_of_get e2
    have hO2 := lt_of_get eO2
    have hwl := wordsL_len x.text
    have hlh2 : l ≤ h2.length := by omega
    have a3 := r74 (l := l) (ic := h2.length) (h := h2 ++ [AObj.row 0 1 [slV i2 g2 (wordsL x.text).length (wordsL x.text).length]]) (iw := iW) (gw := gW) (n := ws.length) (ws := ws) (has := wordsL x.text) (iH := i2) (gh := g2) (by omega) rfl (by omega) (by simp) (by rw [List.getElem?_append_left h22, e2]) (by rw [List.getElem?_append_left (lt_of_get eW2), eW2])
    rw [show (!(ws.all fun w => decide (w ∈ wordsL x.text))) = !hasL ws x.text from rfl] at a3
    have k3 : Keep H1.length H1 (h2 ++ [AObj.row 0 1 [slV i2 g2 (wordsL x.text).length (wordsL x.text).length]]) := k.trans ((k02.le hk).trans (Keep.app _ _ (by omega)))
    refine okr_code Try.func36 rfl rfl ?_
    have hsp : seekL ws (x :: r) = seekL ws [x] ++ seekL ws r := seekL_app ws [x] r
    rw [hsp, seekL_one]
    cases q : hasL ws x.text with
    | false =>
      rw [q] at a3
      simp (dsimp := false) (disch := (first | (refine dS ?_; kernel_rfl) | (refine dM ?_; kernel_rfl) | (refine dO ?_; simp (disch := ((try simp only [ZL]) <;> omega)) only [ZK, ZL]; done) | (refine dK ?_; (repeat first | exact Keep.refl _ _ | exact Keep.app _ _ (Nat.le_refl _) | assumption | refine Keep.ap ?_ | refine Keep.st (by first | omega | (simp only [ZL]; omega)) ?_); done) | ((try simp only [ZL]) <;> omega) | fail)) only [XOB, ↓XXs, ↓XD, ↓YX, ZB, Nat.reduceAdd, Nat.reducePow, ↓reduceIte, eq_self, Int.reduceEq, Nat.reduceEqDiff, Nat.reduceMul, Nat.reduceLeDiff, Int.reduceBEq, Int.reduceLT, Try.f36, ↓XH2, XRN, ZC, ZE, ZH, eq_self, Nat.reduceLeDiff, Nat.reduceBEq, slV_new, ZS, reduceIte, ↓op_extract, hlt, hw, hix, eN, c1, l1, hlh, hlh2, a2, a3, eB2, hB2]
      rw [if_neg (by simp), List.nil_append]
      exact ih (d ++ [x]) (by simp [hd]) iO gO _ _ out _ hOW hON (by rw [List.getElem?_append_left (lt_of_get eW2), eW2]) (by rw [List.getElem?_append_left (lt_of_get eN2), eN2]) k3 hiO (by rw [List.getElem?_append_left hO2, eO2]) rfl (by simp; omega) (by simp)
    | true =>
      rw [q] at a3
      simp (dsimp := false) (disch := (first | (refine dS ?_; kernel_rfl) | (refine dM ?_; kernel_rfl) | (refine dO ?_; simp (disch := ((try simp only [ZL]) <;> omega)) only [ZK, ZL]; done) | (refine dK ?_; (repeat first | exact Keep.refl _ _ | exact Keep.app _ _ (Nat.le_refl _) | assumption | refine Keep.ap ?_ | refine Keep.st (by first | omega | (simp only [ZL]; omega)) ?_); done) | ((try simp only [ZL]) <;> omega) | fail)) only [XOB, ↓XXs, ↓XD, ↓YX, ZB, Nat.reduceAdd, Nat.reducePow, ↓reduceIte, eq_self, Int.reduceEq, Nat.reduceEqDiff, Nat.reduceMul, Nat.reduceLeDiff, Int.reduceBEq, Int.reduceLT, Try.f36, ↓XH2, XRN, ZC, ZE, ZH, eq_self, Nat.reduceLeDiff, Nat.reduceBEq, slV_new, ZS, reduceIte, ↓op_extract, hlt, hw, hix, eN, c1, l1, hlh, hlh2, a2, a3, eB2, hB2]
      refine okr_opt (In.app3 (os := out) x.seq (by simp (disch := (first | (refine dS ?_; kernel_rfl) | (refine dM ?_; kernel_rfl) | (refine dO ?_; simp (disch := ((try simp only [ZL]) <;> omega)) only [ZK, ZL]; done) | (refine dK ?_; (repeat first | exact Keep.refl _ _ | exact Keep.app _ _ (Nat.le_refl _) | assumption | refine Keep.ap ?_ | refine Keep.st (by first | omega | (simp only [ZL]; omega)) ?_); done) | ((try simp only [ZL]) <;> omega) | fail)) only [↓XH2, XRN, ZC, ZE, ZH, eq_self, Nat.reduceLeDiff, Nat.reduceBEq, eO2]) (by simp (disch := (first | (refine dS ?_; kernel_rfl) | (refine dM ?_; kernel_rfl) | (refine dO ?_; simp (disch := ((try simp only [ZL]) <;> omega)) only [ZK, ZL]; done) | (refine dK ?_; (repeat first | exact Keep.refl _ _ | exact Keep.app _ _ (Nat.le_refl _) | assumption | refine Keep.ap ?_ | refine Keep.st (by first | omega | (simp only [ZL]; omega)) ?_); done) | ((try simp only [ZL]) <;> omega) | fail)) only [↓XH2, XRN, ZC, ZE, ZH, eq_self, Nat.reduceLeDiff, Nat.reduceBEq] <;> rfl) rfl rfl (by omega) (by omega) rfl) ?_
      rintro _ ⟨g4, rfl⟩
      simp (dsimp := false) (disch := (first | (refine dS ?_; kernel_rfl) | (refine dM ?_; kernel_rfl) | (refine dO ?_; simp (disch := ((try simp only [ZL]) <;> omega)) only [ZK, ZL]; done) | (refine dK ?_; (repeat first | exact Keep.refl _ _ | exact Keep.app _ _ (Nat.le_refl _) | assumption | refine Keep.ap ?_ | refine Keep.st (by first | omega | (simp only [ZL]; omega)) ?_); done) | ((try simp only [ZL]) <;> omega) | fail)) only [XOB, ↓XXs, ↓XD, ↓YX, ZB, Nat.reduceAdd, Nat.reducePow, ↓reduceIte, eq_self, Int.reduceEq, Nat.reduceEqDiff, Nat.reduceMul, Nat.reduceLeDiff, Int.reduceBEq, Int.reduceLT, Try.f36, ↓XH2, XRN, ZC, ZE, ZH, eq_self, Nat.reduceLeDiff, Nat.reduceBEq, slV_new, ZS, reduceIte, ↓op_extract, hlt, hw, hix, eN, c1, l1, hlh, hlh2, a2, a3, eB2, hB2]
      rw [show out ++ x.seq :: seekL ws r = (out ++ [x.seq]) ++ seekL ws r by simp]
      exact ih (d ++ [x]) (by simp [hd]) iO g4 _ _ (out ++ [x.seq]) _ hOW hON (by simp (disch := (first | (refine dS ?_; kernel_rfl) | (refine dM ?_; kernel_rfl) | (refine dO ?_; simp (disch := ((try simp only [ZL]) <;> omega)) only [ZK, ZL]; done) | (refine dK ?_; (repeat first | exact Keep.refl _ _ | exact Keep.app _ _ (Nat.le_refl _) | assumption | refine Keep.ap ?_ | refine Keep.st (by first | omega | (simp only [ZL]; omega)) ?_); done) | ((try simp only [ZL]) <;> omega) | fail)) only [↓XH2, XRN, ZC, ZE, ZH, eq_self, Nat.reduceLeDiff, Nat.reduceBEq, eW2]) (by simp (disch := (first | (refine dS ?_; kernel_rfl) | (refine dM ?_; kernel_rfl) | (refine dO ?_; simp (disch := ((try simp only [ZL]) <;> omega)) only [ZK, ZL]; done) | (refine dK ?_; (repeat first | exact Keep.refl _ _ | exact Keep.app _ _ (Nat.le_refl _) | assumption | refine Keep.ap ?_ | refine Keep.st (by first | omega | (simp only [ZL]; omega)) ?_); done) | ((try simp only [ZL]) <;> omega) | fail)) only [↓XH2, XRN, ZC, ZE, ZH, eq_self, Nat.reduceLeDiff, Nat.reduceBEq, eN2]) (k.trans ((k02.le hk).trans ((Keep.set h2 iO _ hiO).trans (Keep.app _ _ (by simp; omega))))) hiO (by simp (disch := (first | (refine dS ?_; kernel_rfl) | (refine dM ?_; kernel_rfl) | (refine dO ?_; simp (disch := ((try simp only [ZL]) <;> omega)) only [ZK, ZL]; done) | (refine dK ?_; (repeat first | exact Keep.refl _ _ | exact Keep.app _ _ (Nat.le_refl _) | assumption | refine Keep.ap ?_ | refine Keep.st (by first | omega | (simp only [ZL]; omega)) ?_); done) | ((try simp only [ZL]) <;> omega) | fail)) only [↓XH2, XRN, ZC, ZE, ZH, eq_self, Nat.reduceLeDiff, Nat.reduceBEq]) (by simp) (by simp; omega) (by simp)
theorem setT_text {m : Nat} {t : Bs} (ht : t.length ≤ m) : ∀ (l : List En) (k : Nat), (∀ x ∈ l, x.text.length ≤ m) → ∀ x ∈ setT l k t, x.text.length ≤ m
  | [], _, _, x, hx => by simp [setT] at hx
  | y :: r, 0, h, x, hx => by
    simp only [setT, List.mem_cons] at hx
    rcases hx with rfl | hx
    · exact ht
    · exact h x (by simp [hx])
  | y :: r, k + 1, h, x, hx => by
    simp only [setT, List.mem_cons] at hx
    rcases hx with rfl | hx
    · exact h x (by simp)
    · exact setT_text ht r k (fun z hz => h z (by simp [hz])) x hx
theorem now_text {m : Nat} : ∀ (r out : List En), (∀ x ∈ r, x.text.length ≤ m) → (∀ x ∈ out, x.text.length ≤ m) → ∀ x ∈ r.foldl stepN out, x.text.length ≤ m
  | [], out, _, h, x, hx => h x hx
  | e :: r, out, hr, h, x, hx => by
    rw [List.foldl_cons] at hx
    refine now_text r (stepN out e) (fun z hz => hr z (by simp [hz])) ?_ x hx
    have ha : ∀ z ∈ out ++ [e], z.text.length ≤ m := by
      intro z hz
      rcases List.mem_append.1 hz with hz | hz
      · exact h z hz
      · rw [List.mem_singleton] at hz; subst hz; exact hr z (by simp)
    unfold stepN
    split
    · exact ha
    · split
      · exact ha
      · exact setT_text (hr e (by simp)) out _ h
theorem nowL_text {m : Nat} {rm : Bs} {log : List En} (h : ∀ x ∈ log, x.text.length ≤ m) : ∀ x ∈ nowL rm log, x.text.length ≤ m :=
  now_text _ [] (fun x hx => h x (List.mem_filter.1 hx).1) (by simp)
theorem r36 {l iL gL cL n : Nat} {rm tx : Bs} {log : List En} {h : AH} (hn : n = log.length) (hn2 : log.length ≤ 2 ^ 20) (fl : ∀ x ∈ log, x.text.length ≤ 64) (ht : tx.length ≤ 64) (eL : h[iL]? = some (.row gL 9 (En.R log))) (hl : l ≤ h.length) :
    Okr (SkQ h (seekL (wordsL tx) (nowL rm log))) (run V0 (.fn 36) l [S (slV iL gL n cL), S (sV rm), S (sV tx)] h) := by
  obtain ⟨i1, g1, h1, a1, e1, hi1, k1⟩ := r14 tx (by omega) l h hl
  have hk1 := k1.1
  have h11 := lt_of_get e1
  have eL1 := k1.get eL (lt_of_get eL)
  have hwl := wordsL_len tx
  have k0 : Keep h1.length h1 (h1 ++ [AObj.row 0 1 []]) := Keep.app _ _ (Nat.le_refl _)
  have hmk : decide (0 ≤ (n : Int)) = true := decide_eq_true (by omega)
  have hm1 : decide ((n : Int) ≤ 9223372036854775807) = true := decide_eq_true (by omega)
  have hm2 : (0 : Int) ≤ (n : Int) ∧ (n : Int) ≤ 9223372036854775807 ∧ 8 * (n : Int) ≤ 2 ^ 47 := ⟨by omega, by omega, by omega⟩
  refine okr_fn Try.func36 rfl rfl rfl rfl ?_
  simp (dsimp := false) (disch := (first | (refine dS ?_; kernel_rfl) | (refine dM ?_; kernel_rfl) | (refine dO ?_; simp (disch := ((try simp only [ZL]) <;> omega)) only [ZK, ZL]; done) | (refine dK ?_; (repeat first | exact Keep.refl _ _ | exact Keep.app _ _ (Nat.le_refl _) | assumption | refine Keep.ap ?_ | refine Keep.st (by first | omega | (simp only [ZL]; omega)) ?_); done) | ((try simp only [ZL]) <;> omega) | fail)) only [XOB, ↓XXs, ↓XD, ↓YX, ZB, Nat.reduceAdd, Nat.reducePow, ↓reduceIte, eq_self, Int.reduceEq, Nat.reduceEqDiff, Nat.reduceMul, Nat.reduceLeDiff, Int.reduceBEq, Int.reduceLT, Try.f36, ↓XH2, XRN, ZC, ZE, ZH, eq_self, Nat.reduceLeDiff, Nat.reduceBEq, slV_new, ZS, reduceIte, ↓op_extract, a1, hm2]
  have hr : repL (Int.toNat 0) [Value.int IntKind.i64 0] = [] := rfl
  have h8 : (0 : Int) ≤ 0 ∧ ((8 : Nat) : Int) * (n : Int) ≤ 2 ^ 47 := ⟨by omega, by omega⟩
  rw [if_pos h8, hr]
  refine okr_call (r67 hn hn2 (k0.get eL1 (lt_of_get eL1)) (by simp; omega)) ?_
  rintro _ h2 ⟨i2, g2, rfl, e2, hi2, k2⟩
  simp only [List.length_append, List.length_singleton] at hi2
  have hnl := nowL_len rm log
  have e12 := k2.get (k0.get e1 h11) (by simp; omega)
  have eO2 : h2[h1.length]? = some (.row 0 1 (iC [])) := k2.get (by simp; rfl) (by simp)
  simp only [lenV_sl]
  have := L36 l i1 g1 i2 g2 (nowL rm log).length (wordsL tx) (nowL rm log) h rfl (by omega) (by omega) (nowL_text fl) hl (nowL rm log) [] rfl h1.length 0 0 0 [] h2 (by omega) (by omega) e12 e2 (k1.trans ((k0.le hk1).trans (k2.le (by simp; omega)))) hk1 eO2 rfl (by simp) rfl
  rw [List.nil_append] at this
  exact this
/-- spec.l14Seek: its loop -/
theorem L76 (l iW gW iN gN n : Nat) (ws : List Bs) (now : List En) (H1 : AH) (hn : now.length = n) (hn2 : n ≤ 2 ^ 20) (hw0 : ws.length ≤ 2 ^ 30) (ft : ∀ x ∈ now, x.text.length ≤ 64) (hl : l ≤ H1.length) :
    ∀ (r d : List En), d ++ r = now → ∀ (iO gO no : Nat) (i : Int) (out : List Int) (h : AH), iO ≠ iW → iO ≠ iN → h[iW]? = some (.row gW 1 (sC ws)) → h[iN]? = some (.row gN 9 (En.R now)) → Keep H1.length H1 h → H1.length ≤ iO → h[iO]? = some (.row gO 1 (iC out)) → no = out.length → out.length ≤ d.length → i = d.length →
      Okr (SkQ H1 (out ++ seekL ws r)) (L76_0 l (slV iW gW ws.length ws.length) (slV iO gO no no) (slV iN gN n n) (iV i) h) := by
  intro r
  induction r with
  | nil =>
    rintro d hd iO gO no i out h hOW hON eW eN k hiO eO rfl hod rfl
    rw [List.append_nil] at hd
    subst hd hn
    have hlt : decide ((d.length : Int) < (d.length : Int)) = false := decide_eq_false (by omega)
    refine okr_code Try.func76 rfl rfl ?_
    simp (dsimp := false) (disch := (first | (refine dS ?_; kernel_rfl) | (refine dM ?_; kernel_rfl) | (refine dO ?_; simp (disch := ((try simp only [ZL]) <;> omega)) only [ZK, ZL]; done) | (refine dK ?_; (repeat first | exact Keep.refl _ _ | exact Keep.app _ _ (Nat.le_refl _) | assumption | refine Keep.ap ?_ | refine Keep.st (by first | omega | (simp only [ZL]; omega)) ?_); done) | ((try simp only [ZL]) <;> omega) | fail)) only [XOB, ↓XXs, ↓XD, ↓YX, ZB, Nat.reduceAdd, Nat.reducePow, ↓reduceIte, eq_self, Int.reduceEq, Nat.reduceEqDiff, Nat.reduceMul, Nat.reduceLeDiff, Int.reduceBEq, Int.reduceLT, Try.f76, ↓XH2, XRN, ZC, ZE, ZH, eq_self, Nat.reduceLeDiff, Nat.reduceBEq, slV_new, ZS, reduceIte, ↓op_extract, hlt]
    with_reducible refine Okr.ret ?_
    exact ⟨iO, gO, by simp [seekL], by simpa [seekL] using eO, hiO, k⟩
  | cons x r ih =>
    rintro d hd iO gO no i out h hOW hON eW eN k hiO eO rfl hod rfl
    have hk := k.1
    have hll : d.length + r.length + 1 = n := by rw [← hn, ← hd]; simp; omega
    have hlt : decide ((d.length : Int) < (n : Int)) = true := decide_eq_true (by omega)
    have hw : IntKind.i64.wrap ((d.length : Int) + 1) = ((d.length + 1 : Nat) : Int) := natCast_succ_wrap (by omega) rfl
    have hix : ixAddr (slV iN gN n n) (d.length : Int) 9 = some (pV iN (d.length * 9) gN) := by rw [ixAddr_sl (by omega)]; simp
    have c5 : (En.R now)[d.length * 9 + 5]? = some (sV x.text) := by rw [← hd]; exact En.c5 d x r
    have c1 : (En.R now)[d.length * 9 + 1]? = some (iV x.seq) := by rw [← hd]; exact En.c1 d x r
    have hlh : l ≤ h.length := by omega
    have hO := lt_of_get eO
    have hx : x.text.length ≤ 64 := ft x (by rw [← hd]; simp)
    obtain ⟨i2, g2, h2, a2, e2, hi2, k2⟩ := r46 x.text (by omega) l h hlh
    have hk2 := k2.1
    have eW2 := k2.get eW (lt_of_get eW)
    have eN2 := k2.get eN (lt_of_get eN)
    have eO2 := k2.get eO hO
    have h22 := lt_of_get e2
    have hO2 := lt_of_get eO2
    have hN2 := lt_of_get eN2
    have hW2 := lt_of_get eW2
    have hwl := wordsL_len x.text
    have hlh2 : l ≤ h2.length := by omega
    have a3 := r108 (l := l) (ws := ws) (n := ws.length) (by omega) rfl (by omega) e2 eW2
    rw [show (ws.all fun w => decide (w ∈ wordsL x.text)) = hasL ws x.text from rfl] at a3
    have k3 : Keep H1.length H1 h2 := k.trans (k2.le hk)
    refine okr_code Try.func76 rfl rfl ?_
    have hsp : seekL ws (x :: r) = seekL ws [x] ++ seekL ws r := seekL_app ws [x] r
    rw [hsp, seekL_one]
    cases q : hasL ws x.text with
    | false =>
      rw [q] at a3
      simp (dsimp := false) (disch := (first | (refine dS ?_; kernel_rfl) | (refine dM ?_; kernel_rfl) | (refine dO ?_; simp (disch := ((try simp only [ZL]) <;> omega)) only [ZK, ZL]; done) | (refine dK ?_; (repeat first | exact Keep.refl _ _ | exact Keep.app _ _ (Nat.le_refl _) | assumption | refine Keep.ap ?_ | refine Keep.st (by first | omega | (simp only [ZL]; omega)) ?_); done) | ((try simp only [ZL]) <;> omega) | fail)) only [XOB, ↓XXs, ↓XD, ↓YX, ZB, Nat.reduceAdd, Nat.reducePow, ↓reduceIte, eq_self, Int.reduceEq, Nat.reduceEqDiff, Nat.reduceMul, Nat.reduceLeDiff, Int.reduceBEq, Int.reduceLT, Try.f76, ↓XH2, XRN, ZC, ZE, ZH, eq_self, Nat.reduceLeDiff, Nat.reduceBEq, slV_new, ZS, reduceIte, ↓op_extract, hlt, hw, hix, eN, eN2, c1, c5, hlh, hlh2, hN2, a2, a3]
      rw [if_neg (by simp), List.nil_append]
      exact ih (d ++ [x]) (by simp [hd]) iO gO _ _ out _ hOW hON eW2 eN2 k3 hiO eO2 rfl (by simp; omega) (by simp)
    | true =>
      rw [q] at a3
      simp (dsimp := false) (disch := (first | (refine dS ?_; kernel_rfl) | (refine dM ?_; kernel_rfl) | (refine dO ?_; simp (disch := ((try simp only [ZL]) <;> omega)) only [ZK, ZL]; done) | (refine dK ?_; (repeat first | exact Keep.refl _ _ | exact Keep.app _ _ (Nat.le_refl _) | assumption | refine Keep.ap ?_ | refine Keep.st (by first | omega | (simp only [ZL]; omega)) ?_); done) | ((try simp only [ZL]) <;> omega) | fail)) only [XOB, ↓XXs, ↓XD, ↓YX, ZB, Nat.reduceAdd, Nat.reducePow, ↓reduceIte, eq_self, Int.reduceEq, Nat.reduceEqDiff, Nat.reduceMul, Nat.reduceLeDiff, Int.reduceBEq, Int.reduceLT, Try.f76, ↓XH2, XRN, ZC, ZE, ZH, eq_self, Nat.reduceLeDiff, Nat.reduceBEq, slV_new, ZS, reduceIte, ↓op_extract, hlt, hw, hix, eN, eN2, c1, c5, hlh, hlh2, hN2, a2, a3]
      refine okr_opt (In.app3 (os := out) x.seq (by simp (disch := (first | (refine dS ?_; kernel_rfl) | (refine dM ?_; kernel_rfl) | (refine dO ?_; simp (disch := ((try simp only [ZL]) <;> omega)) only [ZK, ZL]; done) | (refine dK ?_; (repeat first | exact Keep.refl _ _ | exact Keep.app _ _ (Nat.le_refl _) | assumption | refine Keep.ap ?_ | refine Keep.st (by first | omega | (simp only [ZL]; omega)) ?_); done) | ((try simp only [ZL]) <;> omega) | fail)) only [↓XH2, XRN, ZC, ZE, ZH, eq_self, Nat.reduceLeDiff, Nat.reduceBEq, eO2]) (by simp (disch := (first | (refine dS ?_; kernel_rfl) | (refine dM ?_; kernel_rfl) | (refine dO ?_; simp (disch := ((try simp only [ZL]) <;> omega)) only [ZK, ZL]; done) | (refine dK ?_; (repeat first | exact Keep.refl _ _ | exact Keep.app _ _ (Nat.le_refl _) | assumption | refine Keep.ap ?_ | refine Keep.st (by first | omega | (simp only [ZL]; omega)) ?_); done) | ((try simp only [ZL]) <;> omega) | fail)) only [↓XH2, XRN, ZC, ZE, ZH, eq_self, Nat.reduceLeDiff, Nat.reduceBEq] <;> rfl) rfl rfl (by omega) (by omega) rfl) ?_
      rintro _ ⟨g4, rfl⟩
      simp (dsimp := false) (disch := (first | (refine dS ?_; kernel_rfl) | (refine dM ?_; kernel_rfl) | (refine dO ?_; simp (disch := ((try simp only [ZL]) <;> omega)) only [ZK, ZL]; done) | (refine dK ?_; (repeat first | exact Keep.refl _ _ | exact Keep.app _ _ (Nat.le_refl _) | assumption | refine Keep.ap ?_ | refine Keep.st (by first | omega | (simp only [ZL]; omega)) ?_); done) | ((try simp only [ZL]) <;> omega) | fail)) only [XOB, ↓XXs, ↓XD, ↓YX, ZB, Nat.reduceAdd, Nat.reducePow, ↓reduceIte, eq_self, Int.reduceEq, Nat.reduceEqDiff, Nat.reduceMul, Nat.reduceLeDiff, Int.reduceBEq, Int.reduceLT, Try.f76, ↓XH2, XRN, ZC, ZE, ZH, eq_self, Nat.reduceLeDiff, Nat.reduceBEq, slV_new, ZS, reduceIte, ↓op_extract, hlt, hw, hix, eN, eN2, c1, c5, hlh, hlh2, hN2, a2, a3]
      rw [show out ++ x.seq :: seekL ws r = (out ++ [x.seq]) ++ seekL ws r by simp]
      exact ih (d ++ [x]) (by simp [hd]) iO g4 (out.length + 1) ((d.length + 1 : Nat) : Int) (out ++ [x.seq]) (h2.set iO (.row g4 1 (iC (out ++ [x.seq]))) ++ [AObj.row 0 1 [iV x.seq]]) hOW hON (by simp (disch := (first | (refine dS ?_; kernel_rfl) | (refine dM ?_; kernel_rfl) | (refine dO ?_; simp (disch := ((try simp only [ZL]) <;> omega)) only [ZK, ZL]; done) | (refine dK ?_; (repeat first | exact Keep.refl _ _ | exact Keep.app _ _ (Nat.le_refl _) | assumption | refine Keep.ap ?_ | refine Keep.st (by first | omega | (simp only [ZL]; omega)) ?_); done) | ((try simp only [ZL]) <;> omega) | fail)) only [↓XH2, XRN, ZC, ZE, ZH, eq_self, Nat.reduceLeDiff, Nat.reduceBEq, eW2]) (by simp (disch := (first | (refine dS ?_; kernel_rfl) | (refine dM ?_; kernel_rfl) | (refine dO ?_; simp (disch := ((try simp only [ZL]) <;> omega)) only [ZK, ZL]; done) | (refine dK ?_; (repeat first | exact Keep.refl _ _ | exact Keep.app _ _ (Nat.le_refl _) | assumption | refine Keep.ap ?_ | refine Keep.st (by first | omega | (simp only [ZL]; omega)) ?_); done) | ((try simp only [ZL]) <;> omega) | fail)) only [↓XH2, XRN, ZC, ZE, ZH, eq_self, Nat.reduceLeDiff, Nat.reduceBEq, eN2]) (k3.trans ((Keep.set h2 iO _ hiO).trans (Keep.app _ _ (by simp; omega)))) hiO (by simp (disch := (first | (refine dS ?_; kernel_rfl) | (refine dM ?_; kernel_rfl) | (refine dO ?_; simp (disch := ((try simp only [ZL]) <;> omega)) only [ZK, ZL]; done) | (refine dK ?_; (repeat first | exact Keep.refl _ _ | exact Keep.app _ _ (Nat.le_refl _) | assumption | refine Keep.ap ?_ | refine Keep.st (by first | omega | (simp only [ZL]; omega)) ?_); done) | ((try simp only [ZL]) <;> omega) | fail)) only [↓XH2, XRN, ZC, ZE, ZH, eq_self, Nat.reduceLeDiff, Nat.reduceBEq]) (by simp) (by simp; omega) (by simp)
theorem r38 {l iL gL cL n : Nat} {rm tx : Bs} {log : List En} {h : AH} (hn : n = log.length) (hn2 : log.length ≤ 2 ^ 20) (fl : ∀ x ∈ log, x.text.length ≤ 64) (ht : tx.length ≤ 64) (eL : h[iL]? = some (.row gL 9 (En.R log))) (hl : l ≤ h.length) :
    Okr (SkQ h (seekL (wordsL tx) (nowL rm log))) (run V0 (.fn 38) l [S (slV iL gL n cL), S (sV rm), S (sV tx)] h) := by
  obtain ⟨i1, g1, h1, a1, e1, hi1, k1⟩ := r46 tx (by omega) l h hl
  have hk1 := k1.1
  have h11 := lt_of_get e1
  have eL1 := k1.get eL (lt_of_get eL)
  have hwl := wordsL_len tx
  refine okr_fn Try.func38 rfl rfl rfl rfl ?_
  simp (dsimp := false) (disch := (first | (refine dS ?_; kernel_rfl) | (refine dM ?_; kernel_rfl) | (refine dO ?_; simp (disch := ((try simp only [ZL]) <;> omega)) only [ZK, ZL]; done) | (refine dK ?_; (repeat first | exact Keep.refl _ _ | exact Keep.app _ _ (Nat.le_refl _) | assumption | refine Keep.ap ?_ | refine Keep.st (by first | omega | (simp only [ZL]; omega)) ?_); done) | ((try simp only [ZL]) <;> omega) | fail)) only [XOB, ↓XXs, ↓XD, ↓YX, ZB, Nat.reduceAdd, Nat.reducePow, ↓reduceIte, eq_self, Int.reduceEq, Nat.reduceEqDiff, Nat.reduceMul, Nat.reduceLeDiff, Int.reduceBEq, Int.reduceLT, Try.f38, ↓XH2, XRN, ZC, ZE, ZH, eq_self, Nat.reduceLeDiff, Nat.reduceBEq, slV_new, ZS, reduceIte, ↓op_extract, a1]
  have key : Okr (SkQ h (seekL (wordsL tx) (nowL rm log))) (run V0 (.fn 76) l [S (slV iL gL n cL), S (sV rm), S (slV i1 g1 (wordsL tx).length (wordsL tx).length)] h1) := by
    have k0 : Keep h1.length h1 (h1 ++ [AObj.row 0 1 []]) := Keep.app _ _ (Nat.le_refl _)
    refine okr_fn Try.func76 rfl rfl rfl rfl ?_
    simp (dsimp := false) (disch := (first | (refine dS ?_; kernel_rfl) | (refine dM ?_; kernel_rfl) | (refine dO ?_; simp (disch := ((try simp only [ZL]) <;> omega)) only [ZK, ZL]; done) | (refine dK ?_; (repeat first | exact Keep.refl _ _ | exact Keep.app _ _ (Nat.le_refl _) | assumption | refine Keep.ap ?_ | refine Keep.st (by first | omega | (simp only [ZL]; omega)) ?_); done) | ((try simp only [ZL]) <;> omega) | fail)) only [XOB, ↓XXs, ↓XD, ↓YX, ZB, Nat.reduceAdd, Nat.reducePow, ↓reduceIte, eq_self, Int.reduceEq, Nat.reduceEqDiff, Nat.reduceMul, Nat.reduceLeDiff, Int.reduceBEq, Int.reduceLT, Try.f76, ↓XH2, XRN, ZC, ZE, ZH, eq_self, Nat.reduceLeDiff, Nat.reduceBEq, slV_new, ZS, reduceIte, ↓op_extract]
    refine okr_call (r30 hn hn2 (k0.get eL1 (lt_of_get eL1)) (by simp; omega)) ?_
    rintro _ h2 ⟨i2, g2, rfl, e2, hi2, k2⟩
    simp only [List.length_append, List.length_singleton] at hi2
    have hnl := nowL_len rm log
    have e12 := k2.get (k0.get e1 h11) (by simp; omega)
    have eO2 : h2[h1.length]? = some (.row 0 1 (iC [])) := k2.get (by simp; rfl) (by simp)
    try simp (dsimp := false) (disch := (first | (refine dS ?_; kernel_rfl) | (refine dM ?_; kernel_rfl) | (refine dO ?_; simp (disch := ((try simp only [ZL]) <;> omega)) only [ZK, ZL]; done) | (refine dK ?_; (repeat first | exact Keep.refl _ _ | exact Keep.app _ _ (Nat.le_refl _) | assumption | refine Keep.ap ?_ | refine Keep.st (by first | omega | (simp only [ZL]; omega)) ?_); done) | ((try simp only [ZL]) <;> omega) | fail)) only [XOB, ↓XXs, ↓XD, ↓YX, ZB, Nat.reduceAdd, Nat.reducePow, ↓reduceIte, eq_self, Int.reduceEq, Nat.reduceEqDiff, Nat.reduceMul, Nat.reduceLeDiff, Int.reduceBEq, Int.reduceLT, Try.f76, ↓XH2, XRN, ZC, ZE, ZH, eq_self, Nat.reduceLeDiff, Nat.reduceBEq, slV_new, ZS, reduceIte, ↓op_extract]
    have := L76 l i1 g1 i2 g2 (nowL rm log).length (wordsL tx) (nowL rm log) h rfl (by omega) (by omega) (nowL_text fl) hl (nowL rm log) [] rfl h1.length 0 0 0 [] h2 (by omega) (by omega) e12 e2 (k1.trans ((k0.le hk1).trans (k2.le (by simp; omega)))) hk1 eO2 rfl (by simp) rfl
    rw [List.nil_append] at this
    exact this
  refine okr_call key ?_
  rintro v h' q
  try simp (dsimp := false) (disch := (first | (refine dS ?_; kernel_rfl) | (refine dM ?_; kernel_rfl) | (refine dO ?_; simp (disch := ((try simp only [ZL]) <;> omega)) only [ZK, ZL]; done) | (refine dK ?_; (repeat first | exact Keep.refl _ _ | exact Keep.app _ _ (Nat.le_refl _) | assumption | refine Keep.ap ?_ | refine Keep.st (by first | omega | (simp only [ZL]; omega)) ?_); done) | ((try simp only [ZL]) <;> omega) | fail)) only [XOB, ↓XXs, ↓XD, ↓YX, ZB, Nat.reduceAdd, Nat.reducePow, ↓reduceIte, eq_self, Int.reduceEq, Nat.reduceEqDiff, Nat.reduceMul, Nat.reduceLeDiff, Int.reduceBEq, Int.reduceLT, Try.f38, ↓XH2, XRN, ZC, ZE, ZH, eq_self, Nat.reduceLeDiff, Nat.reduceBEq, slV_new, ZS, reduceIte, ↓op_extract, a1]
  with_reducible refine Okr.ret ?_
  exact q
end Go.Abs
namespace Go.Abs
open Go.Proofs
set_option maxRecDepth 100000
set_option linter.unusedSimpArgs false
set_option linter.unusedVariables false
set_option pp.maxSteps 20000
set_option pp.deepTerms true
theorem L37 {l ia ga ib gb n : Nat} {xs : List Int} {h : AH} (hn : xs.length = n) (hn2 : n ≤ 2 ^ 30) (ea : h[ia]? = some (.row ga 1 (iC xs))) (eb : h[ib]? = some (.row gb 1 (iC xs))) :
    ∀ (r d : List Int) (i : Int), d ++ r = xs → i = d.length → Okr (fun v h' => v = .bool true ∧ h' = h) (L37_0 l (slV ia ga n n) (slV ib gb n n) (iV i) h) := by
  intro r
  induction r with
  | nil =>
    rintro d i hd rfl
    rw [List.append_nil] at hd
    subst hd hn
    have hlt : decide ((d.length : Int) < (d.length : Int)) = false := decide_eq_false (by omega)
    refine okr_code Try.func37 rfl rfl ?_
    simp (dsimp := false) (disch := (first | (refine dS ?_; kernel_rfl) | (refine dM ?_; kernel_rfl) | (refine dO ?_; simp (disch := ((try simp only [ZL]) <;> omega)) only [ZK, ZL]; done) | (refine dK ?_; (repeat first | exact Keep.refl _ _ | exact Keep.app _ _ (Nat.le_refl _) | assumption | refine Keep.ap ?_ | refine Keep.st (by first | omega | (simp only [ZL]; omega)) ?_); done) | ((try simp only [ZL]) <;> omega) | fail)) only [XOB, ↓XXs, ↓XD, ↓YX, ZB, Nat.reduceAdd, Nat.reducePow, ↓reduceIte, eq_self, Int.reduceEq, Nat.reduceEqDiff, Nat.reduceMul, Nat.reduceLeDiff, Int.reduceBEq, Int.reduceLT, Try.f37, ↓XH2, XRN, ZC, ZE, ZH, eq_self, Nat.reduceLeDiff, Nat.reduceBEq, slV_new, ZS, reduceIte, ↓op_extract, hlt]
    with_reducible refine Okr.ret ?_
    exact ⟨rfl, rfl⟩
  | cons x r ih =>
    rintro d i hd rfl
    have hll : d.length + r.length + 1 = n := by rw [← hn, ← hd]; simp; omega
    have hlt : decide ((d.length : Int) < (n : Int)) = true := decide_eq_true (by omega)
    have hw : IntKind.i64.wrap ((d.length : Int) + 1) = ((d.length + 1 : Nat) : Int) := natCast_succ_wrap (by omega) rfl
    have hix : ixAddr (slV ia ga n n) (d.length : Int) 1 = some (pV ia d.length ga) := by rw [ixAddr_sl (by omega)]; simp
    have hix2 : ixAddr (slV ib gb n n) (d.length : Int) 1 = some (pV ib d.length gb) := by rw [ixAddr_sl (by omega)]; simp
    have c1 : (iC xs)[d.length]? = some (iV x) := by rw [← hd]; exact iC_get d x r
    have hne : (x != x) = false := by simp
    refine okr_code Try.func37 rfl rfl ?_
    simp (dsimp := false) (disch := (first | (refine dS ?_; kernel_rfl) | (refine dM ?_; kernel_rfl) | (refine dO ?_; simp (disch := ((try simp only [ZL]) <;> omega)) only [ZK, ZL]; done) | (refine dK ?_; (repeat first | exact Keep.refl _ _ | exact Keep.app _ _ (Nat.le_refl _) | assumption | refine Keep.ap ?_ | refine Keep.st (by first | omega | (simp only [ZL]; omega)) ?_); done) | ((try simp only [ZL]) <;> omega) | fail)) only [XOB, ↓XXs, ↓XD, ↓YX, ZB, Nat.reduceAdd, Nat.reducePow, ↓reduceIte, eq_self, Int.reduceEq, Nat.reduceEqDiff, Nat.reduceMul, Nat.reduceLeDiff, Int.reduceBEq, Int.reduceLT, Try.f37, ↓XH2, XRN, ZC, ZE, ZH, eq_self, Nat.reduceLeDiff, Nat.reduceBEq, slV_new, ZS, reduceIte, ↓op_extract, hlt, hw, hix, hix2, ea, eb, c1, hne]
    exact ih (d ++ [x]) ((d.length + 1 : Nat) : Int) (by simp [hd]) (by simp)
theorem hb_ints {l ia ga ib gb n m : Nat} {xs : List Int} {h : AH} (hn : xs.length = n) (hm : xs.length = m) (hn2 : n ≤ 2 ^ 30) (ea : h[ia]? = some (.row ga 1 (iC xs))) (eb : h[ib]? = some (.row gb 1 (iC xs))) :
    run V0 (.fn 37) l [S (slV ia ga n n), S (slV ib gb m m)] h = some (.ret (.bool true) h) := by
  obtain rfl : n = m := by omega
  have key : Okr (fun v h' => v = .bool true ∧ h' = h) (run V0 (.fn 37) l [S (slV ia ga n n), S (slV ib gb n n)] h) := by
    have hne : ((n : Int) != (n : Int)) = false := by simp
    refine okr_fn Try.func37 rfl rfl rfl rfl ?_
    simp (dsimp := false) (disch := (first | (refine dS ?_; kernel_rfl) | (refine dM ?_; kernel_rfl) | (refine dO ?_; simp (disch := ((try simp only [ZL]) <;> omega)) only [ZK, ZL]; done) | (refine dK ?_; (repeat first | exact Keep.refl _ _ | exact Keep.app _ _ (Nat.le_refl _) | assumption | refine Keep.ap ?_ | refine Keep.st (by first | omega | (simp only [ZL]; omega)) ?_); done) | ((try simp only [ZL]) <;> omega) | fail)) only [XOB, ↓XXs, ↓XD, ↓YX, ZB, Nat.reduceAdd, Nat.reducePow, ↓reduceIte, eq_self, Int.reduceEq, Nat.reduceEqDiff, Nat.reduceMul, Nat.reduceLeDiff, Int.reduceBEq, Int.reduceLT, Try.f37, ↓XH2, XRN, ZC, ZE, ZH, eq_self, Nat.reduceLeDiff, Nat.reduceBEq, slV_new, ZS, reduceIte, ↓op_extract, hne]
    exact L37 hn hn2 ea eb xs [] 0 rfl rfl
  obtain ⟨v, h', e, rfl, rfl⟩ := key
  exact e
structure DrawO (H : AH) (v : Value) (h' : AH) : Prop where
  ex : ∃ i g log rm tx, v = .tuple ⟨[slV i g log.length log.length, sV rm, sV tx]⟩ ∧ h'[i]? = some (.row g 9 (En.R log)) ∧ H.length ≤ i ∧ Inc log ∧ log.length ≤ 60 ∧ rm.length ≤ 64 ∧ tx.length ≤ 64
  k : Keep H.length H h'
theorem r35 (va : Value) (n l : Nat) (h : AH) (r : Cd h va n) (hl : l ≤ h.length) (hn : n ≤ 2 ^ 62) :
    Okr (DrawO h) (run V0 (.fn 35) l [S va] h) := by
  refine okr_fn Try.func35 rfl rfl rfl rfl ?_
  obtain ⟨vb, m, h1, a1, r1, hm, k1⟩ := r52 va n l h r hn
  have hid1 := lt_of_get r1.1
  simp (dsimp := false) (disch := (first | (refine dS ?_; kernel_rfl) | (refine dM ?_; kernel_rfl) | (refine dO ?_; simp (disch := ((try simp only [ZL]) <;> omega)) only [ZK, ZL]; done) | (refine dK ?_; (repeat first | exact Keep.refl _ _ | exact Keep.app _ _ (Nat.le_refl _) | assumption | refine Keep.ap ?_ | refine Keep.st (by first | omega | (simp only [ZL]; omega)) ?_); done) | ((try simp only [ZL]) <;> omega) | fail)) only [XOB, ↓XXs, ↓XD, ↓YX, ZB, Nat.reduceAdd, Nat.reducePow, ↓reduceIte, eq_self, Int.reduceEq, Nat.reduceEqDiff, Nat.reduceMul, Nat.reduceLeDiff, Int.reduceBEq, Int.reduceLT, Try.f35, ↓XH2, XRN, ZC, ZE, ZH, eq_self, Nat.reduceLeDiff, Nat.reduceBEq, slV_new, ZS, reduceIte, ↓op_extract, a1]
  refine okr_call (r66 r1 hl (by omega) (by omega)) ?_
  rintro _ h3 ⟨⟨i2, g2, log, rfl, e2, hi2, hinc, h60⟩, ⟨p3, hp3, r3⟩, k3⟩
  have hid3 := lt_of_get r3.1
  have hk1 := k1.1
  have hl2 := lt_of_get e2
  try simp (dsimp := false) (disch := (first | (refine dS ?_; kernel_rfl) | (refine dM ?_; kernel_rfl) | (refine dO ?_; simp (disch := ((try simp only [ZL]) <;> omega)) only [ZK, ZL]; done) | (refine dK ?_; (repeat first | exact Keep.refl _ _ | exact Keep.app _ _ (Nat.le_refl _) | assumption | refine Keep.ap ?_ | refine Keep.st (by first | omega | (simp only [ZL]; omega)) ?_); done) | ((try simp only [ZL]) <;> omega) | fail)) only [XOB, ↓XXs, ↓XD, ↓YX, ZB, Nat.reduceAdd, Nat.reducePow, ↓reduceIte, eq_self, Int.reduceEq, Nat.reduceEqDiff, Nat.reduceMul, Nat.reduceLeDiff, Int.reduceBEq, Int.reduceLT, Try.f35, ↓XH2, XRN, ZC, ZE, ZH, eq_self, Nat.reduceLeDiff, Nat.reduceBEq, slV_new, ZS, reduceIte, ↓op_extract, a1]
  refine okr_call (okr_of [_, _, _] r3.ap hl (by simp (disch := (first | (refine dS ?_; kernel_rfl) | (refine dM ?_; kernel_rfl) | (refine dO ?_; simp (disch := ((try simp only [ZL]) <;> omega)) only [ZK, ZL]; done) | (refine dK ?_; (repeat first | exact Keep.refl _ _ | exact Keep.app _ _ (Nat.le_refl _) | assumption | refine Keep.ap ?_ | refine Keep.st (by first | omega | (simp only [ZL]; omega)) ?_); done) | ((try simp only [ZL]) <;> omega) | fail)) only [↓XH2, XRN, ZC, ZE, ZH, eq_self, Nat.reduceLeDiff, Nat.reduceBEq] <;> rfl) rfl rfl (by omega) (by simp) (by simp) (by omega) (by omega)) ?_
  rintro _ _ ⟨⟨x1, rfl, hx1⟩, rfl⟩
  have fx : x1.length ≤ 64 := by simp only [List.mem_cons, List.not_mem_nil, or_false] at hx1; rcases hx1 with q | q | q <;> rw [q] <;> decide
  try simp (dsimp := false) (disch := (first | (refine dS ?_; kernel_rfl) | (refine dM ?_; kernel_rfl) | (refine dO ?_; simp (disch := ((try simp only [ZL]) <;> omega)) only [ZK, ZL]; done) | (refine dK ?_; (repeat first | exact Keep.refl _ _ | exact Keep.app _ _ (Nat.le_refl _) | assumption | refine Keep.ap ?_ | refine Keep.st (by first | omega | (simp only [ZL]; omega)) ?_); done) | ((try simp only [ZL]) <;> omega) | fail)) only [XOB, ↓XXs, ↓XD, ↓YX, ZB, Nat.reduceAdd, Nat.reducePow, ↓reduceIte, eq_self, Int.reduceEq, Nat.reduceEqDiff, Nat.reduceMul, Nat.reduceLeDiff, Int.reduceBEq, Int.reduceLT, Try.f35, ↓XH2, XRN, ZC, ZE, ZH, eq_self, Nat.reduceLeDiff, Nat.reduceBEq, slV_new, ZS, reduceIte, ↓op_extract, a1]
  refine okr_call (okr_of [_, _, _, _, _, _, _] (r3.kp (p3 + 1)) hl (by simp (disch := (first | (refine dS ?_; kernel_rfl) | (refine dM ?_; kernel_rfl) | (refine dO ?_; simp (disch := ((try simp only [ZL]) <;> omega)) only [ZK, ZL]; done) | (refine dK ?_; (repeat first | exact Keep.refl _ _ | exact Keep.app _ _ (Nat.le_refl _) | assumption | refine Keep.ap ?_ | refine Keep.st (by first | omega | (simp only [ZL]; omega)) ?_); done) | ((try simp only [ZL]) <;> omega) | fail)) only [↓XH2, XRN, ZC, ZE, ZH, eq_self, Nat.reduceLeDiff, Nat.reduceBEq] <;> rfl) rfl rfl (by omega) (by simp) (by simp) (by omega) (by omega)) ?_
  rintro _ _ ⟨⟨x2, rfl, hx2⟩, rfl⟩
  have fx2 : x2.length ≤ 64 := by simp only [List.mem_cons, List.not_mem_nil, or_false] at hx2; rcases hx2 with q | q | q | q | q | q | q <;> rw [q] <;> decide
  try simp (dsimp := false) (disch := (first | (refine dS ?_; kernel_rfl) | (refine dM ?_; kernel_rfl) | (refine dO ?_; simp (disch := ((try simp only [ZL]) <;> omega)) only [ZK, ZL]; done) | (refine dK ?_; (repeat first | exact Keep.refl _ _ | exact Keep.app _ _ (Nat.le_refl _) | assumption | refine Keep.ap ?_ | refine Keep.st (by first | omega | (simp only [ZL]; omega)) ?_); done) | ((try simp only [ZL]) <;> omega) | fail)) only [XOB, ↓XXs, ↓XD, ↓YX, ZB, Nat.reduceAdd, Nat.reducePow, ↓reduceIte, eq_self, Int.reduceEq, Nat.reduceEqDiff, Nat.reduceMul, Nat.reduceLeDiff, Int.reduceBEq, Int.reduceLT, Try.f35, ↓XH2, XRN, ZC, ZE, ZH, eq_self, Nat.reduceLeDiff, Nat.reduceBEq, slV_new, ZS, reduceIte, ↓op_extract, a1]
  with_reducible refine Okr.ret ?_
  refine ⟨⟨i2, g2, log, x1, x2, rfl, by simp (disch := (first | (refine dS ?_; kernel_rfl) | (refine dM ?_; kernel_rfl) | (refine dO ?_; simp (disch := ((try simp only [ZL]) <;> omega)) only [ZK, ZL]; done) | (refine dK ?_; (repeat first | exact Keep.refl _ _ | exact Keep.app _ _ (Nat.le_refl _) | assumption | refine Keep.ap ?_ | refine Keep.st (by first | omega | (simp only [ZL]; omega)) ?_); done) | ((try simp only [ZL]) <;> omega) | fail)) only [↓XH2, XRN, ZC, ZE, ZH, eq_self, Nat.reduceLeDiff, Nat.reduceBEq, e2], by omega, hinc, h60, fx, fx2⟩, k1.trans ((Keep.ofKX k3 (by omega) (Nat.le_refl _)).trans ((Keep.set h3 h.length _ (Nat.le_refl _)).trans (Keep.app _ _ (by simp; omega))))⟩
/-- the law's innermost loop: is a word among those of a text -/
theorem L9c (l iH gH iW gW nW k : Nat) (v3 v4 v6 v7 v9 v10 : Value) (all : Bool) (has : List Bs) (w : Bs) (h : AH) (cw : List Value) (hn : has.length ≤ 2 ^ 30) (hk : k < nW) (eH : h[iH]? = some (.row gH 1 (sC has))) (eW : h[iW]? = some (.row gW 1 cw)) (hc : cw[k]? = some (sV w)) :
    ∀ (r d : List Bs) (one : Bool) (m : Int), d ++ r = has → m = d.length → ∀ P, Okr P (L9_2 l v3 v4 v6 v7 (slV iW gW nW nW) v9 v10 (slV iH gH has.length has.length) (.bool all) (iV k) (.bool (one || decide (w ∈ r))) (iV has.length) h) →
      Okr P (L9_2 l v3 v4 v6 v7 (slV iW gW nW nW) v9 v10 (slV iH gH has.length has.length) (.bool all) (iV k) (.bool one) (iV m) h) := by
  intro r
  induction r with
  | nil =>
    rintro d one m hd rfl P o
    rw [List.append_nil] at hd
    subst hd
    simpa using o
  | cons x r ih =>
    rintro d one m hd rfl P o
    have hll : d.length + r.length + 1 = has.length := by rw [← hd]; simp; omega
    have hlt : decide ((d.length : Int) < (has.length : Int)) = true := decide_eq_true (by omega)
    have hw : IntKind.i64.wrap ((d.length : Int) + 1) = ((d.length + 1 : Nat) : Int) := natCast_succ_wrap (by omega) rfl
    have hix : ixAddr (slV iH gH has.length has.length) (d.length : Int) 1 = some (pV iH d.length gH) := by rw [ixAddr_sl (by omega)]; simp
    have hix2 : ixAddr (slV iW gW nW nW) (k : Int) 1 = some (pV iW k gW) := by rw [ixAddr_sl hk]; simp
    have c1 : (sC has)[d.length]? = some (sV x) := by rw [← hd]; exact sC_get d x r
    have b1 := B_dec x w
    have hmem : decide (w ∈ x :: r) = (decide (x = w) || decide (w ∈ r)) := by
      by_cases q : x = w
      · subst q; simp
      · have q' : ¬ w = x := fun z => q z.symm
        simp [q, q']
    rw [hmem] at o
    have i1 := ih (d ++ [x]) (one || decide (x = w)) ((d.length + 1 : Nat) : Int) (by simp [hd]) (by simp) P (by rw [Bool.or_assoc]; exact o)
    refine okr_code Try.func9 rfl rfl ?_
    cases one with
    | true =>
      rw [Bool.true_or] at i1
      simp (dsimp := false) (disch := (first | (refine dS ?_; kernel_rfl) | (refine dM ?_; kernel_rfl) | (refine dO ?_; simp (disch := ((try simp only [ZL]) <;> omega)) only [ZK, ZL]; done) | (refine dK ?_; (repeat first | exact Keep.refl _ _ | exact Keep.app _ _ (Nat.le_refl _) | assumption | refine Keep.ap ?_ | refine Keep.st (by first | omega | (simp only [ZL]; omega)) ?_); done) | ((try simp only [ZL]) <;> omega) | fail)) only [XOB, ↓XXs, ↓XD, ↓YX, ZB, Nat.reduceAdd, Nat.reducePow, ↓reduceIte, eq_self, Int.reduceEq, Nat.reduceEqDiff, Nat.reduceMul, Nat.reduceLeDiff, Int.reduceBEq, Int.reduceLT, Try.f9, ↓XH2, XRN, ZC, ZE, ZH, eq_self, Nat.reduceLeDiff, Nat.reduceBEq, slV_new, ZS, reduceIte, ↓op_extract, hlt, hw, hix, hix2, eH, eW, c1, hc, b1]
      exact i1
    | false =>
      rw [Bool.false_or] at i1
      simp (dsimp := false) (disch := (first | (refine dS ?_; kernel_rfl) | (refine dM ?_; kernel_rfl) | (refine dO ?_; simp (disch := ((try simp only [ZL]) <;> omega)) only [ZK, ZL]; done) | (refine dK ?_; (repeat first | exact Keep.refl _ _ | exact Keep.app _ _ (Nat.le_refl _) | assumption | refine Keep.ap ?_ | refine Keep.st (by first | omega | (simp only [ZL]; omega)) ?_); done) | ((try simp only [ZL]) <;> omega) | fail)) only [XOB, ↓XXs, ↓XD, ↓YX, ZB, Nat.reduceAdd, Nat.reducePow, ↓reduceIte, eq_self, Int.reduceEq, Nat.reduceEqDiff, Nat.reduceMul, Nat.reduceLeDiff, Int.reduceBEq, Int.reduceLT, Try.f9, ↓XH2, XRN, ZC, ZE, ZH, eq_self, Nat.reduceLeDiff, Nat.reduceBEq, slV_new, ZS, reduceIte, ↓op_extract, hlt, hw, hix, hix2, eH, eW, c1, hc, b1]
      exact i1
/-- the law's middle loop: are all words among those of a text -/
theorem L9b (l iH gH iW gW : Nat) (v3 v4 v6 v7 v9 v10 : Value) (has ws : List Bs) (h : AH) (hn : has.length ≤ 2 ^ 30) (hn2 : ws.length ≤ 2 ^ 30) (eH : h[iH]? = some (.row gH 1 (sC has))) (eW : h[iW]? = some (.row gW 1 (sC ws))) :
    ∀ (r d : List Bs) (all : Bool) (k : Int), d ++ r = ws → k = d.length → ∀ P, Okr P (L9_1 l v3 v4 v6 v7 (slV iW gW ws.length ws.length) v9 v10 (slV iH gH has.length has.length) (.bool (all && r.all fun w => decide (w ∈ has))) (iV ws.length) h) →
      Okr P (L9_1 l v3 v4 v6 v7 (slV iW gW ws.length ws.length) v9 v10 (slV iH gH has.length has.length) (.bool all) (iV k) h) := by
  intro r
  induction r with
  | nil =>
    rintro d all k hd rfl P o
    rw [List.append_nil] at hd
    subst hd
    simpa using o
  | cons w r ih =>
    rintro d all k hd rfl P o
    have hll : d.length + r.length + 1 = ws.length := by rw [← hd]; simp; omega
    have hlt : decide ((d.length : Int) < (ws.length : Int)) = true := decide_eq_true (by omega)
    have hln : decide ((has.length : Int) < (has.length : Int)) = false := decide_eq_false (by omega)
    have hw : IntKind.i64.wrap ((d.length : Int) + 1) = ((d.length + 1 : Nat) : Int) := natCast_succ_wrap (by omega) rfl
    rw [List.all_cons, ← Bool.and_assoc] at o
    have i1 := ih (d ++ [w]) (all && decide (w ∈ has)) ((d.length + 1 : Nat) : Int) (by simp [hd]) (by simp) P o
    refine okr_code Try.func9 rfl rfl ?_
    simp (dsimp := false) (disch := (first | (refine dS ?_; kernel_rfl) | (refine dM ?_; kernel_rfl) | (refine dO ?_; simp (disch := ((try simp only [ZL]) <;> omega)) only [ZK, ZL]; done) | (refine dK ?_; (repeat first | exact Keep.refl _ _ | exact Keep.app _ _ (Nat.le_refl _) | assumption | refine Keep.ap ?_ | refine Keep.st (by first | omega | (simp only [ZL]; omega)) ?_); done) | ((try simp only [ZL]) <;> omega) | fail)) only [XOB, ↓XXs, ↓XD, ↓YX, ZB, Nat.reduceAdd, Nat.reducePow, ↓reduceIte, eq_self, Int.reduceEq, Nat.reduceEqDiff, Nat.reduceMul, Nat.reduceLeDiff, Int.reduceBEq, Int.reduceLT, Try.f9, ↓XH2, XRN, ZC, ZE, ZH, eq_self, Nat.reduceLeDiff, Nat.reduceBEq, slV_new, ZS, reduceIte, ↓op_extract, hlt, hw]
    refine L9c l iH gH iW gW ws.length d.length v3 v4 v6 v7 v9 v10 all has w h (sC ws) hn (by omega) eH eW (by rw [← hd]; exact sC_get d w r) has [] false 0 rfl rfl P ?_
    rw [Bool.false_or]
    refine okr_code Try.func9 rfl rfl ?_
    cases all with
    | true =>
      rw [Bool.true_and] at i1
      simp (dsimp := false) (disch := (first | (refine dS ?_; kernel_rfl) | (refine dM ?_; kernel_rfl) | (refine dO ?_; simp (disch := ((try simp only [ZL]) <;> omega)) only [ZK, ZL]; done) | (refine dK ?_; (repeat first | exact Keep.refl _ _ | exact Keep.app _ _ (Nat.le_refl _) | assumption | refine Keep.ap ?_ | refine Keep.st (by first | omega | (simp only [ZL]; omega)) ?_); done) | ((try simp only [ZL]) <;> omega) | fail)) only [XOB, ↓XXs, ↓XD, ↓YX, ZB, Nat.reduceAdd, Nat.reducePow, ↓reduceIte, eq_self, Int.reduceEq, Nat.reduceEqDiff, Nat.reduceMul, Nat.reduceLeDiff, Int.reduceBEq, Int.reduceLT, Try.f9, ↓XH2, XRN, ZC, ZE, ZH, eq_self, Nat.reduceLeDiff, Nat.reduceBEq, slV_new, ZS, reduceIte, ↓op_extract, hln, hw]
      exact i1
    | false =>
      rw [Bool.false_and] at i1
      simp (dsimp := false) (disch := (first | (refine dS ?_; kernel_rfl) | (refine dM ?_; kernel_rfl) | (refine dO ?_; simp (disch := ((try simp only [ZL]) <;> omega)) only [ZK, ZL]; done) | (refine dK ?_; (repeat first | exact Keep.refl _ _ | exact Keep.app _ _ (Nat.le_refl _) | assumption | refine Keep.ap ?_ | refine Keep.st (by first | omega | (simp only [ZL]; omega)) ?_); done) | ((try simp only [ZL]) <;> omega) | fail)) only [XOB, ↓XXs, ↓XD, ↓YX, ZB, Nat.reduceAdd, Nat.reducePow, ↓reduceIte, eq_self, Int.reduceEq, Nat.reduceEqDiff, Nat.reduceMul, Nat.reduceLeDiff, Int.reduceBEq, Int.reduceLT, Try.f9, ↓XH2, XRN, ZC, ZE, ZH, eq_self, Nat.reduceLeDiff, Nat.reduceBEq, slV_new, ZS, reduceIte, ↓op_extract, hln, hw]
      exact i1
theorem wordsL_nil : wordsL [] = [] := rfl
theorem seekL_all (now : List En) : seekL [] now = now.map En.seq := by
  unfold seekL
  have : (now.filter fun e => hasL [] e.text) = now := List.filter_eq_self.2 (fun x _ => rfl)
  rw [this]
/-- the law's outer loop -/
theorem L9a (l iL gL iS gS iN gN iW gW : Nat) (rm : Bs) (ws : List Bs) (log : List En) (H0 : AH) (hl : l ≤ H0.length) (h60 : log.length ≤ 2 ^ 20) (hws : ws.length ≤ 2 ^ 30) (fl : ∀ x ∈ log, x.text.length ≤ 64)
    (eL : H0[iL]? = some (.row gL 9 (En.R log))) (eS : H0[iS]? = some (.row gS 1 (iC (seekL ws (nowL rm log))))) (eN : H0[iN]? = some (.row gN 9 (En.R (nowL rm log)))) (eW : H0[iW]? = some (.row gW 1 (sC ws))) :
    ∀ (r d : List En), d ++ r = nowL rm log → ∀ (iO gO no : Nat) (i : Int) (out : List Int) (h : AH), Keep H0.length H0 h → H0.length ≤ iO → h[iO]? = some (.row gO 1 (iC out)) → out = seekL ws d → no = out.length → i = d.length →
      Okr TrueQ (L9_0 l (slV iL gL log.length log.length) (sV rm) (slV iS gS (seekL ws (nowL rm log)).length (seekL ws (nowL rm log)).length) (slV iN gN (nowL rm log).length (nowL rm log).length) (slV iW gW ws.length ws.length) (slV iO gO no no) (iV i) h) := by
  have hnl := nowL_len rm log
  have ftx := nowL_text (rm := rm) fl
  generalize hnow : nowL rm log = now at *
  have hsl := seekL_len ws now
  intro r
  induction r with
  | nil =>
    rintro d hd iO gO no i out h k hiO eO rfl rfl rfl
    rw [List.append_nil] at hd
    subst hd
    have hk := k.1
    have hlt : decide ((d.length : Int) < (d.length : Int)) = false := decide_eq_false (by omega)
    have a1 := hb_ints (l := l) rfl rfl (by omega) (k.get eS (lt_of_get eS)) eO
    refine okr_code Try.func9 rfl rfl ?_
    simp (dsimp := false) (disch := (first | (refine dS ?_; kernel_rfl) | (refine dM ?_; kernel_rfl) | (refine dO ?_; simp (disch := ((try simp only [ZL]) <;> omega)) only [ZK, ZL]; done) | (refine dK ?_; (repeat first | exact Keep.refl _ _ | exact Keep.app _ _ (Nat.le_refl _) | assumption | refine Keep.ap ?_ | refine Keep.st (by first | omega | (simp only [ZL]; omega)) ?_); done) | ((try simp only [ZL]) <;> omega) | fail)) only [XOB, ↓XXs, ↓XD, ↓YX, ZB, Nat.reduceAdd, Nat.reducePow, ↓reduceIte, eq_self, Int.reduceEq, Nat.reduceEqDiff, Nat.reduceMul, Nat.reduceLeDiff, Int.reduceBEq, Int.reduceLT, Try.f9, ↓XH2, XRN, ZC, ZE, ZH, eq_self, Nat.reduceLeDiff, Nat.reduceBEq, slV_new, ZS, reduceIte, ↓op_extract, hlt, a1]
    refine okr_call (r36 rfl (by omega) fl (by simp) (k.get eL (lt_of_get eL)) (by omega)) ?_
    rintro _ h2 ⟨i2, g2, rfl, e2, hi2, k2⟩
    have hlen : (seekL (wordsL []) (nowL rm log)).length = d.length := by rw [wordsL_nil, seekL_all, List.length_map, hnow]
    rw [hlen]
    have hbb : ((d.length : Int) == (d.length : Int)) = true := by simp
    try simp (dsimp := false) (disch := (first | (refine dS ?_; kernel_rfl) | (refine dM ?_; kernel_rfl) | (refine dO ?_; simp (disch := ((try simp only [ZL]) <;> omega)) only [ZK, ZL]; done) | (refine dK ?_; (repeat first | exact Keep.refl _ _ | exact Keep.app _ _ (Nat.le_refl _) | assumption | refine Keep.ap ?_ | refine Keep.st (by first | omega | (simp only [ZL]; omega)) ?_); done) | ((try simp only [ZL]) <;> omega) | fail)) only [XOB, ↓XXs, ↓XD, ↓YX, ZB, Nat.reduceAdd, Nat.reducePow, ↓reduceIte, eq_self, Int.reduceEq, Nat.reduceEqDiff, Nat.reduceMul, Nat.reduceLeDiff, Int.reduceBEq, Int.reduceLT, Try.f9, ↓XH2, XRN, ZC, ZE, ZH, eq_self, Nat.reduceLeDiff, Nat.reduceBEq, slV_new, ZS, reduceIte, ↓op_extract, hlt, a1, hbb]
    with_reducible refine Okr.ret ?_
    rfl
  | cons x r ih =>
    rintro d hd iO gO no i out h k hiO eO rfl rfl rfl
    have hk := k.1
    have hll : d.length + r.length + 1 = now.length := by rw [← hd]; simp; omega
    have hlt : decide ((d.length : Int) < (now.length : Int)) = true := decide_eq_true (by omega)
    have hw : IntKind.i64.wrap ((d.length : Int) + 1) = ((d.length + 1 : Nat) : Int) := natCast_succ_wrap (by omega) rfl
    have hix : ixAddr (slV iN gN now.length now.length) (d.length : Int) 9 = some (pV iN (d.length * 9) gN) := by rw [ixAddr_sl (by omega)]; simp
    have eNh := k.get eN (lt_of_get eN)
    have c5 : (En.R now)[d.length * 9 + 5]? = some (sV x.text) := by rw [← hd]; exact En.c5 d x r
    have c1 : (En.R now)[d.length * 9 + 1]? = some (iV x.seq) := by rw [← hd]; exact En.c1 d x r
    have hO := lt_of_get eO
    have hx : x.text.length ≤ 64 := ftx x (by rw [← hd]; simp)
    obtain ⟨i2, g2, h2, a2, e2, hi2, k2⟩ := r14 x.text (by omega) l h (by omega)
    have hk2 := k2.1
    have k02 := k.trans (k2.le hk)
    have eO2 := k2.get eO hO
    have eW2 := k02.get eW (lt_of_get eW)
    have eN2 := k02.get eN (lt_of_get eN)
    have hN2 := lt_of_get eN2
    have hO2 := lt_of_get eO2
    have hwl := wordsL_len x.text
    have hsd := seekL_len ws d
    have hsp : seekL ws (d ++ [x]) = seekL ws d ++ seekL ws [x] := seekL_app ws d [x]
    rw [seekL_one] at hsp
    refine okr_code Try.func9 rfl rfl ?_
    simp (dsimp := false) (disch := (first | (refine dS ?_; kernel_rfl) | (refine dM ?_; kernel_rfl) | (refine dO ?_; simp (disch := ((try simp only [ZL]) <;> omega)) only [ZK, ZL]; done) | (refine dK ?_; (repeat first | exact Keep.refl _ _ | exact Keep.app _ _ (Nat.le_refl _) | assumption | refine Keep.ap ?_ | refine Keep.st (by first | omega | (simp only [ZL]; omega)) ?_); done) | ((try simp only [ZL]) <;> omega) | fail)) only [XOB, ↓XXs, ↓XD, ↓YX, ZB, Nat.reduceAdd, Nat.reducePow, ↓reduceIte, eq_self, Int.reduceEq, Nat.reduceEqDiff, Nat.reduceMul, Nat.reduceLeDiff, Int.reduceBEq, Int.reduceLT, Try.f9, ↓XH2, XRN, ZC, ZE, ZH, eq_self, Nat.reduceLeDiff, Nat.reduceBEq, slV_new, ZS, reduceIte, ↓op_extract, hlt, hw, hix, eNh, c5, a2]
    refine L9b l i2 g2 iW gW _ _ _ _ _ _ (wordsL x.text) ws h2 (by omega) hws e2 eW2 ws [] true 0 rfl rfl _ ?_
    rw [Bool.true_and]
    have hlw : decide ((ws.length : Int) < (ws.length : Int)) = false := decide_eq_false (by omega)
    refine okr_code Try.func9 rfl rfl ?_
    cases q : (ws.all fun w => decide (w ∈ wordsL x.text)) with
    | true =>
      have q' : hasL ws x.text = true := q
      rw [if_pos q'] at hsp
      simp (dsimp := false) (disch := (first | (refine dS ?_; kernel_rfl) | (refine dM ?_; kernel_rfl) | (refine dO ?_; simp (disch := ((try simp only [ZL]) <;> omega)) only [ZK, ZL]; done) | (refine dK ?_; (repeat first | exact Keep.refl _ _ | exact Keep.app _ _ (Nat.le_refl _) | assumption | refine Keep.ap ?_ | refine Keep.st (by first | omega | (simp only [ZL]; omega)) ?_); done) | ((try simp only [ZL]) <;> omega) | fail)) only [XOB, ↓XXs, ↓XD, ↓YX, ZB, Nat.reduceAdd, Nat.reducePow, ↓reduceIte, eq_self, Int.reduceEq, Nat.reduceEqDiff, Nat.reduceMul, Nat.reduceLeDiff, Int.reduceBEq, Int.reduceLT, Try.f9, ↓XH2, XRN, ZC, ZE, ZH, eq_self, Nat.reduceLeDiff, Nat.reduceBEq, slV_new, ZS, reduceIte, ↓op_extract, hlw, hw, hix, eN2, hN2, c1, q]
      refine okr_opt (In.app3 (os := seekL ws d) x.seq (by simp (disch := (first | (refine dS ?_; kernel_rfl) | (refine dM ?_; kernel_rfl) | (refine dO ?_; simp (disch := ((try simp only [ZL]) <;> omega)) only [ZK, ZL]; done) | (refine dK ?_; (repeat first | exact Keep.refl _ _ | exact Keep.app _ _ (Nat.le_refl _) | assumption | refine Keep.ap ?_ | refine Keep.st (by first | omega | (simp only [ZL]; omega)) ?_); done) | ((try simp only [ZL]) <;> omega) | fail)) only [↓XH2, XRN, ZC, ZE, ZH, eq_self, Nat.reduceLeDiff, Nat.reduceBEq, eO2]) (by simp (disch := (first | (refine dS ?_; kernel_rfl) | (refine dM ?_; kernel_rfl) | (refine dO ?_; simp (disch := ((try simp only [ZL]) <;> omega)) only [ZK, ZL]; done) | (refine dK ?_; (repeat first | exact Keep.refl _ _ | exact Keep.app _ _ (Nat.le_refl _) | assumption | refine Keep.ap ?_ | refine Keep.st (by first | omega | (simp only [ZL]; omega)) ?_); done) | ((try simp only [ZL]) <;> omega) | fail)) only [↓XH2, XRN, ZC, ZE, ZH, eq_self, Nat.reduceLeDiff, Nat.reduceBEq] <;> rfl) rfl rfl (by omega) (by omega) rfl) ?_
      rintro _ ⟨g4, rfl⟩
      simp (dsimp := false) (disch := (first | (refine dS ?_; kernel_rfl) | (refine dM ?_; kernel_rfl) | (refine dO ?_; simp (disch := ((try simp only [ZL]) <;> omega)) only [ZK, ZL]; done) | (refine dK ?_; (repeat first | exact Keep.refl _ _ | exact Keep.app _ _ (Nat.le_refl _) | assumption | refine Keep.ap ?_ | refine Keep.st (by first | omega | (simp only [ZL]; omega)) ?_); done) | ((try simp only [ZL]) <;> omega) | fail)) only [XOB, ↓XXs, ↓XD, ↓YX, ZB, Nat.reduceAdd, Nat.reducePow, ↓reduceIte, eq_self, Int.reduceEq, Nat.reduceEqDiff, Nat.reduceMul, Nat.reduceLeDiff, Int.reduceBEq, Int.reduceLT, Try.f9, ↓XH2, XRN, ZC, ZE, ZH, eq_self, Nat.reduceLeDiff, Nat.reduceBEq, slV_new, ZS, reduceIte, ↓op_extract, hlw, hw, hix, eN2, hN2, c1, q]
      exact ih (d ++ [x]) (by simp [hd]) iO g4 ((seekL ws d).length + 1) ((d.length + 1 : Nat) : Int) (seekL ws d ++ [x.seq]) (h2.set iO (.row g4 1 (iC (seekL ws d ++ [x.seq]))) ++ [AObj.row 0 1 [iV x.seq]]) (k02.trans ((Keep.set h2 iO _ hiO).trans (Keep.app _ _ (by simp; omega)))) hiO (by simp (disch := (first | (refine dS ?_; kernel_rfl) | (refine dM ?_; kernel_rfl) | (refine dO ?_; simp (disch := ((try simp only [ZL]) <;> omega)) only [ZK, ZL]; done) | (refine dK ?_; (repeat first | exact Keep.refl _ _ | exact Keep.app _ _ (Nat.le_refl _) | assumption | refine Keep.ap ?_ | refine Keep.st (by first | omega | (simp only [ZL]; omega)) ?_); done) | ((try simp only [ZL]) <;> omega) | fail)) only [↓XH2, XRN, ZC, ZE, ZH, eq_self, Nat.reduceLeDiff, Nat.reduceBEq]) hsp.symm (by simp) (by simp)
    | false =>
      have q' : ¬ hasL ws x.text = true := by unfold hasL; rw [q]; simp
      rw [if_neg q', List.append_nil] at hsp
      simp (dsimp := false) (disch := (first | (refine dS ?_; kernel_rfl) | (refine dM ?_; kernel_rfl) | (refine dO ?_; simp (disch := ((try simp only [ZL]) <;> omega)) only [ZK, ZL]; done) | (refine dK ?_; (repeat first | exact Keep.refl _ _ | exact Keep.app _ _ (Nat.le_refl _) | assumption | refine Keep.ap ?_ | refine Keep.st (by first | omega | (simp only [ZL]; omega)) ?_); done) | ((try simp only [ZL]) <;> omega) | fail)) only [XOB, ↓XXs, ↓XD, ↓YX, ZB, Nat.reduceAdd, Nat.reducePow, ↓reduceIte, eq_self, Int.reduceEq, Nat.reduceEqDiff, Nat.reduceMul, Nat.reduceLeDiff, Int.reduceBEq, Int.reduceLT, Try.f9, ↓XH2, XRN, ZC, ZE, ZH, eq_self, Nat.reduceLeDiff, Nat.reduceBEq, slV_new, ZS, reduceIte, ↓op_extract, hlw, hw, hix, eN2, hN2, c1, q]
      exact ih (d ++ [x]) (by simp [hd]) iO gO (seekL ws d).length ((d.length + 1 : Nat) : Int) (seekL ws d) h2 k02 hiO eO2 hsp.symm rfl (by simp)
theorem r9 (va : Value) (n l : Nat) (h : AH) (r : Cd h va n) (hl : l ≤ h.length) :
    Okr TrueQ (run V0 (.fn 9) l [S va] h) := by
  have lv := r.len
  refine okr_fn Try.func9 rfl rfl rfl rfl ?_
  simp (dsimp := false) (disch := (first | (refine dS ?_; kernel_rfl) | (refine dM ?_; kernel_rfl) | (refine dO ?_; simp (disch := ((try simp only [ZL]) <;> omega)) only [ZK, ZL]; done) | (refine dK ?_; (repeat first | exact Keep.refl _ _ | exact Keep.app _ _ (Nat.le_refl _) | assumption | refine Keep.ap ?_ | refine Keep.st (by first | omega | (simp only [ZL]; omega)) ?_); done) | ((try simp only [ZL]) <;> omega) | fail)) only [XOB, ↓XXs, ↓XD, ↓YX, ZB, Nat.reduceAdd, Nat.reducePow, ↓reduceIte, eq_self, Int.reduceEq, Nat.reduceEqDiff, Nat.reduceMul, Nat.reduceLeDiff, Int.reduceBEq, Int.reduceLT, Try.f9, ↓XH2, XRN, ZC, ZE, ZH, eq_self, Nat.reduceLeDiff, Nat.reduceBEq, slV_new, ZS, reduceIte, ↓op_extract, lv]
  refine okr_if (fun t => ?_) (fun t => ?_)
  · try simp (dsimp := false) (disch := (first | (refine dS ?_; kernel_rfl) | (refine dM ?_; kernel_rfl) | (refine dO ?_; simp (disch := ((try simp only [ZL]) <;> omega)) only [ZK, ZL]; done) | (refine dK ?_; (repeat first | exact Keep.refl _ _ | exact Keep.app _ _ (Nat.le_refl _) | assumption | refine Keep.ap ?_ | refine Keep.st (by first | omega | (simp only [ZL]; omega)) ?_); done) | ((try simp only [ZL]) <;> omega) | fail)) only [XOB, ↓XXs, ↓XD, ↓YX, ZB, Nat.reduceAdd, Nat.reducePow, ↓reduceIte, eq_self, Int.reduceEq, Nat.reduceEqDiff, Nat.reduceMul, Nat.reduceLeDiff, Int.reduceBEq, Int.reduceLT, Try.f9, ↓XH2, XRN, ZC, ZE, ZH, eq_self, Nat.reduceLeDiff, Nat.reduceBEq, slV_new, ZS, reduceIte, ↓op_extract, lv]
    with_reducible refine Okr.ret ?_
    rfl
  have hn : n ≤ 2 ^ 20 := by have := of_decide_eq_false t; omega
  try simp (dsimp := false) (disch := (first | (refine dS ?_; kernel_rfl) | (refine dM ?_; kernel_rfl) | (refine dO ?_; simp (disch := ((try simp only [ZL]) <;> omega)) only [ZK, ZL]; done) | (refine dK ?_; (repeat first | exact Keep.refl _ _ | exact Keep.app _ _ (Nat.le_refl _) | assumption | refine Keep.ap ?_ | refine Keep.st (by first | omega | (simp only [ZL]; omega)) ?_); done) | ((try simp only [ZL]) <;> omega) | fail)) only [XOB, ↓XXs, ↓XD, ↓YX, ZB, Nat.reduceAdd, Nat.reducePow, ↓reduceIte, eq_self, Int.reduceEq, Nat.reduceEqDiff, Nat.reduceMul, Nat.reduceLeDiff, Int.reduceBEq, Int.reduceLT, Try.f9, ↓XH2, XRN, ZC, ZE, ZH, eq_self, Nat.reduceLeDiff, Nat.reduceBEq, slV_new, ZS, reduceIte, ↓op_extract, lv]
  refine okr_call (r35 va n l h r hl (by omega)) ?_
  rintro _ h2 ⟨⟨i2, g2, log, rm, tx, rfl, e2, hi2, hinc, h60, frm, ftx⟩, k2⟩
  have hk2 := k2.1
  have fl : ∀ x ∈ log, x.text.length ≤ 64 := fun x hx => (hinc.2 x hx).1.2.2.2.1
  try simp (dsimp := false) (disch := (first | (refine dS ?_; kernel_rfl) | (refine dM ?_; kernel_rfl) | (refine dO ?_; simp (disch := ((try simp only [ZL]) <;> omega)) only [ZK, ZL]; done) | (refine dK ?_; (repeat first | exact Keep.refl _ _ | exact Keep.app _ _ (Nat.le_refl _) | assumption | refine Keep.ap ?_ | refine Keep.st (by first | omega | (simp only [ZL]; omega)) ?_); done) | ((try simp only [ZL]) <;> omega) | fail)) only [XOB, ↓XXs, ↓XD, ↓YX, ZB, Nat.reduceAdd, Nat.reducePow, ↓reduceIte, eq_self, Int.reduceEq, Nat.reduceEqDiff, Nat.reduceMul, Nat.reduceLeDiff, Int.reduceBEq, Int.reduceLT, Try.f9, ↓XH2, XRN, ZC, ZE, ZH, eq_self, Nat.reduceLeDiff, Nat.reduceBEq, slV_new, ZS, reduceIte, ↓op_extract, lv]
  refine okr_call (r36 rfl (by omega) fl ftx e2 (by omega)) ?_
  rintro _ h3 ⟨i3, g3, rfl, e3, hi3, k3⟩
  have hk3 := k3.1
  have e23 := k3.get e2 (lt_of_get e2)
  try simp (dsimp := false) (disch := (first | (refine dS ?_; kernel_rfl) | (refine dM ?_; kernel_rfl) | (refine dO ?_; simp (disch := ((try simp only [ZL]) <;> omega)) only [ZK, ZL]; done) | (refine dK ?_; (repeat first | exact Keep.refl _ _ | exact Keep.app _ _ (Nat.le_refl _) | assumption | refine Keep.ap ?_ | refine Keep.st (by first | omega | (simp only [ZL]; omega)) ?_); done) | ((try simp only [ZL]) <;> omega) | fail)) only [XOB, ↓XXs, ↓XD, ↓YX, ZB, Nat.reduceAdd, Nat.reducePow, ↓reduceIte, eq_self, Int.reduceEq, Nat.reduceEqDiff, Nat.reduceMul, Nat.reduceLeDiff, Int.reduceBEq, Int.reduceLT, Try.f9, ↓XH2, XRN, ZC, ZE, ZH, eq_self, Nat.reduceLeDiff, Nat.reduceBEq, slV_new, ZS, reduceIte, ↓op_extract, lv]
  refine okr_call (r38 rfl (by omega) fl ftx e23 (by omega)) ?_
  rintro _ h4 ⟨i4, g4, rfl, e4, hi4, k4⟩
  have hk4 := k4.1
  have e24 := k4.get e23 (lt_of_get e23)
  have e34 := k4.get e3 (lt_of_get e3)
  have hnl := nowL_len rm log
  have hsl := seekL_len (wordsL tx) (nowL rm log)
  have a5 := hb_ints (l := l) rfl rfl (by omega) e34 e4
  try simp (dsimp := false) (disch := (first | (refine dS ?_; kernel_rfl) | (refine dM ?_; kernel_rfl) | (refine dO ?_; simp (disch := ((try simp only [ZL]) <;> omega)) only [ZK, ZL]; done) | (refine dK ?_; (repeat first | exact Keep.refl _ _ | exact Keep.app _ _ (Nat.le_refl _) | assumption | refine Keep.ap ?_ | refine Keep.st (by first | omega | (simp only [ZL]; omega)) ?_); done) | ((try simp only [ZL]) <;> omega) | fail)) only [XOB, ↓XXs, ↓XD, ↓YX, ZB, Nat.reduceAdd, Nat.reducePow, ↓reduceIte, eq_self, Int.reduceEq, Nat.reduceEqDiff, Nat.reduceMul, Nat.reduceLeDiff, Int.reduceBEq, Int.reduceLT, Try.f9, ↓XH2, XRN, ZC, ZE, ZH, eq_self, Nat.reduceLeDiff, Nat.reduceBEq, slV_new, ZS, reduceIte, ↓op_extract, lv, a5]
  refine okr_call (r28 rfl (by omega) e24 (by omega)) ?_
  rintro _ h5 ⟨i5, g5, rfl, e5, hi5, k5⟩
  have hk5 := k5.1
  have e25 := k5.get e24 (lt_of_get e24)
  have e35 := k5.get e34 (lt_of_get e34)
  obtain ⟨i6, g6, h6, a6, e6, hi6, k6⟩ := r14 tx (by omega) l h5 (by omega)
  have hk6 := k6.1
  have e26 := k6.get e25 (lt_of_get e25)
  have e36 := k6.get e35 (lt_of_get e35)
  have e56 := k6.get e5 (lt_of_get e5)
  have hwl := wordsL_len tx
  try simp (dsimp := false) (disch := (first | (refine dS ?_; kernel_rfl) | (refine dM ?_; kernel_rfl) | (refine dO ?_; simp (disch := ((try simp only [ZL]) <;> omega)) only [ZK, ZL]; done) | (refine dK ?_; (repeat first | exact Keep.refl _ _ | exact Keep.app _ _ (Nat.le_refl _) | assumption | refine Keep.ap ?_ | refine Keep.st (by first | omega | (simp only [ZL]; omega)) ?_); done) | ((try simp only [ZL]) <;> omega) | fail)) only [XOB, ↓XXs, ↓XD, ↓YX, ZB, Nat.reduceAdd, Nat.reducePow, ↓reduceIte, eq_self, Int.reduceEq, Nat.reduceEqDiff, Nat.reduceMul, Nat.reduceLeDiff, Int.reduceBEq, Int.reduceLT, Try.f9, ↓XH2, XRN, ZC, ZE, ZH, eq_self, Nat.reduceLeDiff, Nat.reduceBEq, slV_new, ZS, reduceIte, ↓op_extract, lv, a5, a6]
  exact L9a l i2 g2 i3 g3 i5 g5 i6 g6 rm (wordsL tx) log h6 (by omega) (by omega) (by omega) fl e26 e36 e56 e6 (nowL rm log) [] rfl h6.length 0 0 0 [] _ (Keep.app _ _ (Nat.le_refl _)) (Nat.le_refl _) (by simp (disch := (first | (refine dS ?_; kernel_rfl) | (refine dM ?_; kernel_rfl) | (refine dO ?_; simp (disch := ((try simp only [ZL]) <;> omega)) only [ZK, ZL]; done) | (refine dK ?_; (repeat first | exact Keep.refl _ _ | exact Keep.app _ _ (Nat.le_refl _) | assumption | refine Keep.ap ?_ | refine Keep.st (by first | omega | (simp only [ZL]; omega)) ?_); done) | ((try simp only [ZL]) <;> omega) | fail)) only [↓XH2, XRN, ZC, ZE, ZH, eq_self, Nat.reduceLeDiff, Nat.reduceBEq]; rfl) rfl rfl rfl
theorem rz9 (va : Value) (n l : Nat) (h : AH) (r : Cd h va n) (hl : l ≤ h.length) : ∃ h', run V0 (.fn 9) l [S va] h = some (.ret (.bool true) h') := by
  obtain ⟨v, h', e, rfl⟩ := r9 va n l h r hl
  exact ⟨h', e⟩
end Go.Abs
