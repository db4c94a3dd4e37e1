/- What SeekNow computes, in the program and in the reference. For every log of at most 2^20 entries; no condition. -/
import Derived.Test.YtdhogmkdmbfijaaLogB
namespace Go.Abs
open Go.Proofs
/-! ### what is said in a room, as it was put right: plain -/
def talkL (rm : Bs) (e : En) : Bool := decide (e.room = rm) && (e.kind == 3)
def hitL (e x : En) : Bool := decide (x.user = e.user) && (decide (x.id = e.ref) && decide (x.ref = []))
def lastI (e : En) : List En → Nat → Int → Int
  | [], _, a => a
  | x :: r, k, a => lastI e r (k + 1) (if hitL e x then (k : Int) else a)
theorem lastI_app (e x : En) : ∀ (d : List En) (k : Nat) (a : Int), lastI e (d ++ [x]) k a = if hitL e x then ((k + d.length : Nat) : Int) else lastI e d k a
  | [], k, a => by simp [lastI]
  | y :: d, k, a => by
    rw [List.cons_append, lastI, lastI_app e x d]
    simp only [lastI, List.length_cons]
    congr 2; omega
theorem lastI_bd (e : En) : ∀ (d : List En) (k : Nat) (a : Int), a < k → (lastI e d k a = a ∨ (k : Int) ≤ lastI e d k a) ∧ lastI e d k a < (k + d.length : Nat)
  | [], k, a, h => ⟨.inl rfl, by simpa [lastI] using h⟩
  | x :: d, k, a, h => by
    simp only [lastI, List.length_cons]
    split
    · obtain ⟨h1, h2⟩ := lastI_bd e d (k + 1) (k : Int) (by omega)
      exact ⟨by omega, by omega⟩
    · obtain ⟨h1, h2⟩ := lastI_bd e d (k + 1) a (by omega)
      exact ⟨by omega, by omega⟩
theorem lastI_cases (e : En) (out : List En) : lastI e out 0 (-1) = -1 ∨ ∃ d x r, out = d ++ x :: r ∧ lastI e out 0 (-1) = (d.length : Int) := by
  obtain ⟨h1, h2⟩ := lastI_bd e out 0 (-1) (by omega)
  rcases h1 with h1 | h1
  · exact .inl h1
  · obtain ⟨n, hn⟩ : ∃ n : Nat, lastI e out 0 (-1) = n := ⟨(lastI e out 0 (-1)).toNat, by omega⟩
    have hlt : n < out.length := by omega
    exact .inr ⟨out.take n, out[n], out.drop (n + 1), by rw [List.getElem_cons_drop, List.take_append_drop], by rw [hn, List.length_take]; omega⟩
abbrev En.wt (x : En) (t : Bs) : En := ⟨x.room, x.seq, x.kind, x.user, x.nick, t, x.id, x.ref, x.num⟩
def setT : List En → Nat → Bs → List En
  | [], _, _ => []
  | x :: r, 0, t => x.wt t :: r
  | x :: r, k + 1, t => x :: setT r k t
theorem setT_mid (x : En) (r : List En) (t : Bs) : ∀ d : List En, setT (d ++ x :: r) d.length t = d ++ x.wt t :: r
  | [] => rfl
  | y :: d => by rw [List.cons_append, List.length_cons, setT, setT_mid x r t d]; rfl
def stepN (out : List En) (e : En) : List En := if e.ref = [] then out ++ [e] else if lastI e out 0 (-1) < 0 then out ++ [e] else setT out (lastI e out 0 (-1)).toNat e.text
def nowL (rm : Bs) (log : List En) : List En := (log.filter (talkL rm)).foldl stepN []
abbrev bare (x : En) : En := x.wt []
theorem bare_setT (t : Bs) : ∀ (l : List En) (k : Nat), (setT l k t).map bare = l.map bare
  | [], _ => rfl
  | x :: r, 0 => rfl
  | x :: r, k + 1 => by simp only [setT, List.map_cons, bare_setT t r k]
theorem setT_len (t : Bs) : ∀ (l : List En) (k : Nat), (setT l k t).length = l.length
  | [], _ => rfl
  | x :: r, 0 => rfl
  | x :: r, k + 1 => by simp only [setT, List.length_cons, setT_len t r k]
theorem stepN_bare (out : List En) (e : En) : ((stepN out e).map bare).Sublist (out.map bare ++ [bare e]) := by
  unfold stepN
  split
  · rw [List.map_append]; exact List.Sublist.refl _
  · split
    · rw [List.map_append]; exact List.Sublist.refl _
    · rw [bare_setT]; exact List.sublist_append_left _ _
theorem now_bare : ∀ (r out : List En), ((r.foldl stepN out).map bare).Sublist (out.map bare ++ r.map bare)
  | [], out => by simp
  | e :: r, out => by
    rw [List.foldl_cons]
    refine (now_bare r _).trans ?_
    rw [List.map_cons]
    have := (stepN_bare out e).append_right (r.map bare)
    simpa using this
theorem stepN_len (out : List En) (e : En) : (stepN out e).length ≤ out.length + 1 ∧ (if e.ref = [] then out.length + 1 else out.length) ≤ (stepN out e).length := by
  unfold stepN
  by_cases h : e.ref = []
  · simp [h]
  · simp only [h, if_false]
    split
    · simp
    · rw [setT_len]; omega
theorem now_len : ∀ (r out : List En), (r.foldl stepN out).length ≤ out.length + r.length ∧ out.length + (r.filter fun e => decide (e.ref = [])).length ≤ (r.foldl stepN out).length
  | [], out => by simp
  | e :: r, out => by
    rw [List.foldl_cons]
    obtain ⟨h1, h2⟩ := now_len r (stepN out e)
    obtain ⟨h3, h4⟩ := stepN_len out e
    rw [List.filter_cons]
    by_cases h : e.ref = []
    · rw [if_pos h] at h4
      rw [if_pos (decide_eq_true h), List.length_cons, List.length_cons]
      omega
    · rw [if_neg h] at h4
      rw [if_neg (by simp [h]), List.length_cons]
      omega
theorem nowL_len (rm : Bs) (log : List En) : (nowL rm log).length ≤ log.length := by
  have h1 := (now_len (log.filter (talkL rm)) []).1
  have := List.length_filter_le (talkL rm) log
  simp only [List.length_nil] at h1
  unfold nowL
  omega
theorem talk_inc {rm : Bs} {log : List En} (h : Inc log) : (log.filter (talkL rm)).Pairwise fun a b => a.seq < b.seq := by
  have h1 : (log.filter (talkL rm)).Pairwise (fun a b => a.room = b.room → a.seq < b.seq) := h.1.filter _
  refine h1.imp_of_mem ?_
  intro a b ha hb hab
  have ta := (List.mem_filter.1 ha).2
  have tb := (List.mem_filter.1 hb).2
  simp only [talkL, Bool.and_eq_true, decide_eq_true_eq] at ta tb
  exact hab (by rw [ta.1, tb.1])
/-- the law's search: what comes next in the list is in what is left of all -/
theorem seek_skip {x y : En} {r t : List En} (h : ((x :: r).map bare).Sublist ((y :: t).map bare)) (ne : y.seq ≠ x.seq) : ((x :: r).map bare).Sublist (t.map bare) := by
  simp only [List.map_cons] at h ⊢
  have ne' : bare x ≠ bare y := fun q => ne (by have := congrArg En.seq q; exact this.symm)
  generalize hb : bare x = b at h ne' ⊢
  generalize hc : bare y = c at h ne'
  cases h with
  | cons _ s => exact s
  | cons_cons _ s => exact absurd rfl ne'
theorem seek_found {x y : En} {r t : List En} (h : ((x :: r).map bare).Sublist ((y :: t).map bare)) (e : y.seq = x.seq) (p : (y :: t).Pairwise fun a b => a.seq < b.seq) : bare x = bare y := by
  simp only [List.map_cons] at h
  generalize hb : bare x = b at h
  generalize hc : bare y = c at h
  cases h with
  | cons _ s =>
    exfalso
    have hm : b ∈ t.map bare := s.subset (by simp)
    obtain ⟨z, hz, hzb⟩ := List.mem_map.1 hm
    have h1 := (List.pairwise_cons.1 p).1 z hz
    have h2 : (bare z).seq = (bare x).seq := by rw [hzb, hb]
    have h3 : z.seq = x.seq := h2
    omega
  | cons_cons _ s => rfl
end Go.Abs
namespace Go.Abs
open Go.Proofs
set_option maxRecDepth 100000
set_option linter.unusedSimpArgs false
set_option linter.unusedVariables false
set_option pp.maxSteps 20000
set_option pp.deepTerms true
theorem eqA_En (x y : En) : eqA V0.P 50 45 x.V y.V = some (decide (B x.room = B y.room) && ((x.seq == y.seq) && ((x.kind == y.kind) && (decide (B x.user = B y.user) && (decide (B x.nick = B y.nick) && (decide (B x.text = B y.text) && (decide (B x.id = B y.id) && (decide (B x.ref = B y.ref) && ((x.num == y.num) && true))))))))) := by kernel_rfl
theorem eqOk_En (x : En) : eqOk V0.P 45 x.V = true := by kernel_rfl
theorem B_dec (a b : Bs) : decide (B a = B b) = decide (a = b) := by rw [decide_eq_decide, B_inj]
theorem eqA_En' (x y : En) : eqA V0.P 50 45 x.V y.V = some (decide (x = y)) := by
  rw [eqA_En]
  simp only [B_dec]
  congr 1
  rw [Bool.eq_iff_iff]
  cases x; cases y
  simp only [Bool.and_eq_true, decide_eq_true_eq, beq_iff_eq, En.mk.injEq, and_true]
theorem binK_neqA {P : Program} {t : TypeId} {a b : Array Value} {act : Option Bool} {K : Value → R} : binK P .neq t (.agg a) (.agg b) act K = chk (eqOk P t (.agg a)) (oE act (eqA P 50 t (.agg a) (.agg b)) false fun q => K (.bool (!q))) := rfl
theorem eqA_EnC (x y : En) : eqA V0.P 50 45 (.agg (En.C x).toArray) (.agg (En.C y).toArray) = some (decide (x = y)) := eqA_En' x y
theorem eqOk_EnC (x : En) : eqOk V0.P 45 (.agg (En.C x).toArray) = true := eqOk_En x
def En.Rw (h : AH) (v : Value) (xs : List En) : Prop :=
  (v = .slice none 0 0 ∧ xs = []) ∨ ∃ id g c ma, v = slV id g xs.length c ∧ h[id]? = some (.row g 9 (En.R (xs ++ ma)))
theorem En.Rw.len {h : AH} {v : Value} {xs : List En} (r : En.Rw h v xs) : lenV v = some (xs.length : Int) := by
  rcases r with ⟨rfl, rfl⟩ | ⟨id, g, c, _, rfl, _⟩ <;> rfl
theorem En.Rw.at {h : AH} {v : Value} {d r : List En} {x : En} (q : En.Rw h v (d ++ x :: r)) : ∃ id g r2, ixAddr v (d.length : Int) 9 = some (pV id (d.length * 9) g) ∧ h[id]? = some (.row g 9 (En.R (d ++ x :: r2))) ∧ id < h.length := by
  rcases q with ⟨_, q⟩ | ⟨id, g, c, ma, rfl, e⟩
  · simp at q
  · exact ⟨id, g, r ++ ma, by rw [ixAddr_sl (by simp)]; simp, by rw [e]; simp, lt_of_get e⟩
theorem En.Rw.keep {h h' : AH} {v : Value} {xs : List En} (q : En.Rw h v xs) (k : Keep h.length h h') : En.Rw h' v xs := by
  rcases q with q | ⟨id, g, c, ma, rfl, e⟩
  · exact .inl q
  · exact .inr ⟨id, g, c, ma, rfl, k.get e (lt_of_get e)⟩
theorem En.Rw.of {h : AH} {id g c : Nat} {xs : List En} (e : h[id]? = some (.row g 9 (En.R xs))) : En.Rw h (slV id g xs.length c) xs := .inr ⟨id, g, c, [], rfl, by simpa using e⟩
def SameQ (b : Bool) (h : AH) (v : Value) (h' : AH) : Prop := v = .bool b ∧ h' = h
theorem L29 (l n : Nat) (a b : Value) (h : AH) (xs ys : List En) (hx : xs.length = n) (hy : ys.length = n) (hn : n ≤ 2 ^ 20) (qa : En.Rw h a xs) (qb : En.Rw h b ys) :
    ∀ (r d r' d' : List En) (i : Int), d ++ r = xs → d' ++ r' = ys → d.length = d'.length → i = d.length → Okr (SameQ (decide (r = r')) h) (L29_0 l a b (iV i) h) := by
  have la := qa.len
  have lb := qb.len
  intro r
  induction r with
  | nil =>
    rintro d r' d' i h1 h2 h3 rfl
    have : r' = [] := List.eq_nil_of_length_eq_zero (by have e1 := congrArg List.length h1; have e2 := congrArg List.length h2; simp at e1 e2; omega)
    subst this
    rw [List.append_nil] at h1
    subst h1
    have hlt : decide ((d.length : Int) < (d.length : Int)) = false := decide_eq_false (by omega)
    refine okr_code Try.func29 rfl rfl ?_
    simp (dsimp := false) (disch := (first | (refine dS ?_; kernel_rfl) | (refine dM ?_; kernel_rfl) | (refine dO ?_; simp (disch := ((try simp only [ZL]) <;> omega)) only [ZK, ZL]; done) | (refine dK ?_; (repeat first | exact Keep.refl _ _ | exact Keep.app _ _ (Nat.le_refl _) | assumption | refine Keep.ap ?_ | refine Keep.st (by first | omega | (simp only [ZL]; omega)) ?_); done) | ((try simp only [ZL]) <;> omega) | fail)) only [XOB, ↓XXs, ↓XD, ↓YX, ZB, Nat.reduceAdd, Nat.reducePow, ↓reduceIte, eq_self, Int.reduceEq, Nat.reduceEqDiff, Nat.reduceMul, Nat.reduceLeDiff, Int.reduceBEq, Int.reduceLT, Try.f29, ↓XH2, XRN, ZC, ZE, ZH, eq_self, Nat.reduceLeDiff, Nat.reduceBEq, slV_new, ZS, reduceIte, ↓op_extract, la, lb, hlt]
    exact Okr.ret ⟨by simp, rfl⟩
  | cons x r ih =>
    rintro d r' d' i h1 h2 h3 rfl
    cases r' with
    | nil => exfalso; have e1 := congrArg List.length h1; have e2 := congrArg List.length h2; simp at e1 e2; omega
    | cons y r' =>
      obtain ⟨p, g, t1, hix, hh, hp⟩ := (h1 ▸ qa : En.Rw h a (d ++ x :: r)).at
      obtain ⟨p2, g2, t2, hix2, hh2, hp2⟩ := (h2 ▸ qb : En.Rw h b (d' ++ y :: r')).at
      have hll : d.length + r.length + 1 = n := by rw [← hx, ← h1]; simp; omega
      have hlt : decide ((d.length : Int) < (xs.length : Int)) = true := decide_eq_true (by omega)
      have hw : IntKind.i64.wrap ((d.length : Int) + 1) = ((d.length + 1 : Nat) : Int) := natCast_succ_wrap (by omega) rfl
      rw [← h3] at hix2
      have c1 := En.get d x t1
      have c2 := En.get d' y t2
      rw [← h3] at c2
      have l1 : d.length * 9 + 9 ≤ (En.R (d ++ x :: t1)).length := by rw [En.R_len]; simp; omega
      have l2 : d.length * 9 + 9 ≤ (En.R (d' ++ y :: t2)).length := by rw [En.R_len]; simp; omega
      refine okr_code Try.func29 rfl rfl ?_
      simp (dsimp := false) (disch := (first | (refine dS ?_; kernel_rfl) | (refine dM ?_; kernel_rfl) | (refine dO ?_; simp (disch := ((try simp only [ZL]) <;> omega)) only [ZK, ZL]; done) | (refine dK ?_; (repeat first | exact Keep.refl _ _ | exact Keep.app _ _ (Nat.le_refl _) | assumption | refine Keep.ap ?_ | refine Keep.st (by first | omega | (simp only [ZL]; omega)) ?_); done) | ((try simp only [ZL]) <;> omega) | fail)) only [XOB, ↓XXs, ↓XD, ↓YX, ZB, Nat.reduceAdd, Nat.reducePow, ↓reduceIte, eq_self, Int.reduceEq, Nat.reduceEqDiff, Nat.reduceMul, Nat.reduceLeDiff, Int.reduceBEq, Int.reduceLT, Try.f29, ↓XH2, XRN, ZC, ZE, ZH, eq_self, Nat.reduceLeDiff, Nat.reduceBEq, slV_new, ZS, reduceIte, ↓op_extract, la, lb, hlt, hix, hix2, hh, hh2, hw, c1, c2, l1, l2, binK_neqA, eqA_EnC, eqOk_EnC]
      refine okr_if (fun t => ?_) (fun t => ?_)
      · have hne : x ≠ y := by simpa using t
        simp (dsimp := false) (disch := (first | (refine dS ?_; kernel_rfl) | (refine dM ?_; kernel_rfl) | (refine dO ?_; simp (disch := ((try simp only [ZL]) <;> omega)) only [ZK, ZL]; done) | (refine dK ?_; (repeat first | exact Keep.refl _ _ | exact Keep.app _ _ (Nat.le_refl _) | assumption | refine Keep.ap ?_ | refine Keep.st (by first | omega | (simp only [ZL]; omega)) ?_); done) | ((try simp only [ZL]) <;> omega) | fail)) only [XOB, ↓XXs, ↓XD, ↓YX, ZB, Nat.reduceAdd, Nat.reducePow, ↓reduceIte, eq_self, Int.reduceEq, Nat.reduceEqDiff, Nat.reduceMul, Nat.reduceLeDiff, Int.reduceBEq, Int.reduceLT, Try.f29, ↓XH2, XRN, ZC, ZE, ZH, eq_self, Nat.reduceLeDiff, Nat.reduceBEq, slV_new, ZS, reduceIte, ↓op_extract, la, lb, hlt, hix, hix2, hh, hh2, hw, c1, c2, l1, l2, binK_neqA, eqA_EnC, eqOk_EnC]
        with_reducible refine Okr.ret ?_
        exact ⟨by simp [hne], rfl⟩
      · have heq : x = y := by simpa using t
        simp (dsimp := false) (disch := (first | (refine dS ?_; kernel_rfl) | (refine dM ?_; kernel_rfl) | (refine dO ?_; simp (disch := ((try simp only [ZL]) <;> omega)) only [ZK, ZL]; done) | (refine dK ?_; (repeat first | exact Keep.refl _ _ | exact Keep.app _ _ (Nat.le_refl _) | assumption | refine Keep.ap ?_ | refine Keep.st (by first | omega | (simp only [ZL]; omega)) ?_); done) | ((try simp only [ZL]) <;> omega) | fail)) only [XOB, ↓XXs, ↓XD, ↓YX, ZB, Nat.reduceAdd, Nat.reducePow, ↓reduceIte, eq_self, Int.reduceEq, Nat.reduceEqDiff, Nat.reduceMul, Nat.reduceLeDiff, Int.reduceBEq, Int.reduceLT, Try.f29, ↓XH2, XRN, ZC, ZE, ZH, eq_self, Nat.reduceLeDiff, Nat.reduceBEq, slV_new, ZS, reduceIte, ↓op_extract, la, lb, hlt, hix, hix2, hh, hh2, hw, c1, c2, l1, l2, binK_neqA, eqA_EnC, eqOk_EnC]
        have := ih (d ++ [x]) r' (d' ++ [y]) ((d.length + 1 : Nat) : Int) (by simp [h1]) (by simp [h2]) (by simp [h3]) (by simp)
        rw [show decide (x :: r = y :: r') = decide (r = r') by simp [heq]]
        exact this
theorem r29 (l : Nat) (a b : Value) (h : AH) (xs ys : List En) (hx : xs.length ≤ 2 ^ 20) (hy : ys.length ≤ 2 ^ 20) (qa : En.Rw h a xs) (qb : En.Rw h b ys) :
    run V0 (.fn 29) l [S a, S b] h = some (.ret (.bool (decide (xs = ys))) h) := by
  have la := qa.len
  have lb := qb.len
  have key : Okr (SameQ (decide (xs = ys)) h) (run V0 (.fn 29) l [S a, S b] h) := by
    refine okr_fn Try.func29 rfl rfl rfl rfl ?_
    simp (dsimp := false) (disch := (first | (refine dS ?_; kernel_rfl) | (refine dM ?_; kernel_rfl) | (refine dO ?_; simp (disch := ((try simp only [ZL]) <;> omega)) only [ZK, ZL]; done) | (refine dK ?_; (repeat first | exact Keep.refl _ _ | exact Keep.app _ _ (Nat.le_refl _) | assumption | refine Keep.ap ?_ | refine Keep.st (by first | omega | (simp only [ZL]; omega)) ?_); done) | ((try simp only [ZL]) <;> omega) | fail)) only [XOB, ↓XXs, ↓XD, ↓YX, ZB, Nat.reduceAdd, Nat.reducePow, ↓reduceIte, eq_self, Int.reduceEq, Nat.reduceEqDiff, Nat.reduceMul, Nat.reduceLeDiff, Int.reduceBEq, Int.reduceLT, Try.f29, ↓XH2, XRN, ZC, ZE, ZH, eq_self, Nat.reduceLeDiff, Nat.reduceBEq, slV_new, ZS, reduceIte, ↓op_extract, la, lb]
    refine okr_if (fun t => ?_) (fun t => ?_)
    · have hne : xs ≠ ys := by rintro rfl; simp at t
      simp (dsimp := false) (disch := (first | (refine dS ?_; kernel_rfl) | (refine dM ?_; kernel_rfl) | (refine dO ?_; simp (disch := ((try simp only [ZL]) <;> omega)) only [ZK, ZL]; done) | (refine dK ?_; (repeat first | exact Keep.refl _ _ | exact Keep.app _ _ (Nat.le_refl _) | assumption | refine Keep.ap ?_ | refine Keep.st (by first | omega | (simp only [ZL]; omega)) ?_); done) | ((try simp only [ZL]) <;> omega) | fail)) only [XOB, ↓XXs, ↓XD, ↓YX, ZB, Nat.reduceAdd, Nat.reducePow, ↓reduceIte, eq_self, Int.reduceEq, Nat.reduceEqDiff, Nat.reduceMul, Nat.reduceLeDiff, Int.reduceBEq, Int.reduceLT, Try.f29, ↓XH2, XRN, ZC, ZE, ZH, eq_self, Nat.reduceLeDiff, Nat.reduceBEq, slV_new, ZS, reduceIte, ↓op_extract, la, lb]
      with_reducible refine Okr.ret ?_
      exact ⟨by simp [hne], rfl⟩
    · have heq : xs.length = ys.length := by have : ((xs.length : Int) = ys.length) := by simpa using t
                                             omega
      simp (dsimp := false) (disch := (first | (refine dS ?_; kernel_rfl) | (refine dM ?_; kernel_rfl) | (refine dO ?_; simp (disch := ((try simp only [ZL]) <;> omega)) only [ZK, ZL]; done) | (refine dK ?_; (repeat first | exact Keep.refl _ _ | exact Keep.app _ _ (Nat.le_refl _) | assumption | refine Keep.ap ?_ | refine Keep.st (by first | omega | (simp only [ZL]; omega)) ?_); done) | ((try simp only [ZL]) <;> omega) | fail)) only [XOB, ↓XXs, ↓XD, ↓YX, ZB, Nat.reduceAdd, Nat.reducePow, ↓reduceIte, eq_self, Int.reduceEq, Nat.reduceEqDiff, Nat.reduceMul, Nat.reduceLeDiff, Int.reduceBEq, Int.reduceLT, Try.f29, ↓XH2, XRN, ZC, ZE, ZH, eq_self, Nat.reduceLeDiff, Nat.reduceBEq, slV_new, ZS, reduceIte, ↓op_extract, la, lb]
      exact L29 l xs.length a b h xs ys rfl heq.symm hx qa qb xs [] ys [] 0 rfl rfl rfl rfl
  obtain ⟨v, h', e, rfl, rfl⟩ := key
  exact e
end Go.Abs
namespace Go.Abs
open Go.Proofs
set_option maxRecDepth 100000
set_option linter.unusedSimpArgs false
set_option linter.unusedVariables false
set_option pp.maxSteps 20000
set_option pp.deepTerms true
theorem En.setC (d : List En) (x y : En) (r : List En) (j : Nat) (v : Value) (hj : j < 9) (hy : x.C.set j v = y.C) : (En.R (d ++ x :: r)).set (d.length * 9 + j) v = En.R (d ++ y :: r) := by
  rw [En.R_app, En.R_cons, En.R_app, En.R_cons]
  have := set_in (En.R d) x.C (En.R r) j v hj
  rw [En.R_len, Nat.mul_comm] at this
  rw [this, hy]
/-- a slice, with cells behind it -/
theorem En.setText (d : List En) (x : En) (t : List En) (m : Bs) : (En.R (d ++ x :: t)).set (d.length * 9 + 5) (sV m) = En.R (d ++ x.wt m :: t) := En.setC d x (x.wt m) t 5 (sV m) (by decide) rfl
/-- impl.seekNow: its inner loop, over what is told so far -/
theorem L67i (l iE iO gO n : Nat) (v1 v12 v13 v14 : Value) (e : En) (out : List En) (hn : out.length = n) (hn2 : n ≤ 2 ^ 30) (hl : l ≤ iO) :
    ∀ (r d : List En) (k a : Int) (h : AH), d ++ r = out → k = d.length → h[iE]? = some (.row 0 9 e.C) → h[iO]? = some (.row gO 9 (En.R out)) →
      ∃ h', Keep h.length h h' ∧ ∀ P, Okr P (L67_1 l v1 (slV iO gO n n) (pV iE 0 0) (iV (lastI e r d.length a)) v12 v13 v14 (slV iO gO n n) (iV n) (iV n) h') → Okr P (L67_1 l v1 (slV iO gO n n) (pV iE 0 0) (iV a) v12 v13 v14 (slV iO gO n n) (iV n) (iV k) h) := by
  intro r
  induction r with
  | nil =>
    rintro d k a h hd rfl eE eO
    rw [List.append_nil] at hd
    subst hd hn
    exact ⟨h, Keep.refl _ _, fun P o => o⟩
  | cons x r ih =>
    rintro d k a h hd rfl eE eO
    have hll : d.length + r.length + 1 = n := by rw [← hn, ← hd]; simp; omega
    have hlt : decide ((d.length : Int) < (n : Int)) = true := decide_eq_true (by omega)
    have hw : IntKind.i64.wrap ((d.length : Int) + 1) = ((d.length + 1 : Nat) : Int) := natCast_succ_wrap (by omega) rfl
    have hix : ixAddr (slV iO gO n n) (d.length : Int) 9 = some (pV iO (d.length * 9) gO) := by rw [ixAddr_sl (by omega)]; simp
    have c1 : ((En.R out).drop (d.length * 9)).take 9 = En.C x := by rw [← hd]; exact En.get d x r
    have l1 : d.length * 9 + 9 ≤ (En.R out).length := by rw [En.R_len]; omega
    have hE := lt_of_get eE
    have hO := lt_of_get eO
    have k0 : Keep h.length h (h ++ [AObj.row 0 9 x.C]) := Keep.app _ _ (Nat.le_refl _)
    obtain ⟨h', i1, i2⟩ := ih (d ++ [x]) ((d.length + 1 : Nat) : Int) (if hitL e x then (d.length : Int) else a) (h ++ [AObj.row 0 9 x.C]) (by simp [hd]) (by simp) (k0.get eE hE) (k0.get eO hO)
    refine ⟨h', k0.trans (i1.le k0.1), fun P o => ?_⟩
    have o2 := i2 P (by rw [List.length_append, List.length_singleton]; exact o)
    have hlh : l ≤ h.length := by omega
    have b1 := B_dec x.user e.user
    have b2 := B_dec x.id e.ref
    have b3 := B_dec x.ref []
    refine okr_code Try.func67 rfl rfl ?_
    cases q1 : decide (x.user = e.user) <;> cases q2 : decide (x.id = e.ref) <;> cases q3 : decide (x.ref = []) <;> rw [q1] at b1 <;> rw [q2] at b2 <;> rw [q3] at b3 <;> (
      simp only [hitL, q1, q2, q3, Bool.and_self, Bool.and_false, Bool.false_and, Bool.and_true, Bool.true_and, if_true, Bool.false_eq_true, if_false] at o2
      simp (dsimp := false) (disch := (first | (refine dS ?_; kernel_rfl) | (refine dM ?_; kernel_rfl) | (refine dO ?_; simp (disch := ((try simp only [ZL]) <;> omega)) only [ZK, ZL]; done) | (refine dK ?_; (repeat first | exact Keep.refl _ _ | exact Keep.app _ _ (Nat.le_refl _) | assumption | refine Keep.ap ?_ | refine Keep.st (by first | omega | (simp only [ZL]; omega)) ?_); done) | ((try simp only [ZL]) <;> omega) | fail)) only [XOB, ↓XXs, ↓XD, ↓YX, ZB, Nat.reduceAdd, Nat.reducePow, ↓reduceIte, eq_self, Int.reduceEq, Nat.reduceEqDiff, Nat.reduceMul, Nat.reduceLeDiff, Int.reduceBEq, Int.reduceLT, Try.f67, ↓XH2, XRN, ZC, ZE, ZH, eq_self, Nat.reduceLeDiff, Nat.reduceBEq, slV_new, ZS, reduceIte, ↓op_extract, hlt, hw, hix, eE, eO, c1, l1, hlh, b1, b2, b3]
      exact o2)
theorem slCut_lenE {h : AH} {id off g n c sz : Nat} {cs : List Value} (e : h[id]? = some (.row g sz cs)) (hn : n ≤ c) (hw : wd sz = sz := by rfl) :
    slCut h (.slice (some ⟨id, off, some g⟩) n c) none (some (n : Int)) (some (n : Int)) sz = some (.slice (some ⟨id, off, some g⟩) n n) := by
  simp only [slCut, rowAt_of e, Option.bind_some, Option.getD_none, Option.getD_some]
  rw [if_pos ⟨by omega, by omega, hw, by omega, hn⟩, if_pos ⟨by omega, by omega⟩]
  simp
theorem r100 (id g n c l : Nat) (h : AH) (cs : List Value) (e : h[id]? = some (.row g 9 cs)) (hn : n ≤ c) : run V0 (.fn 100) l [S (slV id g n c)] h = some (.ret (slV id g n n) h) := by
  have := slCut_lenE (off := 0) e hn
  refine run_fn Try.func100 rfl rfl rfl rfl ?_
  simp only [↓XX, ↓XD, ↓YX, ZB, Nat.reduceAdd, Nat.reducePow, ↓reduceIte, eq_self, Int.reduceEq, Nat.reduceEqDiff, Nat.reduceMul, Nat.reduceLeDiff, Try.f100, lenV, this]
theorem r100n (l : Nat) (h : AH) : run V0 (.fn 100) l [S (.slice none 0 0)] h = some (.ret (.slice none 0 0) h) := by
  have : slCut h (.slice none 0 0) none (some (((0 : Nat)) : Int)) (some ((0 : Nat) : Int)) 9 = some (.slice none 0 0) := rfl
  refine run_fn Try.func100 rfl rfl rfl rfl ?_
  simp only [↓XX, ↓XD, ↓YX, ZB, Nat.reduceAdd, Nat.reducePow, ↓reduceIte, eq_self, Int.reduceEq, Nat.reduceEqDiff, Nat.reduceMul, Nat.reduceLeDiff, Try.f100, lenV, this]
def TkQ (h : AH) (es : List En) (v : Value) (h' : AH) : Prop := ∃ i' g', v = slV i' g' es.length es.length ∧ h'[i']? = some (.row g' 9 (En.R es)) ∧ h.length ≤ i' ∧ Keep h.length h h'
theorem TkQ.fi {h : AH} {es : List En} {v : Value} {h' : AH} (q : TkQ h es v h') : En.Rw h' v es ∧ Keep h.length h h' := by
  obtain ⟨i, g, rfl, e, _, k⟩ := q
  exact ⟨En.Rw.of e, k⟩
theorem L67a (l iL gL cL n : Nat) (rm : Bs) (log : List En) (H0 : AH) (hn : log.length = n) (hn2 : n ≤ 2 ^ 20) (eL : H0[iL]? = some (.row gL 9 (En.R log))) (hl : l ≤ H0.length) :
    ∀ (r d : List En), d ++ r = log → ∀ (iO gO no : Nat) (i : Int) (out : List En) (h : AH), Keep H0.length H0 h → H0.length ≤ iO → h[iO]? = some (.row gO 9 (En.R out)) → no = out.length → out.length ≤ d.length → i = d.length →
      Okr (TkQ H0 ((r.filter (talkL rm)).foldl stepN out)) (L67_0 l (sV rm) (slV iO gO no no) (slV iL gL n cL) (iV n) (iV i) h) := by
  intro r
  induction r with
  | nil =>
    rintro d hd iO gO no i out h k hiO eO rfl hod rfl
    rw [List.append_nil] at hd
    subst hd hn
    have hlt : decide ((d.length : Int) < (d.length : Int)) = false := decide_eq_false (by omega)
    have a1 := r100 iO gO out.length out.length l h _ eO (Nat.le_refl _)
    refine okr_code Try.func67 rfl rfl ?_
    simp (dsimp := false) (disch := (first | (refine dS ?_; kernel_rfl) | (refine dM ?_; kernel_rfl) | (refine dO ?_; simp (disch := ((try simp only [ZL]) <;> omega)) only [ZK, ZL]; done) | (refine dK ?_; (repeat first | exact Keep.refl _ _ | exact Keep.app _ _ (Nat.le_refl _) | assumption | refine Keep.ap ?_ | refine Keep.st (by first | omega | (simp only [ZL]; omega)) ?_); done) | ((try simp only [ZL]) <;> omega) | fail)) only [XOB, ↓XXs, ↓XD, ↓YX, ZB, Nat.reduceAdd, Nat.reducePow, ↓reduceIte, eq_self, Int.reduceEq, Nat.reduceEqDiff, Nat.reduceMul, Nat.reduceLeDiff, Int.reduceBEq, Int.reduceLT, Try.f67, ↓XH2, XRN, ZC, ZE, ZH, eq_self, Nat.reduceLeDiff, Nat.reduceBEq, slV_new, ZS, reduceIte, ↓op_extract, hlt, a1]
    with_reducible refine Okr.ret ?_
    exact ⟨iO, gO, rfl, eO, hiO, k⟩
  | cons x r ih =>
    rintro d hd iO gO no i out h k hiO eO rfl hod rfl
    have hk := k.1
    have hll : d.length + r.length + 1 = n := by rw [← hn, ← hd]; simp; omega
    have hlt : decide ((d.length : Int) < (n : Int)) = true := decide_eq_true (by omega)
    have hw : IntKind.i64.wrap ((d.length : Int) + 1) = ((d.length + 1 : Nat) : Int) := natCast_succ_wrap (by omega) rfl
    have hix : ixAddr (slV iL gL n cL) (d.length : Int) 9 = some (pV iL (d.length * 9) gL) := by rw [ixAddr_sl (by omega)]; simp
    have eLh := k.get eL (lt_of_get eL)
    have c1 : ((En.R log).drop (d.length * 9)).take 9 = En.C x := by rw [← hd]; exact En.get d x r
    have l1 : d.length * 9 + 9 ≤ (En.R log).length := by rw [En.R_len]; omega
    have hlh : l ≤ h.length := by omega
    have hO := lt_of_get eO
    have b1 := B_dec x.room rm
    have b2 := B_dec x.ref []
    have k0 : Keep h.length h (h ++ [AObj.row 0 9 x.C]) := Keep.app _ _ (Nat.le_refl _)
    have kk0 := k.trans (k0.le hk)
    have eB : (h ++ [AObj.row 0 9 x.C])[h.length]? = some (.row 0 9 x.C) := by simp
    have eO0 := k0.get eO hO
    have ft : talkL rm x = (decide (x.room = rm) && (x.kind == 3)) := rfl
    have hne : (x.kind != 3) = !(x.kind == 3) := rfl
    refine okr_code Try.func67 rfl rfl ?_
    cases qk : (x.kind == 3) with
    | false =>
      rw [qk] at ft hne
      simp (dsimp := false) (disch := (first | (refine dS ?_; kernel_rfl) | (refine dM ?_; kernel_rfl) | (refine dO ?_; simp (disch := ((try simp only [ZL]) <;> omega)) only [ZK, ZL]; done) | (refine dK ?_; (repeat first | exact Keep.refl _ _ | exact Keep.app _ _ (Nat.le_refl _) | assumption | refine Keep.ap ?_ | refine Keep.st (by first | omega | (simp only [ZL]; omega)) ?_); done) | ((try simp only [ZL]) <;> omega) | fail)) only [XOB, ↓XXs, ↓XD, ↓YX, ZB, Nat.reduceAdd, Nat.reducePow, ↓reduceIte, eq_self, Int.reduceEq, Nat.reduceEqDiff, Nat.reduceMul, Nat.reduceLeDiff, Int.reduceBEq, Int.reduceLT, Try.f67, ↓XH2, XRN, ZC, ZE, ZH, eq_self, Nat.reduceLeDiff, Nat.reduceBEq, slV_new, ZS, reduceIte, ↓op_extract, hlt, hw, hix, eLh, c1, l1, hlh, b1, b2, qk, hne]
      rw [List.filter_cons, ft, Bool.and_false, if_neg (by simp)]
      exact ih (d ++ [x]) (by simp [hd]) iO gO _ _ out _ kk0 hiO eO0 rfl (by simp; omega) (by simp)
    | true =>
      rw [qk] at ft hne
      cases qr : decide (x.room = rm) with
      | false =>
        rw [qr] at ft b1
        simp (dsimp := false) (disch := (first | (refine dS ?_; kernel_rfl) | (refine dM ?_; kernel_rfl) | (refine dO ?_; simp (disch := ((try simp only [ZL]) <;> omega)) only [ZK, ZL]; done) | (refine dK ?_; (repeat first | exact Keep.refl _ _ | exact Keep.app _ _ (Nat.le_refl _) | assumption | refine Keep.ap ?_ | refine Keep.st (by first | omega | (simp only [ZL]; omega)) ?_); done) | ((try simp only [ZL]) <;> omega) | fail)) only [XOB, ↓XXs, ↓XD, ↓YX, ZB, Nat.reduceAdd, Nat.reducePow, ↓reduceIte, eq_self, Int.reduceEq, Nat.reduceEqDiff, Nat.reduceMul, Nat.reduceLeDiff, Int.reduceBEq, Int.reduceLT, Try.f67, ↓XH2, XRN, ZC, ZE, ZH, eq_self, Nat.reduceLeDiff, Nat.reduceBEq, slV_new, ZS, reduceIte, ↓op_extract, hlt, hw, hix, eLh, c1, l1, hlh, b1, b2, qk, hne]
        rw [List.filter_cons, ft, Bool.false_and, if_neg (by simp)]
        exact ih (d ++ [x]) (by simp [hd]) iO gO _ _ out _ kk0 hiO eO0 rfl (by simp; omega) (by simp)
      | true =>
        rw [qr] at ft b1
        rw [List.filter_cons, ft, Bool.and_self, if_pos rfl, List.foldl_cons]
        cases qf : decide (x.ref = []) with
        | true =>
          rw [qf] at b2
          have hst : stepN out x = out ++ [x] := by unfold stepN; rw [if_pos (of_decide_eq_true qf)]
          rw [hst]
          simp (dsimp := false) (disch := (first | (refine dS ?_; kernel_rfl) | (refine dM ?_; kernel_rfl) | (refine dO ?_; simp (disch := ((try simp only [ZL]) <;> omega)) only [ZK, ZL]; done) | (refine dK ?_; (repeat first | exact Keep.refl _ _ | exact Keep.app _ _ (Nat.le_refl _) | assumption | refine Keep.ap ?_ | refine Keep.st (by first | omega | (simp only [ZL]; omega)) ?_); done) | ((try simp only [ZL]) <;> omega) | fail)) only [XOB, ↓XXs, ↓XD, ↓YX, ZB, Nat.reduceAdd, Nat.reducePow, ↓reduceIte, eq_self, Int.reduceEq, Nat.reduceEqDiff, Nat.reduceMul, Nat.reduceLeDiff, Int.reduceBEq, Int.reduceLT, Try.f67, ↓XH2, XRN, ZC, ZE, ZH, eq_self, Nat.reduceLeDiff, Nat.reduceBEq, slV_new, ZS, reduceIte, ↓op_extract, hlt, hw, hix, eLh, c1, l1, hlh, b1, b2, qk, hne]
          refine okr_opt (En.app3 (os := out) x (by simp (disch := (first | (refine dS ?_; kernel_rfl) | (refine dM ?_; kernel_rfl) | (refine dO ?_; simp (disch := ((try simp only [ZL]) <;> omega)) only [ZK, ZL]; done) | (refine dK ?_; (repeat first | exact Keep.refl _ _ | exact Keep.app _ _ (Nat.le_refl _) | assumption | refine Keep.ap ?_ | refine Keep.st (by first | omega | (simp only [ZL]; omega)) ?_); done) | ((try simp only [ZL]) <;> omega) | fail)) only [↓XH2, XRN, ZC, ZE, ZH, eq_self, Nat.reduceLeDiff, Nat.reduceBEq, eO]) (by simp (disch := (first | (refine dS ?_; kernel_rfl) | (refine dM ?_; kernel_rfl) | (refine dO ?_; simp (disch := ((try simp only [ZL]) <;> omega)) only [ZK, ZL]; done) | (refine dK ?_; (repeat first | exact Keep.refl _ _ | exact Keep.app _ _ (Nat.le_refl _) | assumption | refine Keep.ap ?_ | refine Keep.st (by first | omega | (simp only [ZL]; omega)) ?_); done) | ((try simp only [ZL]) <;> omega) | fail)) only [↓XH2, XRN, ZC, ZE, ZH, eq_self, Nat.reduceLeDiff, Nat.reduceBEq] <;> rfl) rfl rfl (by omega) (by omega) rfl) ?_
          rintro _ ⟨g4, rfl⟩
          simp (dsimp := false) (disch := (first | (refine dS ?_; kernel_rfl) | (refine dM ?_; kernel_rfl) | (refine dO ?_; simp (disch := ((try simp only [ZL]) <;> omega)) only [ZK, ZL]; done) | (refine dK ?_; (repeat first | exact Keep.refl _ _ | exact Keep.app _ _ (Nat.le_refl _) | assumption | refine Keep.ap ?_ | refine Keep.st (by first | omega | (simp only [ZL]; omega)) ?_); done) | ((try simp only [ZL]) <;> omega) | fail)) only [XOB, ↓XXs, ↓XD, ↓YX, ZB, Nat.reduceAdd, Nat.reducePow, ↓reduceIte, eq_self, Int.reduceEq, Nat.reduceEqDiff, Nat.reduceMul, Nat.reduceLeDiff, Int.reduceBEq, Int.reduceLT, Try.f67, ↓XH2, XRN, ZC, ZE, ZH, eq_self, Nat.reduceLeDiff, Nat.reduceBEq, slV_new, ZS, reduceIte, ↓op_extract, hlt, hw, hix, eLh, c1, l1, hlh, b1, b2, qk, hne]
          exact ih (d ++ [x]) (by simp [hd]) iO g4 _ _ (out ++ [x]) _ (k.trans ((Keep.set h iO _ hiO).trans (Keep.app _ _ (by simp; omega)))) hiO (by simp (disch := (first | (refine dS ?_; kernel_rfl) | (refine dM ?_; kernel_rfl) | (refine dO ?_; simp (disch := ((try simp only [ZL]) <;> omega)) only [ZK, ZL]; done) | (refine dK ?_; (repeat first | exact Keep.refl _ _ | exact Keep.app _ _ (Nat.le_refl _) | assumption | refine Keep.ap ?_ | refine Keep.st (by first | omega | (simp only [ZL]; omega)) ?_); done) | ((try simp only [ZL]) <;> omega) | fail)) only [↓XH2, XRN, ZC, ZE, ZH, eq_self, Nat.reduceLeDiff, Nat.reduceBEq]) (by simp) (by simp; omega) (by simp)
        | false =>
          rw [qf] at b2
          have href := of_decide_eq_false qf
          obtain ⟨h1, k1, i1⟩ := L67i l h.length iO gO out.length (sV rm) (slV iL gL n cL) (iV n) (iV d.length) x out rfl (by omega) (by omega) out [] 0 (-1) (h ++ [AObj.row 0 9 x.C]) rfl rfl eB eO0
          have k01 := kk0.trans (k1.le (by simp; omega))
          have eO1 := k1.get eO0 (lt_of_get eO0)
          have eB1 := k1.get eB (lt_of_get eB)
          have hO1 := lt_of_get eO1
          have hB1 := lt_of_get eB1
          have hlh1 : l ≤ h1.length := by omega
          simp (dsimp := false) (disch := (first | (refine dS ?_; kernel_rfl) | (refine dM ?_; kernel_rfl) | (refine dO ?_; simp (disch := ((try simp only [ZL]) <;> omega)) only [ZK, ZL]; done) | (refine dK ?_; (repeat first | exact Keep.refl _ _ | exact Keep.app _ _ (Nat.le_refl _) | assumption | refine Keep.ap ?_ | refine Keep.st (by first | omega | (simp only [ZL]; omega)) ?_); done) | ((try simp only [ZL]) <;> omega) | fail)) only [XOB, ↓XXs, ↓XD, ↓YX, ZB, Nat.reduceAdd, Nat.reducePow, ↓reduceIte, eq_self, Int.reduceEq, Nat.reduceEqDiff, Nat.reduceMul, Nat.reduceLeDiff, Int.reduceBEq, Int.reduceLT, Try.f67, ↓XH2, XRN, ZC, ZE, ZH, eq_self, Nat.reduceLeDiff, Nat.reduceBEq, slV_new, ZS, reduceIte, ↓op_extract, hlt, hw, hix, eLh, c1, l1, hlh, b1, b2, qk, hne]
          refine i1 _ ?_
          have hln : decide ((out.length : Int) < (out.length : Int)) = false := decide_eq_false (by omega)
          refine okr_code Try.func67 rfl rfl ?_
          rcases lastI_cases x out with hc | ⟨dd, y, tt, ho, hc⟩
          · have hst : stepN out x = out ++ [x] := by unfold stepN; rw [if_neg href, hc, if_pos (by omega)]
            rw [hst]
            simp only [List.length_nil, hc]
            simp (dsimp := false) (disch := (first | (refine dS ?_; kernel_rfl) | (refine dM ?_; kernel_rfl) | (refine dO ?_; simp (disch := ((try simp only [ZL]) <;> omega)) only [ZK, ZL]; done) | (refine dK ?_; (repeat first | exact Keep.refl _ _ | exact Keep.app _ _ (Nat.le_refl _) | assumption | refine Keep.ap ?_ | refine Keep.st (by first | omega | (simp only [ZL]; omega)) ?_); done) | ((try simp only [ZL]) <;> omega) | fail)) only [XOB, ↓XXs, ↓XD, ↓YX, ZB, Nat.reduceAdd, Nat.reducePow, ↓reduceIte, eq_self, Int.reduceEq, Nat.reduceEqDiff, Nat.reduceMul, Nat.reduceLeDiff, Int.reduceBEq, Int.reduceLT, Try.f67, ↓XH2, XRN, ZC, ZE, ZH, eq_self, Nat.reduceLeDiff, Nat.reduceBEq, slV_new, ZS, reduceIte, ↓op_extract, hln, hw, eB1, hlh1]
            refine okr_opt (En.app3 (os := out) x (by simp (disch := (first | (refine dS ?_; kernel_rfl) | (refine dM ?_; kernel_rfl) | (refine dO ?_; simp (disch := ((try simp only [ZL]) <;> omega)) only [ZK, ZL]; done) | (refine dK ?_; (repeat first | exact Keep.refl _ _ | exact Keep.app _ _ (Nat.le_refl _) | assumption | refine Keep.ap ?_ | refine Keep.st (by first | omega | (simp only [ZL]; omega)) ?_); done) | ((try simp only [ZL]) <;> omega) | fail)) only [↓XH2, XRN, ZC, ZE, ZH, eq_self, Nat.reduceLeDiff, Nat.reduceBEq, eO1]) (by simp (disch := (first | (refine dS ?_; kernel_rfl) | (refine dM ?_; kernel_rfl) | (refine dO ?_; simp (disch := ((try simp only [ZL]) <;> omega)) only [ZK, ZL]; done) | (refine dK ?_; (repeat first | exact Keep.refl _ _ | exact Keep.app _ _ (Nat.le_refl _) | assumption | refine Keep.ap ?_ | refine Keep.st (by first | omega | (simp only [ZL]; omega)) ?_); done) | ((try simp only [ZL]) <;> omega) | fail)) only [↓XH2, XRN, ZC, ZE, ZH, eq_self, Nat.reduceLeDiff, Nat.reduceBEq] <;> rfl) rfl rfl (by omega) (by omega) rfl) ?_
            rintro _ ⟨g4, rfl⟩
            simp (dsimp := false) (disch := (first | (refine dS ?_; kernel_rfl) | (refine dM ?_; kernel_rfl) | (refine dO ?_; simp (disch := ((try simp only [ZL]) <;> omega)) only [ZK, ZL]; done) | (refine dK ?_; (repeat first | exact Keep.refl _ _ | exact Keep.app _ _ (Nat.le_refl _) | assumption | refine Keep.ap ?_ | refine Keep.st (by first | omega | (simp only [ZL]; omega)) ?_); done) | ((try simp only [ZL]) <;> omega) | fail)) only [XOB, ↓XXs, ↓XD, ↓YX, ZB, Nat.reduceAdd, Nat.reducePow, ↓reduceIte, eq_self, Int.reduceEq, Nat.reduceEqDiff, Nat.reduceMul, Nat.reduceLeDiff, Int.reduceBEq, Int.reduceLT, Try.f67, ↓XH2, XRN, ZC, ZE, ZH, eq_self, Nat.reduceLeDiff, Nat.reduceBEq, slV_new, ZS, reduceIte, ↓op_extract, hln, hw, eB1, hlh1]
            exact ih (d ++ [x]) (by simp [hd]) iO g4 _ _ (out ++ [x]) _ (k01.trans ((Keep.set h1 iO _ hiO).trans (Keep.app _ _ (by simp; omega)))) hiO (by simp (disch := (first | (refine dS ?_; kernel_rfl) | (refine dM ?_; kernel_rfl) | (refine dO ?_; simp (disch := ((try simp only [ZL]) <;> omega)) only [ZK, ZL]; done) | (refine dK ?_; (repeat first | exact Keep.refl _ _ | exact Keep.app _ _ (Nat.le_refl _) | assumption | refine Keep.ap ?_ | refine Keep.st (by first | omega | (simp only [ZL]; omega)) ?_); done) | ((try simp only [ZL]) <;> omega) | fail)) only [↓XH2, XRN, ZC, ZE, ZH, eq_self, Nat.reduceLeDiff, Nat.reduceBEq]) (by simp) (by simp; omega) (by simp)
          · have hlo : dd.length + tt.length + 1 = out.length := by rw [ho]; simp; omega
            have hst : stepN out x = setT out dd.length x.text := by unfold stepN; rw [if_neg href, hc, if_neg (by omega)]; rfl
            have hlz : decide ((dd.length : Int) < 0) = false := decide_eq_false (by omega)
            have hix2 : ixAddr (slV iO gO out.length out.length) (dd.length : Int) 9 = some (pV iO (dd.length * 9) gO) := by rw [ixAddr_sl (by omega)]; simp
            have hset : (En.R out).set (dd.length * 9 + 5) (sV x.text) = En.R (setT out dd.length x.text) := by rw [ho, En.setText, setT_mid]
            have l2 : dd.length * 9 + 9 ≤ (En.R out).length := by rw [En.R_len]; omega
            rw [hst]
            simp only [List.length_nil, hc]
            simp (dsimp := false) (disch := (first | (refine dS ?_; kernel_rfl) | (refine dM ?_; kernel_rfl) | (refine dO ?_; simp (disch := ((try simp only [ZL]) <;> omega)) only [ZK, ZL]; done) | (refine dK ?_; (repeat first | exact Keep.refl _ _ | exact Keep.app _ _ (Nat.le_refl _) | assumption | refine Keep.ap ?_ | refine Keep.st (by first | omega | (simp only [ZL]; omega)) ?_); done) | ((try simp only [ZL]) <;> omega) | fail)) only [XOB, ↓XXs, ↓XD, ↓YX, ZB, Nat.reduceAdd, Nat.reducePow, ↓reduceIte, eq_self, Int.reduceEq, Nat.reduceEqDiff, Nat.reduceMul, Nat.reduceLeDiff, Int.reduceBEq, Int.reduceLT, Try.f67, ↓XH2, XRN, ZC, ZE, ZH, eq_self, Nat.reduceLeDiff, Nat.reduceBEq, slV_new, ZS, reduceIte, ↓op_extract, hln, hlz, hw, eB1, eO1, hlh1, hix2, hset, l2]
            exact ih (d ++ [x]) (by simp [hd]) iO gO _ _ (setT out dd.length x.text) _ (k01.trans (Keep.set h1 iO _ hiO)) hiO (get_set _ eO1) (by rw [setT_len]) (by rw [setT_len]; simp; omega) (by simp)
theorem r67 {l iL gL cL n : Nat} {rm : Bs} {log : List En} {h : AH} (hn : n = log.length) (hn2 : log.length ≤ 2 ^ 20) (eL : h[iL]? = some (.row gL 9 (En.R log))) (hl : l ≤ h.length) :
    Okr (TkQ h (nowL rm log)) (run V0 (.fn 67) l [S (slV iL gL n cL), S (sV rm)] h) := by
  refine okr_fn Try.func67 rfl rfl rfl rfl ?_
  simp (dsimp := false) (disch := (first | (refine dS ?_; kernel_rfl) | (refine dM ?_; kernel_rfl) | (refine dO ?_; simp (disch := ((try simp only [ZL]) <;> omega)) only [ZK, ZL]; done) | (refine dK ?_; (repeat first | exact Keep.refl _ _ | exact Keep.app _ _ (Nat.le_refl _) | assumption | refine Keep.ap ?_ | refine Keep.st (by first | omega | (simp only [ZL]; omega)) ?_); done) | ((try simp only [ZL]) <;> omega) | fail)) only [XOB, ↓XXs, ↓XD, ↓YX, ZB, Nat.reduceAdd, Nat.reducePow, ↓reduceIte, eq_self, Int.reduceEq, Nat.reduceEqDiff, Nat.reduceMul, Nat.reduceLeDiff, Int.reduceBEq, Int.reduceLT, Try.f67, ↓XH2, XRN, ZC, ZE, ZH, eq_self, Nat.reduceLeDiff, Nat.reduceBEq, slV_new, ZS, reduceIte, ↓op_extract]
  exact L67a l iL gL cL n rm log h hn.symm (by omega) eL hl log [] rfl h.length 0 0 0 [] _ (Keep.app _ _ (Nat.le_refl _)) (Nat.le_refl _) (by simp (disch := (first | (refine dS ?_; kernel_rfl) | (refine dM ?_; kernel_rfl) | (refine dO ?_; simp (disch := ((try simp only [ZL]) <;> omega)) only [ZK, ZL]; done) | (refine dK ?_; (repeat first | exact Keep.refl _ _ | exact Keep.app _ _ (Nat.le_refl _) | assumption | refine Keep.ap ?_ | refine Keep.st (by first | omega | (simp only [ZL]; omega)) ?_); done) | ((try simp only [ZL]) <;> omega) | fail)) only [↓XH2, XRN, ZC, ZE, ZH, eq_self, Nat.reduceLeDiff, Nat.reduceBEq]; rfl) rfl (by simp) rfl
theorem r28 {l iL gL cL n : Nat} {rm : Bs} {log : List En} {h : AH} (hn : n = log.length) (hn2 : log.length ≤ 2 ^ 20) (eL : h[iL]? = some (.row gL 9 (En.R log))) (hl : l ≤ h.length) :
    Okr (TkQ h (nowL rm log)) (run V0 (.fn 28) l [S (slV iL gL n cL), S (sV rm)] h) := by
  refine okr_fn Try.func28 rfl rfl rfl rfl ?_
  simp (dsimp := false) (disch := (first | (refine dS ?_; kernel_rfl) | (refine dM ?_; kernel_rfl) | (refine dO ?_; simp (disch := ((try simp only [ZL]) <;> omega)) only [ZK, ZL]; done) | (refine dK ?_; (repeat first | exact Keep.refl _ _ | exact Keep.app _ _ (Nat.le_refl _) | assumption | refine Keep.ap ?_ | refine Keep.st (by first | omega | (simp only [ZL]; omega)) ?_); done) | ((try simp only [ZL]) <;> omega) | fail)) only [XOB, ↓XXs, ↓XD, ↓YX, ZB, Nat.reduceAdd, Nat.reducePow, ↓reduceIte, eq_self, Int.reduceEq, Nat.reduceEqDiff, Nat.reduceMul, Nat.reduceLeDiff, Int.reduceBEq, Int.reduceLT, Try.f28, ↓XH2, XRN, ZC, ZE, ZH, eq_self, Nat.reduceLeDiff, Nat.reduceBEq, slV_new, ZS, reduceIte, ↓op_extract]
  refine okr_call (r67 hn hn2 eL hl) ?_
  rintro v h' q
  try simp (dsimp := false) (disch := (first | (refine dS ?_; kernel_rfl) | (refine dM ?_; kernel_rfl) | (refine dO ?_; simp (disch := ((try simp only [ZL]) <;> omega)) only [ZK, ZL]; done) | (refine dK ?_; (repeat first | exact Keep.refl _ _ | exact Keep.app _ _ (Nat.le_refl _) | assumption | refine Keep.ap ?_ | refine Keep.st (by first | omega | (simp only [ZL]; omega)) ?_); done) | ((try simp only [ZL]) <;> omega) | fail)) only [XOB, ↓XXs, ↓XD, ↓YX, ZB, Nat.reduceAdd, Nat.reducePow, ↓reduceIte, eq_self, Int.reduceEq, Nat.reduceEqDiff, Nat.reduceMul, Nat.reduceLeDiff, Int.reduceBEq, Int.reduceLT, Try.f28, ↓XH2, XRN, ZC, ZE, ZH, eq_self, Nat.reduceLeDiff, Nat.reduceBEq, slV_new, ZS, reduceIte, ↓op_extract]
  with_reducible refine Okr.ret ?_
  exact q
end Go.Abs
namespace Go.Abs
open Go.Proofs
set_option maxRecDepth 100000
set_option linter.unusedSimpArgs false
set_option linter.unusedVariables false
set_option pp.maxSteps 20000
set_option pp.deepTerms true
/-- spec.l14First: its loop -/
theorem L102 (l iE iO gO n : Nat) (e : En) (h : AH) (hn2 : n ≤ 2 ^ 30) (eE : h[iE]? = some (.row 0 9 e.C)) :
    ∀ (m : Nat) (d r : List En) (i : Int), d.length = m → d.length + r.length = n → i = (m : Int) - 1 → h[iO]? = some (.row gO 9 (En.R (d ++ r))) →
      Okr (fun v h' => v = iV (lastI e d 0 (-1)) ∧ h' = h) (L102_0 l (slV iO gO n n) (pV iE 0 0) (iV i) h) := by
  intro m
  induction m with
  | zero =>
    rintro d r i hd hk rfl eO
    obtain rfl : d = [] := List.length_eq_zero_iff.1 hd
    refine okr_code Try.func102 rfl rfl ?_
    have h0 : decide ((0 : Int) ≤ ((0 : Nat) : Int) - 1) = false := rfl
    simp (dsimp := false) (disch := (first | (refine dS ?_; kernel_rfl) | (refine dM ?_; kernel_rfl) | (refine dO ?_; simp (disch := ((try simp only [ZL]) <;> omega)) only [ZK, ZL]; done) | (refine dK ?_; (repeat first | exact Keep.refl _ _ | exact Keep.app _ _ (Nat.le_refl _) | assumption | refine Keep.ap ?_ | refine Keep.st (by first | omega | (simp only [ZL]; omega)) ?_); done) | ((try simp only [ZL]) <;> omega) | fail)) only [XOB, ↓XXs, ↓XD, ↓YX, ZB, Nat.reduceAdd, Nat.reducePow, ↓reduceIte, eq_self, Int.reduceEq, Nat.reduceEqDiff, Nat.reduceMul, Nat.reduceLeDiff, Int.reduceBEq, Int.reduceLT, Try.f102, ↓XH2, XRN, ZC, ZE, ZH, eq_self, Nat.reduceLeDiff, Nat.reduceBEq, slV_new, ZS, reduceIte, ↓op_extract, h0]
    with_reducible refine Okr.ret ?_
    exact ⟨rfl, rfl⟩
  | succ m ih =>
    rintro d r i hd hk rfl eO
    rcases List.eq_nil_or_concat d with rfl | ⟨d, x, rfl⟩
    · simp at hd
    rw [List.concat_eq_append] at *
    obtain rfl : d.length = m := by simpa using hd
    simp only [List.length_append, List.length_singleton] at hk
    rw [List.append_assoc, List.singleton_append] at eO
    have hi : (((d.length + 1 : Nat) : Int) - 1) = (d.length : Int) := by omega
    rw [hi]
    have h0 : decide ((0 : Int) ≤ (d.length : Int)) = true := decide_eq_true (by omega)
    have hix : ixAddr (slV iO gO n n) (d.length : Int) 9 = some (pV iO (d.length * 9) gO) := by rw [ixAddr_sl (by omega)]; simp
    have hw : IntKind.i64.wrap ((d.length : Int) - 1) = (d.length : Int) - 1 := wrap64 (by omega)
    have b1 := B_dec x.user e.user
    have b2 := B_dec x.id e.ref
    have b3 := B_dec x.ref []
    rw [lastI_app]
    have o2 := ih d (x :: r) ((d.length : Int) - 1) rfl (by simp; omega) rfl eO
    refine okr_code Try.func102 rfl rfl ?_
    cases q1 : decide (x.user = e.user) <;> cases q2 : decide (x.id = e.ref) <;> cases q3 : decide (x.ref = []) <;> rw [q1] at b1 <;> rw [q2] at b2 <;> rw [q3] at b3 <;> (
      simp only [hitL, q1, q2, q3, Bool.and_self, Bool.and_false, Bool.false_and, Bool.and_true, Bool.true_and, if_true, Bool.false_eq_true, if_false, Nat.zero_add]
      simp (dsimp := false) (disch := (first | (refine dS ?_; kernel_rfl) | (refine dM ?_; kernel_rfl) | (refine dO ?_; simp (disch := ((try simp only [ZL]) <;> omega)) only [ZK, ZL]; done) | (refine dK ?_; (repeat first | exact Keep.refl _ _ | exact Keep.app _ _ (Nat.le_refl _) | assumption | refine Keep.ap ?_ | refine Keep.st (by first | omega | (simp only [ZL]; omega)) ?_); done) | ((try simp only [ZL]) <;> omega) | fail)) only [XOB, ↓XXs, ↓XD, ↓YX, ZB, Nat.reduceAdd, Nat.reducePow, ↓reduceIte, eq_self, Int.reduceEq, Nat.reduceEqDiff, Nat.reduceMul, Nat.reduceLeDiff, Int.reduceBEq, Int.reduceLT, Try.f102, ↓XH2, XRN, ZC, ZE, ZH, eq_self, Nat.reduceLeDiff, Nat.reduceBEq, slV_new, ZS, reduceIte, ↓op_extract, h0, hix, hw, eO, eE, b1, b2, b3]
      first | exact o2 | (with_reducible refine Okr.ret ?_; exact ⟨rfl, rfl⟩))
theorem r102 {l iO gO n : Nat} {e : En} {out : List En} {h : AH} (hn : n = out.length) (hn2 : n ≤ 2 ^ 30) (eO : h[iO]? = some (.row gO 9 (En.R out))) :
    run V0 (.fn 102) l [S (slV iO gO n n), S e.V] h = some (.ret (iV (lastI e out 0 (-1))) (h ++ [.row 0 9 e.C])) := by
  have hO := lt_of_get eO
  have key : Okr (fun v h' => v = iV (lastI e out 0 (-1)) ∧ h' = h ++ [.row 0 9 e.C]) (run V0 (.fn 102) l [S (slV iO gO n n), S e.V] h) := by
    have hw : IntKind.i64.wrap ((n : Int) - 1) = (n : Int) - 1 := wrap64 (by omega)
    refine okr_fn Try.func102 rfl rfl rfl rfl ?_
    simp (dsimp := false) (disch := (first | (refine dS ?_; kernel_rfl) | (refine dM ?_; kernel_rfl) | (refine dO ?_; simp (disch := ((try simp only [ZL]) <;> omega)) only [ZK, ZL]; done) | (refine dK ?_; (repeat first | exact Keep.refl _ _ | exact Keep.app _ _ (Nat.le_refl _) | assumption | refine Keep.ap ?_ | refine Keep.st (by first | omega | (simp only [ZL]; omega)) ?_); done) | ((try simp only [ZL]) <;> omega) | fail)) only [XOB, ↓XXs, ↓XD, ↓YX, ZB, Nat.reduceAdd, Nat.reducePow, ↓reduceIte, eq_self, Int.reduceEq, Nat.reduceEqDiff, Nat.reduceMul, Nat.reduceLeDiff, Int.reduceBEq, Int.reduceLT, Try.f102, ↓XH2, XRN, ZC, ZE, ZH, eq_self, Nat.reduceLeDiff, Nat.reduceBEq, slV_new, ZS, reduceIte, ↓op_extract, hw]
    exact L102 l h.length iO gO n e _ hn2 (by simp) out.length out [] _ rfl (by simp; omega) (by omega) (by rw [List.getElem?_append_left hO, List.append_nil]; exact eO)
  obtain ⟨v, h', a, rfl, rfl⟩ := key
  exact a
/-- spec.l7Of, of all that say something: its loop -/
theorem L101 (l iL gL cL n : Nat) (rm : Bs) (log : List En) (H0 : AH) (hn : log.length = n) (hn2 : n ≤ 2 ^ 20) (eL : H0[iL]? = some (.row gL 9 (En.R log))) (hl : l ≤ H0.length) :
    ∀ (r d : List En), d ++ r = log → ∀ (iO gO no : Nat) (i : Int) (out : List En) (h : AH), Keep H0.length H0 h → H0.length ≤ iO → h[iO]? = some (.row gO 9 (En.R out)) → no = out.length → out.length ≤ d.length → i = d.length →
      Okr (TkQ H0 (out ++ r.filter (talkL rm))) (L101_0 l (slV iL gL n cL) (sV rm) (sV []) (slV iO gO no no) (iV i) h) := by
  intro r
  induction r with
  | nil =>
    rintro d hd iO gO no i out h k hiO eO rfl hod rfl
    rw [List.append_nil] at hd
    subst hd hn
    have hlt : decide ((d.length : Int) < (d.length : Int)) = false := decide_eq_false (by omega)
    refine okr_code Try.func101 rfl rfl ?_
    simp (dsimp := false) (disch := (first | (refine dS ?_; kernel_rfl) | (refine dM ?_; kernel_rfl) | (refine dO ?_; simp (disch := ((try simp only [ZL]) <;> omega)) only [ZK, ZL]; done) | (refine dK ?_; (repeat first | exact Keep.refl _ _ | exact Keep.app _ _ (Nat.le_refl _) | assumption | refine Keep.ap ?_ | refine Keep.st (by first | omega | (simp only [ZL]; omega)) ?_); done) | ((try simp only [ZL]) <;> omega) | fail)) only [XOB, ↓XXs, ↓XD, ↓YX, ZB, Nat.reduceAdd, Nat.reducePow, ↓reduceIte, eq_self, Int.reduceEq, Nat.reduceEqDiff, Nat.reduceMul, Nat.reduceLeDiff, Int.reduceBEq, Int.reduceLT, Try.f101, ↓XH2, XRN, ZC, ZE, ZH, eq_self, Nat.reduceLeDiff, Nat.reduceBEq, slV_new, ZS, reduceIte, ↓op_extract, hlt]
    with_reducible refine Okr.ret ?_
    exact ⟨iO, gO, by simp, by simpa using eO, hiO, k⟩
  | cons x r ih =>
    rintro d hd iO gO no i out h k hiO eO rfl hod rfl
    have hk := k.1
    have hll : d.length + r.length + 1 = n := by rw [← hn, ← hd]; simp; omega
    have hlt : decide ((d.length : Int) < (n : Int)) = true := decide_eq_true (by omega)
    have hw : IntKind.i64.wrap ((d.length : Int) + 1) = ((d.length + 1 : Nat) : Int) := natCast_succ_wrap (by omega) rfl
    have hix : ixAddr (slV iL gL n cL) (d.length : Int) 9 = some (pV iL (d.length * 9) gL) := by rw [ixAddr_sl (by omega)]; simp
    have eLh := k.get eL (lt_of_get eL)
    have c1 : ((En.R log).drop (d.length * 9)).take 9 = En.C x := by rw [← hd]; exact En.get d x r
    have l1 : d.length * 9 + 9 ≤ (En.R log).length := by rw [En.R_len]; omega
    have hlh : l ≤ h.length := by omega
    have hO := lt_of_get eO
    have b1 := B_dec x.room rm
    have k0 : Keep h.length h (h ++ [AObj.row 0 9 x.C]) := Keep.app _ _ (Nat.le_refl _)
    have kk0 := k.trans (k0.le hk)
    have eO0 := k0.get eO hO
    have ft : talkL rm x = (decide (x.room = rm) && (x.kind == 3)) := rfl
    refine okr_code Try.func101 rfl rfl ?_
    cases qr : decide (x.room = rm) with
    | false =>
      rw [qr] at ft b1
      simp (dsimp := false) (disch := (first | (refine dS ?_; kernel_rfl) | (refine dM ?_; kernel_rfl) | (refine dO ?_; simp (disch := ((try simp only [ZL]) <;> omega)) only [ZK, ZL]; done) | (refine dK ?_; (repeat first | exact Keep.refl _ _ | exact Keep.app _ _ (Nat.le_refl _) | assumption | refine Keep.ap ?_ | refine Keep.st (by first | omega | (simp only [ZL]; omega)) ?_); done) | ((try simp only [ZL]) <;> omega) | fail)) only [XOB, ↓XXs, ↓XD, ↓YX, ZB, Nat.reduceAdd, Nat.reducePow, ↓reduceIte, eq_self, Int.reduceEq, Nat.reduceEqDiff, Nat.reduceMul, Nat.reduceLeDiff, Int.reduceBEq, Int.reduceLT, Try.f101, ↓XH2, XRN, ZC, ZE, ZH, eq_self, Nat.reduceLeDiff, Nat.reduceBEq, slV_new, ZS, reduceIte, ↓op_extract, hlt, hw, hix, eLh, c1, l1, hlh, b1]
      rw [List.filter_cons, ft, Bool.false_and, if_neg (by simp)]
      exact ih (d ++ [x]) (by simp [hd]) iO gO out.length ((d.length + 1 : Nat) : Int) out _ kk0 hiO eO0 rfl (by simp; omega) (by simp)
    | true =>
      rw [qr] at ft b1
      cases qk : (x.kind == 3) with
      | false =>
        rw [qk] at ft
        simp (dsimp := false) (disch := (first | (refine dS ?_; kernel_rfl) | (refine dM ?_; kernel_rfl) | (refine dO ?_; simp (disch := ((try simp only [ZL]) <;> omega)) only [ZK, ZL]; done) | (refine dK ?_; (repeat first | exact Keep.refl _ _ | exact Keep.app _ _ (Nat.le_refl _) | assumption | refine Keep.ap ?_ | refine Keep.st (by first | omega | (simp only [ZL]; omega)) ?_); done) | ((try simp only [ZL]) <;> omega) | fail)) only [XOB, ↓XXs, ↓XD, ↓YX, ZB, Nat.reduceAdd, Nat.reducePow, ↓reduceIte, eq_self, Int.reduceEq, Nat.reduceEqDiff, Nat.reduceMul, Nat.reduceLeDiff, Int.reduceBEq, Int.reduceLT, Try.f101, ↓XH2, XRN, ZC, ZE, ZH, eq_self, Nat.reduceLeDiff, Nat.reduceBEq, slV_new, ZS, reduceIte, ↓op_extract, hlt, hw, hix, eLh, c1, l1, hlh, b1, qk]
        rw [List.filter_cons, ft, Bool.and_false, if_neg (by simp)]
        exact ih (d ++ [x]) (by simp [hd]) iO gO out.length ((d.length + 1 : Nat) : Int) out _ kk0 hiO eO0 rfl (by simp; omega) (by simp)
      | true =>
        rw [qk] at ft
        rw [List.filter_cons, ft, Bool.and_self, if_pos rfl]
        simp (dsimp := false) (disch := (first | (refine dS ?_; kernel_rfl) | (refine dM ?_; kernel_rfl) | (refine dO ?_; simp (disch := ((try simp only [ZL]) <;> omega)) only [ZK, ZL]; done) | (refine dK ?_; (repeat first | exact Keep.refl _ _ | exact Keep.app _ _ (Nat.le_refl _) | assumption | refine Keep.ap ?_ | refine Keep.st (by first | omega | (simp only [ZL]; omega)) ?_); done) | ((try simp only [ZL]) <;> omega) | fail)) only [XOB, ↓XXs, ↓XD, ↓YX, ZB, Nat.reduceAdd, Nat.reducePow, ↓reduceIte, eq_self, Int.reduceEq, Nat.reduceEqDiff, Nat.reduceMul, Nat.reduceLeDiff, Int.reduceBEq, Int.reduceLT, Try.f101, ↓XH2, XRN, ZC, ZE, ZH, eq_self, Nat.reduceLeDiff, Nat.reduceBEq, slV_new, ZS, reduceIte, ↓op_extract, hlt, hw, hix, eLh, c1, l1, hlh, b1, qk]
        refine okr_opt (En.app3 (os := out) x (by simp (disch := (first | (refine dS ?_; kernel_rfl) | (refine dM ?_; kernel_rfl) | (refine dO ?_; simp (disch := ((try simp only [ZL]) <;> omega)) only [ZK, ZL]; done) | (refine dK ?_; (repeat first | exact Keep.refl _ _ | exact Keep.app _ _ (Nat.le_refl _) | assumption | refine Keep.ap ?_ | refine Keep.st (by first | omega | (simp only [ZL]; omega)) ?_); done) | ((try simp only [ZL]) <;> omega) | fail)) only [↓XH2, XRN, ZC, ZE, ZH, eq_self, Nat.reduceLeDiff, Nat.reduceBEq, eO]) (by simp (disch := (first | (refine dS ?_; kernel_rfl) | (refine dM ?_; kernel_rfl) | (refine dO ?_; simp (disch := ((try simp only [ZL]) <;> omega)) only [ZK, ZL]; done) | (refine dK ?_; (repeat first | exact Keep.refl _ _ | exact Keep.app _ _ (Nat.le_refl _) | assumption | refine Keep.ap ?_ | refine Keep.st (by first | omega | (simp only [ZL]; omega)) ?_); done) | ((try simp only [ZL]) <;> omega) | fail)) only [↓XH2, XRN, ZC, ZE, ZH, eq_self, Nat.reduceLeDiff, Nat.reduceBEq] <;> rfl) rfl rfl (by omega) (by omega) rfl) ?_
        rintro _ ⟨g4, rfl⟩
        simp (dsimp := false) (disch := (first | (refine dS ?_; kernel_rfl) | (refine dM ?_; kernel_rfl) | (refine dO ?_; simp (disch := ((try simp only [ZL]) <;> omega)) only [ZK, ZL]; done) | (refine dK ?_; (repeat first | exact Keep.refl _ _ | exact Keep.app _ _ (Nat.le_refl _) | assumption | refine Keep.ap ?_ | refine Keep.st (by first | omega | (simp only [ZL]; omega)) ?_); done) | ((try simp only [ZL]) <;> omega) | fail)) only [XOB, ↓XXs, ↓XD, ↓YX, ZB, Nat.reduceAdd, Nat.reducePow, ↓reduceIte, eq_self, Int.reduceEq, Nat.reduceEqDiff, Nat.reduceMul, Nat.reduceLeDiff, Int.reduceBEq, Int.reduceLT, Try.f101, ↓XH2, XRN, ZC, ZE, ZH, eq_self, Nat.reduceLeDiff, Nat.reduceBEq, slV_new, ZS, reduceIte, ↓op_extract, hlt, hw, hix, eLh, c1, l1, hlh, b1, qk]
        have := ih (d ++ [x]) (by simp [hd]) iO g4 (out.length + 1) ((d.length + 1 : Nat) : Int) (out ++ [x]) (h.set iO (.row g4 9 (En.R (out ++ [x]))) ++ [AObj.row 0 9 x.C, AObj.row 0 9 x.C]) (k.trans ((Keep.set h iO _ hiO).trans (Keep.app _ _ (by simp; omega)))) hiO (by simp (disch := (first | (refine dS ?_; kernel_rfl) | (refine dM ?_; kernel_rfl) | (refine dO ?_; simp (disch := ((try simp only [ZL]) <;> omega)) only [ZK, ZL]; done) | (refine dK ?_; (repeat first | exact Keep.refl _ _ | exact Keep.app _ _ (Nat.le_refl _) | assumption | refine Keep.ap ?_ | refine Keep.st (by first | omega | (simp only [ZL]; omega)) ?_); done) | ((try simp only [ZL]) <;> omega) | fail)) only [↓XH2, XRN, ZC, ZE, ZH, eq_self, Nat.reduceLeDiff, Nat.reduceBEq]) (by simp) (by simp; omega) (by simp)
        rw [List.append_assoc, List.singleton_append] at this
        exact this
theorem r101 {l iL gL cL n : Nat} {rm : Bs} {log : List En} {h : AH} (hn : n = log.length) (hn2 : log.length ≤ 2 ^ 20) (eL : h[iL]? = some (.row gL 9 (En.R log))) (hl : l ≤ h.length) :
    Okr (TkQ h (log.filter (talkL rm))) (run V0 (.fn 101) l [S (slV iL gL n cL), S (sV rm), S (sV [])] h) := by
  refine okr_fn Try.func101 rfl rfl rfl rfl ?_
  simp (dsimp := false) (disch := (first | (refine dS ?_; kernel_rfl) | (refine dM ?_; kernel_rfl) | (refine dO ?_; simp (disch := ((try simp only [ZL]) <;> omega)) only [ZK, ZL]; done) | (refine dK ?_; (repeat first | exact Keep.refl _ _ | exact Keep.app _ _ (Nat.le_refl _) | assumption | refine Keep.ap ?_ | refine Keep.st (by first | omega | (simp only [ZL]; omega)) ?_); done) | ((try simp only [ZL]) <;> omega) | fail)) only [XOB, ↓XXs, ↓XD, ↓YX, ZB, Nat.reduceAdd, Nat.reducePow, ↓reduceIte, eq_self, Int.reduceEq, Nat.reduceEqDiff, Nat.reduceMul, Nat.reduceLeDiff, Int.reduceBEq, Int.reduceLT, Try.f101, ↓XH2, XRN, ZC, ZE, ZH, eq_self, Nat.reduceLeDiff, Nat.reduceBEq, slV_new, ZS, reduceIte, ↓op_extract]
  exact L101 l iL gL cL n rm log h hn.symm (by omega) eL hl log [] rfl h.length 0 0 0 [] _ (Keep.app _ _ (Nat.le_refl _)) (Nat.le_refl _) (by simp (disch := (first | (refine dS ?_; kernel_rfl) | (refine dM ?_; kernel_rfl) | (refine dO ?_; simp (disch := ((try simp only [ZL]) <;> omega)) only [ZK, ZL]; done) | (refine dK ?_; (repeat first | exact Keep.refl _ _ | exact Keep.app _ _ (Nat.le_refl _) | assumption | refine Keep.ap ?_ | refine Keep.st (by first | omega | (simp only [ZL]; omega)) ?_); done) | ((try simp only [ZL]) <;> omega) | fail)) only [↓XH2, XRN, ZC, ZE, ZH, eq_self, Nat.reduceLeDiff, Nat.reduceBEq]; rfl) rfl (by simp) rfl
/-- spec.l14Now: its loop -/
theorem L68 (l iL gL n : Nat) (list : List En) (H0 : AH) (hn : list.length = n) (hn2 : n ≤ 2 ^ 20) (hl : l ≤ H0.length) :
    ∀ (r d : List En), d ++ r = list → ∀ (iO gO no : Nat) (i : Int) (out : List En) (h : AH), iL ≠ iO → h[iL]? = some (.row gL 9 (En.R list)) → Keep H0.length H0 h → H0.length ≤ iO → h[iO]? = some (.row gO 9 (En.R out)) → no = out.length → out.length ≤ d.length → i = d.length →
      Okr (TkQ H0 (r.foldl stepN out)) (L68_0 l (slV iO gO no no) (slV iL gL n n) (iV i) h) := by
  intro r
  induction r with
  | nil =>
    rintro d hd iO gO no i out h hne eLh k hiO eO rfl hod rfl
    rw [List.append_nil] at hd
    subst hd hn
    have hlt : decide ((d.length : Int) < (d.length : Int)) = false := decide_eq_false (by omega)
    refine okr_code Try.func68 rfl rfl ?_
    simp (dsimp := false) (disch := (first | (refine dS ?_; kernel_rfl) | (refine dM ?_; kernel_rfl) | (refine dO ?_; simp (disch := ((try simp only [ZL]) <;> omega)) only [ZK, ZL]; done) | (refine dK ?_; (repeat first | exact Keep.refl _ _ | exact Keep.app _ _ (Nat.le_refl _) | assumption | refine Keep.ap ?_ | refine Keep.st (by first | omega | (simp only [ZL]; omega)) ?_); done) | ((try simp only [ZL]) <;> omega) | fail)) only [XOB, ↓XXs, ↓XD, ↓YX, ZB, Nat.reduceAdd, Nat.reducePow, ↓reduceIte, eq_self, Int.reduceEq, Nat.reduceEqDiff, Nat.reduceMul, Nat.reduceLeDiff, Int.reduceBEq, Int.reduceLT, Try.f68, ↓XH2, XRN, ZC, ZE, ZH, eq_self, Nat.reduceLeDiff, Nat.reduceBEq, slV_new, ZS, reduceIte, ↓op_extract, hlt]
    with_reducible refine Okr.ret ?_
    exact ⟨iO, gO, rfl, eO, hiO, k⟩
  | cons x r ih =>
    rintro d hd iO gO no i out h hne eLh k hiO eO rfl hod rfl
    have hk := k.1
    have hll : d.length + r.length + 1 = n := by rw [← hn, ← hd]; simp; omega
    have hlt : decide ((d.length : Int) < (n : Int)) = true := decide_eq_true (by omega)
    have hw : IntKind.i64.wrap ((d.length : Int) + 1) = ((d.length + 1 : Nat) : Int) := natCast_succ_wrap (by omega) rfl
    have hix : ixAddr (slV iL gL n n) (d.length : Int) 9 = some (pV iL (d.length * 9) gL) := by rw [ixAddr_sl (by omega)]; simp
    have c1 : ((En.R list).drop (d.length * 9)).take 9 = En.C x := by rw [← hd]; exact En.get d x r
    have l1 : d.length * 9 + 9 ≤ (En.R list).length := by rw [En.R_len]; omega
    have c7 : (En.R list)[d.length * 9 + 7]? = some (sV x.ref) := by rw [← hd]; exact En.c7 d x r
    have c5 : (En.R list)[d.length * 9 + 5]? = some (sV x.text) := by rw [← hd]; exact En.c5 d x r
    have hlh : l ≤ h.length := by omega
    have hO := lt_of_get eO
    have hL := lt_of_get eLh
    have b2 := B_dec x.ref []
    have k0 : Keep h.length h (h ++ [AObj.row 0 9 x.C]) := Keep.app _ _ (Nat.le_refl _)
    have kk0 := k.trans (k0.le hk)
    have eO0 := k0.get eO hO
    have a1 := r102 (l := l) (e := x) rfl (by omega) eO
    rw [List.foldl_cons]
    refine okr_code Try.func68 rfl rfl ?_
    cases qf : decide (x.ref = []) with
    | true =>
      rw [qf] at b2
      have hst : stepN out x = out ++ [x] := by unfold stepN; rw [if_pos (of_decide_eq_true qf)]
      rw [hst]
      simp (dsimp := false) (disch := (first | (refine dS ?_; kernel_rfl) | (refine dM ?_; kernel_rfl) | (refine dO ?_; simp (disch := ((try simp only [ZL]) <;> omega)) only [ZK, ZL]; done) | (refine dK ?_; (repeat first | exact Keep.refl _ _ | exact Keep.app _ _ (Nat.le_refl _) | assumption | refine Keep.ap ?_ | refine Keep.st (by first | omega | (simp only [ZL]; omega)) ?_); done) | ((try simp only [ZL]) <;> omega) | fail)) only [XOB, ↓XXs, ↓XD, ↓YX, ZB, Nat.reduceAdd, Nat.reducePow, ↓reduceIte, eq_self, Int.reduceEq, Nat.reduceEqDiff, Nat.reduceMul, Nat.reduceLeDiff, Int.reduceBEq, Int.reduceLT, Try.f68, ↓XH2, XRN, ZC, ZE, ZH, eq_self, Nat.reduceLeDiff, Nat.reduceBEq, slV_new, ZS, reduceIte, ↓op_extract, hlt, hw, hix, eLh, c1, c7, c5, l1, hlh, b2, a1, hO, hL]
      refine okr_opt (En.app3 (os := out) x (by simp (disch := (first | (refine dS ?_; kernel_rfl) | (refine dM ?_; kernel_rfl) | (refine dO ?_; simp (disch := ((try simp only [ZL]) <;> omega)) only [ZK, ZL]; done) | (refine dK ?_; (repeat first | exact Keep.refl _ _ | exact Keep.app _ _ (Nat.le_refl _) | assumption | refine Keep.ap ?_ | refine Keep.st (by first | omega | (simp only [ZL]; omega)) ?_); done) | ((try simp only [ZL]) <;> omega) | fail)) only [↓XH2, XRN, ZC, ZE, ZH, eq_self, Nat.reduceLeDiff, Nat.reduceBEq, eO]) (by simp (disch := (first | (refine dS ?_; kernel_rfl) | (refine dM ?_; kernel_rfl) | (refine dO ?_; simp (disch := ((try simp only [ZL]) <;> omega)) only [ZK, ZL]; done) | (refine dK ?_; (repeat first | exact Keep.refl _ _ | exact Keep.app _ _ (Nat.le_refl _) | assumption | refine Keep.ap ?_ | refine Keep.st (by first | omega | (simp only [ZL]; omega)) ?_); done) | ((try simp only [ZL]) <;> omega) | fail)) only [↓XH2, XRN, ZC, ZE, ZH, eq_self, Nat.reduceLeDiff, Nat.reduceBEq] <;> rfl) rfl rfl (by omega) (by omega) rfl) ?_
      rintro _ ⟨g4, rfl⟩
      simp (dsimp := false) (disch := (first | (refine dS ?_; kernel_rfl) | (refine dM ?_; kernel_rfl) | (refine dO ?_; simp (disch := ((try simp only [ZL]) <;> omega)) only [ZK, ZL]; done) | (refine dK ?_; (repeat first | exact Keep.refl _ _ | exact Keep.app _ _ (Nat.le_refl _) | assumption | refine Keep.ap ?_ | refine Keep.st (by first | omega | (simp only [ZL]; omega)) ?_); done) | ((try simp only [ZL]) <;> omega) | fail)) only [XOB, ↓XXs, ↓XD, ↓YX, ZB, Nat.reduceAdd, Nat.reducePow, ↓reduceIte, eq_self, Int.reduceEq, Nat.reduceEqDiff, Nat.reduceMul, Nat.reduceLeDiff, Int.reduceBEq, Int.reduceLT, Try.f68, ↓XH2, XRN, ZC, ZE, ZH, eq_self, Nat.reduceLeDiff, Nat.reduceBEq, slV_new, ZS, reduceIte, ↓op_extract, hlt, hw, hix, eLh, c1, c7, c5, l1, hlh, b2, a1, hO, hL]
      exact ih (d ++ [x]) (by simp [hd]) iO g4 _ _ (out ++ [x]) _ hne (by simp (disch := (first | (refine dS ?_; kernel_rfl) | (refine dM ?_; kernel_rfl) | (refine dO ?_; simp (disch := ((try simp only [ZL]) <;> omega)) only [ZK, ZL]; done) | (refine dK ?_; (repeat first | exact Keep.refl _ _ | exact Keep.app _ _ (Nat.le_refl _) | assumption | refine Keep.ap ?_ | refine Keep.st (by first | omega | (simp only [ZL]; omega)) ?_); done) | ((try simp only [ZL]) <;> omega) | fail)) only [↓XH2, XRN, ZC, ZE, ZH, eq_self, Nat.reduceLeDiff, Nat.reduceBEq, eLh]) (k.trans ((Keep.set h iO _ hiO).trans (Keep.app _ _ (by simp; omega)))) hiO (by simp (disch := (first | (refine dS ?_; kernel_rfl) | (refine dM ?_; kernel_rfl) | (refine dO ?_; simp (disch := ((try simp only [ZL]) <;> omega)) only [ZK, ZL]; done) | (refine dK ?_; (repeat first | exact Keep.refl _ _ | exact Keep.app _ _ (Nat.le_refl _) | assumption | refine Keep.ap ?_ | refine Keep.st (by first | omega | (simp only [ZL]; omega)) ?_); done) | ((try simp only [ZL]) <;> omega) | fail)) only [↓XH2, XRN, ZC, ZE, ZH, eq_self, Nat.reduceLeDiff, Nat.reduceBEq]) (by simp) (by simp; omega) (by simp)
    | false =>
      rw [qf] at b2
      have href := of_decide_eq_false qf
      rcases lastI_cases x out with hc | ⟨dd, y, tt, ho, hc⟩
      · have hst : stepN out x = out ++ [x] := by unfold stepN; rw [if_neg href, hc, if_pos (by omega)]
        rw [hst]
        rw [hc] at a1
        have hz : decide ((-1 : Int) < 0) = true := rfl
        simp (dsimp := false) (disch := (first | (refine dS ?_; kernel_rfl) | (refine dM ?_; kernel_rfl) | (refine dO ?_; simp (disch := ((try simp only [ZL]) <;> omega)) only [ZK, ZL]; done) | (refine dK ?_; (repeat first | exact Keep.refl _ _ | exact Keep.app _ _ (Nat.le_refl _) | assumption | refine Keep.ap ?_ | refine Keep.st (by first | omega | (simp only [ZL]; omega)) ?_); done) | ((try simp only [ZL]) <;> omega) | fail)) only [XOB, ↓XXs, ↓XD, ↓YX, ZB, Nat.reduceAdd, Nat.reducePow, ↓reduceIte, eq_self, Int.reduceEq, Nat.reduceEqDiff, Nat.reduceMul, Nat.reduceLeDiff, Int.reduceBEq, Int.reduceLT, Try.f68, ↓XH2, XRN, ZC, ZE, ZH, eq_self, Nat.reduceLeDiff, Nat.reduceBEq, slV_new, ZS, reduceIte, ↓op_extract, hlt, hw, hix, eLh, c1, c7, c5, l1, hlh, b2, a1, hO, hL, hz]
        refine okr_opt (En.app3 (os := out) x (by simp (disch := (first | (refine dS ?_; kernel_rfl) | (refine dM ?_; kernel_rfl) | (refine dO ?_; simp (disch := ((try simp only [ZL]) <;> omega)) only [ZK, ZL]; done) | (refine dK ?_; (repeat first | exact Keep.refl _ _ | exact Keep.app _ _ (Nat.le_refl _) | assumption | refine Keep.ap ?_ | refine Keep.st (by first | omega | (simp only [ZL]; omega)) ?_); done) | ((try simp only [ZL]) <;> omega) | fail)) only [↓XH2, XRN, ZC, ZE, ZH, eq_self, Nat.reduceLeDiff, Nat.reduceBEq, eO]) (by simp (disch := (first | (refine dS ?_; kernel_rfl) | (refine dM ?_; kernel_rfl) | (refine dO ?_; simp (disch := ((try simp only [ZL]) <;> omega)) only [ZK, ZL]; done) | (refine dK ?_; (repeat first | exact Keep.refl _ _ | exact Keep.app _ _ (Nat.le_refl _) | assumption | refine Keep.ap ?_ | refine Keep.st (by first | omega | (simp only [ZL]; omega)) ?_); done) | ((try simp only [ZL]) <;> omega) | fail)) only [↓XH2, XRN, ZC, ZE, ZH, eq_self, Nat.reduceLeDiff, Nat.reduceBEq] <;> rfl) rfl rfl (by omega) (by omega) rfl) ?_
        rintro _ ⟨g4, rfl⟩
        simp (dsimp := false) (disch := (first | (refine dS ?_; kernel_rfl) | (refine dM ?_; kernel_rfl) | (refine dO ?_; simp (disch := ((try simp only [ZL]) <;> omega)) only [ZK, ZL]; done) | (refine dK ?_; (repeat first | exact Keep.refl _ _ | exact Keep.app _ _ (Nat.le_refl _) | assumption | refine Keep.ap ?_ | refine Keep.st (by first | omega | (simp only [ZL]; omega)) ?_); done) | ((try simp only [ZL]) <;> omega) | fail)) only [XOB, ↓XXs, ↓XD, ↓YX, ZB, Nat.reduceAdd, Nat.reducePow, ↓reduceIte, eq_self, Int.reduceEq, Nat.reduceEqDiff, Nat.reduceMul, Nat.reduceLeDiff, Int.reduceBEq, Int.reduceLT, Try.f68, ↓XH2, XRN, ZC, ZE, ZH, eq_self, Nat.reduceLeDiff, Nat.reduceBEq, slV_new, ZS, reduceIte, ↓op_extract, hlt, hw, hix, eLh, c1, c7, c5, l1, hlh, b2, a1, hO, hL, hz]
        exact ih (d ++ [x]) (by simp [hd]) iO g4 _ _ (out ++ [x]) _ hne (by simp (disch := (first | (refine dS ?_; kernel_rfl) | (refine dM ?_; kernel_rfl) | (refine dO ?_; simp (disch := ((try simp only [ZL]) <;> omega)) only [ZK, ZL]; done) | (refine dK ?_; (repeat first | exact Keep.refl _ _ | exact Keep.app _ _ (Nat.le_refl _) | assumption | refine Keep.ap ?_ | refine Keep.st (by first | omega | (simp only [ZL]; omega)) ?_); done) | ((try simp only [ZL]) <;> omega) | fail)) only [↓XH2, XRN, ZC, ZE, ZH, eq_self, Nat.reduceLeDiff, Nat.reduceBEq, eLh]) (k.trans ((Keep.set h iO _ hiO).trans (Keep.app _ _ (by simp; omega)))) hiO (by simp (disch := (first | (refine dS ?_; kernel_rfl) | (refine dM ?_; kernel_rfl) | (refine dO ?_; simp (disch := ((try simp only [ZL]) <;> omega)) only [ZK, ZL]; done) | (refine dK ?_; (repeat first | exact Keep.refl _ _ | exact Keep.app _ _ (Nat.le_refl _) | assumption | refine Keep.ap ?_ | refine Keep.st (by first | omega | (simp only [ZL]; omega)) ?_); done) | ((try simp only [ZL]) <;> omega) | fail)) only [↓XH2, XRN, ZC, ZE, ZH, eq_self, Nat.reduceLeDiff, Nat.reduceBEq]) (by simp) (by simp; omega) (by simp)
      · have hlo : dd.length + tt.length + 1 = out.length := by rw [ho]; simp; omega
        have hst : stepN out x = setT out dd.length x.text := by unfold stepN; rw [if_neg href, hc, if_neg (by omega)]; rfl
        rw [hc] at a1
        have hz : decide ((dd.length : Int) < 0) = false := decide_eq_false (by omega)
        have hix2 : ixAddr (slV iO gO out.length out.length) (dd.length : Int) 9 = some (pV iO (dd.length * 9) gO) := by rw [ixAddr_sl (by omega)]; simp
        have hset : (En.R out).set (dd.length * 9 + 5) (sV x.text) = En.R (setT out dd.length x.text) := by rw [ho, En.setText, setT_mid]
        have l2 : dd.length * 9 + 9 ≤ (En.R out).length := by rw [En.R_len]; omega
        rw [hst]
        simp (dsimp := false) (disch := (first | (refine dS ?_; kernel_rfl) | (refine dM ?_; kernel_rfl) | (refine dO ?_; simp (disch := ((try simp only [ZL]) <;> omega)) only [ZK, ZL]; done) | (refine dK ?_; (repeat first | exact Keep.refl _ _ | exact Keep.app _ _ (Nat.le_refl _) | assumption | refine Keep.ap ?_ | refine Keep.st (by first | omega | (simp only [ZL]; omega)) ?_); done) | ((try simp only [ZL]) <;> omega) | fail)) only [XOB, ↓XXs, ↓XD, ↓YX, ZB, Nat.reduceAdd, Nat.reducePow, ↓reduceIte, eq_self, Int.reduceEq, Nat.reduceEqDiff, Nat.reduceMul, Nat.reduceLeDiff, Int.reduceBEq, Int.reduceLT, Try.f68, ↓XH2, XRN, ZC, ZE, ZH, eq_self, Nat.reduceLeDiff, Nat.reduceBEq, slV_new, ZS, reduceIte, ↓op_extract, hlt, hw, hix, eLh, c1, c7, c5, l1, hlh, b2, a1, hO, hL, hz, hix2, hset, l2, eO]
        exact ih (d ++ [x]) (by simp [hd]) iO gO _ _ (setT out dd.length x.text) _ hne (by simp (disch := (first | (refine dS ?_; kernel_rfl) | (refine dM ?_; kernel_rfl) | (refine dO ?_; simp (disch := ((try simp only [ZL]) <;> omega)) only [ZK, ZL]; done) | (refine dK ?_; (repeat first | exact Keep.refl _ _ | exact Keep.app _ _ (Nat.le_refl _) | assumption | refine Keep.ap ?_ | refine Keep.st (by first | omega | (simp only [ZL]; omega)) ?_); done) | ((try simp only [ZL]) <;> omega) | fail)) only [↓XH2, XRN, ZC, ZE, ZH, eq_self, Nat.reduceLeDiff, Nat.reduceBEq, eLh]) (k.trans ((Keep.set h iO _ hiO).trans (Keep.app _ _ (by simp; omega)))) hiO (by simp (disch := (first | (refine dS ?_; kernel_rfl) | (refine dM ?_; kernel_rfl) | (refine dO ?_; simp (disch := ((try simp only [ZL]) <;> omega)) only [ZK, ZL]; done) | (refine dK ?_; (repeat first | exact Keep.refl _ _ | exact Keep.app _ _ (Nat.le_refl _) | assumption | refine Keep.ap ?_ | refine Keep.st (by first | omega | (simp only [ZL]; omega)) ?_); done) | ((try simp only [ZL]) <;> omega) | fail)) only [↓XH2, XRN, ZC, ZE, ZH, eq_self, Nat.reduceLeDiff, Nat.reduceBEq]) (by rw [setT_len]) (by rw [setT_len]; simp; omega) (by simp)
theorem r30 {l iL gL cL n : Nat} {rm : Bs} {log : List En} {h : AH} (hn : n = log.length) (hn2 : log.length ≤ 2 ^ 20) (eL : h[iL]? = some (.row gL 9 (En.R log))) (hl : l ≤ h.length) :
    Okr (TkQ h (nowL rm log)) (run V0 (.fn 68) l [S (slV iL gL n cL), S (sV rm)] h) := by
  refine okr_fn Try.func68 rfl rfl rfl rfl ?_
  simp (dsimp := false) (disch := (first | (refine dS ?_; kernel_rfl) | (refine dM ?_; kernel_rfl) | (refine dO ?_; simp (disch := ((try simp only [ZL]) <;> omega)) only [ZK, ZL]; done) | (refine dK ?_; (repeat first | exact Keep.refl _ _ | exact Keep.app _ _ (Nat.le_refl _) | assumption | refine Keep.ap ?_ | refine Keep.st (by first | omega | (simp only [ZL]; omega)) ?_); done) | ((try simp only [ZL]) <;> omega) | fail)) only [XOB, ↓XXs, ↓XD, ↓YX, ZB, Nat.reduceAdd, Nat.reducePow, ↓reduceIte, eq_self, Int.reduceEq, Nat.reduceEqDiff, Nat.reduceMul, Nat.reduceLeDiff, Int.reduceBEq, Int.reduceLT, Try.f68, ↓XH2, XRN, ZC, ZE, ZH, eq_self, Nat.reduceLeDiff, Nat.reduceBEq, slV_new, ZS, reduceIte, ↓op_extract]
  have k0 : Keep h.length h (h ++ [AObj.row 0 9 []]) := Keep.app _ _ (Nat.le_refl _)
  have e0 : (h ++ [AObj.row 0 9 []])[h.length]? = some (.row 0 9 (En.R [])) := by simp [En.R]
  refine okr_call (r101 hn hn2 (k0.get eL (lt_of_get eL)) (by simp; omega)) ?_
  rintro _ h1 ⟨i1, g1, rfl, e1, hi1, k1⟩
  have hk1 := k1.1
  have e01 := k1.get e0 (lt_of_get e0)
  have hfl := List.length_filter_le (talkL rm) log
  simp only [List.length_append, List.length_singleton] at hi1 hk1
  try simp (dsimp := false) (disch := (first | (refine dS ?_; kernel_rfl) | (refine dM ?_; kernel_rfl) | (refine dO ?_; simp (disch := ((try simp only [ZL]) <;> omega)) only [ZK, ZL]; done) | (refine dK ?_; (repeat first | exact Keep.refl _ _ | exact Keep.app _ _ (Nat.le_refl _) | assumption | refine Keep.ap ?_ | refine Keep.st (by first | omega | (simp only [ZL]; omega)) ?_); done) | ((try simp only [ZL]) <;> omega) | fail)) only [XOB, ↓XXs, ↓XD, ↓YX, ZB, Nat.reduceAdd, Nat.reducePow, ↓reduceIte, eq_self, Int.reduceEq, Nat.reduceEqDiff, Nat.reduceMul, Nat.reduceLeDiff, Int.reduceBEq, Int.reduceLT, Try.f68, ↓XH2, XRN, ZC, ZE, ZH, eq_self, Nat.reduceLeDiff, Nat.reduceBEq, slV_new, ZS, reduceIte, ↓op_extract]
  exact L68 l i1 g1 _ (log.filter (talkL rm)) h rfl (by omega) hl (log.filter (talkL rm)) [] rfl h.length 0 0 0 [] h1 (by omega) e1 (k0.trans (k1.le (by simp))) (Nat.le_refl _) e01 rfl (by simp) rfl
theorem r30s {l iL gL cL n : Nat} {rm : Bs} {log : List En} {h : AH} (hn : n = log.length) (hn2 : log.length ≤ 2 ^ 20) (eL : h[iL]? = some (.row gL 9 (En.R log))) (hl : l ≤ h.length) :
    Okr (TkQ h (nowL rm log)) (run V0 (.fn 30) l [S (slV iL gL n cL), S (sV rm)] h) := by
  refine okr_fn Try.func30 rfl rfl rfl rfl ?_
  simp (dsimp := false) (disch := (first | (refine dS ?_; kernel_rfl) | (refine dM ?_; kernel_rfl) | (refine dO ?_; simp (disch := ((try simp only [ZL]) <;> omega)) only [ZK, ZL]; done) | (refine dK ?_; (repeat first | exact Keep.refl _ _ | exact Keep.app _ _ (Nat.le_refl _) | assumption | refine Keep.ap ?_ | refine Keep.st (by first | omega | (simp only [ZL]; omega)) ?_); done) | ((try simp only [ZL]) <;> omega) | fail)) only [XOB, ↓XXs, ↓XD, ↓YX, ZB, Nat.reduceAdd, Nat.reducePow, ↓reduceIte, eq_self, Int.reduceEq, Nat.reduceEqDiff, Nat.reduceMul, Nat.reduceLeDiff, Int.reduceBEq, Int.reduceLT, Try.f30, ↓XH2, XRN, ZC, ZE, ZH, eq_self, Nat.reduceLeDiff, Nat.reduceBEq, slV_new, ZS, reduceIte, ↓op_extract]
  refine okr_call (r30 hn hn2 eL hl) ?_
  rintro v h' q
  try simp (dsimp := false) (disch := (first | (refine dS ?_; kernel_rfl) | (refine dM ?_; kernel_rfl) | (refine dO ?_; simp (disch := ((try simp only [ZL]) <;> omega)) only [ZK, ZL]; done) | (refine dK ?_; (repeat first | exact Keep.refl _ _ | exact Keep.app _ _ (Nat.le_refl _) | assumption | refine Keep.ap ?_ | refine Keep.st (by first | omega | (simp only [ZL]; omega)) ?_); done) | ((try simp only [ZL]) <;> omega) | fail)) only [XOB, ↓XXs, ↓XD, ↓YX, ZB, Nat.reduceAdd, Nat.reducePow, ↓reduceIte, eq_self, Int.reduceEq, Nat.reduceEqDiff, Nat.reduceMul, Nat.reduceLeDiff, Int.reduceBEq, Int.reduceLT, Try.f30, ↓XH2, XRN, ZC, ZE, ZH, eq_self, Nat.reduceLeDiff, Nat.reduceBEq, slV_new, ZS, reduceIte, ↓op_extract]
  with_reducible refine Okr.ret ?_
  exact q
/-- laws.hbTalk, of all users: its loop -/
theorem L31 (l iL gL cL n : Nat) (rm : Bs) (log : List En) (H0 : AH) (hn : log.length = n) (hn2 : n ≤ 2 ^ 20) (eL : H0[iL]? = some (.row gL 9 (En.R log))) (hl : l ≤ H0.length) :
    ∀ (r d : List En), d ++ r = log → ∀ (iO gO no : Nat) (i : Int) (out : List En) (h : AH), Keep H0.length H0 h → H0.length ≤ iO → h[iO]? = some (.row gO 9 (En.R out)) → no = out.length → out.length ≤ d.length → i = d.length →
      Okr (TkQ H0 (out ++ r.filter (talkL rm))) (L31_0 l (slV iL gL n cL) (sV rm) (sV []) (slV iO gO no no) (iV i) h) := by
  intro r
  induction r with
  | nil =>
    rintro d hd iO gO no i out h k hiO eO rfl hod rfl
    rw [List.append_nil] at hd
    subst hd hn
    have hlt : decide ((d.length : Int) < (d.length : Int)) = false := decide_eq_false (by omega)
    refine okr_code Try.func31 rfl rfl ?_
    simp (dsimp := false) (disch := (first | (refine dS ?_; kernel_rfl) | (refine dM ?_; kernel_rfl) | (refine dO ?_; simp (disch := ((try simp only [ZL]) <;> omega)) only [ZK, ZL]; done) | (refine dK ?_; (repeat first | exact Keep.refl _ _ | exact Keep.app _ _ (Nat.le_refl _) | assumption | refine Keep.ap ?_ | refine Keep.st (by first | omega | (simp only [ZL]; omega)) ?_); done) | ((try simp only [ZL]) <;> omega) | fail)) only [XOB, ↓XXs, ↓XD, ↓YX, ZB, Nat.reduceAdd, Nat.reducePow, ↓reduceIte, eq_self, Int.reduceEq, Nat.reduceEqDiff, Nat.reduceMul, Nat.reduceLeDiff, Int.reduceBEq, Int.reduceLT, Try.f31, ↓XH2, XRN, ZC, ZE, ZH, eq_self, Nat.reduceLeDiff, Nat.reduceBEq, slV_new, ZS, reduceIte, ↓op_extract, hlt]
    with_reducible refine Okr.ret ?_
    exact ⟨iO, gO, by simp, by simpa using eO, hiO, k⟩
  | cons x r ih =>
    rintro d hd iO gO no i out h k hiO eO rfl hod rfl
    have hk := k.1
    have hll : d.length + r.length + 1 = n := by rw [← hn, ← hd]; simp; omega
    have hlt : decide ((d.length : Int) < (n : Int)) = true := decide_eq_true (by omega)
    have hw : IntKind.i64.wrap ((d.length : Int) + 1) = ((d.length + 1 : Nat) : Int) := natCast_succ_wrap (by omega) rfl
    have hix : ixAddr (slV iL gL n cL) (d.length : Int) 9 = some (pV iL (d.length * 9) gL) := by rw [ixAddr_sl (by omega)]; simp
    have eLh := k.get eL (lt_of_get eL)
    have c1 : ((En.R log).drop (d.length * 9)).take 9 = En.C x := by rw [← hd]; exact En.get d x r
    have l1 : d.length * 9 + 9 ≤ (En.R log).length := by rw [En.R_len]; omega
    have c0 : (En.R log)[d.length * 9 + 0]? = some (sV x.room) := by rw [← hd]; exact En.c0 d x r
    have c2 : (En.R log)[d.length * 9 + 2]? = some (iV x.kind) := by rw [← hd]; exact En.c2 d x r
    have c3 : (En.R log)[d.length * 9 + 3]? = some (sV x.user) := by rw [← hd]; exact En.c3 d x r
    have hlh : l ≤ h.length := by omega
    have hO := lt_of_get eO
    have hL := lt_of_get eLh
    have b1 := B_dec x.room rm
    have ft : talkL rm x = (decide (x.room = rm) && (x.kind == 3)) := rfl
    refine okr_code Try.func31 rfl rfl ?_
    cases qr : decide (x.room = rm) with
    | false =>
      rw [qr] at ft b1
      simp (dsimp := false) (disch := (first | (refine dS ?_; kernel_rfl) | (refine dM ?_; kernel_rfl) | (refine dO ?_; simp (disch := ((try simp only [ZL]) <;> omega)) only [ZK, ZL]; done) | (refine dK ?_; (repeat first | exact Keep.refl _ _ | exact Keep.app _ _ (Nat.le_refl _) | assumption | refine Keep.ap ?_ | refine Keep.st (by first | omega | (simp only [ZL]; omega)) ?_); done) | ((try simp only [ZL]) <;> omega) | fail)) only [XOB, ↓XXs, ↓XD, ↓YX, ZB, Nat.reduceAdd, Nat.reducePow, ↓reduceIte, eq_self, Int.reduceEq, Nat.reduceEqDiff, Nat.reduceMul, Nat.reduceLeDiff, Int.reduceBEq, Int.reduceLT, Try.f31, ↓XH2, XRN, ZC, ZE, ZH, eq_self, Nat.reduceLeDiff, Nat.reduceBEq, slV_new, ZS, reduceIte, ↓op_extract, hlt, hw, hix, eLh, c1, c0, c2, c3, l1, hlh, b1]
      rw [List.filter_cons, ft, Bool.false_and, if_neg (by simp)]
      exact ih (d ++ [x]) (by simp [hd]) iO gO out.length ((d.length + 1 : Nat) : Int) out _ k hiO eO rfl (by simp; omega) (by simp)
    | true =>
      rw [qr] at ft b1
      cases qk : (x.kind == 3) with
      | false =>
        rw [qk] at ft
        simp (dsimp := false) (disch := (first | (refine dS ?_; kernel_rfl) | (refine dM ?_; kernel_rfl) | (refine dO ?_; simp (disch := ((try simp only [ZL]) <;> omega)) only [ZK, ZL]; done) | (refine dK ?_; (repeat first | exact Keep.refl _ _ | exact Keep.app _ _ (Nat.le_refl _) | assumption | refine Keep.ap ?_ | refine Keep.st (by first | omega | (simp only [ZL]; omega)) ?_); done) | ((try simp only [ZL]) <;> omega) | fail)) only [XOB, ↓XXs, ↓XD, ↓YX, ZB, Nat.reduceAdd, Nat.reducePow, ↓reduceIte, eq_self, Int.reduceEq, Nat.reduceEqDiff, Nat.reduceMul, Nat.reduceLeDiff, Int.reduceBEq, Int.reduceLT, Try.f31, ↓XH2, XRN, ZC, ZE, ZH, eq_self, Nat.reduceLeDiff, Nat.reduceBEq, slV_new, ZS, reduceIte, ↓op_extract, hlt, hw, hix, eLh, c1, c0, c2, c3, l1, hlh, b1, qk]
        rw [List.filter_cons, ft, Bool.and_false, if_neg (by simp)]
        exact ih (d ++ [x]) (by simp [hd]) iO gO out.length ((d.length + 1 : Nat) : Int) out _ k hiO eO rfl (by simp; omega) (by simp)
      | true =>
        rw [qk] at ft
        rw [List.filter_cons, ft, Bool.and_self, if_pos rfl]
        simp (dsimp := false) (disch := (first | (refine dS ?_; kernel_rfl) | (refine dM ?_; kernel_rfl) | (refine dO ?_; simp (disch := ((try simp only [ZL]) <;> omega)) only [ZK, ZL]; done) | (refine dK ?_; (repeat first | exact Keep.refl _ _ | exact Keep.app _ _ (Nat.le_refl _) | assumption | refine Keep.ap ?_ | refine Keep.st (by first | omega | (simp only [ZL]; omega)) ?_); done) | ((try simp only [ZL]) <;> omega) | fail)) only [XOB, ↓XXs, ↓XD, ↓YX, ZB, Nat.reduceAdd, Nat.reducePow, ↓reduceIte, eq_self, Int.reduceEq, Nat.reduceEqDiff, Nat.reduceMul, Nat.reduceLeDiff, Int.reduceBEq, Int.reduceLT, Try.f31, ↓XH2, XRN, ZC, ZE, ZH, eq_self, Nat.reduceLeDiff, Nat.reduceBEq, slV_new, ZS, reduceIte, ↓op_extract, hlt, hw, hix, eLh, c1, c0, c2, c3, l1, hlh, b1, qk]
        refine okr_opt (En.app3 (os := out) x (by simp (disch := (first | (refine dS ?_; kernel_rfl) | (refine dM ?_; kernel_rfl) | (refine dO ?_; simp (disch := ((try simp only [ZL]) <;> omega)) only [ZK, ZL]; done) | (refine dK ?_; (repeat first | exact Keep.refl _ _ | exact Keep.app _ _ (Nat.le_refl _) | assumption | refine Keep.ap ?_ | refine Keep.st (by first | omega | (simp only [ZL]; omega)) ?_); done) | ((try simp only [ZL]) <;> omega) | fail)) only [↓XH2, XRN, ZC, ZE, ZH, eq_self, Nat.reduceLeDiff, Nat.reduceBEq, eO]) (by simp (disch := (first | (refine dS ?_; kernel_rfl) | (refine dM ?_; kernel_rfl) | (refine dO ?_; simp (disch := ((try simp only [ZL]) <;> omega)) only [ZK, ZL]; done) | (refine dK ?_; (repeat first | exact Keep.refl _ _ | exact Keep.app _ _ (Nat.le_refl _) | assumption | refine Keep.ap ?_ | refine Keep.st (by first | omega | (simp only [ZL]; omega)) ?_); done) | ((try simp only [ZL]) <;> omega) | fail)) only [↓XH2, XRN, ZC, ZE, ZH, eq_self, Nat.reduceLeDiff, Nat.reduceBEq] <;> rfl) rfl rfl (by omega) (by omega) rfl) ?_
        rintro _ ⟨g4, rfl⟩
        simp (dsimp := false) (disch := (first | (refine dS ?_; kernel_rfl) | (refine dM ?_; kernel_rfl) | (refine dO ?_; simp (disch := ((try simp only [ZL]) <;> omega)) only [ZK, ZL]; done) | (refine dK ?_; (repeat first | exact Keep.refl _ _ | exact Keep.app _ _ (Nat.le_refl _) | assumption | refine Keep.ap ?_ | refine Keep.st (by first | omega | (simp only [ZL]; omega)) ?_); done) | ((try simp only [ZL]) <;> omega) | fail)) only [XOB, ↓XXs, ↓XD, ↓YX, ZB, Nat.reduceAdd, Nat.reducePow, ↓reduceIte, eq_self, Int.reduceEq, Nat.reduceEqDiff, Nat.reduceMul, Nat.reduceLeDiff, Int.reduceBEq, Int.reduceLT, Try.f31, ↓XH2, XRN, ZC, ZE, ZH, eq_self, Nat.reduceLeDiff, Nat.reduceBEq, slV_new, ZS, reduceIte, ↓op_extract, hlt, hw, hix, eLh, c1, c0, c2, c3, l1, hlh, b1, qk]
        have := ih (d ++ [x]) (by simp [hd]) iO g4 (out.length + 1) ((d.length + 1 : Nat) : Int) (out ++ [x]) (h.set iO (.row g4 9 (En.R (out ++ [x]))) ++ [AObj.row 0 9 x.C]) (k.trans ((Keep.set h iO _ hiO).trans (Keep.app _ _ (by simp; omega)))) hiO (by simp (disch := (first | (refine dS ?_; kernel_rfl) | (refine dM ?_; kernel_rfl) | (refine dO ?_; simp (disch := ((try simp only [ZL]) <;> omega)) only [ZK, ZL]; done) | (refine dK ?_; (repeat first | exact Keep.refl _ _ | exact Keep.app _ _ (Nat.le_refl _) | assumption | refine Keep.ap ?_ | refine Keep.st (by first | omega | (simp only [ZL]; omega)) ?_); done) | ((try simp only [ZL]) <;> omega) | fail)) only [↓XH2, XRN, ZC, ZE, ZH, eq_self, Nat.reduceLeDiff, Nat.reduceBEq]) (by simp) (by simp; omega) (by simp)
        rw [List.append_assoc, List.singleton_append] at this
        exact this
theorem r31 {l iL gL cL n : Nat} {rm : Bs} {log : List En} {h : AH} (hn : n = log.length) (hn2 : log.length ≤ 2 ^ 20) (eL : h[iL]? = some (.row gL 9 (En.R log))) (hl : l ≤ h.length) :
    Okr (TkQ h (log.filter (talkL rm))) (run V0 (.fn 31) l [S (slV iL gL n cL), S (sV rm), S (sV [])] h) := by
  refine okr_fn Try.func31 rfl rfl rfl rfl ?_
  simp (dsimp := false) (disch := (first | (refine dS ?_; kernel_rfl) | (refine dM ?_; kernel_rfl) | (refine dO ?_; simp (disch := ((try simp only [ZL]) <;> omega)) only [ZK, ZL]; done) | (refine dK ?_; (repeat first | exact Keep.refl _ _ | exact Keep.app _ _ (Nat.le_refl _) | assumption | refine Keep.ap ?_ | refine Keep.st (by first | omega | (simp only [ZL]; omega)) ?_); done) | ((try simp only [ZL]) <;> omega) | fail)) only [XOB, ↓XXs, ↓XD, ↓YX, ZB, Nat.reduceAdd, Nat.reducePow, ↓reduceIte, eq_self, Int.reduceEq, Nat.reduceEqDiff, Nat.reduceMul, Nat.reduceLeDiff, Int.reduceBEq, Int.reduceLT, Try.f31, ↓XH2, XRN, ZC, ZE, ZH, eq_self, Nat.reduceLeDiff, Nat.reduceBEq, slV_new, ZS, reduceIte, ↓op_extract]
  exact L31 l iL gL cL n rm log h hn.symm (by omega) eL hl log [] rfl h.length 0 0 0 [] _ (Keep.app _ _ (Nat.le_refl _)) (Nat.le_refl _) (by simp (disch := (first | (refine dS ?_; kernel_rfl) | (refine dM ?_; kernel_rfl) | (refine dO ?_; simp (disch := ((try simp only [ZL]) <;> omega)) only [ZK, ZL]; done) | (refine dK ?_; (repeat first | exact Keep.refl _ _ | exact Keep.app _ _ (Nat.le_refl _) | assumption | refine Keep.ap ?_ | refine Keep.st (by first | omega | (simp only [ZL]; omega)) ?_); done) | ((try simp only [ZL]) <;> omega) | fail)) only [↓XH2, XRN, ZC, ZE, ZH, eq_self, Nat.reduceLeDiff, Nat.reduceBEq]; rfl) rfl (by simp) rfl
end Go.Abs
