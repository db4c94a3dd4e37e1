/- That the law answers true. For every code; no condition. -/
import Derived.Test.YtbolgneigidmdaaLogB
import Derived.Test.YtbolgneigidmdaaFiltA
namespace Go.Abs
open Go.Proofs
set_option maxRecDepth 100000
set_option linter.unusedSimpArgs false
set_option linter.unusedVariables false
set_option pp.maxSteps 20000
set_option pp.deepTerms true
def Ru.F (x : Ru) : Prop := x.room.length ≤ 64 ∧ x.user.length ≤ 64
theorem Ru.R_one (x : Ru) : Ru.R [x] = Ru.C x := by simp [Ru.R]
theorem Ru.app3 {lim : Nat} {h : AH} {id g g2 no nh : Nat} {os : List Ru} {cs ys : List Value} (y : Ru) (e : h[id]? = some (.row g 4 cs)) (e2 : h[nh]? = some (.row g2 4 ys)) (hc : cs = Ru.R os) (hno : no = os.length) (hl : lim ≤ id) (hb : os.length ≤ 2 ^ 30) (hy : ys = Ru.C y) :
    ∃ z, app lim h (slV id g no no) (slV nh g2 1 1) 4 4 48 = some z ∧ ∃ g', z = (slV id g' (no + 1) (no + 1), h.set id (.row g' 4 (Ru.R (os ++ [y])))) := by
  subst hc hno hy
  obtain ⟨z, e1, g', rfl⟩ := okr_app (lim := lim) (id := id) (g := g) (tg := 4) (n := os.length) (k := 1) (by' := 48) (cs := Ru.R os) (x := slV nh g2 1 1) (ds := Ru.C y) (src_new (sz := 4) (tg := 4) e2 rfl) e (by rw [Ru.R_len]; omega) hl (by omega)
  exact ⟨_, e1, g', by rw [Ru.R_app, Ru.R_one]⟩
structure RuAt (H0 h : AH) (id : Nat) (va : Value) (n P : Nat) (il g : Nat) (rs : List Ru) : Prop where
  e : h[il]? = some (.row g 4 (Ru.R rs))
  hi : H0.length ≤ il
  f : ∀ x ∈ rs, x.F
  r : ∃ p, p ≤ P ∧ Rd h id va n p
  hid : id < H0.length
  k : KX H0.length id H0 h
theorem RuAt.dr {H0 h : AH} {id : Nat} {va : Value} {n P Q p il g : Nat} {rs : List Ru} (q : RuAt H0 h id va n P il g rs) (L : AH) (hr : Rd h id va n p) (p' : Nat) (hp : p' ≤ Q) : RuAt H0 (h.set id (rdO va p') ++ L) id va n Q il g rs := by
  have h1 := lt_of_get hr.1
  have h2 := q.hi
  have h3 := q.hid
  have h4 := lt_of_get q.e
  refine ⟨by rw [HAn (by rw [List.length_set]; exact h4), HC3 (by omega), q.e], q.hi, q.f, ⟨p', hp, hr.kp p'⟩, q.hid, q.k.trans ?_⟩
  have c1 : KX H0.length id h (h.set id (rdO va p')) := KX.set _ _ _ _
  exact c1.trans ((Keep.app _ _ (by rw [List.length_set]; exact q.k.1)).kx (Nat.le_refl _))
theorem RuAt.st {H0 h : AH} {id : Nat} {va : Value} {n P il g g' : Nat} {rs rs' : List Ru} (q : RuAt H0 h id va n P il g rs) (f : ∀ x ∈ rs', x.F) : RuAt H0 (h.set il (.row g' 4 (Ru.R rs'))) id va n P il g' rs' := by
  have h1 := q.k.1
  have h2 := q.hid
  have h3 := q.hi
  have h4 := lt_of_get q.e
  obtain ⟨p, hp, r⟩ := q.r
  exact ⟨HC4 rfl h4, q.hi, f, ⟨p, hp, r.keep ⟨by simp, fun j hj => HC3 (by omega)⟩⟩, q.hid, q.k.trans ⟨by simp, fun j hj _ => HC3 (by omega)⟩⟩
theorem RuAt.keep {H0 h h' : AH} {id : Nat} {va : Value} {n P il g : Nat} {rs : List Ru} (q : RuAt H0 h id va n P il g rs) (k : Keep h.length h h') : RuAt H0 h' id va n P il g rs := by
  have h1 := q.k.1
  have h2 := q.hid
  obtain ⟨p, hp, r⟩ := q.r
  exact ⟨k.get q.e (lt_of_get q.e), q.hi, q.f, ⟨p, hp, r.keep (k.le (by omega))⟩, q.hid, q.k.trans (k.kx (by omega))⟩
theorem RuAt.dr0 {H0 h : AH} {id : Nat} {va : Value} {n P Q p il g : Nat} {rs : List Ru} (q : RuAt H0 h id va n P il g rs) (hr : Rd h id va n p) (p' : Nat) (hp : p' ≤ Q) : RuAt H0 (h.set id (rdO va p')) id va n Q il g rs := by
  have := q.dr [] hr p' hp
  rwa [List.append_nil] at this
theorem Ru.setRoom (d : List Ru) (x : Ru) (t : List Ru) (m : Bs) : (Ru.R (d ++ x :: t)).set (d.length * 4 + 1) (sV m) = Ru.R (d ++ ⟨x.quiet, m, x.user, x.kind⟩ :: t) := by
  rw [Ru.R_app, Ru.R_cons, Ru.R_app, Ru.R_cons, List.set_append_right _ _ (by rw [Ru.R_len]; omega), Ru.R_len, show d.length * 4 + 1 - 4 * d.length = 1 by omega]
  rfl
theorem Ru.setKind (d : List Ru) (x : Ru) (t : List Ru) (m : Int) : (Ru.R (d ++ x :: t)).set (d.length * 4 + 3) (iV m) = Ru.R (d ++ ⟨x.quiet, x.room, x.user, m⟩ :: t) := by
  rw [Ru.R_app, Ru.R_cons, Ru.R_app, Ru.R_cons, List.set_append_right _ _ (by rw [Ru.R_len]; omega), Ru.R_len, show d.length * 4 + 3 - 4 * d.length = 3 by omega]
  rfl
theorem Ru.F_set {d t : List Ru} {x y : Ru} (f : ∀ z ∈ d ++ x :: t, z.F) (fy : y.F) : ∀ z ∈ d ++ y :: t, z.F := by
  intro z hz
  rcases List.mem_append.mp hz with q | q
  · exact f z (List.mem_append_left _ q)
  · rcases List.mem_cons.mp q with q | q
    · rw [q]; exact fy
    · exact f z (List.mem_append_right _ (List.mem_cons_of_mem _ q))
theorem Ru.F_app {d : List Ru} {y : Ru} (f : ∀ z ∈ d, z.F) (fy : y.F) : ∀ z ∈ d ++ [y], z.F := by
  intro z hz
  rcases List.mem_append.mp hz with q | q
  · exact f z q
  · rw [List.mem_singleton.mp q]; exact fy
structure RulesQ (H0 : AH) (id : Nat) (va : Value) (n P : Nat) (v : Value) (h' : AH) : Prop where
  ex : ∃ il g rs, v = slV il g rs.length rs.length ∧ RuAt H0 h' id va n P il g rs ∧ rs.length ≤ 9
set_option maxHeartbeats 4000000 in
theorem L59 {H0 : AH} {id : Nat} {va : Value} {n l : Nat} (hl : l ≤ id) (hn : n ≤ 2 ^ 62) :
    ∀ (k P il g no : Nat) (i : Int) (rs : List Ru) (h : AH), RuAt H0 h id va n P il g rs → rs.length + k ≤ 9 → no = rs.length → i = k → P + 20 * k ≤ 2 ^ 39 →
      Okr (RulesQ H0 id va n (P + 20 * k + 20)) (L59_0 l (pV id 0 0) (slV il g no no) (iV i) h) := by
  intro k
  induction k with
  | zero =>
    rintro P il g no i rs h q h9 rfl rfl hP
    have hlt : decide ((0 : Int) < ((0 : Nat) : Int)) = false := rfl
    refine okr_code Try.func59 rfl rfl ?_
    simp (dsimp := false) (disch := (first | (refine dS ?_; kernel_rfl) | (refine dM ?_; kernel_rfl) | (refine dO ?_; simp (disch := ((try simp only [ZL]) <;> omega)) only [ZK, ZL]; done) | (refine dK ?_; (repeat first | exact Keep.refl _ _ | exact Keep.app _ _ (Nat.le_refl _) | assumption | refine Keep.ap ?_ | refine Keep.st (by first | omega | (simp only [ZL]; omega)) ?_); done) | ((try simp only [ZL]) <;> omega) | fail)) only [XOB, ↓XXs, ↓XD, ↓YX, ZB, Nat.reduceAdd, Nat.reducePow, ↓reduceIte, eq_self, Int.reduceEq, Nat.reduceEqDiff, Nat.reduceMul, Nat.reduceLeDiff, Int.reduceBEq, Int.reduceLT, Try.f59, ↓XH2, XRN, ZC, ZE, ZH, eq_self, Nat.reduceLeDiff, Nat.reduceBEq, slV_new, ZS, reduceIte, ↓op_extract, Ru.R_len, hlt]
    obtain ⟨p, hp, r⟩ := q.r
    have ide := q.hid
    have hi := q.hi
    have hil := lt_of_get q.e
    have hidl := lt_of_get r.1
    have qe := q.e
    have q0 : RuAt H0 h id va n (P + 20) il g rs := ⟨q.e, q.hi, q.f, ⟨p, by omega, r⟩, q.hid, q.k⟩
    refine okr_if (fun hpos => ?_) (fun _ => ?_)
    · have hpos : 0 < rs.length := by have := of_decide_eq_true hpos; omega
      simp (dsimp := false) (disch := (first | (refine dS ?_; kernel_rfl) | (refine dM ?_; kernel_rfl) | (refine dO ?_; simp (disch := ((try simp only [ZL]) <;> omega)) only [ZK, ZL]; done) | (refine dK ?_; (repeat first | exact Keep.refl _ _ | exact Keep.app _ _ (Nat.le_refl _) | assumption | refine Keep.ap ?_ | refine Keep.st (by first | omega | (simp only [ZL]; omega)) ?_); done) | ((try simp only [ZL]) <;> omega) | fail)) only [XOB, ↓XXs, ↓XD, ↓YX, ZB, Nat.reduceAdd, Nat.reducePow, ↓reduceIte, eq_self, Int.reduceEq, Nat.reduceEqDiff, Nat.reduceMul, Nat.reduceLeDiff, Int.reduceBEq, Int.reduceLT, Try.f59, ↓XH2, XRN, ZC, ZE, ZH, eq_self, Nat.reduceLeDiff, Nat.reduceBEq, slV_new, ZS, reduceIte, ↓op_extract, Ru.R_len, hlt]
      refine okr_call (okr_pick 12 r hl rfl (by simp) (by simp) hn (by omega)) ?_
      rintro _ _ ⟨⟨m, rfl, hm⟩, rfl⟩
      have q1 : RuAt H0 (h.set id (rdO va (p + 1))) id va n (P + 20) il g rs := by simpa using q.dr (Q := P + 20) [] r (p + 1) (by omega)
      simp (dsimp := false) (disch := (first | (refine dS ?_; kernel_rfl) | (refine dM ?_; kernel_rfl) | (refine dO ?_; simp (disch := ((try simp only [ZL]) <;> omega)) only [ZK, ZL]; done) | (refine dK ?_; (repeat first | exact Keep.refl _ _ | exact Keep.app _ _ (Nat.le_refl _) | assumption | refine Keep.ap ?_ | refine Keep.st (by first | omega | (simp only [ZL]; omega)) ?_); done) | ((try simp only [ZL]) <;> omega) | fail)) only [XOB, ↓XXs, ↓XD, ↓YX, ZB, Nat.reduceAdd, Nat.reducePow, ↓reduceIte, eq_self, Int.reduceEq, Nat.reduceEqDiff, Nat.reduceMul, Nat.reduceLeDiff, Int.reduceBEq, Int.reduceLT, Try.f59, ↓XH2, XRN, ZC, ZE, ZH, eq_self, Nat.reduceLeDiff, Nat.reduceBEq, slV_new, ZS, reduceIte, ↓op_extract, Ru.R_len, hlt]
      refine okr_if (fun _ => ?_) (fun _ => ?_)
      · simp (dsimp := false) (disch := (first | (refine dS ?_; kernel_rfl) | (refine dM ?_; kernel_rfl) | (refine dO ?_; simp (disch := ((try simp only [ZL]) <;> omega)) only [ZK, ZL]; done) | (refine dK ?_; (repeat first | exact Keep.refl _ _ | exact Keep.app _ _ (Nat.le_refl _) | assumption | refine Keep.ap ?_ | refine Keep.st (by first | omega | (simp only [ZL]; omega)) ?_); done) | ((try simp only [ZL]) <;> omega) | fail)) only [XOB, ↓XXs, ↓XD, ↓YX, ZB, Nat.reduceAdd, Nat.reducePow, ↓reduceIte, eq_self, Int.reduceEq, Nat.reduceEqDiff, Nat.reduceMul, Nat.reduceLeDiff, Int.reduceBEq, Int.reduceLT, Try.f59, ↓XH2, XRN, ZC, ZE, ZH, eq_self, Nat.reduceLeDiff, Nat.reduceBEq, slV_new, ZS, reduceIte, ↓op_extract, Ru.R_len, hlt]
        refine okr_call (okr_pick rs.length (r.step (p + 1)) hl rfl (by omega) (by omega) hn (by omega)) ?_
        rintro _ _ ⟨⟨m2, rfl, hm2⟩, rfl⟩
        obtain ⟨d, x, t, hd, hdl⟩ : ∃ d x t, rs = d ++ x :: t ∧ d.length = m2 := ⟨rs.take m2, rs[m2], rs.drop (m2 + 1), by rw [← List.drop_eq_getElem_cons hm2, List.take_append_drop], by simp; omega⟩
        have hix : ixAddr (slV il g rs.length rs.length) (m2 : Int) 4 = some (pV il (m2 * 4) g) := by rw [ixAddr_sl hm2]; simp
        simp (dsimp := false) (disch := (first | (refine dS ?_; kernel_rfl) | (refine dM ?_; kernel_rfl) | (refine dO ?_; simp (disch := ((try simp only [ZL]) <;> omega)) only [ZK, ZL]; done) | (refine dK ?_; (repeat first | exact Keep.refl _ _ | exact Keep.app _ _ (Nat.le_refl _) | assumption | refine Keep.ap ?_ | refine Keep.st (by first | omega | (simp only [ZL]; omega)) ?_); done) | ((try simp only [ZL]) <;> omega) | fail)) only [XOB, ↓XXs, ↓XD, ↓YX, ZB, Nat.reduceAdd, Nat.reducePow, ↓reduceIte, eq_self, Int.reduceEq, Nat.reduceEqDiff, Nat.reduceMul, Nat.reduceLeDiff, Int.reduceBEq, Int.reduceLT, Try.f59, ↓XH2, XRN, ZC, ZE, ZH, eq_self, Nat.reduceLeDiff, Nat.reduceBEq, slV_new, ZS, reduceIte, ↓op_extract, Ru.R_len, hlt, hix, qe]
        subst hd hdl
        have fx := q.f x (by simp)
        refine okr_call (okr_of [_, _, _] (r.kp (p + 2)) hl (by simp (disch := (first | (refine dS ?_; kernel_rfl) | (refine dM ?_; kernel_rfl) | (refine dO ?_; simp (disch := ((try simp only [ZL]) <;> omega)) only [ZK, ZL]; done) | (refine dK ?_; (repeat first | exact Keep.refl _ _ | exact Keep.app _ _ (Nat.le_refl _) | assumption | refine Keep.ap ?_ | refine Keep.st (by first | omega | (simp only [ZL]; omega)) ?_); done) | ((try simp only [ZL]) <;> omega) | fail)) only [↓XH2, XRN, ZC, ZE, ZH, eq_self, Nat.reduceLeDiff, Nat.reduceBEq] <;> rfl) rfl rfl (by omega) (by simp) (by simp) hn (by omega)) ?_
        rintro _ _ ⟨⟨rm, rfl, hrm⟩, rfl⟩
        have frm : rm.length ≤ 64 := by revert rm; decide
        have q2 := (q.dr0 (Q := P + 20) r (p + 3) (by omega)).st (g' := g) (Ru.F_set q.f (y := ⟨x.quiet, rm, x.user, x.kind⟩) ⟨frm, fx.2⟩)
        have q2r : Rd ((h.set id (rdO va (p + 3))).set il (.row g 4 (Ru.R (d ++ ⟨x.quiet, rm, x.user, x.kind⟩ :: t)))) id va n (p + 3) := (r.step (p + 3)).keep ⟨by simp, fun j hj => HC3 (by omega)⟩
        simp (dsimp := false) (disch := (first | (refine dS ?_; kernel_rfl) | (refine dM ?_; kernel_rfl) | (refine dO ?_; simp (disch := ((try simp only [ZL]) <;> omega)) only [ZK, ZL]; done) | (refine dK ?_; (repeat first | exact Keep.refl _ _ | exact Keep.app _ _ (Nat.le_refl _) | assumption | refine Keep.ap ?_ | refine Keep.st (by first | omega | (simp only [ZL]; omega)) ?_); done) | ((try simp only [ZL]) <;> omega) | fail)) only [XOB, ↓XXs, ↓XD, ↓YX, ZB, Nat.reduceAdd, Nat.reducePow, ↓reduceIte, eq_self, Int.reduceEq, Nat.reduceEqDiff, Nat.reduceMul, Nat.reduceLeDiff, Int.reduceBEq, Int.reduceLT, Try.f59, ↓XH2, XRN, ZC, ZE, ZH, eq_self, Nat.reduceLeDiff, Nat.reduceBEq, slV_new, ZS, reduceIte, ↓op_extract, Ru.R_len, hlt, hix, qe, Ru.setRoom, Ru.setKind]
        refine okr_call (okr_one [_, _, _] q2r.ap hl (by rw [List.getElem?_append_right (by simp)]; simp; rfl) rfl rfl (by omega) (by simp) (by simp) hn (by omega)) ?_
        rintro _ _ ⟨⟨kd, rfl, hkd⟩, rfl⟩
        have q3 := (q2.dr0 (Q := P + 20) q2r (p + 4) (by omega)).st (g' := g) (Ru.F_set q2.f (y := ⟨x.quiet, rm, x.user, kd⟩) ⟨frm, fx.2⟩)
        simp (dsimp := false) (disch := (first | (refine dS ?_; kernel_rfl) | (refine dM ?_; kernel_rfl) | (refine dO ?_; simp (disch := ((try simp only [ZL]) <;> omega)) only [ZK, ZL]; done) | (refine dK ?_; (repeat first | exact Keep.refl _ _ | exact Keep.app _ _ (Nat.le_refl _) | assumption | refine Keep.ap ?_ | refine Keep.st (by first | omega | (simp only [ZL]; omega)) ?_); done) | ((try simp only [ZL]) <;> omega) | fail)) only [XOB, ↓XXs, ↓XD, ↓YX, ZB, Nat.reduceAdd, Nat.reducePow, ↓reduceIte, eq_self, Int.reduceEq, Nat.reduceEqDiff, Nat.reduceMul, Nat.reduceLeDiff, Int.reduceBEq, Int.reduceLT, Try.f59, ↓XH2, XRN, ZC, ZE, ZH, eq_self, Nat.reduceLeDiff, Nat.reduceBEq, slV_new, ZS, reduceIte, ↓op_extract, Ru.R_len, hlt, hix, qe, Ru.setRoom, Ru.setKind]
        with_reducible refine Okr.ret ?_
        refine ⟨⟨il, g, d ++ ⟨x.quiet, rm, x.user, kd⟩ :: t, ?_, q3.keep (Keep.app _ _ (Nat.le_refl _)), ?_⟩⟩
        · simp
        · simp at h9 ⊢; omega
      · simp (dsimp := false) (disch := (first | (refine dS ?_; kernel_rfl) | (refine dM ?_; kernel_rfl) | (refine dO ?_; simp (disch := ((try simp only [ZL]) <;> omega)) only [ZK, ZL]; done) | (refine dK ?_; (repeat first | exact Keep.refl _ _ | exact Keep.app _ _ (Nat.le_refl _) | assumption | refine Keep.ap ?_ | refine Keep.st (by first | omega | (simp only [ZL]; omega)) ?_); done) | ((try simp only [ZL]) <;> omega) | fail)) only [XOB, ↓XXs, ↓XD, ↓YX, ZB, Nat.reduceAdd, Nat.reducePow, ↓reduceIte, eq_self, Int.reduceEq, Nat.reduceEqDiff, Nat.reduceMul, Nat.reduceLeDiff, Int.reduceBEq, Int.reduceLT, Try.f59, ↓XH2, XRN, ZC, ZE, ZH, eq_self, Nat.reduceLeDiff, Nat.reduceBEq, slV_new, ZS, reduceIte, ↓op_extract, Ru.R_len, hlt]
        with_reducible refine Okr.ret ?_
        exact ⟨⟨il, g, rs, rfl, q1, by omega⟩⟩
    · simp (dsimp := false) (disch := (first | (refine dS ?_; kernel_rfl) | (refine dM ?_; kernel_rfl) | (refine dO ?_; simp (disch := ((try simp only [ZL]) <;> omega)) only [ZK, ZL]; done) | (refine dK ?_; (repeat first | exact Keep.refl _ _ | exact Keep.app _ _ (Nat.le_refl _) | assumption | refine Keep.ap ?_ | refine Keep.st (by first | omega | (simp only [ZL]; omega)) ?_); done) | ((try simp only [ZL]) <;> omega) | fail)) only [XOB, ↓XXs, ↓XD, ↓YX, ZB, Nat.reduceAdd, Nat.reducePow, ↓reduceIte, eq_self, Int.reduceEq, Nat.reduceEqDiff, Nat.reduceMul, Nat.reduceLeDiff, Int.reduceBEq, Int.reduceLT, Try.f59, ↓XH2, XRN, ZC, ZE, ZH, eq_self, Nat.reduceLeDiff, Nat.reduceBEq, slV_new, ZS, reduceIte, ↓op_extract, Ru.R_len, hlt]
      with_reducible refine Okr.ret ?_
      exact ⟨⟨il, g, rs, rfl, q0, by omega⟩⟩
  | succ k ih =>
    rintro P il g no i rs h q h9 rfl rfl hP
    have hlt : decide ((0 : Int) < ((k + 1 : Nat) : Int)) = true := decide_eq_true (by omega)
    have hw : IntKind.i64.wrap (((k + 1 : Nat) : Int) - 1) = (k : Int) := by rw [wrap64 (by omega)]; omega
    refine okr_code Try.func59 rfl rfl ?_
    simp (dsimp := false) (disch := (first | (refine dS ?_; kernel_rfl) | (refine dM ?_; kernel_rfl) | (refine dO ?_; simp (disch := ((try simp only [ZL]) <;> omega)) only [ZK, ZL]; done) | (refine dK ?_; (repeat first | exact Keep.refl _ _ | exact Keep.app _ _ (Nat.le_refl _) | assumption | refine Keep.ap ?_ | refine Keep.st (by first | omega | (simp only [ZL]; omega)) ?_); done) | ((try simp only [ZL]) <;> omega) | fail)) only [XOB, ↓XXs, ↓XD, ↓YX, ZB, Nat.reduceAdd, Nat.reducePow, ↓reduceIte, eq_self, Int.reduceEq, Nat.reduceEqDiff, Nat.reduceMul, Nat.reduceLeDiff, Int.reduceBEq, Int.reduceLT, Try.f59, ↓XH2, XRN, ZC, ZE, ZH, eq_self, Nat.reduceLeDiff, Nat.reduceBEq, slV_new, ZS, reduceIte, ↓op_extract, Ru.R_len, hlt, hw]
    obtain ⟨p, hp, r⟩ := q.r
    have ide := q.hid
    have hi := q.hi
    have hil := lt_of_get q.e
    have hidl := lt_of_get r.1
    have qe := q.e
    refine okr_call (okr_pick 3 r hl rfl (by simp) (by simp) hn (by omega)) ?_
    rintro _ _ ⟨⟨m, rfl, hm⟩, rfl⟩
    simp (dsimp := false) (disch := (first | (refine dS ?_; kernel_rfl) | (refine dM ?_; kernel_rfl) | (refine dO ?_; simp (disch := ((try simp only [ZL]) <;> omega)) only [ZK, ZL]; done) | (refine dK ?_; (repeat first | exact Keep.refl _ _ | exact Keep.app _ _ (Nat.le_refl _) | assumption | refine Keep.ap ?_ | refine Keep.st (by first | omega | (simp only [ZL]; omega)) ?_); done) | ((try simp only [ZL]) <;> omega) | fail)) only [XOB, ↓XXs, ↓XD, ↓YX, ZB, Nat.reduceAdd, Nat.reducePow, ↓reduceIte, eq_self, Int.reduceEq, Nat.reduceEqDiff, Nat.reduceMul, Nat.reduceLeDiff, Int.reduceBEq, Int.reduceLT, Try.f59, ↓XH2, XRN, ZC, ZE, ZH, eq_self, Nat.reduceLeDiff, Nat.reduceBEq, slV_new, ZS, reduceIte, ↓op_extract, Ru.R_len, hlt, hw]
    refine okr_call (okr_of [_, _, _] (r.kp (p + 1)) hl (by simp (disch := (first | (refine dS ?_; kernel_rfl) | (refine dM ?_; kernel_rfl) | (refine dO ?_; simp (disch := ((try simp only [ZL]) <;> omega)) only [ZK, ZL]; done) | (refine dK ?_; (repeat first | exact Keep.refl _ _ | exact Keep.app _ _ (Nat.le_refl _) | assumption | refine Keep.ap ?_ | refine Keep.st (by first | omega | (simp only [ZL]; omega)) ?_); done) | ((try simp only [ZL]) <;> omega) | fail)) only [↓XH2, XRN, ZC, ZE, ZH, eq_self, Nat.reduceLeDiff, Nat.reduceBEq] <;> rfl) rfl rfl (by omega) (by simp) (by simp) hn (by omega)) ?_
    rintro _ _ ⟨⟨rm, rfl, hrm⟩, rfl⟩
    have frm : rm.length ≤ 64 := by revert rm; decide
    simp (dsimp := false) (disch := (first | (refine dS ?_; kernel_rfl) | (refine dM ?_; kernel_rfl) | (refine dO ?_; simp (disch := ((try simp only [ZL]) <;> omega)) only [ZK, ZL]; done) | (refine dK ?_; (repeat first | exact Keep.refl _ _ | exact Keep.app _ _ (Nat.le_refl _) | assumption | refine Keep.ap ?_ | refine Keep.st (by first | omega | (simp only [ZL]; omega)) ?_); done) | ((try simp only [ZL]) <;> omega) | fail)) only [XOB, ↓XXs, ↓XD, ↓YX, ZB, Nat.reduceAdd, Nat.reducePow, ↓reduceIte, eq_self, Int.reduceEq, Nat.reduceEqDiff, Nat.reduceMul, Nat.reduceLeDiff, Int.reduceBEq, Int.reduceLT, Try.f59, ↓XH2, XRN, ZC, ZE, ZH, eq_self, Nat.reduceLeDiff, Nat.reduceBEq, slV_new, ZS, reduceIte, ↓op_extract, Ru.R_len, hlt, hw]
    refine okr_call (okr_of [_, _, _, _] (r.kp (p + 2)) hl (by simp (disch := (first | (refine dS ?_; kernel_rfl) | (refine dM ?_; kernel_rfl) | (refine dO ?_; simp (disch := ((try simp only [ZL]) <;> omega)) only [ZK, ZL]; done) | (refine dK ?_; (repeat first | exact Keep.refl _ _ | exact Keep.app _ _ (Nat.le_refl _) | assumption | refine Keep.ap ?_ | refine Keep.st (by first | omega | (simp only [ZL]; omega)) ?_); done) | ((try simp only [ZL]) <;> omega) | fail)) only [↓XH2, XRN, ZC, ZE, ZH, eq_self, Nat.reduceLeDiff, Nat.reduceBEq] <;> rfl) rfl rfl (by omega) (by simp) (by simp) hn (by omega)) ?_
    rintro _ _ ⟨⟨us, rfl, hus⟩, rfl⟩
    have fus : us.length ≤ 64 := by revert us; decide
    simp (dsimp := false) (disch := (first | (refine dS ?_; kernel_rfl) | (refine dM ?_; kernel_rfl) | (refine dO ?_; simp (disch := ((try simp only [ZL]) <;> omega)) only [ZK, ZL]; done) | (refine dK ?_; (repeat first | exact Keep.refl _ _ | exact Keep.app _ _ (Nat.le_refl _) | assumption | refine Keep.ap ?_ | refine Keep.st (by first | omega | (simp only [ZL]; omega)) ?_); done) | ((try simp only [ZL]) <;> omega) | fail)) only [XOB, ↓XXs, ↓XD, ↓YX, ZB, Nat.reduceAdd, Nat.reducePow, ↓reduceIte, eq_self, Int.reduceEq, Nat.reduceEqDiff, Nat.reduceMul, Nat.reduceLeDiff, Int.reduceBEq, Int.reduceLT, Try.f59, ↓XH2, XRN, ZC, ZE, ZH, eq_self, Nat.reduceLeDiff, Nat.reduceBEq, slV_new, ZS, reduceIte, ↓op_extract, Ru.R_len, hlt, hw]
    refine okr_call (okr_one [_, _, _, _, _] (r.kp (p + 3)) hl (by simp (disch := (first | (refine dS ?_; kernel_rfl) | (refine dM ?_; kernel_rfl) | (refine dO ?_; simp (disch := ((try simp only [ZL]) <;> omega)) only [ZK, ZL]; done) | (refine dK ?_; (repeat first | exact Keep.refl _ _ | exact Keep.app _ _ (Nat.le_refl _) | assumption | refine Keep.ap ?_ | refine Keep.st (by first | omega | (simp only [ZL]; omega)) ?_); done) | ((try simp only [ZL]) <;> omega) | fail)) only [↓XH2, XRN, ZC, ZE, ZH, eq_self, Nat.reduceLeDiff, Nat.reduceBEq] <;> rfl) rfl rfl (by omega) (by simp) (by simp) hn (by omega)) ?_
    rintro _ _ ⟨⟨kd, rfl, hkd⟩, rfl⟩
    simp (dsimp := false) (disch := (first | (refine dS ?_; kernel_rfl) | (refine dM ?_; kernel_rfl) | (refine dO ?_; simp (disch := ((try simp only [ZL]) <;> omega)) only [ZK, ZL]; done) | (refine dK ?_; (repeat first | exact Keep.refl _ _ | exact Keep.app _ _ (Nat.le_refl _) | assumption | refine Keep.ap ?_ | refine Keep.st (by first | omega | (simp only [ZL]; omega)) ?_); done) | ((try simp only [ZL]) <;> omega) | fail)) only [XOB, ↓XXs, ↓XD, ↓YX, ZB, Nat.reduceAdd, Nat.reducePow, ↓reduceIte, eq_self, Int.reduceEq, Nat.reduceEqDiff, Nat.reduceMul, Nat.reduceLeDiff, Int.reduceBEq, Int.reduceLT, Try.f59, ↓XH2, XRN, ZC, ZE, ZH, eq_self, Nat.reduceLeDiff, Nat.reduceBEq, slV_new, ZS, reduceIte, ↓op_extract, Ru.R_len, hlt, hw]
    refine okr_opt (Ru.app3 (os := rs) ⟨decide ((0 : Int) < m), rm, us, kd⟩ (by simp (disch := (first | (refine dS ?_; kernel_rfl) | (refine dM ?_; kernel_rfl) | (refine dO ?_; simp (disch := ((try simp only [ZL]) <;> omega)) only [ZK, ZL]; done) | (refine dK ?_; (repeat first | exact Keep.refl _ _ | exact Keep.app _ _ (Nat.le_refl _) | assumption | refine Keep.ap ?_ | refine Keep.st (by first | omega | (simp only [ZL]; omega)) ?_); done) | ((try simp only [ZL]) <;> omega) | fail)) only [↓XH2, XRN, ZC, ZE, ZH, eq_self, Nat.reduceLeDiff, Nat.reduceBEq, qe]) (by simp (disch := (first | (refine dS ?_; kernel_rfl) | (refine dM ?_; kernel_rfl) | (refine dO ?_; simp (disch := ((try simp only [ZL]) <;> omega)) only [ZK, ZL]; done) | (refine dK ?_; (repeat first | exact Keep.refl _ _ | exact Keep.app _ _ (Nat.le_refl _) | assumption | refine Keep.ap ?_ | refine Keep.st (by first | omega | (simp only [ZL]; omega)) ?_); done) | ((try simp only [ZL]) <;> omega) | fail)) only [↓XH2, XRN, ZC, ZE, ZH, eq_self, Nat.reduceLeDiff, Nat.reduceBEq] <;> rfl) rfl rfl (by first | rfl | omega | (simp (disch := (first | (refine dS ?_; kernel_rfl) | (refine dM ?_; kernel_rfl) | (refine dO ?_; simp (disch := ((try simp only [ZL]) <;> omega)) only [ZK, ZL]; done) | (refine dK ?_; (repeat first | exact Keep.refl _ _ | exact Keep.app _ _ (Nat.le_refl _) | assumption | refine Keep.ap ?_ | refine Keep.st (by first | omega | (simp only [ZL]; omega)) ?_); done) | ((try simp only [ZL]) <;> omega) | fail)) only [ZK, ZL, ZR] <;> omega) | fail) (by omega) rfl) ?_
    rintro _ ⟨g2, rfl⟩
    simp (dsimp := false) (disch := (first | (refine dS ?_; kernel_rfl) | (refine dM ?_; kernel_rfl) | (refine dO ?_; simp (disch := ((try simp only [ZL]) <;> omega)) only [ZK, ZL]; done) | (refine dK ?_; (repeat first | exact Keep.refl _ _ | exact Keep.app _ _ (Nat.le_refl _) | assumption | refine Keep.ap ?_ | refine Keep.st (by first | omega | (simp only [ZL]; omega)) ?_); done) | ((try simp only [ZL]) <;> omega) | fail)) only [XOB, ↓XXs, ↓XD, ↓YX, ZB, Nat.reduceAdd, Nat.reducePow, ↓reduceIte, eq_self, Int.reduceEq, Nat.reduceEqDiff, Nat.reduceMul, Nat.reduceLeDiff, Int.reduceBEq, Int.reduceLT, Try.f59, ↓XH2, XRN, ZC, ZE, ZH, eq_self, Nat.reduceLeDiff, Nat.reduceBEq, slV_new, ZS, reduceIte, ↓op_extract, Ru.R_len, hlt, hw]
    have q4 := (q.dr0 (Q := P + 20) r (p + 4) (by omega)).st (g' := g2) (Ru.F_app (y := ⟨decide ((0 : Int) < m), rm, us, kd⟩) q.f ⟨frm, fus⟩)
    rw [show P + (20 * (k + 1) + 20) = P + 20 + 20 * k + 20 by omega]
    exact ih (P + 20) il g2 (rs.length + 1) _ _ _ (q4.keep (Keep.app _ _ (Nat.le_refl _))) (by simp; omega) (by simp) rfl (by omega)
end Go.Abs
namespace Go.Abs
open Go.Proofs
set_option maxRecDepth 100000
set_option linter.unusedSimpArgs false
set_option linter.unusedVariables false
set_option pp.maxSteps 20000
set_option pp.deepTerms true
theorem r59 {H : AH} {id : Nat} {va : Value} {n l p : Nat} (r : Rd H id va n p) (hl : l ≤ id) (hn : n ≤ 2 ^ 62) (hp : p ≤ 2 ^ 38) :
    Okr (RulesQ H id va n (p + 1000)) (run V0 (.fn 59) l [S (pV id 0 0)] H) := by
  have hid := lt_of_get r.1
  refine okr_fn Try.func59 rfl rfl rfl rfl ?_
  simp (dsimp := false) (disch := (first | (refine dS ?_; kernel_rfl) | (refine dM ?_; kernel_rfl) | (refine dO ?_; simp (disch := ((try simp only [ZL]) <;> omega)) only [ZK, ZL]; done) | (refine dK ?_; (repeat first | exact Keep.refl _ _ | exact Keep.app _ _ (Nat.le_refl _) | assumption | refine Keep.ap ?_ | refine Keep.st (by first | omega | (simp only [ZL]; omega)) ?_); done) | ((try simp only [ZL]) <;> omega) | fail)) only [XOB, ↓XXs, ↓XD, ↓YX, ZB, Nat.reduceAdd, Nat.reducePow, ↓reduceIte, eq_self, Int.reduceEq, Nat.reduceEqDiff, Nat.reduceMul, Nat.reduceLeDiff, Int.reduceBEq, Int.reduceLT, Try.f59, ↓XH2, XRN, ZC, ZE, ZH, eq_self, Nat.reduceLeDiff, Nat.reduceBEq, slV_new, ZS, reduceIte, ↓op_extract]
  refine okr_call (okr_one [_, _, _, _, _, _, _] r.ap hl (by simp (disch := (first | (refine dS ?_; kernel_rfl) | (refine dM ?_; kernel_rfl) | (refine dO ?_; simp (disch := ((try simp only [ZL]) <;> omega)) only [ZK, ZL]; done) | (refine dK ?_; (repeat first | exact Keep.refl _ _ | exact Keep.app _ _ (Nat.le_refl _) | assumption | refine Keep.ap ?_ | refine Keep.st (by first | omega | (simp only [ZL]; omega)) ?_); done) | ((try simp only [ZL]) <;> omega) | fail)) only [↓XH2, XRN, ZC, ZE, ZH, eq_self, Nat.reduceLeDiff, Nat.reduceBEq] <;> rfl) rfl rfl (by omega) (by simp) (by simp) hn (by omega)) ?_
  rintro _ _ ⟨⟨x, rfl, hx⟩, rfl⟩
  obtain ⟨mn, rfl, hmn⟩ : ∃ mn : Nat, x = mn ∧ mn ≤ 9 := ⟨x.toNat, by revert x; decide, by revert x; decide⟩
  simp (dsimp := false) (disch := (first | (refine dS ?_; kernel_rfl) | (refine dM ?_; kernel_rfl) | (refine dO ?_; simp (disch := ((try simp only [ZL]) <;> omega)) only [ZK, ZL]; done) | (refine dK ?_; (repeat first | exact Keep.refl _ _ | exact Keep.app _ _ (Nat.le_refl _) | assumption | refine Keep.ap ?_ | refine Keep.st (by first | omega | (simp only [ZL]; omega)) ?_); done) | ((try simp only [ZL]) <;> omega) | fail)) only [XOB, ↓XXs, ↓XD, ↓YX, ZB, Nat.reduceAdd, Nat.reducePow, ↓reduceIte, eq_self, Int.reduceEq, Nat.reduceEqDiff, Nat.reduceMul, Nat.reduceLeDiff, Int.reduceBEq, Int.reduceLT, Try.f59, ↓XH2, XRN, ZC, ZE, ZH, eq_self, Nat.reduceLeDiff, Nat.reduceBEq, slV_new, ZS, reduceIte, ↓op_extract]
  have q : RuAt H (H.set id (rdO va (p + 1)) ++ [AObj.row 0 4 [], AObj.row 0 1 [iV 0, iV 1, iV 2, iV 3, iV 5, iV 8, iV 9]]) id va n (p + 1) H.length 0 [] :=
    ⟨by simp (disch := (first | (refine dS ?_; kernel_rfl) | (refine dM ?_; kernel_rfl) | (refine dO ?_; simp (disch := ((try simp only [ZL]) <;> omega)) only [ZK, ZL]; done) | (refine dK ?_; (repeat first | exact Keep.refl _ _ | exact Keep.app _ _ (Nat.le_refl _) | assumption | refine Keep.ap ?_ | refine Keep.st (by first | omega | (simp only [ZL]; omega)) ?_); done) | ((try simp only [ZL]) <;> omega) | fail)) only [↓XH2, XRN, ZC, ZE, ZH, eq_self, Nat.reduceLeDiff, Nat.reduceBEq]; rfl, Nat.le_refl _, by simp, ⟨p + 1, Nat.le_refl _, r.kp (p + 1)⟩, hid, (KX.set H.length id H _).trans ((Keep.app _ _ (by simp)).kx (Nat.le_refl _))⟩
  refine Okr.mono (L59 hl hn mn (p + 1) H.length 0 0 _ [] _ q (by simpa using hmn) rfl rfl (by omega)) fun v h' e => ?_
  obtain ⟨⟨il, g, rs, e1, e2, e3⟩⟩ := e
  obtain ⟨p', hp', r'⟩ := e2.r
  exact ⟨il, g, rs, e1, ⟨e2.e, e2.hi, e2.f, ⟨p', by omega, r'⟩, e2.hid, e2.k⟩, e3⟩
/-- what a law's drawing leaves: rules, and what happened -/
structure DrawQ (H : AH) (v : Value) (h' : AH) : Prop where
  ex : ∃ i1 g1 rs i2 g2 log, v = .tuple ⟨[slV i1 g1 rs.length rs.length, slV i2 g2 log.length log.length]⟩ ∧ h'[i1]? = some (.row g1 4 (Ru.R rs)) ∧ h'[i2]? = some (.row g2 9 (En.R log)) ∧
    H.length ≤ i1 ∧ H.length ≤ i2 ∧ i1 ≠ i2 ∧ (∀ x ∈ rs, x.F) ∧ rs.length ≤ 9 ∧ Inc log ∧ log.length ≤ 60
  k : Keep H.length H h'
theorem r31 (va : Value) (n l : Nat) (h : AH) (r : Cd h va n) (hl : l ≤ h.length) (hn : n ≤ 2 ^ 62) :
    Okr (DrawQ h) (run V0 (.fn 31) l [S va] h) := by
  refine okr_fn Try.func31 rfl rfl rfl rfl ?_
  obtain ⟨vb, m, h1, a1, r1, hm, k1⟩ := r58 va n l h r hn
  have hid1 := lt_of_get r1.1
  simp (dsimp := false) (disch := (first | (refine dS ?_; kernel_rfl) | (refine dM ?_; kernel_rfl) | (refine dO ?_; simp (disch := ((try simp only [ZL]) <;> omega)) only [ZK, ZL]; done) | (refine dK ?_; (repeat first | exact Keep.refl _ _ | exact Keep.app _ _ (Nat.le_refl _) | assumption | refine Keep.ap ?_ | refine Keep.st (by first | omega | (simp only [ZL]; omega)) ?_); done) | ((try simp only [ZL]) <;> omega) | fail)) only [XOB, ↓XXs, ↓XD, ↓YX, ZB, Nat.reduceAdd, Nat.reducePow, ↓reduceIte, eq_self, Int.reduceEq, Nat.reduceEqDiff, Nat.reduceMul, Nat.reduceLeDiff, Int.reduceBEq, Int.reduceLT, Try.f31, ↓XH2, XRN, ZC, ZE, ZH, eq_self, Nat.reduceLeDiff, Nat.reduceBEq, slV_new, ZS, reduceIte, ↓op_extract, a1]
  refine okr_call (r59 r1 hl (by omega) (by omega)) ?_
  rintro _ h2 ⟨⟨i1, g1, rs, rfl, q, hrs⟩⟩
  obtain ⟨p2, hp2, r2⟩ := q.r
  try simp (dsimp := false) (disch := (first | (refine dS ?_; kernel_rfl) | (refine dM ?_; kernel_rfl) | (refine dO ?_; simp (disch := ((try simp only [ZL]) <;> omega)) only [ZK, ZL]; done) | (refine dK ?_; (repeat first | exact Keep.refl _ _ | exact Keep.app _ _ (Nat.le_refl _) | assumption | refine Keep.ap ?_ | refine Keep.st (by first | omega | (simp only [ZL]; omega)) ?_); done) | ((try simp only [ZL]) <;> omega) | fail)) only [XOB, ↓XXs, ↓XD, ↓YX, ZB, Nat.reduceAdd, Nat.reducePow, ↓reduceIte, eq_self, Int.reduceEq, Nat.reduceEqDiff, Nat.reduceMul, Nat.reduceLeDiff, Int.reduceBEq, Int.reduceLT, Try.f31, ↓XH2, XRN, ZC, ZE, ZH, eq_self, Nat.reduceLeDiff, Nat.reduceBEq, slV_new, ZS, reduceIte, ↓op_extract, a1]
  refine okr_call (r60 r2 hl (by omega) (by omega)) ?_
  rintro _ h3 ⟨⟨i2, g2, log, rfl, e2, hi2, hinc, h60⟩, ⟨p3, hp3, r3⟩, k3⟩
  have hi1 := q.hi
  have hl1 := lt_of_get q.e
  have kk : Keep h.length h h3 := k1.trans ((Keep.ofKX q.k (by omega) (Nat.le_refl _)).trans (Keep.ofKX k3 (by have := q.k.1; omega) (Nat.le_refl _)))
  try simp (dsimp := false) (disch := (first | (refine dS ?_; kernel_rfl) | (refine dM ?_; kernel_rfl) | (refine dO ?_; simp (disch := ((try simp only [ZL]) <;> omega)) only [ZK, ZL]; done) | (refine dK ?_; (repeat first | exact Keep.refl _ _ | exact Keep.app _ _ (Nat.le_refl _) | assumption | refine Keep.ap ?_ | refine Keep.st (by first | omega | (simp only [ZL]; omega)) ?_); done) | ((try simp only [ZL]) <;> omega) | fail)) only [XOB, ↓XXs, ↓XD, ↓YX, ZB, Nat.reduceAdd, Nat.reducePow, ↓reduceIte, eq_self, Int.reduceEq, Nat.reduceEqDiff, Nat.reduceMul, Nat.reduceLeDiff, Int.reduceBEq, Int.reduceLT, Try.f31, ↓XH2, XRN, ZC, ZE, ZH, eq_self, Nat.reduceLeDiff, Nat.reduceBEq, slV_new, ZS, reduceIte, ↓op_extract, a1]
  with_reducible refine Okr.ret ?_
  exact ⟨⟨i1, g1, rs, i2, g2, log, rfl, k3.get q.e hl1 (by omega), e2, by omega, by have := q.k.1; omega, by omega, q.f, hrs, hinc, h60⟩, kk⟩
structure DrawR (H : AH) (v : Value) (h' : AH) : Prop where
  ex : ∃ i1 g1 rs, v = slV i1 g1 rs.length rs.length ∧ h'[i1]? = some (.row g1 4 (Ru.R rs)) ∧ H.length ≤ i1 ∧ (∀ x ∈ rs, x.F) ∧ rs.length ≤ 9
  k : Keep H.length H h'
theorem r34 (va : Value) (n l : Nat) (h : AH) (r : Cd h va n) (hl : l ≤ h.length) (hn : n ≤ 2 ^ 62) :
    Okr (DrawR h) (run V0 (.fn 34) l [S va] h) := by
  refine okr_fn Try.func34 rfl rfl rfl rfl ?_
  obtain ⟨vb, m, h1, a1, r1, hm, k1⟩ := r58 va n l h r hn
  have hid1 := lt_of_get r1.1
  simp (dsimp := false) (disch := (first | (refine dS ?_; kernel_rfl) | (refine dM ?_; kernel_rfl) | (refine dO ?_; simp (disch := ((try simp only [ZL]) <;> omega)) only [ZK, ZL]; done) | (refine dK ?_; (repeat first | exact Keep.refl _ _ | exact Keep.app _ _ (Nat.le_refl _) | assumption | refine Keep.ap ?_ | refine Keep.st (by first | omega | (simp only [ZL]; omega)) ?_); done) | ((try simp only [ZL]) <;> omega) | fail)) only [XOB, ↓XXs, ↓XD, ↓YX, ZB, Nat.reduceAdd, Nat.reducePow, ↓reduceIte, eq_self, Int.reduceEq, Nat.reduceEqDiff, Nat.reduceMul, Nat.reduceLeDiff, Int.reduceBEq, Int.reduceLT, Try.f34, ↓XH2, XRN, ZC, ZE, ZH, eq_self, Nat.reduceLeDiff, Nat.reduceBEq, slV_new, ZS, reduceIte, ↓op_extract, a1]
  refine okr_call (r59 r1 hl (by omega) (by omega)) ?_
  rintro _ h2 ⟨⟨i1, g1, rs, rfl, q, hrs⟩⟩
  have hi1 := q.hi
  try simp (dsimp := false) (disch := (first | (refine dS ?_; kernel_rfl) | (refine dM ?_; kernel_rfl) | (refine dO ?_; simp (disch := ((try simp only [ZL]) <;> omega)) only [ZK, ZL]; done) | (refine dK ?_; (repeat first | exact Keep.refl _ _ | exact Keep.app _ _ (Nat.le_refl _) | assumption | refine Keep.ap ?_ | refine Keep.st (by first | omega | (simp only [ZL]; omega)) ?_); done) | ((try simp only [ZL]) <;> omega) | fail)) only [XOB, ↓XXs, ↓XD, ↓YX, ZB, Nat.reduceAdd, Nat.reducePow, ↓reduceIte, eq_self, Int.reduceEq, Nat.reduceEqDiff, Nat.reduceMul, Nat.reduceLeDiff, Int.reduceBEq, Int.reduceLT, Try.f34, ↓XH2, XRN, ZC, ZE, ZH, eq_self, Nat.reduceLeDiff, Nat.reduceBEq, slV_new, ZS, reduceIte, ↓op_extract, a1]
  with_reducible refine Okr.ret ?_
  exact ⟨⟨i1, g1, rs, rfl, q.e, by omega, q.f, hrs⟩, k1.trans (Keep.ofKX q.k (by omega) (Nat.le_refl _))⟩
end Go.Abs
namespace Go.Abs
open Go.Proofs
set_option maxRecDepth 100000
theorem eqA_En (x y : En) : eqA V0.P 50 30 x.V y.V = some (decide (B x.room = B y.room) && ((x.seq == y.seq) && ((x.kind == y.kind) && (decide (B x.user = B y.user) && (decide (B x.nick = B y.nick) && (decide (B x.text = B y.text) && (decide (B x.id = B y.id) && (decide (B x.ref = B y.ref) && ((x.num == y.num) && true))))))))) := by kernel_rfl
theorem eqOk_En (x : En) : eqOk V0.P 30 x.V = true := by kernel_rfl
theorem eqA_Ru (x y : Ru) : eqA V0.P 50 53 x.V y.V = some ((x.quiet == y.quiet) && (decide (B x.room = B y.room) && (decide (B x.user = B y.user) && ((x.kind == y.kind) && true)))) := by kernel_rfl
theorem eqOk_Ru (x : Ru) : eqOk V0.P 53 x.V = true := by kernel_rfl
theorem B_dec (a b : Bs) : decide (B a = B b) = decide (a = b) := by rw [decide_eq_decide, B_inj]
theorem eqA_En' (x y : En) : eqA V0.P 50 30 x.V y.V = some (decide (x = y)) := by
  rw [eqA_En]
  simp only [B_dec]
  congr 1
  rw [Bool.eq_iff_iff]
  cases x; cases y
  simp only [Bool.and_eq_true, decide_eq_true_eq, beq_iff_eq, En.mk.injEq, and_true]
theorem eqA_Ru' (x y : Ru) : eqA V0.P 50 53 x.V y.V = some (decide (x = y)) := by
  rw [eqA_Ru]
  simp only [B_dec]
  congr 1
  rw [Bool.eq_iff_iff]
  cases x; cases y
  simp only [Bool.and_eq_true, decide_eq_true_eq, beq_iff_eq, Ru.mk.injEq, and_true]
end Go.Abs
namespace Go.Abs
open Go.Proofs
set_option maxRecDepth 100000
set_option linter.unusedSimpArgs false
set_option linter.unusedVariables false
set_option pp.maxSteps 20000
set_option pp.deepTerms true
theorem binK_neqA {P : Program} {t : TypeId} {a b : Array Value} {act : Option Bool} {K : Value → R} : binK P .neq t (.agg a) (.agg b) act K = chk (eqOk P t (.agg a)) (oE act (eqA P 50 t (.agg a) (.agg b)) false fun q => K (.bool (!q))) := rfl
theorem eqA_EnC (x y : En) : eqA V0.P 50 30 (.agg (En.C x).toArray) (.agg (En.C y).toArray) = some (decide (x = y)) := eqA_En' x y
theorem eqOk_EnC (x : En) : eqOk V0.P 30 (.agg (En.C x).toArray) = true := eqOk_En x
def En.Rw (h : AH) (v : Value) (xs : List En) : Prop :=
  (v = .slice none 0 0 ∧ xs = []) ∨ ∃ id g c ma, v = slV id g xs.length c ∧ h[id]? = some (.row g 9 (En.R (xs ++ ma)))
theorem En.Rw.len {h : AH} {v : Value} {xs : List En} (r : En.Rw h v xs) : lenV v = some (xs.length : Int) := by
  rcases r with ⟨rfl, rfl⟩ | ⟨id, g, c, _, rfl, _⟩ <;> rfl
theorem En.Rw.at {h : AH} {v : Value} {d r : List En} {x : En} (q : En.Rw h v (d ++ x :: r)) : ∃ id g r2, ixAddr v (d.length : Int) 9 = some (pV id (d.length * 9) g) ∧ h[id]? = some (.row g 9 (En.R (d ++ x :: r2))) ∧ id < h.length := by
  rcases q with ⟨_, q⟩ | ⟨id, g, c, ma, rfl, e⟩
  · simp at q
  · exact ⟨id, g, r ++ ma, by rw [ixAddr_sl (by simp)]; simp, by rw [e]; simp, lt_of_get e⟩
theorem En.Rw.keep {h h' : AH} {v : Value} {xs : List En} (q : En.Rw h v xs) (k : Keep h.length h h') : En.Rw h' v xs := by
  rcases q with q | ⟨id, g, c, ma, rfl, e⟩
  · exact .inl q
  · exact .inr ⟨id, g, c, ma, rfl, k.get e (lt_of_get e)⟩
theorem En.Rw.of {h : AH} {id g c : Nat} {xs : List En} (e : h[id]? = some (.row g 9 (En.R xs))) : En.Rw h (slV id g xs.length c) xs := .inr ⟨id, g, c, [], rfl, by simpa using e⟩
def SameQ (b : Bool) (h : AH) (v : Value) (h' : AH) : Prop := v = .bool b ∧ h' = h
theorem L32 (l n : Nat) (a b : Value) (h : AH) (xs ys : List En) (hx : xs.length = n) (hy : ys.length = n) (hn : n ≤ 2 ^ 20) (qa : En.Rw h a xs) (qb : En.Rw h b ys) :
    ∀ (r d r' d' : List En) (i : Int), d ++ r = xs → d' ++ r' = ys → d.length = d'.length → i = d.length → Okr (SameQ (decide (r = r')) h) (L32_0 l a b (iV i) h) := by
  have la := qa.len
  have lb := qb.len
  intro r
  induction r with
  | nil =>
    rintro d r' d' i h1 h2 h3 rfl
    have : r' = [] := List.eq_nil_of_length_eq_zero (by have e1 := congrArg List.length h1; have e2 := congrArg List.length h2; simp at e1 e2; omega)
    subst this
    rw [List.append_nil] at h1
    subst h1
    have hlt : decide ((d.length : Int) < (d.length : Int)) = false := decide_eq_false (by omega)
    refine okr_code Try.func32 rfl rfl ?_
    simp (dsimp := false) (disch := (first | (refine dS ?_; kernel_rfl) | (refine dM ?_; kernel_rfl) | (refine dO ?_; simp (disch := ((try simp only [ZL]) <;> omega)) only [ZK, ZL]; done) | (refine dK ?_; (repeat first | exact Keep.refl _ _ | exact Keep.app _ _ (Nat.le_refl _) | assumption | refine Keep.ap ?_ | refine Keep.st (by first | omega | (simp only [ZL]; omega)) ?_); done) | ((try simp only [ZL]) <;> omega) | fail)) only [XOB, ↓XXs, ↓XD, ↓YX, ZB, Nat.reduceAdd, Nat.reducePow, ↓reduceIte, eq_self, Int.reduceEq, Nat.reduceEqDiff, Nat.reduceMul, Nat.reduceLeDiff, Int.reduceBEq, Int.reduceLT, Try.f32, ↓XH2, XRN, ZC, ZE, ZH, eq_self, Nat.reduceLeDiff, Nat.reduceBEq, slV_new, ZS, reduceIte, ↓op_extract, la, lb, hlt]
    exact Okr.ret ⟨by simp, rfl⟩
  | cons x r ih =>
    rintro d r' d' i h1 h2 h3 rfl
    cases r' with
    | nil => exfalso; have e1 := congrArg List.length h1; have e2 := congrArg List.length h2; simp at e1 e2; omega
    | cons y r' =>
      obtain ⟨p, g, t1, hix, hh, hp⟩ := (h1 ▸ qa : En.Rw h a (d ++ x :: r)).at
      obtain ⟨p2, g2, t2, hix2, hh2, hp2⟩ := (h2 ▸ qb : En.Rw h b (d' ++ y :: r')).at
      have hll : d.length + r.length + 1 = n := by rw [← hx, ← h1]; simp; omega
      have hlt : decide ((d.length : Int) < (xs.length : Int)) = true := decide_eq_true (by omega)
      have hw : IntKind.i64.wrap ((d.length : Int) + 1) = ((d.length + 1 : Nat) : Int) := natCast_succ_wrap (by omega) rfl
      rw [← h3] at hix2
      have c1 := En.get d x t1
      have c2 := En.get d' y t2
      rw [← h3] at c2
      have l1 : d.length * 9 + 9 ≤ (En.R (d ++ x :: t1)).length := by rw [En.R_len]; simp; omega
      have l2 : d.length * 9 + 9 ≤ (En.R (d' ++ y :: t2)).length := by rw [En.R_len]; simp; omega
      refine okr_code Try.func32 rfl rfl ?_
      simp (dsimp := false) (disch := (first | (refine dS ?_; kernel_rfl) | (refine dM ?_; kernel_rfl) | (refine dO ?_; simp (disch := ((try simp only [ZL]) <;> omega)) only [ZK, ZL]; done) | (refine dK ?_; (repeat first | exact Keep.refl _ _ | exact Keep.app _ _ (Nat.le_refl _) | assumption | refine Keep.ap ?_ | refine Keep.st (by first | omega | (simp only [ZL]; omega)) ?_); done) | ((try simp only [ZL]) <;> omega) | fail)) only [XOB, ↓XXs, ↓XD, ↓YX, ZB, Nat.reduceAdd, Nat.reducePow, ↓reduceIte, eq_self, Int.reduceEq, Nat.reduceEqDiff, Nat.reduceMul, Nat.reduceLeDiff, Int.reduceBEq, Int.reduceLT, Try.f32, ↓XH2, XRN, ZC, ZE, ZH, eq_self, Nat.reduceLeDiff, Nat.reduceBEq, slV_new, ZS, reduceIte, ↓op_extract, la, lb, hlt, hix, hix2, hh, hh2, hw, c1, c2, l1, l2, binK_neqA, eqA_EnC, eqOk_EnC]
      refine okr_if (fun t => ?_) (fun t => ?_)
      · have hne : x ≠ y := by simpa using t
        simp (dsimp := false) (disch := (first | (refine dS ?_; kernel_rfl) | (refine dM ?_; kernel_rfl) | (refine dO ?_; simp (disch := ((try simp only [ZL]) <;> omega)) only [ZK, ZL]; done) | (refine dK ?_; (repeat first | exact Keep.refl _ _ | exact Keep.app _ _ (Nat.le_refl _) | assumption | refine Keep.ap ?_ | refine Keep.st (by first | omega | (simp only [ZL]; omega)) ?_); done) | ((try simp only [ZL]) <;> omega) | fail)) only [XOB, ↓XXs, ↓XD, ↓YX, ZB, Nat.reduceAdd, Nat.reducePow, ↓reduceIte, eq_self, Int.reduceEq, Nat.reduceEqDiff, Nat.reduceMul, Nat.reduceLeDiff, Int.reduceBEq, Int.reduceLT, Try.f32, ↓XH2, XRN, ZC, ZE, ZH, eq_self, Nat.reduceLeDiff, Nat.reduceBEq, slV_new, ZS, reduceIte, ↓op_extract, la, lb, hlt, hix, hix2, hh, hh2, hw, c1, c2, l1, l2, binK_neqA, eqA_EnC, eqOk_EnC]
        with_reducible refine Okr.ret ?_
        exact ⟨by simp [hne], rfl⟩
      · have heq : x = y := by simpa using t
        simp (dsimp := false) (disch := (first | (refine dS ?_; kernel_rfl) | (refine dM ?_; kernel_rfl) | (refine dO ?_; simp (disch := ((try simp only [ZL]) <;> omega)) only [ZK, ZL]; done) | (refine dK ?_; (repeat first | exact Keep.refl _ _ | exact Keep.app _ _ (Nat.le_refl _) | assumption | refine Keep.ap ?_ | refine Keep.st (by first | omega | (simp only [ZL]; omega)) ?_); done) | ((try simp only [ZL]) <;> omega) | fail)) only [XOB, ↓XXs, ↓XD, ↓YX, ZB, Nat.reduceAdd, Nat.reducePow, ↓reduceIte, eq_self, Int.reduceEq, Nat.reduceEqDiff, Nat.reduceMul, Nat.reduceLeDiff, Int.reduceBEq, Int.reduceLT, Try.f32, ↓XH2, XRN, ZC, ZE, ZH, eq_self, Nat.reduceLeDiff, Nat.reduceBEq, slV_new, ZS, reduceIte, ↓op_extract, la, lb, hlt, hix, hix2, hh, hh2, hw, c1, c2, l1, l2, binK_neqA, eqA_EnC, eqOk_EnC]
        have := ih (d ++ [x]) r' (d' ++ [y]) ((d.length + 1 : Nat) : Int) (by simp [h1]) (by simp [h2]) (by simp [h3]) (by simp)
        rw [show decide (x :: r = y :: r') = decide (r = r') by simp [heq]]
        exact this
theorem r32 (l : Nat) (a b : Value) (h : AH) (xs ys : List En) (hx : xs.length ≤ 2 ^ 20) (hy : ys.length ≤ 2 ^ 20) (qa : En.Rw h a xs) (qb : En.Rw h b ys) :
    run V0 (.fn 32) l [S a, S b] h = some (.ret (.bool (decide (xs = ys))) h) := by
  have la := qa.len
  have lb := qb.len
  have key : Okr (SameQ (decide (xs = ys)) h) (run V0 (.fn 32) l [S a, S b] h) := by
    refine okr_fn Try.func32 rfl rfl rfl rfl ?_
    simp (dsimp := false) (disch := (first | (refine dS ?_; kernel_rfl) | (refine dM ?_; kernel_rfl) | (refine dO ?_; simp (disch := ((try simp only [ZL]) <;> omega)) only [ZK, ZL]; done) | (refine dK ?_; (repeat first | exact Keep.refl _ _ | exact Keep.app _ _ (Nat.le_refl _) | assumption | refine Keep.ap ?_ | refine Keep.st (by first | omega | (simp only [ZL]; omega)) ?_); done) | ((try simp only [ZL]) <;> omega) | fail)) only [XOB, ↓XXs, ↓XD, ↓YX, ZB, Nat.reduceAdd, Nat.reducePow, ↓reduceIte, eq_self, Int.reduceEq, Nat.reduceEqDiff, Nat.reduceMul, Nat.reduceLeDiff, Int.reduceBEq, Int.reduceLT, Try.f32, ↓XH2, XRN, ZC, ZE, ZH, eq_self, Nat.reduceLeDiff, Nat.reduceBEq, slV_new, ZS, reduceIte, ↓op_extract, la, lb]
    refine okr_if (fun t => ?_) (fun t => ?_)
    · have hne : xs ≠ ys := by rintro rfl; simp at t
      simp (dsimp := false) (disch := (first | (refine dS ?_; kernel_rfl) | (refine dM ?_; kernel_rfl) | (refine dO ?_; simp (disch := ((try simp only [ZL]) <;> omega)) only [ZK, ZL]; done) | (refine dK ?_; (repeat first | exact Keep.refl _ _ | exact Keep.app _ _ (Nat.le_refl _) | assumption | refine Keep.ap ?_ | refine Keep.st (by first | omega | (simp only [ZL]; omega)) ?_); done) | ((try simp only [ZL]) <;> omega) | fail)) only [XOB, ↓XXs, ↓XD, ↓YX, ZB, Nat.reduceAdd, Nat.reducePow, ↓reduceIte, eq_self, Int.reduceEq, Nat.reduceEqDiff, Nat.reduceMul, Nat.reduceLeDiff, Int.reduceBEq, Int.reduceLT, Try.f32, ↓XH2, XRN, ZC, ZE, ZH, eq_self, Nat.reduceLeDiff, Nat.reduceBEq, slV_new, ZS, reduceIte, ↓op_extract, la, lb]
      with_reducible refine Okr.ret ?_
      exact ⟨by simp [hne], rfl⟩
    · have heq : xs.length = ys.length := by have : ((xs.length : Int) = ys.length) := by simpa using t
                                             omega
      simp (dsimp := false) (disch := (first | (refine dS ?_; kernel_rfl) | (refine dM ?_; kernel_rfl) | (refine dO ?_; simp (disch := ((try simp only [ZL]) <;> omega)) only [ZK, ZL]; done) | (refine dK ?_; (repeat first | exact Keep.refl _ _ | exact Keep.app _ _ (Nat.le_refl _) | assumption | refine Keep.ap ?_ | refine Keep.st (by first | omega | (simp only [ZL]; omega)) ?_); done) | ((try simp only [ZL]) <;> omega) | fail)) only [XOB, ↓XXs, ↓XD, ↓YX, ZB, Nat.reduceAdd, Nat.reducePow, ↓reduceIte, eq_self, Int.reduceEq, Nat.reduceEqDiff, Nat.reduceMul, Nat.reduceLeDiff, Int.reduceBEq, Int.reduceLT, Try.f32, ↓XH2, XRN, ZC, ZE, ZH, eq_self, Nat.reduceLeDiff, Nat.reduceBEq, slV_new, ZS, reduceIte, ↓op_extract, la, lb]
      exact L32 l xs.length a b h xs ys rfl heq.symm hx qa qb xs [] ys [] 0 rfl rfl rfl rfl
  obtain ⟨v, h', e, rfl, rfl⟩ := key
  exact e
theorem eqA_RuC (x y : Ru) : eqA V0.P 50 53 (.agg (Ru.C x).toArray) (.agg (Ru.C y).toArray) = some (decide (x = y)) := eqA_Ru' x y
theorem eqOk_RuC (x : Ru) : eqOk V0.P 53 (.agg (Ru.C x).toArray) = true := eqOk_Ru x
def Ru.Rw (h : AH) (v : Value) (xs : List Ru) : Prop :=
  (v = .slice none 0 0 ∧ xs = []) ∨ ∃ id g c ma, v = slV id g xs.length c ∧ h[id]? = some (.row g 4 (Ru.R (xs ++ ma)))
theorem Ru.Rw.len {h : AH} {v : Value} {xs : List Ru} (r : Ru.Rw h v xs) : lenV v = some (xs.length : Int) := by
  rcases r with ⟨rfl, rfl⟩ | ⟨id, g, c, _, rfl, _⟩ <;> rfl
theorem Ru.Rw.at {h : AH} {v : Value} {d r : List Ru} {x : Ru} (q : Ru.Rw h v (d ++ x :: r)) : ∃ id g r2, ixAddr v (d.length : Int) 4 = some (pV id (d.length * 4) g) ∧ h[id]? = some (.row g 4 (Ru.R (d ++ x :: r2))) ∧ id < h.length := by
  rcases q with ⟨_, q⟩ | ⟨id, g, c, ma, rfl, e⟩
  · simp at q
  · exact ⟨id, g, r ++ ma, by rw [ixAddr_sl (by simp)]; simp, by rw [e]; simp, lt_of_get e⟩
theorem Ru.Rw.keep {h h' : AH} {v : Value} {xs : List Ru} (q : Ru.Rw h v xs) (k : Keep h.length h h') : Ru.Rw h' v xs := by
  rcases q with q | ⟨id, g, c, ma, rfl, e⟩
  · exact .inl q
  · exact .inr ⟨id, g, c, ma, rfl, k.get e (lt_of_get e)⟩
theorem Ru.Rw.of {h : AH} {id g c : Nat} {xs : List Ru} (e : h[id]? = some (.row g 4 (Ru.R xs))) : Ru.Rw h (slV id g xs.length c) xs := .inr ⟨id, g, c, [], rfl, by simpa using e⟩
theorem L35 (l n : Nat) (a b : Value) (h : AH) (xs ys : List Ru) (hx : xs.length = n) (hy : ys.length = n) (hn : n ≤ 2 ^ 20) (qa : Ru.Rw h a xs) (qb : Ru.Rw h b ys) :
    ∀ (r d r' d' : List Ru) (i : Int), d ++ r = xs → d' ++ r' = ys → d.length = d'.length → i = d.length → Okr (SameQ (decide (r = r')) h) (L35_0 l a b (iV i) h) := by
  have la := qa.len
  have lb := qb.len
  intro r
  induction r with
  | nil =>
    rintro d r' d' i h1 h2 h3 rfl
    have : r' = [] := List.eq_nil_of_length_eq_zero (by have e1 := congrArg List.length h1; have e2 := congrArg List.length h2; simp at e1 e2; omega)
    subst this
    rw [List.append_nil] at h1
    subst h1
    have hlt : decide ((d.length : Int) < (d.length : Int)) = false := decide_eq_false (by omega)
    refine okr_code Try.func35 rfl rfl ?_
    simp (dsimp := false) (disch := (first | (refine dS ?_; kernel_rfl) | (refine dM ?_; kernel_rfl) | (refine dO ?_; simp (disch := ((try simp only [ZL]) <;> omega)) only [ZK, ZL]; done) | (refine dK ?_; (repeat first | exact Keep.refl _ _ | exact Keep.app _ _ (Nat.le_refl _) | assumption | refine Keep.ap ?_ | refine Keep.st (by first | omega | (simp only [ZL]; omega)) ?_); done) | ((try simp only [ZL]) <;> omega) | fail)) only [XOB, ↓XXs, ↓XD, ↓YX, ZB, Nat.reduceAdd, Nat.reducePow, ↓reduceIte, eq_self, Int.reduceEq, Nat.reduceEqDiff, Nat.reduceMul, Nat.reduceLeDiff, Int.reduceBEq, Int.reduceLT, Try.f35, ↓XH2, XRN, ZC, ZE, ZH, eq_self, Nat.reduceLeDiff, Nat.reduceBEq, slV_new, ZS, reduceIte, ↓op_extract, la, lb, hlt]
    exact Okr.ret ⟨by simp, rfl⟩
  | cons x r ih =>
    rintro d r' d' i h1 h2 h3 rfl
    cases r' with
    | nil => exfalso; have e1 := congrArg List.length h1; have e2 := congrArg List.length h2; simp at e1 e2; omega
    | cons y r' =>
      obtain ⟨p, g, t1, hix, hh, hp⟩ := (h1 ▸ qa : Ru.Rw h a (d ++ x :: r)).at
      obtain ⟨p2, g2, t2, hix2, hh2, hp2⟩ := (h2 ▸ qb : Ru.Rw h b (d' ++ y :: r')).at
      have hll : d.length + r.length + 1 = n := by rw [← hx, ← h1]; simp; omega
      have hlt : decide ((d.length : Int) < (xs.length : Int)) = true := decide_eq_true (by omega)
      have hw : IntKind.i64.wrap ((d.length : Int) + 1) = ((d.length + 1 : Nat) : Int) := natCast_succ_wrap (by omega) rfl
      rw [← h3] at hix2
      have c1 := Ru.get d x t1
      have c2 := Ru.get d' y t2
      rw [← h3] at c2
      have l1 : d.length * 4 + 4 ≤ (Ru.R (d ++ x :: t1)).length := by rw [Ru.R_len]; simp; omega
      have l2 : d.length * 4 + 4 ≤ (Ru.R (d' ++ y :: t2)).length := by rw [Ru.R_len]; simp; omega
      refine okr_code Try.func35 rfl rfl ?_
      simp (dsimp := false) (disch := (first | (refine dS ?_; kernel_rfl) | (refine dM ?_; kernel_rfl) | (refine dO ?_; simp (disch := ((try simp only [ZL]) <;> omega)) only [ZK, ZL]; done) | (refine dK ?_; (repeat first | exact Keep.refl _ _ | exact Keep.app _ _ (Nat.le_refl _) | assumption | refine Keep.ap ?_ | refine Keep.st (by first | omega | (simp only [ZL]; omega)) ?_); done) | ((try simp only [ZL]) <;> omega) | fail)) only [XOB, ↓XXs, ↓XD, ↓YX, ZB, Nat.reduceAdd, Nat.reducePow, ↓reduceIte, eq_self, Int.reduceEq, Nat.reduceEqDiff, Nat.reduceMul, Nat.reduceLeDiff, Int.reduceBEq, Int.reduceLT, Try.f35, ↓XH2, XRN, ZC, ZE, ZH, eq_self, Nat.reduceLeDiff, Nat.reduceBEq, slV_new, ZS, reduceIte, ↓op_extract, la, lb, hlt, hix, hix2, hh, hh2, hw, c1, c2, l1, l2, binK_neqA, eqA_RuC, eqOk_RuC]
      refine okr_if (fun t => ?_) (fun t => ?_)
      · have hne : x ≠ y := by simpa using t
        simp (dsimp := false) (disch := (first | (refine dS ?_; kernel_rfl) | (refine dM ?_; kernel_rfl) | (refine dO ?_; simp (disch := ((try simp only [ZL]) <;> omega)) only [ZK, ZL]; done) | (refine dK ?_; (repeat first | exact Keep.refl _ _ | exact Keep.app _ _ (Nat.le_refl _) | assumption | refine Keep.ap ?_ | refine Keep.st (by first | omega | (simp only [ZL]; omega)) ?_); done) | ((try simp only [ZL]) <;> omega) | fail)) only [XOB, ↓XXs, ↓XD, ↓YX, ZB, Nat.reduceAdd, Nat.reducePow, ↓reduceIte, eq_self, Int.reduceEq, Nat.reduceEqDiff, Nat.reduceMul, Nat.reduceLeDiff, Int.reduceBEq, Int.reduceLT, Try.f35, ↓XH2, XRN, ZC, ZE, ZH, eq_self, Nat.reduceLeDiff, Nat.reduceBEq, slV_new, ZS, reduceIte, ↓op_extract, la, lb, hlt, hix, hix2, hh, hh2, hw, c1, c2, l1, l2, binK_neqA, eqA_RuC, eqOk_RuC]
        with_reducible refine Okr.ret ?_
        exact ⟨by simp [hne], rfl⟩
      · have heq : x = y := by simpa using t
        simp (dsimp := false) (disch := (first | (refine dS ?_; kernel_rfl) | (refine dM ?_; kernel_rfl) | (refine dO ?_; simp (disch := ((try simp only [ZL]) <;> omega)) only [ZK, ZL]; done) | (refine dK ?_; (repeat first | exact Keep.refl _ _ | exact Keep.app _ _ (Nat.le_refl _) | assumption | refine Keep.ap ?_ | refine Keep.st (by first | omega | (simp only [ZL]; omega)) ?_); done) | ((try simp only [ZL]) <;> omega) | fail)) only [XOB, ↓XXs, ↓XD, ↓YX, ZB, Nat.reduceAdd, Nat.reducePow, ↓reduceIte, eq_self, Int.reduceEq, Nat.reduceEqDiff, Nat.reduceMul, Nat.reduceLeDiff, Int.reduceBEq, Int.reduceLT, Try.f35, ↓XH2, XRN, ZC, ZE, ZH, eq_self, Nat.reduceLeDiff, Nat.reduceBEq, slV_new, ZS, reduceIte, ↓op_extract, la, lb, hlt, hix, hix2, hh, hh2, hw, c1, c2, l1, l2, binK_neqA, eqA_RuC, eqOk_RuC]
        have := ih (d ++ [x]) r' (d' ++ [y]) ((d.length + 1 : Nat) : Int) (by simp [h1]) (by simp [h2]) (by simp [h3]) (by simp)
        rw [show decide (x :: r = y :: r') = decide (r = r') by simp [heq]]
        exact this
theorem r35 (l : Nat) (a b : Value) (h : AH) (xs ys : List Ru) (hx : xs.length ≤ 2 ^ 20) (hy : ys.length ≤ 2 ^ 20) (qa : Ru.Rw h a xs) (qb : Ru.Rw h b ys) :
    run V0 (.fn 35) l [S a, S b] h = some (.ret (.bool (decide (xs = ys))) h) := by
  have la := qa.len
  have lb := qb.len
  have key : Okr (SameQ (decide (xs = ys)) h) (run V0 (.fn 35) l [S a, S b] h) := by
    refine okr_fn Try.func35 rfl rfl rfl rfl ?_
    simp (dsimp := false) (disch := (first | (refine dS ?_; kernel_rfl) | (refine dM ?_; kernel_rfl) | (refine dO ?_; simp (disch := ((try simp only [ZL]) <;> omega)) only [ZK, ZL]; done) | (refine dK ?_; (repeat first | exact Keep.refl _ _ | exact Keep.app _ _ (Nat.le_refl _) | assumption | refine Keep.ap ?_ | refine Keep.st (by first | omega | (simp only [ZL]; omega)) ?_); done) | ((try simp only [ZL]) <;> omega) | fail)) only [XOB, ↓XXs, ↓XD, ↓YX, ZB, Nat.reduceAdd, Nat.reducePow, ↓reduceIte, eq_self, Int.reduceEq, Nat.reduceEqDiff, Nat.reduceMul, Nat.reduceLeDiff, Int.reduceBEq, Int.reduceLT, Try.f35, ↓XH2, XRN, ZC, ZE, ZH, eq_self, Nat.reduceLeDiff, Nat.reduceBEq, slV_new, ZS, reduceIte, ↓op_extract, la, lb]
    refine okr_if (fun t => ?_) (fun t => ?_)
    · have hne : xs ≠ ys := by rintro rfl; simp at t
      simp (dsimp := false) (disch := (first | (refine dS ?_; kernel_rfl) | (refine dM ?_; kernel_rfl) | (refine dO ?_; simp (disch := ((try simp only [ZL]) <;> omega)) only [ZK, ZL]; done) | (refine dK ?_; (repeat first | exact Keep.refl _ _ | exact Keep.app _ _ (Nat.le_refl _) | assumption | refine Keep.ap ?_ | refine Keep.st (by first | omega | (simp only [ZL]; omega)) ?_); done) | ((try simp only [ZL]) <;> omega) | fail)) only [XOB, ↓XXs, ↓XD, ↓YX, ZB, Nat.reduceAdd, Nat.reducePow, ↓reduceIte, eq_self, Int.reduceEq, Nat.reduceEqDiff, Nat.reduceMul, Nat.reduceLeDiff, Int.reduceBEq, Int.reduceLT, Try.f35, ↓XH2, XRN, ZC, ZE, ZH, eq_self, Nat.reduceLeDiff, Nat.reduceBEq, slV_new, ZS, reduceIte, ↓op_extract, la, lb]
      with_reducible refine Okr.ret ?_
      exact ⟨by simp [hne], rfl⟩
    · have heq : xs.length = ys.length := by have : ((xs.length : Int) = ys.length) := by simpa using t
                                             omega
      simp (dsimp := false) (disch := (first | (refine dS ?_; kernel_rfl) | (refine dM ?_; kernel_rfl) | (refine dO ?_; simp (disch := ((try simp only [ZL]) <;> omega)) only [ZK, ZL]; done) | (refine dK ?_; (repeat first | exact Keep.refl _ _ | exact Keep.app _ _ (Nat.le_refl _) | assumption | refine Keep.ap ?_ | refine Keep.st (by first | omega | (simp only [ZL]; omega)) ?_); done) | ((try simp only [ZL]) <;> omega) | fail)) only [XOB, ↓XXs, ↓XD, ↓YX, ZB, Nat.reduceAdd, Nat.reducePow, ↓reduceIte, eq_self, Int.reduceEq, Nat.reduceEqDiff, Nat.reduceMul, Nat.reduceLeDiff, Int.reduceBEq, Int.reduceLT, Try.f35, ↓XH2, XRN, ZC, ZE, ZH, eq_self, Nat.reduceLeDiff, Nat.reduceBEq, slV_new, ZS, reduceIte, ↓op_extract, la, lb]
      exact L35 l xs.length a b h xs ys rfl heq.symm hx qa qb xs [] ys [] 0 rfl rfl rfl rfl
  obtain ⟨v, h', e, rfl, rfl⟩ := key
  exact e
end Go.Abs
namespace Go.Abs
open Go.Proofs
set_option maxRecDepth 100000
set_option linter.unusedSimpArgs false
set_option linter.unusedVariables false
set_option pp.maxSteps 20000
set_option pp.deepTerms true
theorem En.Rw.ofRt {h : AH} {l : Nat} {v : Value} {xs : List En} (r : En.Rt h l v xs) : En.Rw h v xs := by
  rcases r with q | ⟨id, g, c, ma, e1, e2, _⟩
  · exact .inl q
  · exact .inr ⟨id, g, c, ma, e1, e2⟩
theorem rshow_filt (xs : List Ru) (es : List En) : es.filter (rshow xs) = filtL xs es := by
  unfold filtL rshow
  split <;> rename_i hq
  · congr 1; funext e; simp [hq]
  · rw [List.filter_eq_nil_iff]; intro e _; simp [hq]
theorem filt_filt (xs : List Ru) (es : List En) : filtL xs (filtL xs es) = filtL xs es := by
  unfold filtL
  split
  · rw [List.filter_filter]; congr 1; funext e; simp
  · rfl
theorem Ru.F.fit {x : Ru} (f : x.F) : x.Fit := ⟨by have := f.1; omega, by have := f.2; omega⟩
def TrueQ (v : Value) (h' : AH) : Prop := v = .bool true
theorem En.Rw.rt {h : AH} {v : Value} {xs : List En} (r : En.Rw h v xs) : En.Rt h 0 v xs := by
  rcases r with q | ⟨id, g, c, ma, e1, e2⟩
  · exact .inl q
  · exact .inr ⟨id, g, c, ma, e1, e2, Nat.zero_le _⟩
theorem L7 (l i1 g1 i2 g2 : Nat) (rs : List Ru) (log : List En) (v5 : Value) (H0 : AH) (fr : ∀ x ∈ rs, x.Fit) (h9 : rs.length ≤ 9) (h60 : log.length ≤ 60) (e1 : H0[i1]? = some (.row g1 4 (Ru.R rs))) (e2 : H0[i2]? = some (.row g2 9 (En.R log))) (w5 : En.Rw H0 v5 (filtL rs log)) (hl : l ≤ H0.length) :
    ∀ (r d : List En), d ++ r = log → ∀ (iw g no : Nat) (i : Int) (out : List En) (h : AH), Keep H0.length H0 h → H0.length ≤ iw → h[iw]? = some (.row g 9 (En.R out)) → out = d.filter (rshow rs) → no = out.length → i = d.length →
      Okr TrueQ (L7_0 l (slV i1 g1 rs.length rs.length) (slV i2 g2 log.length log.length) v5 (slV iw g no no) (iV i) h) := by
  intro r
  induction r with
  | nil =>
    rintro d hd iw g no i out h k hiw ew rfl rfl rfl
    rw [List.append_nil] at hd
    subst hd
    have hfl := filtL_len rs d
    have hk := k.1
    have w := w5.keep k
    have a1 := r32 l v5 (slV iw g (d.filter (rshow rs)).length (d.filter (rshow rs)).length) h _ _ (by omega) (by rw [rshow_filt]; omega) w (En.Rw.of ew)
    rw [decide_eq_true (rshow_filt rs d).symm] at a1
    obtain ⟨v3, h3, a3, rt3, k3⟩ := r27 i1 g1 rs.length l 0 v5 rs (filtL rs d) h (by omega) (by omega) fr (k.get e1 (lt_of_get e1)) w.rt (by omega)
    have a4 := r32 l v3 v5 h3 _ _ (by rw [filt_filt]; omega) (by omega) (En.Rw.ofRt rt3) (w.keep k3)
    rw [decide_eq_true (filt_filt rs d)] at a4
    have hlt : decide ((d.length : Int) < (d.length : Int)) = false := decide_eq_false (by omega)
    refine okr_code Try.func7 rfl rfl ?_
    simp (dsimp := false) (disch := (first | (refine dS ?_; kernel_rfl) | (refine dM ?_; kernel_rfl) | (refine dO ?_; simp (disch := ((try simp only [ZL]) <;> omega)) only [ZK, ZL]; done) | (refine dK ?_; (repeat first | exact Keep.refl _ _ | exact Keep.app _ _ (Nat.le_refl _) | assumption | refine Keep.ap ?_ | refine Keep.st (by first | omega | (simp only [ZL]; omega)) ?_); done) | ((try simp only [ZL]) <;> omega) | fail)) only [XOB, ↓XXs, ↓XD, ↓YX, ZB, Nat.reduceAdd, Nat.reducePow, ↓reduceIte, eq_self, Int.reduceEq, Nat.reduceEqDiff, Nat.reduceMul, Nat.reduceLeDiff, Int.reduceBEq, Int.reduceLT, Try.f7, ↓XH2, XRN, ZC, ZE, ZH, eq_self, Nat.reduceLeDiff, Nat.reduceBEq, slV_new, ZS, reduceIte, ↓op_extract, hlt, a1, a3, a4]
    with_reducible refine Okr.ret ?_
    rfl
  | cons x r ih =>
    rintro d hd iw g no i out h k hiw ew rfl rfl rfl
    have hk := k.1
    have hdl : d.length + r.length + 1 = log.length := by rw [← hd]; simp; omega
    have hlt : decide ((d.length : Int) < (log.length : Int)) = true := decide_eq_true (by omega)
    have hw : IntKind.i64.wrap ((d.length : Int) + 1) = ((d.length + 1 : Nat) : Int) := natCast_succ_wrap (by omega) rfl
    have hix : ixAddr (slV i2 g2 log.length log.length) (d.length : Int) 9 = some (pV i2 (d.length * 9) g2) := by rw [ixAddr_sl (by omega)]; simp
    have e1h := k.get e1 (lt_of_get e1)
    have e2h := k.get e2 (lt_of_get e2)
    have c1 : ((En.R log).drop (d.length * 9)).take 9 = En.C x := by rw [← hd]; exact En.get d x r
    have l1 : d.length * 9 + 9 ≤ (En.R log).length := by rw [En.R_len]; omega
    obtain ⟨h3, a3, k3⟩ := r16 i1 g1 rs.length l rs x h (by omega) fr e1h
    have k03 : Keep H0.length H0 h3 := k.trans (k3.le hk)
    have ew3 := k3.get ew (lt_of_get ew)
    have e2h3 := k3.get e2h (lt_of_get e2h)
    have hi3 := lt_of_get ew3
    have hi23 := lt_of_get e2h3
    have hi20 := lt_of_get e2
    refine okr_code Try.func7 rfl rfl ?_
    simp (dsimp := false) (disch := (first | (refine dS ?_; kernel_rfl) | (refine dM ?_; kernel_rfl) | (refine dO ?_; simp (disch := ((try simp only [ZL]) <;> omega)) only [ZK, ZL]; done) | (refine dK ?_; (repeat first | exact Keep.refl _ _ | exact Keep.app _ _ (Nat.le_refl _) | assumption | refine Keep.ap ?_ | refine Keep.st (by first | omega | (simp only [ZL]; omega)) ?_); done) | ((try simp only [ZL]) <;> omega) | fail)) only [XOB, ↓XXs, ↓XD, ↓YX, ZB, Nat.reduceAdd, Nat.reducePow, ↓reduceIte, eq_self, Int.reduceEq, Nat.reduceEqDiff, Nat.reduceMul, Nat.reduceLeDiff, Int.reduceBEq, Int.reduceLT, Try.f7, ↓XH2, XRN, ZC, ZE, ZH, eq_self, Nat.reduceLeDiff, Nat.reduceBEq, slV_new, ZS, reduceIte, ↓op_extract, hlt, hw, hix, e2h, e2h3, c1, l1, a3]
    refine okr_if (fun t => ?_) (fun t => ?_)
    · simp (dsimp := false) (disch := (first | (refine dS ?_; kernel_rfl) | (refine dM ?_; kernel_rfl) | (refine dO ?_; simp (disch := ((try simp only [ZL]) <;> omega)) only [ZK, ZL]; done) | (refine dK ?_; (repeat first | exact Keep.refl _ _ | exact Keep.app _ _ (Nat.le_refl _) | assumption | refine Keep.ap ?_ | refine Keep.st (by first | omega | (simp only [ZL]; omega)) ?_); done) | ((try simp only [ZL]) <;> omega) | fail)) only [XOB, ↓XXs, ↓XD, ↓YX, ZB, Nat.reduceAdd, Nat.reducePow, ↓reduceIte, eq_self, Int.reduceEq, Nat.reduceEqDiff, Nat.reduceMul, Nat.reduceLeDiff, Int.reduceBEq, Int.reduceLT, Try.f7, ↓XH2, XRN, ZC, ZE, ZH, eq_self, Nat.reduceLeDiff, Nat.reduceBEq, slV_new, ZS, reduceIte, ↓op_extract, hlt, hw, hix, e2h, e2h3, c1, l1, a3]
      refine okr_opt (En.app3 (os := d.filter (rshow rs)) x (by simp (disch := (first | (refine dS ?_; kernel_rfl) | (refine dM ?_; kernel_rfl) | (refine dO ?_; simp (disch := ((try simp only [ZL]) <;> omega)) only [ZK, ZL]; done) | (refine dK ?_; (repeat first | exact Keep.refl _ _ | exact Keep.app _ _ (Nat.le_refl _) | assumption | refine Keep.ap ?_ | refine Keep.st (by first | omega | (simp only [ZL]; omega)) ?_); done) | ((try simp only [ZL]) <;> omega) | fail)) only [↓XH2, XRN, ZC, ZE, ZH, eq_self, Nat.reduceLeDiff, Nat.reduceBEq, ew3]) (by simp (disch := (first | (refine dS ?_; kernel_rfl) | (refine dM ?_; kernel_rfl) | (refine dO ?_; simp (disch := ((try simp only [ZL]) <;> omega)) only [ZK, ZL]; done) | (refine dK ?_; (repeat first | exact Keep.refl _ _ | exact Keep.app _ _ (Nat.le_refl _) | assumption | refine Keep.ap ?_ | refine Keep.st (by first | omega | (simp only [ZL]; omega)) ?_); done) | ((try simp only [ZL]) <;> omega) | fail)) only [↓XH2, XRN, ZC, ZE, ZH, eq_self, Nat.reduceLeDiff, Nat.reduceBEq] <;> rfl) rfl rfl (by first | rfl | omega | (simp (disch := (first | (refine dS ?_; kernel_rfl) | (refine dM ?_; kernel_rfl) | (refine dO ?_; simp (disch := ((try simp only [ZL]) <;> omega)) only [ZK, ZL]; done) | (refine dK ?_; (repeat first | exact Keep.refl _ _ | exact Keep.app _ _ (Nat.le_refl _) | assumption | refine Keep.ap ?_ | refine Keep.st (by first | omega | (simp only [ZL]; omega)) ?_); done) | ((try simp only [ZL]) <;> omega) | fail)) only [ZK, ZL, ZR] <;> omega) | fail) (by have := List.length_filter_le (rshow rs) d; omega) rfl) ?_
      rintro _ ⟨g4, rfl⟩
      simp (dsimp := false) (disch := (first | (refine dS ?_; kernel_rfl) | (refine dM ?_; kernel_rfl) | (refine dO ?_; simp (disch := ((try simp only [ZL]) <;> omega)) only [ZK, ZL]; done) | (refine dK ?_; (repeat first | exact Keep.refl _ _ | exact Keep.app _ _ (Nat.le_refl _) | assumption | refine Keep.ap ?_ | refine Keep.st (by first | omega | (simp only [ZL]; omega)) ?_); done) | ((try simp only [ZL]) <;> omega) | fail)) only [XOB, ↓XXs, ↓XD, ↓YX, ZB, Nat.reduceAdd, Nat.reducePow, ↓reduceIte, eq_self, Int.reduceEq, Nat.reduceEqDiff, Nat.reduceMul, Nat.reduceLeDiff, Int.reduceBEq, Int.reduceLT, Try.f7, ↓XH2, XRN, ZC, ZE, ZH, eq_self, Nat.reduceLeDiff, Nat.reduceBEq, slV_new, ZS, reduceIte, ↓op_extract, hlt, hw, hix, e2h, e2h3, c1, l1, a3]
      exact ih (d ++ [x]) (by simp [hd]) iw g4 ((d.filter (rshow rs)).length + 1) _ (d.filter (rshow rs) ++ [x]) _ (k03.trans ((Keep.set h3 iw _ hiw).trans (Keep.app _ _ (by rw [List.length_set]; exact k03.1)))) hiw (by simp (disch := (first | (refine dS ?_; kernel_rfl) | (refine dM ?_; kernel_rfl) | (refine dO ?_; simp (disch := ((try simp only [ZL]) <;> omega)) only [ZK, ZL]; done) | (refine dK ?_; (repeat first | exact Keep.refl _ _ | exact Keep.app _ _ (Nat.le_refl _) | assumption | refine Keep.ap ?_ | refine Keep.st (by first | omega | (simp only [ZL]; omega)) ?_); done) | ((try simp only [ZL]) <;> omega) | fail)) only [↓XH2, XRN, ZC, ZE, ZH, eq_self, Nat.reduceLeDiff, Nat.reduceBEq]) (by simp [List.filter_append, t]) (by simp) (by simp)
    · simp (dsimp := false) (disch := (first | (refine dS ?_; kernel_rfl) | (refine dM ?_; kernel_rfl) | (refine dO ?_; simp (disch := ((try simp only [ZL]) <;> omega)) only [ZK, ZL]; done) | (refine dK ?_; (repeat first | exact Keep.refl _ _ | exact Keep.app _ _ (Nat.le_refl _) | assumption | refine Keep.ap ?_ | refine Keep.st (by first | omega | (simp only [ZL]; omega)) ?_); done) | ((try simp only [ZL]) <;> omega) | fail)) only [XOB, ↓XXs, ↓XD, ↓YX, ZB, Nat.reduceAdd, Nat.reducePow, ↓reduceIte, eq_self, Int.reduceEq, Nat.reduceEqDiff, Nat.reduceMul, Nat.reduceLeDiff, Int.reduceBEq, Int.reduceLT, Try.f7, ↓XH2, XRN, ZC, ZE, ZH, eq_self, Nat.reduceLeDiff, Nat.reduceBEq, slV_new, ZS, reduceIte, ↓op_extract, hlt, hw, hix, e2h, e2h3, c1, l1, a3]
      exact ih (d ++ [x]) (by simp [hd]) iw g _ _ (d.filter (rshow rs)) h3 k03 hiw ew3 (by simp [List.filter_append, t]) rfl (by simp)
theorem r7 (va : Value) (n l : Nat) (h : AH) (r : Cd h va n) (hl : l ≤ h.length) :
    Okr TrueQ (run V0 (.fn 7) l [S va] h) := by
  have lv := r.len
  refine okr_fn Try.func7 rfl rfl rfl rfl ?_
  simp (dsimp := false) (disch := (first | (refine dS ?_; kernel_rfl) | (refine dM ?_; kernel_rfl) | (refine dO ?_; simp (disch := ((try simp only [ZL]) <;> omega)) only [ZK, ZL]; done) | (refine dK ?_; (repeat first | exact Keep.refl _ _ | exact Keep.app _ _ (Nat.le_refl _) | assumption | refine Keep.ap ?_ | refine Keep.st (by first | omega | (simp only [ZL]; omega)) ?_); done) | ((try simp only [ZL]) <;> omega) | fail)) only [XOB, ↓XXs, ↓XD, ↓YX, ZB, Nat.reduceAdd, Nat.reducePow, ↓reduceIte, eq_self, Int.reduceEq, Nat.reduceEqDiff, Nat.reduceMul, Nat.reduceLeDiff, Int.reduceBEq, Int.reduceLT, Try.f7, ↓XH2, XRN, ZC, ZE, ZH, eq_self, Nat.reduceLeDiff, Nat.reduceBEq, slV_new, ZS, reduceIte, ↓op_extract, lv]
  refine okr_if (fun t => ?_) (fun t => ?_)
  · simp (dsimp := false) (disch := (first | (refine dS ?_; kernel_rfl) | (refine dM ?_; kernel_rfl) | (refine dO ?_; simp (disch := ((try simp only [ZL]) <;> omega)) only [ZK, ZL]; done) | (refine dK ?_; (repeat first | exact Keep.refl _ _ | exact Keep.app _ _ (Nat.le_refl _) | assumption | refine Keep.ap ?_ | refine Keep.st (by first | omega | (simp only [ZL]; omega)) ?_); done) | ((try simp only [ZL]) <;> omega) | fail)) only [XOB, ↓XXs, ↓XD, ↓YX, ZB, Nat.reduceAdd, Nat.reducePow, ↓reduceIte, eq_self, Int.reduceEq, Nat.reduceEqDiff, Nat.reduceMul, Nat.reduceLeDiff, Int.reduceBEq, Int.reduceLT, Try.f7, ↓XH2, XRN, ZC, ZE, ZH, eq_self, Nat.reduceLeDiff, Nat.reduceBEq, slV_new, ZS, reduceIte, ↓op_extract, lv]
    with_reducible refine Okr.ret ?_
    rfl
  · have hn : n ≤ 2 ^ 20 := by have := of_decide_eq_false t; omega
    simp (dsimp := false) (disch := (first | (refine dS ?_; kernel_rfl) | (refine dM ?_; kernel_rfl) | (refine dO ?_; simp (disch := ((try simp only [ZL]) <;> omega)) only [ZK, ZL]; done) | (refine dK ?_; (repeat first | exact Keep.refl _ _ | exact Keep.app _ _ (Nat.le_refl _) | assumption | refine Keep.ap ?_ | refine Keep.st (by first | omega | (simp only [ZL]; omega)) ?_); done) | ((try simp only [ZL]) <;> omega) | fail)) only [XOB, ↓XXs, ↓XD, ↓YX, ZB, Nat.reduceAdd, Nat.reducePow, ↓reduceIte, eq_self, Int.reduceEq, Nat.reduceEqDiff, Nat.reduceMul, Nat.reduceLeDiff, Int.reduceBEq, Int.reduceLT, Try.f7, ↓XH2, XRN, ZC, ZE, ZH, eq_self, Nat.reduceLeDiff, Nat.reduceBEq, slV_new, ZS, reduceIte, ↓op_extract, lv]
    refine okr_call (r31 va n l h r hl (by omega)) ?_
    rintro _ h2 ⟨⟨i1, g1, rs, i2, g2, log, rfl, e1, e2, hi1, hi2, h12, fr, h9, hinc, h60⟩, k2⟩
    have hk2 := k2.1
    obtain ⟨v3, h3, a3, rt3, k3⟩ := r27 i1 g1 rs.length l 0 (slV i2 g2 log.length log.length) rs log h2 (by omega) (by omega) (fun x hx => (fr x hx).fit) e1 (.inr ⟨i2, g2, _, [], rfl, by simpa using e2, by omega⟩) (by omega)
    have e13 := k3.get e1 (lt_of_get e1)
    have e23 := k3.get e2 (lt_of_get e2)
    have hk3 := k3.1
    obtain ⟨v4, h4, a4, rt4, k4⟩ := r25 i1 g1 rs.length l 0 (slV i2 g2 log.length log.length) rs log h3 (by omega) (by omega) (fun x hx => (fr x hx).fit) e13 (.inr ⟨i2, g2, _, [], rfl, by simpa using e23, by omega⟩) (by omega)
    have hk4 := k4.1
    have e14 := k4.get e13 (lt_of_get e13)
    have e24 := k4.get e23 (lt_of_get e23)
    have hfl := filtL_len rs log
    have w3 := (En.Rw.ofRt rt3).keep k4
    have w4 := En.Rw.ofRt rt4
    have a5 := r32 l v3 v4 h4 _ _ (by omega) (by omega) w3 w4
    rw [decide_eq_true rfl] at a5
    simp (dsimp := false) (disch := (first | (refine dS ?_; kernel_rfl) | (refine dM ?_; kernel_rfl) | (refine dO ?_; simp (disch := ((try simp only [ZL]) <;> omega)) only [ZK, ZL]; done) | (refine dK ?_; (repeat first | exact Keep.refl _ _ | exact Keep.app _ _ (Nat.le_refl _) | assumption | refine Keep.ap ?_ | refine Keep.st (by first | omega | (simp only [ZL]; omega)) ?_); done) | ((try simp only [ZL]) <;> omega) | fail)) only [XOB, ↓XXs, ↓XD, ↓YX, ZB, Nat.reduceAdd, Nat.reducePow, ↓reduceIte, eq_self, Int.reduceEq, Nat.reduceEqDiff, Nat.reduceMul, Nat.reduceLeDiff, Int.reduceBEq, Int.reduceLT, Try.f7, ↓XH2, XRN, ZC, ZE, ZH, eq_self, Nat.reduceLeDiff, Nat.reduceBEq, slV_new, ZS, reduceIte, ↓op_extract, lv, a3, a4, a5]
    exact L7 l i1 g1 i2 g2 rs log v3 h4 (fun x hx => (fr x hx).fit) h9 h60 e14 e24 w3 (by omega) log [] rfl h4.length 0 0 0 [] _ (Keep.app _ _ (Nat.le_refl _)) (Nat.le_refl _) (by simp (disch := (first | (refine dS ?_; kernel_rfl) | (refine dM ?_; kernel_rfl) | (refine dO ?_; simp (disch := ((try simp only [ZL]) <;> omega)) only [ZK, ZL]; done) | (refine dK ?_; (repeat first | exact Keep.refl _ _ | exact Keep.app _ _ (Nat.le_refl _) | assumption | refine Keep.ap ?_ | refine Keep.st (by first | omega | (simp only [ZL]; omega)) ?_); done) | ((try simp only [ZL]) <;> omega) | fail)) only [↓XH2, XRN, ZC, ZE, ZH, eq_self, Nat.reduceLeDiff, Nat.reduceBEq]; rfl) rfl rfl rfl
theorem rz7 (va : Value) (n l : Nat) (h : AH) (r : Cd h va n) (hl : l ≤ h.length) : ∃ h', run V0 (.fn 7) l [S va] h = some (.ret (.bool true) h') := by
  obtain ⟨v, h', e, rfl⟩ := r7 va n l h r hl
  exact ⟨h', e⟩
end Go.Abs
namespace Go.Abs
open Go.Proofs
set_option maxRecDepth 100000
set_option linter.unusedSimpArgs false
set_option linter.unusedVariables false
set_option pp.maxSteps 20000
set_option pp.deepTerms true
theorem binK_eqA {P : Program} {t : TypeId} {a b : Array Value} {act : Option Bool} {K : Value → R} : binK P .eql t (.agg a) (.agg b) act K = chk (eqOk P t (.agg a)) (oE act (eqA P 50 t (.agg a) (.agg b)) false fun q => K (.bool q)) := rfl
theorem Ru.F.fit20 {x : Ru} (f : x.F) : x.Fit20 := ⟨by have := f.1; omega, by have := f.2; omega⟩
/-- what a filtering leaves -/
def FiQ (h : AH) (es : List En) (v : Value) (h' : AH) : Prop := En.Rw h' v es ∧ Keep h.length h h'
theorem fi_impl {i g l n : Nat} {vE : Value} {xs : List Ru} {es : List En} {h : AH} (hn : n = xs.length) (hx : xs.length ≤ 2 ^ 20) (he : es.length ≤ 2 ^ 20) (hf : ∀ x ∈ xs, x.F) (el : h[i]? = some (.row g 4 (Ru.R xs))) (eE : En.Rw h vE es) (hl : l ≤ h.length) :
    Okr (FiQ h (filtL xs es)) (run V0 (.fn 27) l [S (slV i g n n), S vE] h) := by
  subst hn
  obtain ⟨v, h', e, q, k⟩ := r27 i g xs.length l 0 vE xs es h hx he (fun x hx => (hf x hx).fit) el eE.rt hl
  exact ⟨v, h', e, En.Rw.ofRt q, k⟩
theorem fi_spec {i g l n : Nat} {vE : Value} {xs : List Ru} {es : List En} {h : AH} (hn : n = xs.length) (hx : xs.length ≤ 2 ^ 20) (he : es.length ≤ 2 ^ 20) (hf : ∀ x ∈ xs, x.F) (el : h[i]? = some (.row g 4 (Ru.R xs))) (eE : En.Rw h vE es) (hl : l ≤ h.length) :
    Okr (FiQ h (filtL xs es)) (run V0 (.fn 25) l [S (slV i g n n), S vE] h) := by
  subst hn
  obtain ⟨v, h', e, q, k⟩ := r25 i g xs.length l 0 vE xs es h hx he (fun x hx => (hf x hx).fit) el eE.rt hl
  exact ⟨v, h', e, En.Rw.ofRt q, k⟩
def StQ (h : AH) (s : Bs) (v : Value) (h' : AH) : Prop := v = sV s ∧ Keep h.length h h'
theorem put_ok {i g l n : Nat} {xs : List Ru} {h : AH} (hn : n = xs.length) (hx : xs.length ≤ 2 ^ 20) (hf : ∀ x ∈ xs, x.F) (el : h[i]? = some (.row g 4 (Ru.R xs))) (hl : l ≤ h.length) :
    Okr (StQ h (rputL xs)) (run V0 (.fn 23) l [S (slV i g n n)] h) := by
  subst hn
  obtain ⟨h', e, k⟩ := r23 i g xs.length l xs h hl hx (fun x hx => (hf x hx).fit20) el
  exact ⟨_, h', e, rfl, k⟩
theorem hb_log {l : Nat} {a b : Value} {h : AH} {xs ys : List En} (e : xs = ys) (hx : xs.length ≤ 2 ^ 20) (qa : En.Rw h a xs) (qb : En.Rw h b ys) : run V0 (.fn 32) l [S a, S b] h = some (.ret (.bool true) h) := by
  subst e
  rw [r32 l a b h xs xs hx hx qa qb, decide_eq_true rfl]
theorem Ru.appL {lim : Nat} {h : AH} {id g gb ib nb cb no : Nat} {os ys : List Ru} (e : h[id]? = some (.row g 4 (Ru.R os))) (e2 : h[ib]? = some (.row gb 4 (Ru.R ys))) (hno : no = os.length) (hnb : nb = ys.length) (hl : lim ≤ id) (hb : os.length + ys.length ≤ 2 ^ 30) :
    ∃ z, app lim h (slV id g no no) (slV ib gb nb cb) 4 4 48 = some z ∧ ∃ g', z = (slV id g' (no + nb) (no + nb), h.set id (.row g' 4 (Ru.R (os ++ ys)))) := by
  subst hno hnb
  obtain ⟨z, e1, g', rfl⟩ := okr_app (lim := lim) (id := id) (g := g) (tg := 4) (n := os.length) (k := ys.length) (by' := 48) (cs := Ru.R os) (x := slV ib gb ys.length cb) (ds := Ru.R ys) (src_new (sz := 4) (tg := 4) e2 (by rw [Ru.R_len]; omega)) e (by rw [Ru.R_len]; omega) hl (by omega)
  exact ⟨_, e1, g', by rw [Ru.R_app]⟩
theorem show_two {a b : List Ru} {e : En} (h : showL (a ++ b) e = true) : showL a e = true := by
  unfold showL at *
  rw [List.find?_append] at h
  cases hq : a.find? fun x => meansL x e with
  | none => rfl
  | some x => rw [hq] at h; exact h
theorem filt_two {a b : List Ru} {es : List En} (h : rokL a = true) : (filtL (a ++ b) es).Sublist (filtL a es) := by
  unfold filtL
  have h' : (a.all ruOk && decide ((a.length : Int) ≤ 8)) = true := h
  rw [if_pos h']
  split
  · have e : es.filter (showL (a ++ b)) = (es.filter (showL a)).filter (showL (a ++ b)) := by
      rw [List.filter_filter]
      refine List.filter_congr fun x _ => ?_
      cases hq : showL (a ++ b) x with
      | false => rfl
      | true => rw [show_two hq]; rfl
    rw [e]
    exact List.filter_sublist
  · exact List.nil_sublist _
theorem rputL_ne {xs : List Ru} (h : rputL xs ≠ []) : rokL xs = true := by
  unfold rputL at h
  cases hq : rokL xs with
  | true => rfl
  | false => rw [hq] at h; exact absurd rfl h
theorem L9 (l : Nat) (va vb : Value) (some_ both : List En) (h : AH) (hs : some_.length ≤ 2 ^ 20) (hb : both.length ≤ 2 ^ 20) (qa : En.Rw h va some_) (qb : En.Rw h vb both) :
    ∀ (r d t e : List En) (i j : Int), d ++ r = some_ → e ++ t = both → t.Sublist r → i = d.length → j = e.length → Okr TrueQ (L9_0 l va vb (iV j) (iV i) h) := by
  have la := qa.len
  have lb := qb.len
  intro r
  induction r with
  | nil =>
    rintro d t e i j h1 h2 st rfl rfl
    obtain rfl := List.sublist_nil.1 st
    rw [List.append_nil] at h1 h2
    subst h1 h2
    have hlt : decide ((d.length : Int) < (d.length : Int)) = false := decide_eq_false (by omega)
    refine okr_code Try.func9 rfl rfl ?_
    simp (dsimp := false) (disch := (first | (refine dS ?_; kernel_rfl) | (refine dM ?_; kernel_rfl) | (refine dO ?_; simp (disch := ((try simp only [ZL]) <;> omega)) only [ZK, ZL]; done) | (refine dK ?_; (repeat first | exact Keep.refl _ _ | exact Keep.app _ _ (Nat.le_refl _) | assumption | refine Keep.ap ?_ | refine Keep.st (by first | omega | (simp only [ZL]; omega)) ?_); done) | ((try simp only [ZL]) <;> omega) | fail)) only [XOB, ↓XXs, ↓XD, ↓YX, ZB, Nat.reduceAdd, Nat.reducePow, ↓reduceIte, eq_self, Int.reduceEq, Nat.reduceEqDiff, Nat.reduceMul, Nat.reduceLeDiff, Int.reduceBEq, Int.reduceLT, Try.f9, ↓XH2, XRN, ZC, ZE, ZH, eq_self, Nat.reduceLeDiff, Nat.reduceBEq, slV_new, ZS, reduceIte, ↓op_extract, binK_eqA, eqA_EnC, eqOk_EnC, la, lb, hlt]
    with_reducible refine Okr.ret ?_
    simp [TrueQ]
  | cons x r ih =>
    rintro d t e i j h1 h2 st rfl rfl
    have hll : d.length + r.length + 1 = some_.length := by rw [← h1]; simp; omega
    have hlt : decide ((d.length : Int) < (some_.length : Int)) = true := decide_eq_true (by omega)
    have hw : IntKind.i64.wrap ((d.length : Int) + 1) = ((d.length + 1 : Nat) : Int) := natCast_succ_wrap (by omega) rfl
    obtain ⟨p, g, t1, hix, hh, hp⟩ := (h1 ▸ qa : En.Rw h va (d ++ x :: r)).at
    have c1 := En.get d x t1
    have l1 : d.length * 9 + 9 ≤ (En.R (d ++ x :: t1)).length := by rw [En.R_len]; simp; omega
    cases t with
    | nil =>
      rw [List.append_nil] at h2
      subst h2
      have hlt2 : decide ((e.length : Int) < (e.length : Int)) = false := decide_eq_false (by omega)
      refine okr_code Try.func9 rfl rfl ?_
      simp (dsimp := false) (disch := (first | (refine dS ?_; kernel_rfl) | (refine dM ?_; kernel_rfl) | (refine dO ?_; simp (disch := ((try simp only [ZL]) <;> omega)) only [ZK, ZL]; done) | (refine dK ?_; (repeat first | exact Keep.refl _ _ | exact Keep.app _ _ (Nat.le_refl _) | assumption | refine Keep.ap ?_ | refine Keep.st (by first | omega | (simp only [ZL]; omega)) ?_); done) | ((try simp only [ZL]) <;> omega) | fail)) only [XOB, ↓XXs, ↓XD, ↓YX, ZB, Nat.reduceAdd, Nat.reducePow, ↓reduceIte, eq_self, Int.reduceEq, Nat.reduceEqDiff, Nat.reduceMul, Nat.reduceLeDiff, Int.reduceBEq, Int.reduceLT, Try.f9, ↓XH2, XRN, ZC, ZE, ZH, eq_self, Nat.reduceLeDiff, Nat.reduceBEq, slV_new, ZS, reduceIte, ↓op_extract, binK_eqA, eqA_EnC, eqOk_EnC, la, lb, hlt, hlt2]
      with_reducible refine Okr.ret ?_
      simp [TrueQ]
    | cons y t =>
      have hlm : e.length + t.length + 1 = both.length := by rw [← h2]; simp; omega
      have hlt2 : decide ((e.length : Int) < (both.length : Int)) = true := decide_eq_true (by omega)
      have hw2 : IntKind.i64.wrap ((e.length : Int) + 1) = ((e.length + 1 : Nat) : Int) := natCast_succ_wrap (by omega) rfl
      obtain ⟨p2, g2, t2, hix2, hh2, hp2⟩ := (h2 ▸ qb : En.Rw h vb (e ++ y :: t)).at
      have c2 := En.get e y t2
      have l2 : e.length * 9 + 9 ≤ (En.R (e ++ y :: t2)).length := by rw [En.R_len]; simp; omega
      refine okr_code Try.func9 rfl rfl ?_
      simp (dsimp := false) (disch := (first | (refine dS ?_; kernel_rfl) | (refine dM ?_; kernel_rfl) | (refine dO ?_; simp (disch := ((try simp only [ZL]) <;> omega)) only [ZK, ZL]; done) | (refine dK ?_; (repeat first | exact Keep.refl _ _ | exact Keep.app _ _ (Nat.le_refl _) | assumption | refine Keep.ap ?_ | refine Keep.st (by first | omega | (simp only [ZL]; omega)) ?_); done) | ((try simp only [ZL]) <;> omega) | fail)) only [XOB, ↓XXs, ↓XD, ↓YX, ZB, Nat.reduceAdd, Nat.reducePow, ↓reduceIte, eq_self, Int.reduceEq, Nat.reduceEqDiff, Nat.reduceMul, Nat.reduceLeDiff, Int.reduceBEq, Int.reduceLT, Try.f9, ↓XH2, XRN, ZC, ZE, ZH, eq_self, Nat.reduceLeDiff, Nat.reduceBEq, slV_new, ZS, reduceIte, ↓op_extract, binK_eqA, eqA_EnC, eqOk_EnC, la, lb, hlt, hlt2, hix, hix2, hh, hh2, hw, hw2, c1, c2, l1, l2]
      refine okr_if (fun q => ?_) (fun q => ?_)
      · have hxy : x = y := of_decide_eq_true q
        subst hxy
        simp (dsimp := false) (disch := (first | (refine dS ?_; kernel_rfl) | (refine dM ?_; kernel_rfl) | (refine dO ?_; simp (disch := ((try simp only [ZL]) <;> omega)) only [ZK, ZL]; done) | (refine dK ?_; (repeat first | exact Keep.refl _ _ | exact Keep.app _ _ (Nat.le_refl _) | assumption | refine Keep.ap ?_ | refine Keep.st (by first | omega | (simp only [ZL]; omega)) ?_); done) | ((try simp only [ZL]) <;> omega) | fail)) only [XOB, ↓XXs, ↓XD, ↓YX, ZB, Nat.reduceAdd, Nat.reducePow, ↓reduceIte, eq_self, Int.reduceEq, Nat.reduceEqDiff, Nat.reduceMul, Nat.reduceLeDiff, Int.reduceBEq, Int.reduceLT, Try.f9, ↓XH2, XRN, ZC, ZE, ZH, eq_self, Nat.reduceLeDiff, Nat.reduceBEq, slV_new, ZS, reduceIte, ↓op_extract, binK_eqA, eqA_EnC, eqOk_EnC, la, lb, hlt, hlt2, hix, hix2, hh, hh2, hw, hw2, c1, c2, l1, l2]
        exact ih (d ++ [x]) t (e ++ [x]) _ _ (by simp [h1]) (by simp [h2]) (List.cons_sublist_cons.1 st) (by simp) (by simp)
      · have hxy : x ≠ y := of_decide_eq_false q
        simp (dsimp := false) (disch := (first | (refine dS ?_; kernel_rfl) | (refine dM ?_; kernel_rfl) | (refine dO ?_; simp (disch := ((try simp only [ZL]) <;> omega)) only [ZK, ZL]; done) | (refine dK ?_; (repeat first | exact Keep.refl _ _ | exact Keep.app _ _ (Nat.le_refl _) | assumption | refine Keep.ap ?_ | refine Keep.st (by first | omega | (simp only [ZL]; omega)) ?_); done) | ((try simp only [ZL]) <;> omega) | fail)) only [XOB, ↓XXs, ↓XD, ↓YX, ZB, Nat.reduceAdd, Nat.reducePow, ↓reduceIte, eq_self, Int.reduceEq, Nat.reduceEqDiff, Nat.reduceMul, Nat.reduceLeDiff, Int.reduceBEq, Int.reduceLT, Try.f9, ↓XH2, XRN, ZC, ZE, ZH, eq_self, Nat.reduceLeDiff, Nat.reduceBEq, slV_new, ZS, reduceIte, ↓op_extract, binK_eqA, eqA_EnC, eqOk_EnC, la, lb, hlt, hlt2, hix, hix2, hh, hh2, hw, hw2, c1, c2, l1, l2]
        refine ih (d ++ [x]) (y :: t) e _ _ (by simp [h1]) h2 ?_ (by simp) rfl
        cases st with
        | cons _ s => exact s
        | cons_cons _ s => exact absurd rfl hxy
theorem r9 (va vb : Value) (n m l : Nat) (h : AH) (r : Cd h va n) (r' : Cd h vb m) (hl : l ≤ h.length) :
    Okr TrueQ (run V0 (.fn 9) l [S va, S vb] h) := by
  have lv := r.len
  have lv' := r'.len
  refine okr_fn Try.func9 rfl rfl rfl rfl ?_
  try simp (dsimp := false) (disch := (first | (refine dS ?_; kernel_rfl) | (refine dM ?_; kernel_rfl) | (refine dO ?_; simp (disch := ((try simp only [ZL]) <;> omega)) only [ZK, ZL]; done) | (refine dK ?_; (repeat first | exact Keep.refl _ _ | exact Keep.app _ _ (Nat.le_refl _) | assumption | refine Keep.ap ?_ | refine Keep.st (by first | omega | (simp only [ZL]; omega)) ?_); done) | ((try simp only [ZL]) <;> omega) | fail)) only [XOB, ↓XXs, ↓XD, ↓YX, ZB, Nat.reduceAdd, Nat.reducePow, ↓reduceIte, eq_self, Int.reduceEq, Nat.reduceEqDiff, Nat.reduceMul, Nat.reduceLeDiff, Int.reduceBEq, Int.reduceLT, Try.f9, ↓XH2, XRN, ZC, ZE, ZH, eq_self, Nat.reduceLeDiff, Nat.reduceBEq, slV_new, ZS, reduceIte, ↓op_extract, binK_eqA, eqA_EnC, eqOk_EnC, lv, lv']
  refine okr_if (fun t => ?_) (fun t => ?_)
  · simp (dsimp := false) (disch := (first | (refine dS ?_; kernel_rfl) | (refine dM ?_; kernel_rfl) | (refine dO ?_; simp (disch := ((try simp only [ZL]) <;> omega)) only [ZK, ZL]; done) | (refine dK ?_; (repeat first | exact Keep.refl _ _ | exact Keep.app _ _ (Nat.le_refl _) | assumption | refine Keep.ap ?_ | refine Keep.st (by first | omega | (simp only [ZL]; omega)) ?_); done) | ((try simp only [ZL]) <;> omega) | fail)) only [XOB, ↓XXs, ↓XD, ↓YX, ZB, Nat.reduceAdd, Nat.reducePow, ↓reduceIte, eq_self, Int.reduceEq, Nat.reduceEqDiff, Nat.reduceMul, Nat.reduceLeDiff, Int.reduceBEq, Int.reduceLT, Try.f9, ↓XH2, XRN, ZC, ZE, ZH, eq_self, Nat.reduceLeDiff, Nat.reduceBEq, slV_new, ZS, reduceIte, ↓op_extract, binK_eqA, eqA_EnC, eqOk_EnC, lv, lv']
    with_reducible refine Okr.ret ?_
    rfl
  try simp (dsimp := false) (disch := (first | (refine dS ?_; kernel_rfl) | (refine dM ?_; kernel_rfl) | (refine dO ?_; simp (disch := ((try simp only [ZL]) <;> omega)) only [ZK, ZL]; done) | (refine dK ?_; (repeat first | exact Keep.refl _ _ | exact Keep.app _ _ (Nat.le_refl _) | assumption | refine Keep.ap ?_ | refine Keep.st (by first | omega | (simp only [ZL]; omega)) ?_); done) | ((try simp only [ZL]) <;> omega) | fail)) only [XOB, ↓XXs, ↓XD, ↓YX, ZB, Nat.reduceAdd, Nat.reducePow, ↓reduceIte, eq_self, Int.reduceEq, Nat.reduceEqDiff, Nat.reduceMul, Nat.reduceLeDiff, Int.reduceBEq, Int.reduceLT, Try.f9, ↓XH2, XRN, ZC, ZE, ZH, eq_self, Nat.reduceLeDiff, Nat.reduceBEq, slV_new, ZS, reduceIte, ↓op_extract, binK_eqA, eqA_EnC, eqOk_EnC, lv, lv']
  refine okr_if (fun t' => ?_) (fun t' => ?_)
  · simp (dsimp := false) (disch := (first | (refine dS ?_; kernel_rfl) | (refine dM ?_; kernel_rfl) | (refine dO ?_; simp (disch := ((try simp only [ZL]) <;> omega)) only [ZK, ZL]; done) | (refine dK ?_; (repeat first | exact Keep.refl _ _ | exact Keep.app _ _ (Nat.le_refl _) | assumption | refine Keep.ap ?_ | refine Keep.st (by first | omega | (simp only [ZL]; omega)) ?_); done) | ((try simp only [ZL]) <;> omega) | fail)) only [XOB, ↓XXs, ↓XD, ↓YX, ZB, Nat.reduceAdd, Nat.reducePow, ↓reduceIte, eq_self, Int.reduceEq, Nat.reduceEqDiff, Nat.reduceMul, Nat.reduceLeDiff, Int.reduceBEq, Int.reduceLT, Try.f9, ↓XH2, XRN, ZC, ZE, ZH, eq_self, Nat.reduceLeDiff, Nat.reduceBEq, slV_new, ZS, reduceIte, ↓op_extract, binK_eqA, eqA_EnC, eqOk_EnC, lv, lv']
    with_reducible refine Okr.ret ?_
    rfl
  have hn : n ≤ 2 ^ 20 := by have := of_decide_eq_false t; omega
  have hm : m ≤ 2 ^ 20 := by have := of_decide_eq_false t'; omega
  try simp (dsimp := false) (disch := (first | (refine dS ?_; kernel_rfl) | (refine dM ?_; kernel_rfl) | (refine dO ?_; simp (disch := ((try simp only [ZL]) <;> omega)) only [ZK, ZL]; done) | (refine dK ?_; (repeat first | exact Keep.refl _ _ | exact Keep.app _ _ (Nat.le_refl _) | assumption | refine Keep.ap ?_ | refine Keep.st (by first | omega | (simp only [ZL]; omega)) ?_); done) | ((try simp only [ZL]) <;> omega) | fail)) only [XOB, ↓XXs, ↓XD, ↓YX, ZB, Nat.reduceAdd, Nat.reducePow, ↓reduceIte, eq_self, Int.reduceEq, Nat.reduceEqDiff, Nat.reduceMul, Nat.reduceLeDiff, Int.reduceBEq, Int.reduceLT, Try.f9, ↓XH2, XRN, ZC, ZE, ZH, eq_self, Nat.reduceLeDiff, Nat.reduceBEq, slV_new, ZS, reduceIte, ↓op_extract, binK_eqA, eqA_EnC, eqOk_EnC, lv, lv']
  refine okr_call (r31 va n l h r hl (by omega)) ?_
  rintro _ h2 ⟨⟨i1, g1, as_, i2, g2, log, rfl, e1, e2, hi1, hi2, h12, fr, h9, hinc, h60⟩, k2⟩
  have hk2 := k2.1
  try simp (dsimp := false) (disch := (first | (refine dS ?_; kernel_rfl) | (refine dM ?_; kernel_rfl) | (refine dO ?_; simp (disch := ((try simp only [ZL]) <;> omega)) only [ZK, ZL]; done) | (refine dK ?_; (repeat first | exact Keep.refl _ _ | exact Keep.app _ _ (Nat.le_refl _) | assumption | refine Keep.ap ?_ | refine Keep.st (by first | omega | (simp only [ZL]; omega)) ?_); done) | ((try simp only [ZL]) <;> omega) | fail)) only [XOB, ↓XXs, ↓XD, ↓YX, ZB, Nat.reduceAdd, Nat.reducePow, ↓reduceIte, eq_self, Int.reduceEq, Nat.reduceEqDiff, Nat.reduceMul, Nat.reduceLeDiff, Int.reduceBEq, Int.reduceLT, Try.f9, ↓XH2, XRN, ZC, ZE, ZH, eq_self, Nat.reduceLeDiff, Nat.reduceBEq, slV_new, ZS, reduceIte, ↓op_extract, binK_eqA, eqA_EnC, eqOk_EnC, lv, lv']
  refine okr_call (r34 vb m l h2 (r'.keep k2) (by omega) (by omega)) ?_
  rintro _ h3 ⟨⟨i3, g3, bs, rfl, e3, hi3, fr', h9'⟩, k3⟩
  have hk3 := k3.1
  have e13 := k3.get e1 (lt_of_get e1)
  have e23 := k3.get e2 (lt_of_get e2)
  try simp (dsimp := false) (disch := (first | (refine dS ?_; kernel_rfl) | (refine dM ?_; kernel_rfl) | (refine dO ?_; simp (disch := ((try simp only [ZL]) <;> omega)) only [ZK, ZL]; done) | (refine dK ?_; (repeat first | exact Keep.refl _ _ | exact Keep.app _ _ (Nat.le_refl _) | assumption | refine Keep.ap ?_ | refine Keep.st (by first | omega | (simp only [ZL]; omega)) ?_); done) | ((try simp only [ZL]) <;> omega) | fail)) only [XOB, ↓XXs, ↓XD, ↓YX, ZB, Nat.reduceAdd, Nat.reducePow, ↓reduceIte, eq_self, Int.reduceEq, Nat.reduceEqDiff, Nat.reduceMul, Nat.reduceLeDiff, Int.reduceBEq, Int.reduceLT, Try.f9, ↓XH2, XRN, ZC, ZE, ZH, eq_self, Nat.reduceLeDiff, Nat.reduceBEq, slV_new, ZS, reduceIte, ↓op_extract, binK_eqA, eqA_EnC, eqOk_EnC, lv, lv']
  refine okr_call (fi_impl rfl (by omega) (by omega) fr e13 (En.Rw.of e23) (by omega)) ?_
  rintro v4 h4 ⟨w4, k4⟩
  have hk4 := k4.1
  have e14 := k4.get e13 (lt_of_get e13)
  have e24 := k4.get e23 (lt_of_get e23)
  have e34 := k4.get e3 (lt_of_get e3)
  try simp (dsimp := false) (disch := (first | (refine dS ?_; kernel_rfl) | (refine dM ?_; kernel_rfl) | (refine dO ?_; simp (disch := ((try simp only [ZL]) <;> omega)) only [ZK, ZL]; done) | (refine dK ?_; (repeat first | exact Keep.refl _ _ | exact Keep.app _ _ (Nat.le_refl _) | assumption | refine Keep.ap ?_ | refine Keep.st (by first | omega | (simp only [ZL]; omega)) ?_); done) | ((try simp only [ZL]) <;> omega) | fail)) only [XOB, ↓XXs, ↓XD, ↓YX, ZB, Nat.reduceAdd, Nat.reducePow, ↓reduceIte, eq_self, Int.reduceEq, Nat.reduceEqDiff, Nat.reduceMul, Nat.reduceLeDiff, Int.reduceBEq, Int.reduceLT, Try.f9, ↓XH2, XRN, ZC, ZE, ZH, eq_self, Nat.reduceLeDiff, Nat.reduceBEq, slV_new, ZS, reduceIte, ↓op_extract, binK_eqA, eqA_EnC, eqOk_EnC, lv, lv']
  refine okr_call (fi_spec rfl (by omega) (by omega) fr e14 (En.Rw.of e24) (by omega)) ?_
  rintro v5 h5 ⟨w5, k5⟩
  have hk5 := k5.1
  have e15 := k5.get e14 (lt_of_get e14)
  have e25 := k5.get e24 (lt_of_get e24)
  have e35 := k5.get e34 (lt_of_get e34)
  have w45 := w4.keep k5
  have hfl := filtL_len as_ log
  have a5 := hb_log (l := l) rfl (by omega) w45 w5
  try simp (dsimp := false) (disch := (first | (refine dS ?_; kernel_rfl) | (refine dM ?_; kernel_rfl) | (refine dO ?_; simp (disch := ((try simp only [ZL]) <;> omega)) only [ZK, ZL]; done) | (refine dK ?_; (repeat first | exact Keep.refl _ _ | exact Keep.app _ _ (Nat.le_refl _) | assumption | refine Keep.ap ?_ | refine Keep.st (by first | omega | (simp only [ZL]; omega)) ?_); done) | ((try simp only [ZL]) <;> omega) | fail)) only [XOB, ↓XXs, ↓XD, ↓YX, ZB, Nat.reduceAdd, Nat.reducePow, ↓reduceIte, eq_self, Int.reduceEq, Nat.reduceEqDiff, Nat.reduceMul, Nat.reduceLeDiff, Int.reduceBEq, Int.reduceLT, Try.f9, ↓XH2, XRN, ZC, ZE, ZH, eq_self, Nat.reduceLeDiff, Nat.reduceBEq, slV_new, ZS, reduceIte, ↓op_extract, binK_eqA, eqA_EnC, eqOk_EnC, lv, lv', a5]
  refine okr_if (fun t8 => ?_) (fun t8 => ?_)
  · try simp (dsimp := false) (disch := (first | (refine dS ?_; kernel_rfl) | (refine dM ?_; kernel_rfl) | (refine dO ?_; simp (disch := ((try simp only [ZL]) <;> omega)) only [ZK, ZL]; done) | (refine dK ?_; (repeat first | exact Keep.refl _ _ | exact Keep.app _ _ (Nat.le_refl _) | assumption | refine Keep.ap ?_ | refine Keep.st (by first | omega | (simp only [ZL]; omega)) ?_); done) | ((try simp only [ZL]) <;> omega) | fail)) only [XOB, ↓XXs, ↓XD, ↓YX, ZB, Nat.reduceAdd, Nat.reducePow, ↓reduceIte, eq_self, Int.reduceEq, Nat.reduceEqDiff, Nat.reduceMul, Nat.reduceLeDiff, Int.reduceBEq, Int.reduceLT, Try.f9, ↓XH2, XRN, ZC, ZE, ZH, eq_self, Nat.reduceLeDiff, Nat.reduceBEq, slV_new, ZS, reduceIte, ↓op_extract, binK_eqA, eqA_EnC, eqOk_EnC, lv, lv']
    refine okr_call (fi_spec rfl (by omega) (by omega) fr (k5.get e14 (lt_of_get e14)) (En.Rw.of (k5.get e24 (lt_of_get e24))) (by omega)) ?_
    rintro v9 h9 ⟨w9, k9⟩
    have a9 := hb_log (l := l) rfl (by omega) ((w4.keep k5).keep k9) w9
    try simp (dsimp := false) (disch := (first | (refine dS ?_; kernel_rfl) | (refine dM ?_; kernel_rfl) | (refine dO ?_; simp (disch := ((try simp only [ZL]) <;> omega)) only [ZK, ZL]; done) | (refine dK ?_; (repeat first | exact Keep.refl _ _ | exact Keep.app _ _ (Nat.le_refl _) | assumption | refine Keep.ap ?_ | refine Keep.st (by first | omega | (simp only [ZL]; omega)) ?_); done) | ((try simp only [ZL]) <;> omega) | fail)) only [XOB, ↓XXs, ↓XD, ↓YX, ZB, Nat.reduceAdd, Nat.reducePow, ↓reduceIte, eq_self, Int.reduceEq, Nat.reduceEqDiff, Nat.reduceMul, Nat.reduceLeDiff, Int.reduceBEq, Int.reduceLT, Try.f9, ↓XH2, XRN, ZC, ZE, ZH, eq_self, Nat.reduceLeDiff, Nat.reduceBEq, slV_new, ZS, reduceIte, ↓op_extract, binK_eqA, eqA_EnC, eqOk_EnC, lv, lv', a9]
    with_reducible refine Okr.ret ?_
    rfl
  have hab : as_.length + bs.length ≤ 8 := by
    have h1 := of_decide_eq_false t8
    rw [wrap64 (by omega)] at h1
    omega
  try simp (dsimp := false) (disch := (first | (refine dS ?_; kernel_rfl) | (refine dM ?_; kernel_rfl) | (refine dO ?_; simp (disch := ((try simp only [ZL]) <;> omega)) only [ZK, ZL]; done) | (refine dK ?_; (repeat first | exact Keep.refl _ _ | exact Keep.app _ _ (Nat.le_refl _) | assumption | refine Keep.ap ?_ | refine Keep.st (by first | omega | (simp only [ZL]; omega)) ?_); done) | ((try simp only [ZL]) <;> omega) | fail)) only [XOB, ↓XXs, ↓XD, ↓YX, ZB, Nat.reduceAdd, Nat.reducePow, ↓reduceIte, eq_self, Int.reduceEq, Nat.reduceEqDiff, Nat.reduceMul, Nat.reduceLeDiff, Int.reduceBEq, Int.reduceLT, Try.f9, ↓XH2, XRN, ZC, ZE, ZH, eq_self, Nat.reduceLeDiff, Nat.reduceBEq, slV_new, ZS, reduceIte, ↓op_extract, binK_eqA, eqA_EnC, eqOk_EnC, lv, lv']
  refine okr_call (put_ok rfl (by omega) fr e15 (by omega)) ?_
  rintro _ h6 ⟨rfl, k6⟩
  have hk6 := k6.1
  have k46 := k5.trans (k6.le hk5)
  have e16 := k6.get e15 (lt_of_get e15)
  have e26 := k6.get e25 (lt_of_get e25)
  have e36 := k6.get e35 (lt_of_get e35)
  try simp (dsimp := false) (disch := (first | (refine dS ?_; kernel_rfl) | (refine dM ?_; kernel_rfl) | (refine dO ?_; simp (disch := ((try simp only [ZL]) <;> omega)) only [ZK, ZL]; done) | (refine dK ?_; (repeat first | exact Keep.refl _ _ | exact Keep.app _ _ (Nat.le_refl _) | assumption | refine Keep.ap ?_ | refine Keep.st (by first | omega | (simp only [ZL]; omega)) ?_); done) | ((try simp only [ZL]) <;> omega) | fail)) only [XOB, ↓XXs, ↓XD, ↓YX, ZB, Nat.reduceAdd, Nat.reducePow, ↓reduceIte, eq_self, Int.reduceEq, Nat.reduceEqDiff, Nat.reduceMul, Nat.reduceLeDiff, Int.reduceBEq, Int.reduceLT, Try.f9, ↓XH2, XRN, ZC, ZE, ZH, eq_self, Nat.reduceLeDiff, Nat.reduceBEq, slV_new, ZS, reduceIte, ↓op_extract, binK_eqA, eqA_EnC, eqOk_EnC, lv, lv']
  refine okr_if (fun t9 => ?_) (fun t9 => ?_)
  · try simp (dsimp := false) (disch := (first | (refine dS ?_; kernel_rfl) | (refine dM ?_; kernel_rfl) | (refine dO ?_; simp (disch := ((try simp only [ZL]) <;> omega)) only [ZK, ZL]; done) | (refine dK ?_; (repeat first | exact Keep.refl _ _ | exact Keep.app _ _ (Nat.le_refl _) | assumption | refine Keep.ap ?_ | refine Keep.st (by first | omega | (simp only [ZL]; omega)) ?_); done) | ((try simp only [ZL]) <;> omega) | fail)) only [XOB, ↓XXs, ↓XD, ↓YX, ZB, Nat.reduceAdd, Nat.reducePow, ↓reduceIte, eq_self, Int.reduceEq, Nat.reduceEqDiff, Nat.reduceMul, Nat.reduceLeDiff, Int.reduceBEq, Int.reduceLT, Try.f9, ↓XH2, XRN, ZC, ZE, ZH, eq_self, Nat.reduceLeDiff, Nat.reduceBEq, slV_new, ZS, reduceIte, ↓op_extract, binK_eqA, eqA_EnC, eqOk_EnC, lv, lv']
    refine okr_call (fi_spec rfl (by omega) (by omega) fr (k46.get e14 (lt_of_get e14)) (En.Rw.of (k46.get e24 (lt_of_get e24))) (by omega)) ?_
    rintro v9 h9 ⟨w9, k9⟩
    have a9 := hb_log (l := l) rfl (by omega) ((w4.keep k46).keep k9) w9
    try simp (dsimp := false) (disch := (first | (refine dS ?_; kernel_rfl) | (refine dM ?_; kernel_rfl) | (refine dO ?_; simp (disch := ((try simp only [ZL]) <;> omega)) only [ZK, ZL]; done) | (refine dK ?_; (repeat first | exact Keep.refl _ _ | exact Keep.app _ _ (Nat.le_refl _) | assumption | refine Keep.ap ?_ | refine Keep.st (by first | omega | (simp only [ZL]; omega)) ?_); done) | ((try simp only [ZL]) <;> omega) | fail)) only [XOB, ↓XXs, ↓XD, ↓YX, ZB, Nat.reduceAdd, Nat.reducePow, ↓reduceIte, eq_self, Int.reduceEq, Nat.reduceEqDiff, Nat.reduceMul, Nat.reduceLeDiff, Int.reduceBEq, Int.reduceLT, Try.f9, ↓XH2, XRN, ZC, ZE, ZH, eq_self, Nat.reduceLeDiff, Nat.reduceBEq, slV_new, ZS, reduceIte, ↓op_extract, binK_eqA, eqA_EnC, eqOk_EnC, lv, lv', a9]
    with_reducible refine Okr.ret ?_
    rfl
  try simp (dsimp := false) (disch := (first | (refine dS ?_; kernel_rfl) | (refine dM ?_; kernel_rfl) | (refine dO ?_; simp (disch := ((try simp only [ZL]) <;> omega)) only [ZK, ZL]; done) | (refine dK ?_; (repeat first | exact Keep.refl _ _ | exact Keep.app _ _ (Nat.le_refl _) | assumption | refine Keep.ap ?_ | refine Keep.st (by first | omega | (simp only [ZL]; omega)) ?_); done) | ((try simp only [ZL]) <;> omega) | fail)) only [XOB, ↓XXs, ↓XD, ↓YX, ZB, Nat.reduceAdd, Nat.reducePow, ↓reduceIte, eq_self, Int.reduceEq, Nat.reduceEqDiff, Nat.reduceMul, Nat.reduceLeDiff, Int.reduceBEq, Int.reduceLT, Try.f9, ↓XH2, XRN, ZC, ZE, ZH, eq_self, Nat.reduceLeDiff, Nat.reduceBEq, slV_new, ZS, reduceIte, ↓op_extract, binK_eqA, eqA_EnC, eqOk_EnC, lv, lv']
  refine okr_call (put_ok rfl (by omega) fr' e36 (by omega)) ?_
  rintro _ h7 ⟨rfl, k7⟩
  have hk7 := k7.1
  have k47 := k46.trans (k7.le (by omega))
  have e17 := k7.get e16 (lt_of_get e16)
  have e27 := k7.get e26 (lt_of_get e26)
  have e37 := k7.get e36 (lt_of_get e36)
  try simp (dsimp := false) (disch := (first | (refine dS ?_; kernel_rfl) | (refine dM ?_; kernel_rfl) | (refine dO ?_; simp (disch := ((try simp only [ZL]) <;> omega)) only [ZK, ZL]; done) | (refine dK ?_; (repeat first | exact Keep.refl _ _ | exact Keep.app _ _ (Nat.le_refl _) | assumption | refine Keep.ap ?_ | refine Keep.st (by first | omega | (simp only [ZL]; omega)) ?_); done) | ((try simp only [ZL]) <;> omega) | fail)) only [XOB, ↓XXs, ↓XD, ↓YX, ZB, Nat.reduceAdd, Nat.reducePow, ↓reduceIte, eq_self, Int.reduceEq, Nat.reduceEqDiff, Nat.reduceMul, Nat.reduceLeDiff, Int.reduceBEq, Int.reduceLT, Try.f9, ↓XH2, XRN, ZC, ZE, ZH, eq_self, Nat.reduceLeDiff, Nat.reduceBEq, slV_new, ZS, reduceIte, ↓op_extract, binK_eqA, eqA_EnC, eqOk_EnC, lv, lv']
  refine okr_if (fun t10 => ?_) (fun t10 => ?_)
  · try simp (dsimp := false) (disch := (first | (refine dS ?_; kernel_rfl) | (refine dM ?_; kernel_rfl) | (refine dO ?_; simp (disch := ((try simp only [ZL]) <;> omega)) only [ZK, ZL]; done) | (refine dK ?_; (repeat first | exact Keep.refl _ _ | exact Keep.app _ _ (Nat.le_refl _) | assumption | refine Keep.ap ?_ | refine Keep.st (by first | omega | (simp only [ZL]; omega)) ?_); done) | ((try simp only [ZL]) <;> omega) | fail)) only [XOB, ↓XXs, ↓XD, ↓YX, ZB, Nat.reduceAdd, Nat.reducePow, ↓reduceIte, eq_self, Int.reduceEq, Nat.reduceEqDiff, Nat.reduceMul, Nat.reduceLeDiff, Int.reduceBEq, Int.reduceLT, Try.f9, ↓XH2, XRN, ZC, ZE, ZH, eq_self, Nat.reduceLeDiff, Nat.reduceBEq, slV_new, ZS, reduceIte, ↓op_extract, binK_eqA, eqA_EnC, eqOk_EnC, lv, lv']
    refine okr_call (fi_spec rfl (by omega) (by omega) fr (k47.get e14 (lt_of_get e14)) (En.Rw.of (k47.get e24 (lt_of_get e24))) (by omega)) ?_
    rintro v9 h9 ⟨w9, k9⟩
    have a9 := hb_log (l := l) rfl (by omega) ((w4.keep k47).keep k9) w9
    try simp (dsimp := false) (disch := (first | (refine dS ?_; kernel_rfl) | (refine dM ?_; kernel_rfl) | (refine dO ?_; simp (disch := ((try simp only [ZL]) <;> omega)) only [ZK, ZL]; done) | (refine dK ?_; (repeat first | exact Keep.refl _ _ | exact Keep.app _ _ (Nat.le_refl _) | assumption | refine Keep.ap ?_ | refine Keep.st (by first | omega | (simp only [ZL]; omega)) ?_); done) | ((try simp only [ZL]) <;> omega) | fail)) only [XOB, ↓XXs, ↓XD, ↓YX, ZB, Nat.reduceAdd, Nat.reducePow, ↓reduceIte, eq_self, Int.reduceEq, Nat.reduceEqDiff, Nat.reduceMul, Nat.reduceLeDiff, Int.reduceBEq, Int.reduceLT, Try.f9, ↓XH2, XRN, ZC, ZE, ZH, eq_self, Nat.reduceLeDiff, Nat.reduceBEq, slV_new, ZS, reduceIte, ↓op_extract, binK_eqA, eqA_EnC, eqOk_EnC, lv, lv', a9]
    with_reducible refine Okr.ret ?_
    rfl
  have hok : rokL as_ = true := rputL_ne (fun q => by rw [q] at t9; simp at t9)
  have e0 : (h7 ++ [AObj.row 0 4 []])[h7.length]? = some (.row 0 4 (Ru.R [])) := by simp [Ru.R]
  have hl17 := lt_of_get e17
  have hl27 := lt_of_get e27
  have hl37 := lt_of_get e37
  try simp (dsimp := false) (disch := (first | (refine dS ?_; kernel_rfl) | (refine dM ?_; kernel_rfl) | (refine dO ?_; simp (disch := ((try simp only [ZL]) <;> omega)) only [ZK, ZL]; done) | (refine dK ?_; (repeat first | exact Keep.refl _ _ | exact Keep.app _ _ (Nat.le_refl _) | assumption | refine Keep.ap ?_ | refine Keep.st (by first | omega | (simp only [ZL]; omega)) ?_); done) | ((try simp only [ZL]) <;> omega) | fail)) only [XOB, ↓XXs, ↓XD, ↓YX, ZB, Nat.reduceAdd, Nat.reducePow, ↓reduceIte, eq_self, Int.reduceEq, Nat.reduceEqDiff, Nat.reduceMul, Nat.reduceLeDiff, Int.reduceBEq, Int.reduceLT, Try.f9, ↓XH2, XRN, ZC, ZE, ZH, eq_self, Nat.reduceLeDiff, Nat.reduceBEq, slV_new, ZS, reduceIte, ↓op_extract, binK_eqA, eqA_EnC, eqOk_EnC, lv, lv']
  refine okr_opt (Ru.appL (os := []) e0 (by simp (disch := (first | (refine dS ?_; kernel_rfl) | (refine dM ?_; kernel_rfl) | (refine dO ?_; simp (disch := ((try simp only [ZL]) <;> omega)) only [ZK, ZL]; done) | (refine dK ?_; (repeat first | exact Keep.refl _ _ | exact Keep.app _ _ (Nat.le_refl _) | assumption | refine Keep.ap ?_ | refine Keep.st (by first | omega | (simp only [ZL]; omega)) ?_); done) | ((try simp only [ZL]) <;> omega) | fail)) only [↓XH2, XRN, ZC, ZE, ZH, eq_self, Nat.reduceLeDiff, Nat.reduceBEq, e17]) rfl rfl (by omega) (by simp; omega)) ?_
  rintro _ ⟨gA, rfl⟩
  try simp (dsimp := false) (disch := (first | (refine dS ?_; kernel_rfl) | (refine dM ?_; kernel_rfl) | (refine dO ?_; simp (disch := ((try simp only [ZL]) <;> omega)) only [ZK, ZL]; done) | (refine dK ?_; (repeat first | exact Keep.refl _ _ | exact Keep.app _ _ (Nat.le_refl _) | assumption | refine Keep.ap ?_ | refine Keep.st (by first | omega | (simp only [ZL]; omega)) ?_); done) | ((try simp only [ZL]) <;> omega) | fail)) only [XOB, ↓XXs, ↓XD, ↓YX, ZB, Nat.reduceAdd, Nat.reducePow, ↓reduceIte, eq_self, Int.reduceEq, Nat.reduceEqDiff, Nat.reduceMul, Nat.reduceLeDiff, Int.reduceBEq, Int.reduceLT, Try.f9, ↓XH2, XRN, ZC, ZE, ZH, eq_self, Nat.reduceLeDiff, Nat.reduceBEq, slV_new, ZS, reduceIte, ↓op_extract, binK_eqA, eqA_EnC, eqOk_EnC, lv, lv']
  refine okr_opt (Ru.appL (os := [] ++ as_) (by simp (disch := (first | (refine dS ?_; kernel_rfl) | (refine dM ?_; kernel_rfl) | (refine dO ?_; simp (disch := ((try simp only [ZL]) <;> omega)) only [ZK, ZL]; done) | (refine dK ?_; (repeat first | exact Keep.refl _ _ | exact Keep.app _ _ (Nat.le_refl _) | assumption | refine Keep.ap ?_ | refine Keep.st (by first | omega | (simp only [ZL]; omega)) ?_); done) | ((try simp only [ZL]) <;> omega) | fail)) only [↓XH2, XRN, ZC, ZE, ZH, eq_self, Nat.reduceLeDiff, Nat.reduceBEq]) (by simp (disch := (first | (refine dS ?_; kernel_rfl) | (refine dM ?_; kernel_rfl) | (refine dO ?_; simp (disch := ((try simp only [ZL]) <;> omega)) only [ZK, ZL]; done) | (refine dK ?_; (repeat first | exact Keep.refl _ _ | exact Keep.app _ _ (Nat.le_refl _) | assumption | refine Keep.ap ?_ | refine Keep.st (by first | omega | (simp only [ZL]; omega)) ?_); done) | ((try simp only [ZL]) <;> omega) | fail)) only [↓XH2, XRN, ZC, ZE, ZH, eq_self, Nat.reduceLeDiff, Nat.reduceBEq, e37]) (by simp) rfl (by omega) (by simp; omega)) ?_
  rintro _ ⟨gB, rfl⟩
  try simp (dsimp := false) (disch := (first | (refine dS ?_; kernel_rfl) | (refine dM ?_; kernel_rfl) | (refine dO ?_; simp (disch := ((try simp only [ZL]) <;> omega)) only [ZK, ZL]; done) | (refine dK ?_; (repeat first | exact Keep.refl _ _ | exact Keep.app _ _ (Nat.le_refl _) | assumption | refine Keep.ap ?_ | refine Keep.st (by first | omega | (simp only [ZL]; omega)) ?_); done) | ((try simp only [ZL]) <;> omega) | fail)) only [XOB, ↓XXs, ↓XD, ↓YX, ZB, Nat.reduceAdd, Nat.reducePow, ↓reduceIte, eq_self, Int.reduceEq, Nat.reduceEqDiff, Nat.reduceMul, Nat.reduceLeDiff, Int.reduceBEq, Int.reduceLT, Try.f9, ↓XH2, XRN, ZC, ZE, ZH, eq_self, Nat.reduceLeDiff, Nat.reduceBEq, slV_new, ZS, reduceIte, ↓op_extract, binK_eqA, eqA_EnC, eqOk_EnC, lv, lv']
  refine okr_call (fi_impl (xs := [] ++ as_ ++ bs) (by simp; try omega) (by simp; omega) (by omega) (fun x hx => ?_) (by simp (disch := (first | (refine dS ?_; kernel_rfl) | (refine dM ?_; kernel_rfl) | (refine dO ?_; simp (disch := ((try simp only [ZL]) <;> omega)) only [ZK, ZL]; done) | (refine dK ?_; (repeat first | exact Keep.refl _ _ | exact Keep.app _ _ (Nat.le_refl _) | assumption | refine Keep.ap ?_ | refine Keep.st (by first | omega | (simp only [ZL]; omega)) ?_); done) | ((try simp only [ZL]) <;> omega) | fail)) only [↓XH2, XRN, ZC, ZE, ZH, eq_self, Nat.reduceLeDiff, Nat.reduceBEq]) (En.Rw.of (by simp (disch := (first | (refine dS ?_; kernel_rfl) | (refine dM ?_; kernel_rfl) | (refine dO ?_; simp (disch := ((try simp only [ZL]) <;> omega)) only [ZK, ZL]; done) | (refine dK ?_; (repeat first | exact Keep.refl _ _ | exact Keep.app _ _ (Nat.le_refl _) | assumption | refine Keep.ap ?_ | refine Keep.st (by first | omega | (simp only [ZL]; omega)) ?_); done) | ((try simp only [ZL]) <;> omega) | fail)) only [↓XH2, XRN, ZC, ZE, ZH, eq_self, Nat.reduceLeDiff, Nat.reduceBEq, e27])) (by first | rfl | omega | (simp (disch := (first | (refine dS ?_; kernel_rfl) | (refine dM ?_; kernel_rfl) | (refine dO ?_; simp (disch := ((try simp only [ZL]) <;> omega)) only [ZK, ZL]; done) | (refine dK ?_; (repeat first | exact Keep.refl _ _ | exact Keep.app _ _ (Nat.le_refl _) | assumption | refine Keep.ap ?_ | refine Keep.st (by first | omega | (simp only [ZL]; omega)) ?_); done) | ((try simp only [ZL]) <;> omega) | fail)) only [ZK, ZL, ZR] <;> omega) | fail)) ?_
  · simp at hx
    exact hx.elim (fr x) (fr' x)
  rintro v11 h11 ⟨w11, k11⟩
  have kk : Keep h4.length h4 h11 := k47.trans (((Keep.app h7 _ (Nat.le_refl _)).le (by omega)).trans (k11.le (by simp; omega)))
  have w4' := w4.keep kk
  try simp (dsimp := false) (disch := (first | (refine dS ?_; kernel_rfl) | (refine dM ?_; kernel_rfl) | (refine dO ?_; simp (disch := ((try simp only [ZL]) <;> omega)) only [ZK, ZL]; done) | (refine dK ?_; (repeat first | exact Keep.refl _ _ | exact Keep.app _ _ (Nat.le_refl _) | assumption | refine Keep.ap ?_ | refine Keep.st (by first | omega | (simp only [ZL]; omega)) ?_); done) | ((try simp only [ZL]) <;> omega) | fail)) only [XOB, ↓XXs, ↓XD, ↓YX, ZB, Nat.reduceAdd, Nat.reducePow, ↓reduceIte, eq_self, Int.reduceEq, Nat.reduceEqDiff, Nat.reduceMul, Nat.reduceLeDiff, Int.reduceBEq, Int.reduceLT, Try.f9, ↓XH2, XRN, ZC, ZE, ZH, eq_self, Nat.reduceLeDiff, Nat.reduceBEq, slV_new, ZS, reduceIte, ↓op_extract, binK_eqA, eqA_EnC, eqOk_EnC, lv, lv']
  exact L9 l v4 v11 _ _ h11 (by omega) (by have := filtL_len ([] ++ as_ ++ bs) log; omega) w4' w11 _ [] _ [] 0 0 rfl rfl (by rw [List.nil_append]; exact filt_two hok) rfl rfl
theorem rz9 (va vb : Value) (n m l : Nat) (h : AH) (r : Cd h va n) (r' : Cd h vb m) (hl : l ≤ h.length) : ∃ h', run V0 (.fn 9) l [S va, S vb] h = some (.ret (.bool true) h') := by
  obtain ⟨v, h', e, rfl⟩ := r9 va vb n m l h r r' hl
  exact ⟨h', e⟩
end Go.Abs
namespace Go.Abs
open Go.Proofs
set_option linter.unusedSimpArgs false
theorem over_means {o x : Ru} {e : En} (h : overL o x = true) (m : meansL x e = true) : meansL o e = true := by
  simp only [overL, meansL, Bool.and_eq_true, Bool.or_eq_true, decide_eq_true_eq, beq_iff_eq] at *
  obtain ⟨a1, a2, a3⟩ := h
  obtain ⟨b1, b2, b3⟩ := m
  refine ⟨?_, ?_, ?_⟩
  · rcases a1 with a | a
    · exact .inl a
    · rw [a]; exact b1
  · rcases a2 with a | a
    · exact .inl a
    · rw [a]; exact b2
  · rcases a3 with a | a
    · exact .inl a
    · rw [a]; exact b3
theorem find_add (e : En) : ∀ (r out : List Ru), (r.foldl addR out).find? (fun x => meansL x e) = (out ++ r).find? (fun x => meansL x e)
  | [], out => by simp
  | x :: r, out => by
    rw [List.foldl_cons, find_add e r]
    unfold addR
    split
    · rename_i h
      rw [List.find?_append, List.find?_append]
      cases hq : out.find? (fun x => meansL x e) with
      | some y => rfl
      | none =>
        obtain ⟨o, ho, hx⟩ := List.any_eq_true.1 h
        have h1 := List.find?_eq_none.1 hq o ho
        have h2 : meansL x e = false := by
          cases hm : meansL x e with
          | false => rfl
          | true => exact absurd (over_means hx hm) h1
        rw [List.find?_cons, h2]
    · rw [List.append_assoc]; rfl
theorem showL_cons (x : Ru) (r : List Ru) (e : En) : showL (x :: r) e = if meansL x e = true then !x.quiet else showL r e := by
  unfold showL
  rw [List.find?_cons]
  cases meansL x e <;> rfl
theorem trim_show (e : En) : ∀ a : List Ru, showL (trimR a) e = showL a e
  | [] => rfl
  | x :: r => by
    have ih := trim_show e r
    rw [showL_cons]
    unfold trimR
    split
    · rename_i h
      rw [h.1] at ih
      rw [← ih, h.2]
      show true = _
      split <;> rfl
    · rw [showL_cons, ih]
theorem tidy_show {xs : List Ru} (h : rokL xs = true) (e : En) : showL (tidyL xs) e = showL xs e := by
  have h' : (xs.all ruOk && decide ((xs.length : Int) ≤ 8)) = true := h
  unfold tidyL
  rw [if_pos h', trim_show]
  unfold showL
  rw [find_add, List.nil_append]
theorem add_mem : ∀ (r out : List Ru) (y : Ru), y ∈ r.foldl addR out → y ∈ out ∨ y ∈ r
  | [], out, y, h => .inl h
  | x :: r, out, y, h => by
    rw [List.foldl_cons] at h
    rcases add_mem r _ y h with h | h
    · unfold addR at h
      split at h
      · exact .inl h
      · rcases List.mem_append.1 h with h | h
        · exact .inl h
        · exact .inr (by simp at h; simp [h])
    · exact .inr (List.mem_cons_of_mem _ h)
theorem trim_mem {a : List Ru} {y : Ru} (h : y ∈ trimR a) : y ∈ a := by
  obtain ⟨b, hb⟩ := trimR_pre a
  rw [hb]
  exact List.mem_append_left _ h
theorem tidy_mem {xs : List Ru} {y : Ru} (h : y ∈ tidyL xs) : y ∈ xs := by
  unfold tidyL at h
  split at h
  · rcases add_mem _ _ _ (trim_mem h) with h | h
    · simp at h
    · exact h
  · simp at h
theorem tidy_ok {xs : List Ru} (h : rokL xs = true) : rokL (tidyL xs) = true := by
  unfold rokL at *
  simp only [Bool.and_eq_true, List.all_eq_true, decide_eq_true_eq] at *
  exact ⟨fun y hy => h.1 y (tidy_mem hy), by have := tidyL_len xs; omega⟩
theorem filt_tidy {xs : List Ru} (h : rokL xs = true) (es : List En) : filtL (tidyL xs) es = filtL xs es := by
  unfold filtL
  have h1 : (xs.all ruOk && decide ((xs.length : Int) ≤ 8)) = true := h
  have h2 : ((tidyL xs).all ruOk && decide (((tidyL xs).length : Int) ≤ 8)) = true := tidy_ok h
  rw [if_pos h1, if_pos h2]
  exact List.filter_congr fun x _ => tidy_show h x
def Apart (a : List Ru) : Prop := a.Pairwise fun o x => overL o x = false
theorem add_apart : ∀ (r out : List Ru), Apart out → Apart (r.foldl addR out)
  | [], out, h => h
  | x :: r, out, h => by
    rw [List.foldl_cons]
    refine add_apart r _ ?_
    unfold addR
    split
    · exact h
    · rename_i hq
      refine List.pairwise_append.2 ⟨h, List.pairwise_singleton _ _, fun o ho y hy => ?_⟩
      rw [List.mem_singleton] at hy
      subst hy
      cases hv : overL o y with
      | false => rfl
      | true => exact absurd (List.any_eq_true.2 ⟨o, ho, hv⟩) hq
theorem add_same : ∀ (r out : List Ru), Apart (out ++ r) → r.foldl addR out = out ++ r
  | [], out, h => by simp
  | x :: r, out, h => by
    have hq : ¬ (out.any fun o => overL o x) = true := by
      intro hv
      obtain ⟨o, ho, hx⟩ := List.any_eq_true.1 hv
      have := (List.pairwise_append.1 h).2.2 o ho x (by simp)
      rw [hx] at this
      exact absurd this (by simp)
    have e : addR out x = out ++ [x] := by unfold addR; rw [if_neg hq]
    rw [List.foldl_cons, e, add_same r (out ++ [x]) (by rw [List.append_assoc]; exact h), List.append_assoc]
    rfl
theorem trim_trim : ∀ a : List Ru, trimR (trimR a) = trimR a
  | [] => rfl
  | x :: r => by
    have ih := trim_trim r
    by_cases h : trimR r = [] ∧ x.quiet = false
    · have e : trimR (x :: r) = [] := by simp only [trimR]; rw [if_pos h]
      rw [e]; rfl
    · have e : trimR (x :: r) = x :: trimR r := by simp only [trimR]; rw [if_neg h]
      rw [e]
      simp only [trimR]
      rw [ih, if_neg h]
theorem tidy_tidy {xs : List Ru} (h : rokL xs = true) : tidyL (tidyL xs) = tidyL xs := by
  have h2 : ((tidyL xs).all ruOk && decide (((tidyL xs).length : Int) ≤ 8)) = true := tidy_ok h
  have h1 : (xs.all ruOk && decide ((xs.length : Int) ≤ 8)) = true := h
  have e : tidyL xs = trimR (xs.foldl addR []) := by unfold tidyL; rw [if_pos h1]
  have ap : Apart (tidyL xs) := by
    rw [e]
    obtain ⟨b, hb⟩ := trimR_pre (xs.foldl addR [])
    have := add_apart xs [] List.Pairwise.nil
    rw [hb] at this
    exact (List.pairwise_append.1 this).1
  have e2 : tidyL (tidyL xs) = trimR ((tidyL xs).foldl addR []) := by rw [tidyL, if_pos h2]
  rw [e2, add_same _ _ (by simpa using ap), List.nil_append, e, trim_trim]
end Go.Abs
namespace Go.Abs
open Go.Proofs
set_option maxRecDepth 100000
set_option linter.unusedSimpArgs false
set_option linter.unusedVariables false
set_option pp.maxSteps 20000
set_option pp.deepTerms true
theorem Ru.Rw.ofRt {h : AH} {l : Nat} {v : Value} {xs : List Ru} (r : Ru.Rt h l v xs) : Ru.Rw h v xs := by
  rcases r with q | ⟨id, g, c, ma, e1, e2, _⟩
  · exact .inl q
  · exact .inr ⟨id, g, c, ma, e1, e2⟩
/-- what a tidying leaves -/
def TiQ (h : AH) (xs : List Ru) (v : Value) (h' : AH) : Prop := Ru.Rw h' v (tidyL xs) ∧ (rokL xs = true → ∃ id g mr, v = slV id g (tidyL xs).length (tidyL xs).length ∧ h'[id]? = some (.row g 4 (Ru.R (tidyL xs ++ mr)))) ∧ Keep h.length h h'
theorem ti_impl {i g l n : Nat} {xs : List Ru} {h : AH} (hn : n = xs.length) (hx : xs.length ≤ 2 ^ 20) (hf : ∀ x ∈ xs, x.F) (el : h[i]? = some (.row g 4 (Ru.R xs))) (hl : l ≤ h.length) :
    Okr (TiQ h xs) (run V0 (.fn 19) l [S (slV i g n n)] h) := by
  subst hn
  cases hok : rokL xs with
  | false =>
    obtain ⟨v, h', e, q, k⟩ := r19 i g xs.length l xs h hx (fun x hx => (hf x hx).fit) el hl
    exact ⟨v, h', e, Ru.Rw.ofRt q, fun t => absurd (hok.symm.trans t) (by simp), k⟩
  | true =>
    obtain ⟨i', g', mr, h', e, q, k⟩ := r19m (mr := []) i g xs.length l xs h hx (fun x hx => (hf x hx).fit) (by simpa using el) hl hok
    exact ⟨_, h', e, .inr ⟨i', g', _, mr, rfl, q⟩, fun _ => ⟨i', g', mr, rfl, q⟩, k⟩
theorem ti_spec {i g l n : Nat} {xs : List Ru} {h : AH} (hn : n = xs.length) (hx : xs.length ≤ 2 ^ 20) (hf : ∀ x ∈ xs, x.F) (el : h[i]? = some (.row g 4 (Ru.R xs))) (hl : l ≤ h.length) :
    ∃ v h', run V0 (.fn 18) l [S (slV i g n n)] h = some (.ret v h') ∧ Ru.Rw h' v (tidyL xs) ∧ Keep h.length h h' := by
  subst hn
  obtain ⟨v, h', e, q, k⟩ := r18 i g xs.length l xs h hx (fun x hx => (hf x hx).fit) el hl
  exact ⟨v, h', e, Ru.Rw.ofRt q, k⟩
theorem hb_rules {l : Nat} {a b : Value} {h : AH} {xs ys : List Ru} (e : xs = ys) (hx : xs.length ≤ 2 ^ 20) (qa : Ru.Rw h a xs) (qb : Ru.Rw h b ys) : run V0 (.fn 35) l [S a, S b] h = some (.ret (.bool true) h) := by
  subst e
  rw [r35 l a b h xs xs hx hx qa qb, decide_eq_true rfl]
theorem rokL_nil : rokL [] = true := rfl
theorem r10 (va vb : Value) (n m l : Nat) (h : AH) (r : Cd h va n) (r' : Cd h vb m) (hl : l ≤ h.length) :
    Okr TrueQ (run V0 (.fn 10) l [S va, S vb] h) := by
  have lv := r.len
  have lv' := r'.len
  refine okr_fn Try.func10 rfl rfl rfl rfl ?_
  try simp (dsimp := false) (disch := (first | (refine dS ?_; kernel_rfl) | (refine dM ?_; kernel_rfl) | (refine dO ?_; simp (disch := ((try simp only [ZL]) <;> omega)) only [ZK, ZL]; done) | (refine dK ?_; (repeat first | exact Keep.refl _ _ | exact Keep.app _ _ (Nat.le_refl _) | assumption | refine Keep.ap ?_ | refine Keep.st (by first | omega | (simp only [ZL]; omega)) ?_); done) | ((try simp only [ZL]) <;> omega) | fail)) only [XOB, ↓XXs, ↓XD, ↓YX, ZB, Nat.reduceAdd, Nat.reducePow, ↓reduceIte, eq_self, Int.reduceEq, Nat.reduceEqDiff, Nat.reduceMul, Nat.reduceLeDiff, Int.reduceBEq, Int.reduceLT, Try.f10, ↓XH2, XRN, ZC, ZE, ZH, eq_self, Nat.reduceLeDiff, Nat.reduceBEq, slV_new, ZS, reduceIte, ↓op_extract, lv, lv']
  refine okr_if (fun t => ?_) (fun t => ?_)
  · simp (dsimp := false) (disch := (first | (refine dS ?_; kernel_rfl) | (refine dM ?_; kernel_rfl) | (refine dO ?_; simp (disch := ((try simp only [ZL]) <;> omega)) only [ZK, ZL]; done) | (refine dK ?_; (repeat first | exact Keep.refl _ _ | exact Keep.app _ _ (Nat.le_refl _) | assumption | refine Keep.ap ?_ | refine Keep.st (by first | omega | (simp only [ZL]; omega)) ?_); done) | ((try simp only [ZL]) <;> omega) | fail)) only [XOB, ↓XXs, ↓XD, ↓YX, ZB, Nat.reduceAdd, Nat.reducePow, ↓reduceIte, eq_self, Int.reduceEq, Nat.reduceEqDiff, Nat.reduceMul, Nat.reduceLeDiff, Int.reduceBEq, Int.reduceLT, Try.f10, ↓XH2, XRN, ZC, ZE, ZH, eq_self, Nat.reduceLeDiff, Nat.reduceBEq, slV_new, ZS, reduceIte, ↓op_extract, lv, lv']
    with_reducible refine Okr.ret ?_
    rfl
  try simp (dsimp := false) (disch := (first | (refine dS ?_; kernel_rfl) | (refine dM ?_; kernel_rfl) | (refine dO ?_; simp (disch := ((try simp only [ZL]) <;> omega)) only [ZK, ZL]; done) | (refine dK ?_; (repeat first | exact Keep.refl _ _ | exact Keep.app _ _ (Nat.le_refl _) | assumption | refine Keep.ap ?_ | refine Keep.st (by first | omega | (simp only [ZL]; omega)) ?_); done) | ((try simp only [ZL]) <;> omega) | fail)) only [XOB, ↓XXs, ↓XD, ↓YX, ZB, Nat.reduceAdd, Nat.reducePow, ↓reduceIte, eq_self, Int.reduceEq, Nat.reduceEqDiff, Nat.reduceMul, Nat.reduceLeDiff, Int.reduceBEq, Int.reduceLT, Try.f10, ↓XH2, XRN, ZC, ZE, ZH, eq_self, Nat.reduceLeDiff, Nat.reduceBEq, slV_new, ZS, reduceIte, ↓op_extract, lv, lv']
  refine okr_if (fun t' => ?_) (fun t' => ?_)
  · simp (dsimp := false) (disch := (first | (refine dS ?_; kernel_rfl) | (refine dM ?_; kernel_rfl) | (refine dO ?_; simp (disch := ((try simp only [ZL]) <;> omega)) only [ZK, ZL]; done) | (refine dK ?_; (repeat first | exact Keep.refl _ _ | exact Keep.app _ _ (Nat.le_refl _) | assumption | refine Keep.ap ?_ | refine Keep.st (by first | omega | (simp only [ZL]; omega)) ?_); done) | ((try simp only [ZL]) <;> omega) | fail)) only [XOB, ↓XXs, ↓XD, ↓YX, ZB, Nat.reduceAdd, Nat.reducePow, ↓reduceIte, eq_self, Int.reduceEq, Nat.reduceEqDiff, Nat.reduceMul, Nat.reduceLeDiff, Int.reduceBEq, Int.reduceLT, Try.f10, ↓XH2, XRN, ZC, ZE, ZH, eq_self, Nat.reduceLeDiff, Nat.reduceBEq, slV_new, ZS, reduceIte, ↓op_extract, lv, lv']
    with_reducible refine Okr.ret ?_
    rfl
  have hn : n ≤ 2 ^ 20 := by have := of_decide_eq_false t; omega
  have hm : m ≤ 2 ^ 20 := by have := of_decide_eq_false t'; omega
  try simp (dsimp := false) (disch := (first | (refine dS ?_; kernel_rfl) | (refine dM ?_; kernel_rfl) | (refine dO ?_; simp (disch := ((try simp only [ZL]) <;> omega)) only [ZK, ZL]; done) | (refine dK ?_; (repeat first | exact Keep.refl _ _ | exact Keep.app _ _ (Nat.le_refl _) | assumption | refine Keep.ap ?_ | refine Keep.st (by first | omega | (simp only [ZL]; omega)) ?_); done) | ((try simp only [ZL]) <;> omega) | fail)) only [XOB, ↓XXs, ↓XD, ↓YX, ZB, Nat.reduceAdd, Nat.reducePow, ↓reduceIte, eq_self, Int.reduceEq, Nat.reduceEqDiff, Nat.reduceMul, Nat.reduceLeDiff, Int.reduceBEq, Int.reduceLT, Try.f10, ↓XH2, XRN, ZC, ZE, ZH, eq_self, Nat.reduceLeDiff, Nat.reduceBEq, slV_new, ZS, reduceIte, ↓op_extract, lv, lv']
  refine okr_call (r34 va n l h r hl (by omega)) ?_
  rintro _ h2 ⟨⟨i1, g1, as_, rfl, e1, hi1, fr, h9⟩, k2⟩
  have hk2 := k2.1
  have ln1 : lenV (slV i1 g1 as_.length as_.length) = some (as_.length : Int) := rfl
  try simp (dsimp := false) (disch := (first | (refine dS ?_; kernel_rfl) | (refine dM ?_; kernel_rfl) | (refine dO ?_; simp (disch := ((try simp only [ZL]) <;> omega)) only [ZK, ZL]; done) | (refine dK ?_; (repeat first | exact Keep.refl _ _ | exact Keep.app _ _ (Nat.le_refl _) | assumption | refine Keep.ap ?_ | refine Keep.st (by first | omega | (simp only [ZL]; omega)) ?_); done) | ((try simp only [ZL]) <;> omega) | fail)) only [XOB, ↓XXs, ↓XD, ↓YX, ZB, Nat.reduceAdd, Nat.reducePow, ↓reduceIte, eq_self, Int.reduceEq, Nat.reduceEqDiff, Nat.reduceMul, Nat.reduceLeDiff, Int.reduceBEq, Int.reduceLT, Try.f10, ↓XH2, XRN, ZC, ZE, ZH, eq_self, Nat.reduceLeDiff, Nat.reduceBEq, slV_new, ZS, reduceIte, ↓op_extract, lv, lv']
  refine okr_call (ti_impl rfl (by omega) fr e1 (by omega)) ?_
  rintro v3 h3 ⟨w3, o3, k3⟩
  have hk3 := k3.1
  have e13 := k3.get e1 (lt_of_get e1)
  have l3 := w3.len
  have htl := tidyL_len as_
  obtain ⟨v4, h4, a4, w4, k4⟩ := ti_spec (l := l) rfl (by omega) fr e13 (by omega)
  have hk4 := k4.1
  have e14 := k4.get e13 (lt_of_get e13)
  have w34 := w3.keep k4
  have a5 := hb_rules (l := l) rfl (by omega) w34 w4
  obtain ⟨_, h6, a6, rfl, k6⟩ := put_ok (l := l) rfl (by omega) fr e14 (by omega)
  have hk6 := k6.1
  have e16 := k6.get e14 (lt_of_get e14)
  have w36 := w34.keep k6
  have k34 := k4
  have k36 := k4.trans (k6.le hk4)
  try simp (dsimp := false) (disch := (first | (refine dS ?_; kernel_rfl) | (refine dM ?_; kernel_rfl) | (refine dO ?_; simp (disch := ((try simp only [ZL]) <;> omega)) only [ZK, ZL]; done) | (refine dK ?_; (repeat first | exact Keep.refl _ _ | exact Keep.app _ _ (Nat.le_refl _) | assumption | refine Keep.ap ?_ | refine Keep.st (by first | omega | (simp only [ZL]; omega)) ?_); done) | ((try simp only [ZL]) <;> omega) | fail)) only [XOB, ↓XXs, ↓XD, ↓YX, ZB, Nat.reduceAdd, Nat.reducePow, ↓reduceIte, eq_self, Int.reduceEq, Nat.reduceEqDiff, Nat.reduceMul, Nat.reduceLeDiff, Int.reduceBEq, Int.reduceLT, Try.f10, ↓XH2, XRN, ZC, ZE, ZH, eq_self, Nat.reduceLeDiff, Nat.reduceBEq, slV_new, ZS, reduceIte, ↓op_extract, lv, lv', ln1, l3, a4, a5, a6]
  refine okr_if (fun t8 => ?_) (fun t8 => ?_)
  · try simp (dsimp := false) (disch := (first | (refine dS ?_; kernel_rfl) | (refine dM ?_; kernel_rfl) | (refine dO ?_; simp (disch := ((try simp only [ZL]) <;> omega)) only [ZK, ZL]; done) | (refine dK ?_; (repeat first | exact Keep.refl _ _ | exact Keep.app _ _ (Nat.le_refl _) | assumption | refine Keep.ap ?_ | refine Keep.st (by first | omega | (simp only [ZL]; omega)) ?_); done) | ((try simp only [ZL]) <;> omega) | fail)) only [XOB, ↓XXs, ↓XD, ↓YX, ZB, Nat.reduceAdd, Nat.reducePow, ↓reduceIte, eq_self, Int.reduceEq, Nat.reduceEqDiff, Nat.reduceMul, Nat.reduceLeDiff, Int.reduceBEq, Int.reduceLT, Try.f10, ↓XH2, XRN, ZC, ZE, ZH, eq_self, Nat.reduceLeDiff, Nat.reduceBEq, slV_new, ZS, reduceIte, ↓op_extract, lv, lv', ln1, l3, a4, a5, a6]
    refine okr_if (fun t9 => ?_) (fun t9 => ?_)
    · skip
      try simp (dsimp := false) (disch := (first | (refine dS ?_; kernel_rfl) | (refine dM ?_; kernel_rfl) | (refine dO ?_; simp (disch := ((try simp only [ZL]) <;> omega)) only [ZK, ZL]; done) | (refine dK ?_; (repeat first | exact Keep.refl _ _ | exact Keep.app _ _ (Nat.le_refl _) | assumption | refine Keep.ap ?_ | refine Keep.st (by first | omega | (simp only [ZL]; omega)) ?_); done) | ((try simp only [ZL]) <;> omega) | fail)) only [XOB, ↓XXs, ↓XD, ↓YX, ZB, Nat.reduceAdd, Nat.reducePow, ↓reduceIte, eq_self, Int.reduceEq, Nat.reduceEqDiff, Nat.reduceMul, Nat.reduceLeDiff, Int.reduceBEq, Int.reduceLT, Try.f10, ↓XH2, XRN, ZC, ZE, ZH, eq_self, Nat.reduceLeDiff, Nat.reduceBEq, slV_new, ZS, reduceIte, ↓op_extract, lv, lv']
      refine okr_call (Q := fun v h' => Ru.Rw h' v (tidyL as_) ∧ Keep h6.length h6 h') (ti_spec rfl (by omega) fr (k36.get e13 (lt_of_get e13)) (by omega)) ?_
      rintro v9 h9 ⟨w9, k9⟩
      have a9 := hb_rules (l := l) rfl (by omega) ((w3.keep k36).keep k9) w9
      try simp (dsimp := false) (disch := (first | (refine dS ?_; kernel_rfl) | (refine dM ?_; kernel_rfl) | (refine dO ?_; simp (disch := ((try simp only [ZL]) <;> omega)) only [ZK, ZL]; done) | (refine dK ?_; (repeat first | exact Keep.refl _ _ | exact Keep.app _ _ (Nat.le_refl _) | assumption | refine Keep.ap ?_ | refine Keep.st (by first | omega | (simp only [ZL]; omega)) ?_); done) | ((try simp only [ZL]) <;> omega) | fail)) only [XOB, ↓XXs, ↓XD, ↓YX, ZB, Nat.reduceAdd, Nat.reducePow, ↓reduceIte, eq_self, Int.reduceEq, Nat.reduceEqDiff, Nat.reduceMul, Nat.reduceLeDiff, Int.reduceBEq, Int.reduceLT, Try.f10, ↓XH2, XRN, ZC, ZE, ZH, eq_self, Nat.reduceLeDiff, Nat.reduceBEq, slV_new, ZS, reduceIte, ↓op_extract, lv, lv', a9]
      with_reducible refine Okr.ret ?_
      rfl
    have hok : rokL as_ = true := rputL_ne (fun q => by rw [q] at t9; simp at t9)
    obtain ⟨iF, gF, mr, rfl, rw3⟩ := o3 hok
    try simp (dsimp := false) (disch := (first | (refine dS ?_; kernel_rfl) | (refine dM ?_; kernel_rfl) | (refine dO ?_; simp (disch := ((try simp only [ZL]) <;> omega)) only [ZK, ZL]; done) | (refine dK ?_; (repeat first | exact Keep.refl _ _ | exact Keep.app _ _ (Nat.le_refl _) | assumption | refine Keep.ap ?_ | refine Keep.st (by first | omega | (simp only [ZL]; omega)) ?_); done) | ((try simp only [ZL]) <;> omega) | fail)) only [XOB, ↓XXs, ↓XD, ↓YX, ZB, Nat.reduceAdd, Nat.reducePow, ↓reduceIte, eq_self, Int.reduceEq, Nat.reduceEqDiff, Nat.reduceMul, Nat.reduceLeDiff, Int.reduceBEq, Int.reduceLT, Try.f10, ↓XH2, XRN, ZC, ZE, ZH, eq_self, Nat.reduceLeDiff, Nat.reduceBEq, slV_new, ZS, reduceIte, ↓op_extract, lv, lv']
    refine okr_call (r31 vb m l h6 (r'.keep (k2.trans ((k3.trans (k36.le hk3)).le hk2))) (by omega) (by omega)) ?_
    rintro _ h8 ⟨⟨i8, g8, bs, i2, g2, log, rfl, _, e2, hi8, hi2, _, _, _, hinc, h60⟩, k8⟩
    have hk8 := k8.1
    have rw8 := k8.get (k36.get rw3 (lt_of_get rw3)) (lt_of_get (k36.get rw3 (lt_of_get rw3)))
    have e18 := k8.get (k36.get e13 (lt_of_get e13)) (lt_of_get (k36.get e13 (lt_of_get e13)))
    obtain ⟨i9, g9, mr9, h9, a9, rw9, k9⟩ := r19m (mr := mr) iF gF (tidyL as_).length l (tidyL as_) h8 (by omega) (fun x hx => (fr x (tidy_mem hx)).fit) rw8 (by omega) (tidy_ok hok)
    have hk9 := k9.1
    have rw89 := k9.get rw8 (lt_of_get rw8)
    have e19 := k9.get e18 (lt_of_get e18)
    have e29 := k9.get e2 (lt_of_get e2)
    have tt := tidy_tidy hok
    have b9 := hb_rules (l := l) tt (by rw [tt]; omega) (.inr ⟨i9, g9, (tidyL (tidyL as_)).length, mr9, rfl, rw9⟩) (.inr ⟨iF, gF, (tidyL as_).length, mr, rfl, rw89⟩)
    obtain ⟨v10, h10, a10, q10, k10⟩ := r27m (mr := mr) iF gF (tidyL as_).length l 0 (slV i2 g2 log.length log.length) (tidyL as_) log h9 (by omega) (by omega) (fun x hx => (fr x (tidy_mem hx)).fit) rw89 (En.Rw.of e29).rt (by omega)
    have hk10 := k10.1
    have e110 := k10.get e19 (lt_of_get e19)
    have e210 := k10.get e29 (lt_of_get e29)
    obtain ⟨v11, h11, a11, q11, k11⟩ := r27 i1 g1 as_.length l 0 (slV i2 g2 log.length log.length) as_ log h10 (by omega) (by omega) (fun x hx => (fr x hx).fit) e110 (En.Rw.of e210).rt (by omega)
    have b11 := hb_log (l := l) (filt_tidy hok log) (by have := filtL_len (tidyL as_) log; omega) ((En.Rw.ofRt q10).keep k11) (En.Rw.ofRt q11)
    have hle : decide (((tidyL as_).length : Int) ≤ (as_.length : Int)) = true := decide_eq_true (by omega)
    try simp (dsimp := false) (disch := (first | (refine dS ?_; kernel_rfl) | (refine dM ?_; kernel_rfl) | (refine dO ?_; simp (disch := ((try simp only [ZL]) <;> omega)) only [ZK, ZL]; done) | (refine dK ?_; (repeat first | exact Keep.refl _ _ | exact Keep.app _ _ (Nat.le_refl _) | assumption | refine Keep.ap ?_ | refine Keep.st (by first | omega | (simp only [ZL]; omega)) ?_); done) | ((try simp only [ZL]) <;> omega) | fail)) only [XOB, ↓XXs, ↓XD, ↓YX, ZB, Nat.reduceAdd, Nat.reducePow, ↓reduceIte, eq_self, Int.reduceEq, Nat.reduceEqDiff, Nat.reduceMul, Nat.reduceLeDiff, Int.reduceBEq, Int.reduceLT, Try.f10, ↓XH2, XRN, ZC, ZE, ZH, eq_self, Nat.reduceLeDiff, Nat.reduceBEq, slV_new, ZS, reduceIte, ↓op_extract, lv, lv', a9, b9, a10, a11, b11, hle]
    with_reducible refine Okr.ret ?_
    rfl
  · have hok : rokL as_ = true := by
      have h1 := of_decide_eq_false t8
      obtain rfl : as_ = [] := List.length_eq_zero_iff.1 (by omega)
      rfl
    obtain ⟨iF, gF, mr, rfl, rw3⟩ := o3 hok
    try simp (dsimp := false) (disch := (first | (refine dS ?_; kernel_rfl) | (refine dM ?_; kernel_rfl) | (refine dO ?_; simp (disch := ((try simp only [ZL]) <;> omega)) only [ZK, ZL]; done) | (refine dK ?_; (repeat first | exact Keep.refl _ _ | exact Keep.app _ _ (Nat.le_refl _) | assumption | refine Keep.ap ?_ | refine Keep.st (by first | omega | (simp only [ZL]; omega)) ?_); done) | ((try simp only [ZL]) <;> omega) | fail)) only [XOB, ↓XXs, ↓XD, ↓YX, ZB, Nat.reduceAdd, Nat.reducePow, ↓reduceIte, eq_self, Int.reduceEq, Nat.reduceEqDiff, Nat.reduceMul, Nat.reduceLeDiff, Int.reduceBEq, Int.reduceLT, Try.f10, ↓XH2, XRN, ZC, ZE, ZH, eq_self, Nat.reduceLeDiff, Nat.reduceBEq, slV_new, ZS, reduceIte, ↓op_extract, lv, lv']
    refine okr_call (r31 vb m l h4 (r'.keep (k2.trans ((k3.trans (k34.le hk3)).le hk2))) (by omega) (by omega)) ?_
    rintro _ h8 ⟨⟨i8, g8, bs, i2, g2, log, rfl, _, e2, hi8, hi2, _, _, _, hinc, h60⟩, k8⟩
    have hk8 := k8.1
    have rw8 := k8.get (k34.get rw3 (lt_of_get rw3)) (lt_of_get (k34.get rw3 (lt_of_get rw3)))
    have e18 := k8.get (k34.get e13 (lt_of_get e13)) (lt_of_get (k34.get e13 (lt_of_get e13)))
    obtain ⟨i9, g9, mr9, h9, a9, rw9, k9⟩ := r19m (mr := mr) iF gF (tidyL as_).length l (tidyL as_) h8 (by omega) (fun x hx => (fr x (tidy_mem hx)).fit) rw8 (by omega) (tidy_ok hok)
    have hk9 := k9.1
    have rw89 := k9.get rw8 (lt_of_get rw8)
    have e19 := k9.get e18 (lt_of_get e18)
    have e29 := k9.get e2 (lt_of_get e2)
    have tt := tidy_tidy hok
    have b9 := hb_rules (l := l) tt (by rw [tt]; omega) (.inr ⟨i9, g9, (tidyL (tidyL as_)).length, mr9, rfl, rw9⟩) (.inr ⟨iF, gF, (tidyL as_).length, mr, rfl, rw89⟩)
    obtain ⟨v10, h10, a10, q10, k10⟩ := r27m (mr := mr) iF gF (tidyL as_).length l 0 (slV i2 g2 log.length log.length) (tidyL as_) log h9 (by omega) (by omega) (fun x hx => (fr x (tidy_mem hx)).fit) rw89 (En.Rw.of e29).rt (by omega)
    have hk10 := k10.1
    have e110 := k10.get e19 (lt_of_get e19)
    have e210 := k10.get e29 (lt_of_get e29)
    obtain ⟨v11, h11, a11, q11, k11⟩ := r27 i1 g1 as_.length l 0 (slV i2 g2 log.length log.length) as_ log h10 (by omega) (by omega) (fun x hx => (fr x hx).fit) e110 (En.Rw.of e210).rt (by omega)
    have b11 := hb_log (l := l) (filt_tidy hok log) (by have := filtL_len (tidyL as_) log; omega) ((En.Rw.ofRt q10).keep k11) (En.Rw.ofRt q11)
    have hle : decide (((tidyL as_).length : Int) ≤ (as_.length : Int)) = true := decide_eq_true (by omega)
    try simp (dsimp := false) (disch := (first | (refine dS ?_; kernel_rfl) | (refine dM ?_; kernel_rfl) | (refine dO ?_; simp (disch := ((try simp only [ZL]) <;> omega)) only [ZK, ZL]; done) | (refine dK ?_; (repeat first | exact Keep.refl _ _ | exact Keep.app _ _ (Nat.le_refl _) | assumption | refine Keep.ap ?_ | refine Keep.st (by first | omega | (simp only [ZL]; omega)) ?_); done) | ((try simp only [ZL]) <;> omega) | fail)) only [XOB, ↓XXs, ↓XD, ↓YX, ZB, Nat.reduceAdd, Nat.reducePow, ↓reduceIte, eq_self, Int.reduceEq, Nat.reduceEqDiff, Nat.reduceMul, Nat.reduceLeDiff, Int.reduceBEq, Int.reduceLT, Try.f10, ↓XH2, XRN, ZC, ZE, ZH, eq_self, Nat.reduceLeDiff, Nat.reduceBEq, slV_new, ZS, reduceIte, ↓op_extract, lv, lv', a9, b9, a10, a11, b11, hle]
    with_reducible refine Okr.ret ?_
    rfl
theorem rz10 (va vb : Value) (n m l : Nat) (h : AH) (r : Cd h va n) (r' : Cd h vb m) (hl : l ≤ h.length) : ∃ h', run V0 (.fn 10) l [S va, S vb] h = some (.ret (.bool true) h') := by
  obtain ⟨v, h', e, rfl⟩ := r10 va vb n m l h r r' hl
  exact ⟨h', e⟩
end Go.Abs
