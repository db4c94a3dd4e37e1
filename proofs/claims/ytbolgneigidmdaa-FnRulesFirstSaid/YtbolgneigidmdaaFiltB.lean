/- That the law answers true. For every code; no condition. -/
import Derived.Test.YtbolgneigidmdaaLogB
import Derived.Test.YtbolgneigidmdaaFiltA
import Derived.Test.YtbolgneigidmdaaLogD
namespace Go.Abs
open Go.Proofs
set_option maxRecDepth 100000
set_option linter.unusedSimpArgs false
set_option linter.unusedVariables false
set_option pp.maxSteps 20000
set_option pp.deepTerms true
def Ru.F (x : Ru) : Prop := x.room.length ≤ 64 ∧ x.user.length ≤ 64
theorem Ru.R_one (x : Ru) : Ru.R [x] = Ru.C x := by simp [Ru.R]
theorem Ru.app3 {lim : Nat} {h : AH} {id g g2 no nh : Nat} {os : List Ru} {cs ys : List Value} (y : Ru) (e : h[id]? = some (.row g 4 cs)) (e2 : h[nh]? = some (.row g2 4 ys)) (hc : cs = Ru.R os) (hno : no = os.length) (hl : lim ≤ id) (hb : os.length ≤ 2 ^ 30) (hy : ys = Ru.C y) :
    ∃ z, app lim h (slV id g no no) (slV nh g2 1 1) 4 4 48 = some z ∧ ∃ g', z = (slV id g' (no + 1) (no + 1), h.set id (.row g' 4 (Ru.R (os ++ [y])))) := by
  subst hc hno hy
  obtain ⟨z, e1, g', rfl⟩ := okr_app (lim := lim) (id := id) (g := g) (tg := 4) (n := os.length) (k := 1) (by' := 48) (cs := Ru.R os) (x := slV nh g2 1 1) (ds := Ru.C y) (src_new (sz := 4) (tg := 4) e2 rfl) e (by rw [Ru.R_len]; omega) hl (by omega)
  exact ⟨_, e1, g', by rw [Ru.R_app, Ru.R_one]⟩
structure RuAt (H0 h : AH) (id : Nat) (va : Value) (n P : Nat) (il g : Nat) (rs : List Ru) : Prop where
  e : h[il]? = some (.row g 4 (Ru.R rs))
  hi : H0.length ≤ il
  f : ∀ x ∈ rs, x.F
  r : ∃ p, p ≤ P ∧ Rd h id va n p
  hid : id < H0.length
  k : KX H0.length id H0 h
theorem RuAt.dr {H0 h : AH} {id : Nat} {va : Value} {n P Q p il g : Nat} {rs : List Ru} (q : RuAt H0 h id va n P il g rs) (L : AH) (hr : Rd h id va n p) (p' : Nat) (hp : p' ≤ Q) : RuAt H0 (h.set id (rdO va p') ++ L) id va n Q il g rs := by
  have h1 := lt_of_get hr.1
  have h2 := q.hi
  have h3 := q.hid
  have h4 := lt_of_get q.e
  refine ⟨by rw [HAn (by rw [List.length_set]; exact h4), HC3 (by omega), q.e], q.hi, q.f, ⟨p', hp, hr.kp p'⟩, q.hid, q.k.trans ?_⟩
  have c1 : KX H0.length id h (h.set id (rdO va p')) := KX.set _ _ _ _
  exact c1.trans ((Keep.app _ _ (by rw [List.length_set]; exact q.k.1)).kx (Nat.le_refl _))
theorem RuAt.st {H0 h : AH} {id : Nat} {va : Value} {n P il g g' : Nat} {rs rs' : List Ru} (q : RuAt H0 h id va n P il g rs) (f : ∀ x ∈ rs', x.F) : RuAt H0 (h.set il (.row g' 4 (Ru.R rs'))) id va n P il g' rs' := by
  have h1 := q.k.1
  have h2 := q.hid
  have h3 := q.hi
  have h4 := lt_of_get q.e
  obtain ⟨p, hp, r⟩ := q.r
  exact ⟨HC4 rfl h4, q.hi, f, ⟨p, hp, r.keep ⟨by simp, fun j hj => HC3 (by omega)⟩⟩, q.hid, q.k.trans ⟨by simp, fun j hj _ => HC3 (by omega)⟩⟩
theorem RuAt.keep {H0 h h' : AH} {id : Nat} {va : Value} {n P il g : Nat} {rs : List Ru} (q : RuAt H0 h id va n P il g rs) (k : Keep h.length h h') : RuAt H0 h' id va n P il g rs := by
  have h1 := q.k.1
  have h2 := q.hid
  obtain ⟨p, hp, r⟩ := q.r
  exact ⟨k.get q.e (lt_of_get q.e), q.hi, q.f, ⟨p, hp, r.keep (k.le (by omega))⟩, q.hid, q.k.trans (k.kx (by omega))⟩
theorem RuAt.dr0 {H0 h : AH} {id : Nat} {va : Value} {n P Q p il g : Nat} {rs : List Ru} (q : RuAt H0 h id va n P il g rs) (hr : Rd h id va n p) (p' : Nat) (hp : p' ≤ Q) : RuAt H0 (h.set id (rdO va p')) id va n Q il g rs := by
  have := q.dr [] hr p' hp
  rwa [List.append_nil] at this
theorem Ru.setRoom (d : List Ru) (x : Ru) (t : List Ru) (m : Bs) : (Ru.R (d ++ x :: t)).set (d.length * 4 + 1) (sV m) = Ru.R (d ++ ⟨x.quiet, m, x.user, x.kind⟩ :: t) := by
  rw [Ru.R_app, Ru.R_cons, Ru.R_app, Ru.R_cons, List.set_append_right _ _ (by rw [Ru.R_len]; omega), Ru.R_len, show d.length * 4 + 1 - 4 * d.length = 1 by omega]
  rfl
theorem Ru.setKind (d : List Ru) (x : Ru) (t : List Ru) (m : Int) : (Ru.R (d ++ x :: t)).set (d.length * 4 + 3) (iV m) = Ru.R (d ++ ⟨x.quiet, x.room, x.user, m⟩ :: t) := by
  rw [Ru.R_app, Ru.R_cons, Ru.R_app, Ru.R_cons, List.set_append_right _ _ (by rw [Ru.R_len]; omega), Ru.R_len, show d.length * 4 + 3 - 4 * d.length = 3 by omega]
  rfl
theorem Ru.F_set {d t : List Ru} {x y : Ru} (f : ∀ z ∈ d ++ x :: t, z.F) (fy : y.F) : ∀ z ∈ d ++ y :: t, z.F := by
  intro z hz
  rcases List.mem_append.mp hz with q | q
  · exact f z (List.mem_append_left _ q)
  · rcases List.mem_cons.mp q with q | q
    · rw [q]; exact fy
    · exact f z (List.mem_append_right _ (List.mem_cons_of_mem _ q))
theorem Ru.F_app {d : List Ru} {y : Ru} (f : ∀ z ∈ d, z.F) (fy : y.F) : ∀ z ∈ d ++ [y], z.F := by
  intro z hz
  rcases List.mem_append.mp hz with q | q
  · exact f z q
  · rw [List.mem_singleton.mp q]; exact fy
structure RulesQ (H0 : AH) (id : Nat) (va : Value) (n P : Nat) (v : Value) (h' : AH) : Prop where
  ex : ∃ il g rs, v = slV il g rs.length rs.length ∧ RuAt H0 h' id va n P il g rs ∧ rs.length ≤ 9
set_option maxHeartbeats 4000000 in
theorem L59 {H0 : AH} {id : Nat} {va : Value} {n l : Nat} (hl : l ≤ id) (hn : n ≤ 2 ^ 62) :
    ∀ (k P il g no : Nat) (i : Int) (rs : List Ru) (h : AH), RuAt H0 h id va n P il g rs → rs.length + k ≤ 9 → no = rs.length → i = k → P + 20 * k ≤ 2 ^ 39 →
      Okr (RulesQ H0 id va n (P + 20 * k + 20)) (L59_0 l (pV id 0 0) (slV il g no no) (iV i) h) := by
  intro k
  induction k with
  | zero =>
    rintro P il g no i rs h q h9 rfl rfl hP
    have hlt : decide ((0 : Int) < ((0 : Nat) : Int)) = false := rfl
    refine okr_code Try.func59 rfl rfl ?_
    simp (dsimp := false) (disch := (first | (refine dS ?_; kernel_rfl) | (refine dM ?_; kernel_rfl) | (refine dO ?_; simp (disch := ((try simp only [ZL]) <;> omega)) only [ZK, ZL]; done) | (refine dK ?_; (repeat first | exact Keep.refl _ _ | exact Keep.app _ _ (Nat.le_refl _) | assumption | refine Keep.ap ?_ | refine Keep.st (by first | omega | (simp only [ZL]; omega)) ?_); done) | ((try simp only [ZL]) <;> omega) | fail)) only [XOB, ↓XXs, ↓XD, ↓YX, ZB, Nat.reduceAdd, Nat.reducePow, ↓reduceIte, eq_self, Int.reduceEq, Nat.reduceEqDiff, Nat.reduceMul, Nat.reduceLeDiff, Int.reduceBEq, Int.reduceLT, Try.f59, ↓XH2, XRN, ZC, ZE, ZH, eq_self, Nat.reduceLeDiff, Nat.reduceBEq, slV_new, ZS, reduceIte, ↓op_extract, Ru.R_len, hlt]
    obtain ⟨p, hp, r⟩ := q.r
    have ide := q.hid
    have hi := q.hi
    have hil := lt_of_get q.e
    have hidl := lt_of_get r.1
    have qe := q.e
    have q0 : RuAt H0 h id va n (P + 20) il g rs := ⟨q.e, q.hi, q.f, ⟨p, by omega, r⟩, q.hid, q.k⟩
    refine okr_if (fun hpos => ?_) (fun _ => ?_)
    · have hpos : 0 < rs.length := by have := of_decide_eq_true hpos; omega
      simp (dsimp := false) (disch := (first | (refine dS ?_; kernel_rfl) | (refine dM ?_; kernel_rfl) | (refine dO ?_; simp (disch := ((try simp only [ZL]) <;> omega)) only [ZK, ZL]; done) | (refine dK ?_; (repeat first | exact Keep.refl _ _ | exact Keep.app _ _ (Nat.le_refl _) | assumption | refine Keep.ap ?_ | refine Keep.st (by first | omega | (simp only [ZL]; omega)) ?_); done) | ((try simp only [ZL]) <;> omega) | fail)) only [XOB, ↓XXs, ↓XD, ↓YX, ZB, Nat.reduceAdd, Nat.reducePow, ↓reduceIte, eq_self, Int.reduceEq, Nat.reduceEqDiff, Nat.reduceMul, Nat.reduceLeDiff, Int.reduceBEq, Int.reduceLT, Try.f59, ↓XH2, XRN, ZC, ZE, ZH, eq_self, Nat.reduceLeDiff, Nat.reduceBEq, slV_new, ZS, reduceIte, ↓op_extract, Ru.R_len, hlt]
      refine okr_call (okr_pick 12 r hl rfl (by simp) (by simp) hn (by omega)) ?_
      rintro _ _ ⟨⟨m, rfl, hm⟩, rfl⟩
      have q1 : RuAt H0 (h.set id (rdO va (p + 1))) id va n (P + 20) il g rs := by simpa using q.dr (Q := P + 20) [] r (p + 1) (by omega)
      simp (dsimp := false) (disch := (first | (refine dS ?_; kernel_rfl) | (refine dM ?_; kernel_rfl) | (refine dO ?_; simp (disch := ((try simp only [ZL]) <;> omega)) only [ZK, ZL]; done) | (refine dK ?_; (repeat first | exact Keep.refl _ _ | exact Keep.app _ _ (Nat.le_refl _) | assumption | refine Keep.ap ?_ | refine Keep.st (by first | omega | (simp only [ZL]; omega)) ?_); done) | ((try simp only [ZL]) <;> omega) | fail)) only [XOB, ↓XXs, ↓XD, ↓YX, ZB, Nat.reduceAdd, Nat.reducePow, ↓reduceIte, eq_self, Int.reduceEq, Nat.reduceEqDiff, Nat.reduceMul, Nat.reduceLeDiff, Int.reduceBEq, Int.reduceLT, Try.f59, ↓XH2, XRN, ZC, ZE, ZH, eq_self, Nat.reduceLeDiff, Nat.reduceBEq, slV_new, ZS, reduceIte, ↓op_extract, Ru.R_len, hlt]
      refine okr_if (fun _ => ?_) (fun _ => ?_)
      · simp (dsimp := false) (disch := (first | (refine dS ?_; kernel_rfl) | (refine dM ?_; kernel_rfl) | (refine dO ?_; simp (disch := ((try simp only [ZL]) <;> omega)) only [ZK, ZL]; done) | (refine dK ?_; (repeat first | exact Keep.refl _ _ | exact Keep.app _ _ (Nat.le_refl _) | assumption | refine Keep.ap ?_ | refine Keep.st (by first | omega | (simp only [ZL]; omega)) ?_); done) | ((try simp only [ZL]) <;> omega) | fail)) only [XOB, ↓XXs, ↓XD, ↓YX, ZB, Nat.reduceAdd, Nat.reducePow, ↓reduceIte, eq_self, Int.reduceEq, Nat.reduceEqDiff, Nat.reduceMul, Nat.reduceLeDiff, Int.reduceBEq, Int.reduceLT, Try.f59, ↓XH2, XRN, ZC, ZE, ZH, eq_self, Nat.reduceLeDiff, Nat.reduceBEq, slV_new, ZS, reduceIte, ↓op_extract, Ru.R_len, hlt]
        refine okr_call (okr_pick rs.length (r.step (p + 1)) hl rfl (by omega) (by omega) hn (by omega)) ?_
        rintro _ _ ⟨⟨m2, rfl, hm2⟩, rfl⟩
        obtain ⟨d, x, t, hd, hdl⟩ : ∃ d x t, rs = d ++ x :: t ∧ d.length = m2 := ⟨rs.take m2, rs[m2], rs.drop (m2 + 1), by rw [← List.drop_eq_getElem_cons hm2, List.take_append_drop], by simp; omega⟩
        have hix : ixAddr (slV il g rs.length rs.length) (m2 : Int) 4 = some (pV il (m2 * 4) g) := by rw [ixAddr_sl hm2]; simp
        simp (dsimp := false) (disch := (first | (refine dS ?_; kernel_rfl) | (refine dM ?_; kernel_rfl) | (refine dO ?_; simp (disch := ((try simp only [ZL]) <;> omega)) only [ZK, ZL]; done) | (refine dK ?_; (repeat first | exact Keep.refl _ _ | exact Keep.app _ _ (Nat.le_refl _) | assumption | refine Keep.ap ?_ | refine Keep.st (by first | omega | (simp only [ZL]; omega)) ?_); done) | ((try simp only [ZL]) <;> omega) | fail)) only [XOB, ↓XXs, ↓XD, ↓YX, ZB, Nat.reduceAdd, Nat.reducePow, ↓reduceIte, eq_self, Int.reduceEq, Nat.reduceEqDiff, Nat.reduceMul, Nat.reduceLeDiff, Int.reduceBEq, Int.reduceLT, Try.f59, ↓XH2, XRN, ZC, ZE, ZH, eq_self, Nat.reduceLeDiff, Nat.reduceBEq, slV_new, ZS, reduceIte, ↓op_extract, Ru.R_len, hlt, hix, qe]
        subst hd hdl
        have fx := q.f x (by simp)
        refine okr_call (okr_of [_, _, _] (r.kp (p + 2)) hl (by simp (disch := (first | (refine dS ?_; kernel_rfl) | (refine dM ?_; kernel_rfl) | (refine dO ?_; simp (disch := ((try simp only [ZL]) <;> omega)) only [ZK, ZL]; done) | (refine dK ?_; (repeat first | exact Keep.refl _ _ | exact Keep.app _ _ (Nat.le_refl _) | assumption | refine Keep.ap ?_ | refine Keep.st (by first | omega | (simp only [ZL]; omega)) ?_); done) | ((try simp only [ZL]) <;> omega) | fail)) only [↓XH2, XRN, ZC, ZE, ZH, eq_self, Nat.reduceLeDiff, Nat.reduceBEq] <;> rfl) rfl rfl (by omega) (by simp) (by simp) hn (by omega)) ?_
        rintro _ _ ⟨⟨rm, rfl, hrm⟩, rfl⟩
        have frm : rm.length ≤ 64 := by revert rm; decide
        have q2 := (q.dr0 (Q := P + 20) r (p + 3) (by omega)).st (g' := g) (Ru.F_set q.f (y := ⟨x.quiet, rm, x.user, x.kind⟩) ⟨frm, fx.2⟩)
        have q2r : Rd ((h.set id (rdO va (p + 3))).set il (.row g 4 (Ru.R (d ++ ⟨x.quiet, rm, x.user, x.kind⟩ :: t)))) id va n (p + 3) := (r.step (p + 3)).keep ⟨by simp, fun j hj => HC3 (by omega)⟩
        simp (dsimp := false) (disch := (first | (refine dS ?_; kernel_rfl) | (refine dM ?_; kernel_rfl) | (refine dO ?_; simp (disch := ((try simp only [ZL]) <;> omega)) only [ZK, ZL]; done) | (refine dK ?_; (repeat first | exact Keep.refl _ _ | exact Keep.app _ _ (Nat.le_refl _) | assumption | refine Keep.ap ?_ | refine Keep.st (by first | omega | (simp only [ZL]; omega)) ?_); done) | ((try simp only [ZL]) <;> omega) | fail)) only [XOB, ↓XXs, ↓XD, ↓YX, ZB, Nat.reduceAdd, Nat.reducePow, ↓reduceIte, eq_self, Int.reduceEq, Nat.reduceEqDiff, Nat.reduceMul, Nat.reduceLeDiff, Int.reduceBEq, Int.reduceLT, Try.f59, ↓XH2, XRN, ZC, ZE, ZH, eq_self, Nat.reduceLeDiff, Nat.reduceBEq, slV_new, ZS, reduceIte, ↓op_extract, Ru.R_len, hlt, hix, qe, Ru.setRoom, Ru.setKind]
        refine okr_call (okr_one [_, _, _] q2r.ap hl (by rw [List.getElem?_append_right (by simp)]; simp; rfl) rfl rfl (by omega) (by simp) (by simp) hn (by omega)) ?_
        rintro _ _ ⟨⟨kd, rfl, hkd⟩, rfl⟩
        have q3 := (q2.dr0 (Q := P + 20) q2r (p + 4) (by omega)).st (g' := g) (Ru.F_set q2.f (y := ⟨x.quiet, rm, x.user, kd⟩) ⟨frm, fx.2⟩)
        simp (dsimp := false) (disch := (first | (refine dS ?_; kernel_rfl) | (refine dM ?_; kernel_rfl) | (refine dO ?_; simp (disch := ((try simp only [ZL]) <;> omega)) only [ZK, ZL]; done) | (refine dK ?_; (repeat first | exact Keep.refl _ _ | exact Keep.app _ _ (Nat.le_refl _) | assumption | refine Keep.ap ?_ | refine Keep.st (by first | omega | (simp only [ZL]; omega)) ?_); done) | ((try simp only [ZL]) <;> omega) | fail)) only [XOB, ↓XXs, ↓XD, ↓YX, ZB, Nat.reduceAdd, Nat.reducePow, ↓reduceIte, eq_self, Int.reduceEq, Nat.reduceEqDiff, Nat.reduceMul, Nat.reduceLeDiff, Int.reduceBEq, Int.reduceLT, Try.f59, ↓XH2, XRN, ZC, ZE, ZH, eq_self, Nat.reduceLeDiff, Nat.reduceBEq, slV_new, ZS, reduceIte, ↓op_extract, Ru.R_len, hlt, hix, qe, Ru.setRoom, Ru.setKind]
        with_reducible refine Okr.ret ?_
        refine ⟨⟨il, g, d ++ ⟨x.quiet, rm, x.user, kd⟩ :: t, ?_, q3.keep (Keep.app _ _ (Nat.le_refl _)), ?_⟩⟩
        · simp
        · simp at h9 ⊢; omega
      · simp (dsimp := false) (disch := (first | (refine dS ?_; kernel_rfl) | (refine dM ?_; kernel_rfl) | (refine dO ?_; simp (disch := ((try simp only [ZL]) <;> omega)) only [ZK, ZL]; done) | (refine dK ?_; (repeat first | exact Keep.refl _ _ | exact Keep.app _ _ (Nat.le_refl _) | assumption | refine Keep.ap ?_ | refine Keep.st (by first | omega | (simp only [ZL]; omega)) ?_); done) | ((try simp only [ZL]) <;> omega) | fail)) only [XOB, ↓XXs, ↓XD, ↓YX, ZB, Nat.reduceAdd, Nat.reducePow, ↓reduceIte, eq_self, Int.reduceEq, Nat.reduceEqDiff, Nat.reduceMul, Nat.reduceLeDiff, Int.reduceBEq, Int.reduceLT, Try.f59, ↓XH2, XRN, ZC, ZE, ZH, eq_self, Nat.reduceLeDiff, Nat.reduceBEq, slV_new, ZS, reduceIte, ↓op_extract, Ru.R_len, hlt]
        with_reducible refine Okr.ret ?_
        exact ⟨⟨il, g, rs, rfl, q1, by omega⟩⟩
    · simp (dsimp := false) (disch := (first | (refine dS ?_; kernel_rfl) | (refine dM ?_; kernel_rfl) | (refine dO ?_; simp (disch := ((try simp only [ZL]) <;> omega)) only [ZK, ZL]; done) | (refine dK ?_; (repeat first | exact Keep.refl _ _ | exact Keep.app _ _ (Nat.le_refl _) | assumption | refine Keep.ap ?_ | refine Keep.st (by first | omega | (simp only [ZL]; omega)) ?_); done) | ((try simp only [ZL]) <;> omega) | fail)) only [XOB, ↓XXs, ↓XD, ↓YX, ZB, Nat.reduceAdd, Nat.reducePow, ↓reduceIte, eq_self, Int.reduceEq, Nat.reduceEqDiff, Nat.reduceMul, Nat.reduceLeDiff, Int.reduceBEq, Int.reduceLT, Try.f59, ↓XH2, XRN, ZC, ZE, ZH, eq_self, Nat.reduceLeDiff, Nat.reduceBEq, slV_new, ZS, reduceIte, ↓op_extract, Ru.R_len, hlt]
      with_reducible refine Okr.ret ?_
      exact ⟨⟨il, g, rs, rfl, q0, by omega⟩⟩
  | succ k ih =>
    rintro P il g no i rs h q h9 rfl rfl hP
    have hlt : decide ((0 : Int) < ((k + 1 : Nat) : Int)) = true := decide_eq_true (by omega)
    have hw : IntKind.i64.wrap (((k + 1 : Nat) : Int) - 1) = (k : Int) := by rw [wrap64 (by omega)]; omega
    refine okr_code Try.func59 rfl rfl ?_
    simp (dsimp := false) (disch := (first | (refine dS ?_; kernel_rfl) | (refine dM ?_; kernel_rfl) | (refine dO ?_; simp (disch := ((try simp only [ZL]) <;> omega)) only [ZK, ZL]; done) | (refine dK ?_; (repeat first | exact Keep.refl _ _ | exact Keep.app _ _ (Nat.le_refl _) | assumption | refine Keep.ap ?_ | refine Keep.st (by first | omega | (simp only [ZL]; omega)) ?_); done) | ((try simp only [ZL]) <;> omega) | fail)) only [XOB, ↓XXs, ↓XD, ↓YX, ZB, Nat.reduceAdd, Nat.reducePow, ↓reduceIte, eq_self, Int.reduceEq, Nat.reduceEqDiff, Nat.reduceMul, Nat.reduceLeDiff, Int.reduceBEq, Int.reduceLT, Try.f59, ↓XH2, XRN, ZC, ZE, ZH, eq_self, Nat.reduceLeDiff, Nat.reduceBEq, slV_new, ZS, reduceIte, ↓op_extract, Ru.R_len, hlt, hw]
    obtain ⟨p, hp, r⟩ := q.r
    have ide := q.hid
    have hi := q.hi
    have hil := lt_of_get q.e
    have hidl := lt_of_get r.1
    have qe := q.e
    refine okr_call (okr_pick 3 r hl rfl (by simp) (by simp) hn (by omega)) ?_
    rintro _ _ ⟨⟨m, rfl, hm⟩, rfl⟩
    simp (dsimp := false) (disch := (first | (refine dS ?_; kernel_rfl) | (refine dM ?_; kernel_rfl) | (refine dO ?_; simp (disch := ((try simp only [ZL]) <;> omega)) only [ZK, ZL]; done) | (refine dK ?_; (repeat first | exact Keep.refl _ _ | exact Keep.app _ _ (Nat.le_refl _) | assumption | refine Keep.ap ?_ | refine Keep.st (by first | omega | (simp only [ZL]; omega)) ?_); done) | ((try simp only [ZL]) <;> omega) | fail)) only [XOB, ↓XXs, ↓XD, ↓YX, ZB, Nat.reduceAdd, Nat.reducePow, ↓reduceIte, eq_self, Int.reduceEq, Nat.reduceEqDiff, Nat.reduceMul, Nat.reduceLeDiff, Int.reduceBEq, Int.reduceLT, Try.f59, ↓XH2, XRN, ZC, ZE, ZH, eq_self, Nat.reduceLeDiff, Nat.reduceBEq, slV_new, ZS, reduceIte, ↓op_extract, Ru.R_len, hlt, hw]
    refine okr_call (okr_of [_, _, _] (r.kp (p + 1)) hl (by simp (disch := (first | (refine dS ?_; kernel_rfl) | (refine dM ?_; kernel_rfl) | (refine dO ?_; simp (disch := ((try simp only [ZL]) <;> omega)) only [ZK, ZL]; done) | (refine dK ?_; (repeat first | exact Keep.refl _ _ | exact Keep.app _ _ (Nat.le_refl _) | assumption | refine Keep.ap ?_ | refine Keep.st (by first | omega | (simp only [ZL]; omega)) ?_); done) | ((try simp only [ZL]) <;> omega) | fail)) only [↓XH2, XRN, ZC, ZE, ZH, eq_self, Nat.reduceLeDiff, Nat.reduceBEq] <;> rfl) rfl rfl (by omega) (by simp) (by simp) hn (by omega)) ?_
    rintro _ _ ⟨⟨rm, rfl, hrm⟩, rfl⟩
    have frm : rm.length ≤ 64 := by revert rm; decide
    simp (dsimp := false) (disch := (first | (refine dS ?_; kernel_rfl) | (refine dM ?_; kernel_rfl) | (refine dO ?_; simp (disch := ((try simp only [ZL]) <;> omega)) only [ZK, ZL]; done) | (refine dK ?_; (repeat first | exact Keep.refl _ _ | exact Keep.app _ _ (Nat.le_refl _) | assumption | refine Keep.ap ?_ | refine Keep.st (by first | omega | (simp only [ZL]; omega)) ?_); done) | ((try simp only [ZL]) <;> omega) | fail)) only [XOB, ↓XXs, ↓XD, ↓YX, ZB, Nat.reduceAdd, Nat.reducePow, ↓reduceIte, eq_self, Int.reduceEq, Nat.reduceEqDiff, Nat.reduceMul, Nat.reduceLeDiff, Int.reduceBEq, Int.reduceLT, Try.f59, ↓XH2, XRN, ZC, ZE, ZH, eq_self, Nat.reduceLeDiff, Nat.reduceBEq, slV_new, ZS, reduceIte, ↓op_extract, Ru.R_len, hlt, hw]
    refine okr_call (okr_of [_, _, _, _] (r.kp (p + 2)) hl (by simp (disch := (first | (refine dS ?_; kernel_rfl) | (refine dM ?_; kernel_rfl) | (refine dO ?_; simp (disch := ((try simp only [ZL]) <;> omega)) only [ZK, ZL]; done) | (refine dK ?_; (repeat first | exact Keep.refl _ _ | exact Keep.app _ _ (Nat.le_refl _) | assumption | refine Keep.ap ?_ | refine Keep.st (by first | omega | (simp only [ZL]; omega)) ?_); done) | ((try simp only [ZL]) <;> omega) | fail)) only [↓XH2, XRN, ZC, ZE, ZH, eq_self, Nat.reduceLeDiff, Nat.reduceBEq] <;> rfl) rfl rfl (by omega) (by simp) (by simp) hn (by omega)) ?_
    rintro _ _ ⟨⟨us, rfl, hus⟩, rfl⟩
    have fus : us.length ≤ 64 := by revert us; decide
    simp (dsimp := false) (disch := (first | (refine dS ?_; kernel_rfl) | (refine dM ?_; kernel_rfl) | (refine dO ?_; simp (disch := ((try simp only [ZL]) <;> omega)) only [ZK, ZL]; done) | (refine dK ?_; (repeat first | exact Keep.refl _ _ | exact Keep.app _ _ (Nat.le_refl _) | assumption | refine Keep.ap ?_ | refine Keep.st (by first | omega | (simp only [ZL]; omega)) ?_); done) | ((try simp only [ZL]) <;> omega) | fail)) only [XOB, ↓XXs, ↓XD, ↓YX, ZB, Nat.reduceAdd, Nat.reducePow, ↓reduceIte, eq_self, Int.reduceEq, Nat.reduceEqDiff, Nat.reduceMul, Nat.reduceLeDiff, Int.reduceBEq, Int.reduceLT, Try.f59, ↓XH2, XRN, ZC, ZE, ZH, eq_self, Nat.reduceLeDiff, Nat.reduceBEq, slV_new, ZS, reduceIte, ↓op_extract, Ru.R_len, hlt, hw]
    refine okr_call (okr_one [_, _, _, _, _] (r.kp (p + 3)) hl (by simp (disch := (first | (refine dS ?_; kernel_rfl) | (refine dM ?_; kernel_rfl) | (refine dO ?_; simp (disch := ((try simp only [ZL]) <;> omega)) only [ZK, ZL]; done) | (refine dK ?_; (repeat first | exact Keep.refl _ _ | exact Keep.app _ _ (Nat.le_refl _) | assumption | refine Keep.ap ?_ | refine Keep.st (by first | omega | (simp only [ZL]; omega)) ?_); done) | ((try simp only [ZL]) <;> omega) | fail)) only [↓XH2, XRN, ZC, ZE, ZH, eq_self, Nat.reduceLeDiff, Nat.reduceBEq] <;> rfl) rfl rfl (by omega) (by simp) (by simp) hn (by omega)) ?_
    rintro _ _ ⟨⟨kd, rfl, hkd⟩, rfl⟩
    simp (dsimp := false) (disch := (first | (refine dS ?_; kernel_rfl) | (refine dM ?_; kernel_rfl) | (refine dO ?_; simp (disch := ((try simp only [ZL]) <;> omega)) only [ZK, ZL]; done) | (refine dK ?_; (repeat first | exact Keep.refl _ _ | exact Keep.app _ _ (Nat.le_refl _) | assumption | refine Keep.ap ?_ | refine Keep.st (by first | omega | (simp only [ZL]; omega)) ?_); done) | ((try simp only [ZL]) <;> omega) | fail)) only [XOB, ↓XXs, ↓XD, ↓YX, ZB, Nat.reduceAdd, Nat.reducePow, ↓reduceIte, eq_self, Int.reduceEq, Nat.reduceEqDiff, Nat.reduceMul, Nat.reduceLeDiff, Int.reduceBEq, Int.reduceLT, Try.f59, ↓XH2, XRN, ZC, ZE, ZH, eq_self, Nat.reduceLeDiff, Nat.reduceBEq, slV_new, ZS, reduceIte, ↓op_extract, Ru.R_len, hlt, hw]
    refine okr_opt (Ru.app3 (os := rs) ⟨decide ((0 : Int) < m), rm, us, kd⟩ (by simp (disch := (first | (refine dS ?_; kernel_rfl) | (refine dM ?_; kernel_rfl) | (refine dO ?_; simp (disch := ((try simp only [ZL]) <;> omega)) only [ZK, ZL]; done) | (refine dK ?_; (repeat first | exact Keep.refl _ _ | exact Keep.app _ _ (Nat.le_refl _) | assumption | refine Keep.ap ?_ | refine Keep.st (by first | omega | (simp only [ZL]; omega)) ?_); done) | ((try simp only [ZL]) <;> omega) | fail)) only [↓XH2, XRN, ZC, ZE, ZH, eq_self, Nat.reduceLeDiff, Nat.reduceBEq, qe]) (by simp (disch := (first | (refine dS ?_; kernel_rfl) | (refine dM ?_; kernel_rfl) | (refine dO ?_; simp (disch := ((try simp only [ZL]) <;> omega)) only [ZK, ZL]; done) | (refine dK ?_; (repeat first | exact Keep.refl _ _ | exact Keep.app _ _ (Nat.le_refl _) | assumption | refine Keep.ap ?_ | refine Keep.st (by first | omega | (simp only [ZL]; omega)) ?_); done) | ((try simp only [ZL]) <;> omega) | fail)) only [↓XH2, XRN, ZC, ZE, ZH, eq_self, Nat.reduceLeDiff, Nat.reduceBEq] <;> rfl) rfl rfl (by first | rfl | omega | (simp (disch := (first | (refine dS ?_; kernel_rfl) | (refine dM ?_; kernel_rfl) | (refine dO ?_; simp (disch := ((try simp only [ZL]) <;> omega)) only [ZK, ZL]; done) | (refine dK ?_; (repeat first | exact Keep.refl _ _ | exact Keep.app _ _ (Nat.le_refl _) | assumption | refine Keep.ap ?_ | refine Keep.st (by first | omega | (simp only [ZL]; omega)) ?_); done) | ((try simp only [ZL]) <;> omega) | fail)) only [ZK, ZL, ZR] <;> omega) | fail) (by omega) rfl) ?_
    rintro _ ⟨g2, rfl⟩
    simp (dsimp := false) (disch := (first | (refine dS ?_; kernel_rfl) | (refine dM ?_; kernel_rfl) | (refine dO ?_; simp (disch := ((try simp only [ZL]) <;> omega)) only [ZK, ZL]; done) | (refine dK ?_; (repeat first | exact Keep.refl _ _ | exact Keep.app _ _ (Nat.le_refl _) | assumption | refine Keep.ap ?_ | refine Keep.st (by first | omega | (simp only [ZL]; omega)) ?_); done) | ((try simp only [ZL]) <;> omega) | fail)) only [XOB, ↓XXs, ↓XD, ↓YX, ZB, Nat.reduceAdd, Nat.reducePow, ↓reduceIte, eq_self, Int.reduceEq, Nat.reduceEqDiff, Nat.reduceMul, Nat.reduceLeDiff, Int.reduceBEq, Int.reduceLT, Try.f59, ↓XH2, XRN, ZC, ZE, ZH, eq_self, Nat.reduceLeDiff, Nat.reduceBEq, slV_new, ZS, reduceIte, ↓op_extract, Ru.R_len, hlt, hw]
    have q4 := (q.dr0 (Q := P + 20) r (p + 4) (by omega)).st (g' := g2) (Ru.F_app (y := ⟨decide ((0 : Int) < m), rm, us, kd⟩) q.f ⟨frm, fus⟩)
    rw [show P + (20 * (k + 1) + 20) = P + 20 + 20 * k + 20 by omega]
    exact ih (P + 20) il g2 (rs.length + 1) _ _ _ (q4.keep (Keep.app _ _ (Nat.le_refl _))) (by simp; omega) (by simp) rfl (by omega)
end Go.Abs
namespace Go.Abs
open Go.Proofs
set_option maxRecDepth 100000
set_option linter.unusedSimpArgs false
set_option linter.unusedVariables false
set_option pp.maxSteps 20000
set_option pp.deepTerms true
theorem r59 {H : AH} {id : Nat} {va : Value} {n l p : Nat} (r : Rd H id va n p) (hl : l ≤ id) (hn : n ≤ 2 ^ 62) (hp : p ≤ 2 ^ 38) :
    Okr (RulesQ H id va n (p + 1000)) (run V0 (.fn 59) l [S (pV id 0 0)] H) := by
  have hid := lt_of_get r.1
  refine okr_fn Try.func59 rfl rfl rfl rfl ?_
  simp (dsimp := false) (disch := (first | (refine dS ?_; kernel_rfl) | (refine dM ?_; kernel_rfl) | (refine dO ?_; simp (disch := ((try simp only [ZL]) <;> omega)) only [ZK, ZL]; done) | (refine dK ?_; (repeat first | exact Keep.refl _ _ | exact Keep.app _ _ (Nat.le_refl _) | assumption | refine Keep.ap ?_ | refine Keep.st (by first | omega | (simp only [ZL]; omega)) ?_); done) | ((try simp only [ZL]) <;> omega) | fail)) only [XOB, ↓XXs, ↓XD, ↓YX, ZB, Nat.reduceAdd, Nat.reducePow, ↓reduceIte, eq_self, Int.reduceEq, Nat.reduceEqDiff, Nat.reduceMul, Nat.reduceLeDiff, Int.reduceBEq, Int.reduceLT, Try.f59, ↓XH2, XRN, ZC, ZE, ZH, eq_self, Nat.reduceLeDiff, Nat.reduceBEq, slV_new, ZS, reduceIte, ↓op_extract]
  refine okr_call (okr_one [_, _, _, _, _, _, _] r.ap hl (by simp (disch := (first | (refine dS ?_; kernel_rfl) | (refine dM ?_; kernel_rfl) | (refine dO ?_; simp (disch := ((try simp only [ZL]) <;> omega)) only [ZK, ZL]; done) | (refine dK ?_; (repeat first | exact Keep.refl _ _ | exact Keep.app _ _ (Nat.le_refl _) | assumption | refine Keep.ap ?_ | refine Keep.st (by first | omega | (simp only [ZL]; omega)) ?_); done) | ((try simp only [ZL]) <;> omega) | fail)) only [↓XH2, XRN, ZC, ZE, ZH, eq_self, Nat.reduceLeDiff, Nat.reduceBEq] <;> rfl) rfl rfl (by omega) (by simp) (by simp) hn (by omega)) ?_
  rintro _ _ ⟨⟨x, rfl, hx⟩, rfl⟩
  obtain ⟨mn, rfl, hmn⟩ : ∃ mn : Nat, x = mn ∧ mn ≤ 9 := ⟨x.toNat, by revert x; decide, by revert x; decide⟩
  simp (dsimp := false) (disch := (first | (refine dS ?_; kernel_rfl) | (refine dM ?_; kernel_rfl) | (refine dO ?_; simp (disch := ((try simp only [ZL]) <;> omega)) only [ZK, ZL]; done) | (refine dK ?_; (repeat first | exact Keep.refl _ _ | exact Keep.app _ _ (Nat.le_refl _) | assumption | refine Keep.ap ?_ | refine Keep.st (by first | omega | (simp only [ZL]; omega)) ?_); done) | ((try simp only [ZL]) <;> omega) | fail)) only [XOB, ↓XXs, ↓XD, ↓YX, ZB, Nat.reduceAdd, Nat.reducePow, ↓reduceIte, eq_self, Int.reduceEq, Nat.reduceEqDiff, Nat.reduceMul, Nat.reduceLeDiff, Int.reduceBEq, Int.reduceLT, Try.f59, ↓XH2, XRN, ZC, ZE, ZH, eq_self, Nat.reduceLeDiff, Nat.reduceBEq, slV_new, ZS, reduceIte, ↓op_extract]
  have q : RuAt H (H.set id (rdO va (p + 1)) ++ [AObj.row 0 4 [], AObj.row 0 1 [iV 0, iV 1, iV 2, iV 3, iV 5, iV 8, iV 9]]) id va n (p + 1) H.length 0 [] :=
    ⟨by simp (disch := (first | (refine dS ?_; kernel_rfl) | (refine dM ?_; kernel_rfl) | (refine dO ?_; simp (disch := ((try simp only [ZL]) <;> omega)) only [ZK, ZL]; done) | (refine dK ?_; (repeat first | exact Keep.refl _ _ | exact Keep.app _ _ (Nat.le_refl _) | assumption | refine Keep.ap ?_ | refine Keep.st (by first | omega | (simp only [ZL]; omega)) ?_); done) | ((try simp only [ZL]) <;> omega) | fail)) only [↓XH2, XRN, ZC, ZE, ZH, eq_self, Nat.reduceLeDiff, Nat.reduceBEq]; rfl, Nat.le_refl _, by simp, ⟨p + 1, Nat.le_refl _, r.kp (p + 1)⟩, hid, (KX.set H.length id H _).trans ((Keep.app _ _ (by simp)).kx (Nat.le_refl _))⟩
  refine Okr.mono (L59 hl hn mn (p + 1) H.length 0 0 _ [] _ q (by simpa using hmn) rfl rfl (by omega)) fun v h' e => ?_
  obtain ⟨⟨il, g, rs, e1, e2, e3⟩⟩ := e
  obtain ⟨p', hp', r'⟩ := e2.r
  exact ⟨il, g, rs, e1, ⟨e2.e, e2.hi, e2.f, ⟨p', by omega, r'⟩, e2.hid, e2.k⟩, e3⟩
/-- what a law's drawing leaves: rules, and what happened -/
structure DrawQ (H : AH) (v : Value) (h' : AH) : Prop where
  ex : ∃ i1 g1 rs i2 g2 log, v = .tuple ⟨[slV i1 g1 rs.length rs.length, slV i2 g2 log.length log.length]⟩ ∧ h'[i1]? = some (.row g1 4 (Ru.R rs)) ∧ h'[i2]? = some (.row g2 9 (En.R log)) ∧
    H.length ≤ i1 ∧ H.length ≤ i2 ∧ i1 ≠ i2 ∧ (∀ x ∈ rs, x.F) ∧ rs.length ≤ 9 ∧ Inc log ∧ log.length ≤ 60
  k : Keep H.length H h'
theorem r31 (va : Value) (n l : Nat) (h : AH) (r : Cd h va n) (hl : l ≤ h.length) (hn : n ≤ 2 ^ 62) :
    Okr (DrawQ h) (run V0 (.fn 31) l [S va] h) := by
  refine okr_fn Try.func31 rfl rfl rfl rfl ?_
  obtain ⟨vb, m, h1, a1, r1, hm, k1⟩ := r58 va n l h r hn
  have hid1 := lt_of_get r1.1
  simp (dsimp := false) (disch := (first | (refine dS ?_; kernel_rfl) | (refine dM ?_; kernel_rfl) | (refine dO ?_; simp (disch := ((try simp only [ZL]) <;> omega)) only [ZK, ZL]; done) | (refine dK ?_; (repeat first | exact Keep.refl _ _ | exact Keep.app _ _ (Nat.le_refl _) | assumption | refine Keep.ap ?_ | refine Keep.st (by first | omega | (simp only [ZL]; omega)) ?_); done) | ((try simp only [ZL]) <;> omega) | fail)) only [XOB, ↓XXs, ↓XD, ↓YX, ZB, Nat.reduceAdd, Nat.reducePow, ↓reduceIte, eq_self, Int.reduceEq, Nat.reduceEqDiff, Nat.reduceMul, Nat.reduceLeDiff, Int.reduceBEq, Int.reduceLT, Try.f31, ↓XH2, XRN, ZC, ZE, ZH, eq_self, Nat.reduceLeDiff, Nat.reduceBEq, slV_new, ZS, reduceIte, ↓op_extract, a1]
  refine okr_call (r59 r1 hl (by omega) (by omega)) ?_
  rintro _ h2 ⟨⟨i1, g1, rs, rfl, q, hrs⟩⟩
  obtain ⟨p2, hp2, r2⟩ := q.r
  try simp (dsimp := false) (disch := (first | (refine dS ?_; kernel_rfl) | (refine dM ?_; kernel_rfl) | (refine dO ?_; simp (disch := ((try simp only [ZL]) <;> omega)) only [ZK, ZL]; done) | (refine dK ?_; (repeat first | exact Keep.refl _ _ | exact Keep.app _ _ (Nat.le_refl _) | assumption | refine Keep.ap ?_ | refine Keep.st (by first | omega | (simp only [ZL]; omega)) ?_); done) | ((try simp only [ZL]) <;> omega) | fail)) only [XOB, ↓XXs, ↓XD, ↓YX, ZB, Nat.reduceAdd, Nat.reducePow, ↓reduceIte, eq_self, Int.reduceEq, Nat.reduceEqDiff, Nat.reduceMul, Nat.reduceLeDiff, Int.reduceBEq, Int.reduceLT, Try.f31, ↓XH2, XRN, ZC, ZE, ZH, eq_self, Nat.reduceLeDiff, Nat.reduceBEq, slV_new, ZS, reduceIte, ↓op_extract, a1]
  refine okr_call (r60 r2 hl (by omega) (by omega)) ?_
  rintro _ h3 ⟨⟨i2, g2, log, rfl, e2, hi2, hinc, h60⟩, ⟨p3, hp3, r3⟩, k3⟩
  have hi1 := q.hi
  have hl1 := lt_of_get q.e
  have kk : Keep h.length h h3 := k1.trans ((Keep.ofKX q.k (by omega) (Nat.le_refl _)).trans (Keep.ofKX k3 (by have := q.k.1; omega) (Nat.le_refl _)))
  try simp (dsimp := false) (disch := (first | (refine dS ?_; kernel_rfl) | (refine dM ?_; kernel_rfl) | (refine dO ?_; simp (disch := ((try simp only [ZL]) <;> omega)) only [ZK, ZL]; done) | (refine dK ?_; (repeat first | exact Keep.refl _ _ | exact Keep.app _ _ (Nat.le_refl _) | assumption | refine Keep.ap ?_ | refine Keep.st (by first | omega | (simp only [ZL]; omega)) ?_); done) | ((try simp only [ZL]) <;> omega) | fail)) only [XOB, ↓XXs, ↓XD, ↓YX, ZB, Nat.reduceAdd, Nat.reducePow, ↓reduceIte, eq_self, Int.reduceEq, Nat.reduceEqDiff, Nat.reduceMul, Nat.reduceLeDiff, Int.reduceBEq, Int.reduceLT, Try.f31, ↓XH2, XRN, ZC, ZE, ZH, eq_self, Nat.reduceLeDiff, Nat.reduceBEq, slV_new, ZS, reduceIte, ↓op_extract, a1]
  with_reducible refine Okr.ret ?_
  exact ⟨⟨i1, g1, rs, i2, g2, log, rfl, k3.get q.e hl1 (by omega), e2, by omega, by have := q.k.1; omega, by omega, q.f, hrs, hinc, h60⟩, kk⟩
structure DrawR (H : AH) (v : Value) (h' : AH) : Prop where
  ex : ∃ i1 g1 rs, v = slV i1 g1 rs.length rs.length ∧ h'[i1]? = some (.row g1 4 (Ru.R rs)) ∧ H.length ≤ i1 ∧ (∀ x ∈ rs, x.F) ∧ rs.length ≤ 9
  k : Keep H.length H h'
theorem r34 (va : Value) (n l : Nat) (h : AH) (r : Cd h va n) (hl : l ≤ h.length) (hn : n ≤ 2 ^ 62) :
    Okr (DrawR h) (run V0 (.fn 34) l [S va] h) := by
  refine okr_fn Try.func34 rfl rfl rfl rfl ?_
  obtain ⟨vb, m, h1, a1, r1, hm, k1⟩ := r58 va n l h r hn
  have hid1 := lt_of_get r1.1
  simp (dsimp := false) (disch := (first | (refine dS ?_; kernel_rfl) | (refine dM ?_; kernel_rfl) | (refine dO ?_; simp (disch := ((try simp only [ZL]) <;> omega)) only [ZK, ZL]; done) | (refine dK ?_; (repeat first | exact Keep.refl _ _ | exact Keep.app _ _ (Nat.le_refl _) | assumption | refine Keep.ap ?_ | refine Keep.st (by first | omega | (simp only [ZL]; omega)) ?_); done) | ((try simp only [ZL]) <;> omega) | fail)) only [XOB, ↓XXs, ↓XD, ↓YX, ZB, Nat.reduceAdd, Nat.reducePow, ↓reduceIte, eq_self, Int.reduceEq, Nat.reduceEqDiff, Nat.reduceMul, Nat.reduceLeDiff, Int.reduceBEq, Int.reduceLT, Try.f34, ↓XH2, XRN, ZC, ZE, ZH, eq_self, Nat.reduceLeDiff, Nat.reduceBEq, slV_new, ZS, reduceIte, ↓op_extract, a1]
  refine okr_call (r59 r1 hl (by omega) (by omega)) ?_
  rintro _ h2 ⟨⟨i1, g1, rs, rfl, q, hrs⟩⟩
  have hi1 := q.hi
  try simp (dsimp := false) (disch := (first | (refine dS ?_; kernel_rfl) | (refine dM ?_; kernel_rfl) | (refine dO ?_; simp (disch := ((try simp only [ZL]) <;> omega)) only [ZK, ZL]; done) | (refine dK ?_; (repeat first | exact Keep.refl _ _ | exact Keep.app _ _ (Nat.le_refl _) | assumption | refine Keep.ap ?_ | refine Keep.st (by first | omega | (simp only [ZL]; omega)) ?_); done) | ((try simp only [ZL]) <;> omega) | fail)) only [XOB, ↓XXs, ↓XD, ↓YX, ZB, Nat.reduceAdd, Nat.reducePow, ↓reduceIte, eq_self, Int.reduceEq, Nat.reduceEqDiff, Nat.reduceMul, Nat.reduceLeDiff, Int.reduceBEq, Int.reduceLT, Try.f34, ↓XH2, XRN, ZC, ZE, ZH, eq_self, Nat.reduceLeDiff, Nat.reduceBEq, slV_new, ZS, reduceIte, ↓op_extract, a1]
  with_reducible refine Okr.ret ?_
  exact ⟨⟨i1, g1, rs, rfl, q.e, by omega, q.f, hrs⟩, k1.trans (Keep.ofKX q.k (by omega) (Nat.le_refl _))⟩
end Go.Abs
namespace Go.Abs
open Go.Proofs
set_option maxRecDepth 100000
theorem eqA_En (x y : En) : eqA V0.P 50 30 x.V y.V = some (decide (B x.room = B y.room) && ((x.seq == y.seq) && ((x.kind == y.kind) && (decide (B x.user = B y.user) && (decide (B x.nick = B y.nick) && (decide (B x.text = B y.text) && (decide (B x.id = B y.id) && (decide (B x.ref = B y.ref) && ((x.num == y.num) && true))))))))) := by kernel_rfl
theorem eqOk_En (x : En) : eqOk V0.P 30 x.V = true := by kernel_rfl
theorem eqA_Ru (x y : Ru) : eqA V0.P 50 53 x.V y.V = some ((x.quiet == y.quiet) && (decide (B x.room = B y.room) && (decide (B x.user = B y.user) && ((x.kind == y.kind) && true)))) := by kernel_rfl
theorem eqOk_Ru (x : Ru) : eqOk V0.P 53 x.V = true := by kernel_rfl
theorem B_dec (a b : Bs) : decide (B a = B b) = decide (a = b) := by rw [decide_eq_decide, B_inj]
theorem eqA_En' (x y : En) : eqA V0.P 50 30 x.V y.V = some (decide (x = y)) := by
  rw [eqA_En]
  simp only [B_dec]
  congr 1
  rw [Bool.eq_iff_iff]
  cases x; cases y
  simp only [Bool.and_eq_true, decide_eq_true_eq, beq_iff_eq, En.mk.injEq, and_true]
theorem eqA_Ru' (x y : Ru) : eqA V0.P 50 53 x.V y.V = some (decide (x = y)) := by
  rw [eqA_Ru]
  simp only [B_dec]
  congr 1
  rw [Bool.eq_iff_iff]
  cases x; cases y
  simp only [Bool.and_eq_true, decide_eq_true_eq, beq_iff_eq, Ru.mk.injEq, and_true]
end Go.Abs
namespace Go.Abs
open Go.Proofs
set_option maxRecDepth 100000
set_option linter.unusedSimpArgs false
set_option linter.unusedVariables false
set_option pp.maxSteps 20000
set_option pp.deepTerms true
theorem binK_neqA {P : Program} {t : TypeId} {a b : Array Value} {act : Option Bool} {K : Value → R} : binK P .neq t (.agg a) (.agg b) act K = chk (eqOk P t (.agg a)) (oE act (eqA P 50 t (.agg a) (.agg b)) false fun q => K (.bool (!q))) := rfl
theorem eqA_EnC (x y : En) : eqA V0.P 50 30 (.agg (En.C x).toArray) (.agg (En.C y).toArray) = some (decide (x = y)) := eqA_En' x y
theorem eqOk_EnC (x : En) : eqOk V0.P 30 (.agg (En.C x).toArray) = true := eqOk_En x
def En.Rw (h : AH) (v : Value) (xs : List En) : Prop :=
  (v = .slice none 0 0 ∧ xs = []) ∨ ∃ id g c ma, v = slV id g xs.length c ∧ h[id]? = some (.row g 9 (En.R (xs ++ ma)))
theorem En.Rw.len {h : AH} {v : Value} {xs : List En} (r : En.Rw h v xs) : lenV v = some (xs.length : Int) := by
  rcases r with ⟨rfl, rfl⟩ | ⟨id, g, c, _, rfl, _⟩ <;> rfl
theorem En.Rw.at {h : AH} {v : Value} {d r : List En} {x : En} (q : En.Rw h v (d ++ x :: r)) : ∃ id g r2, ixAddr v (d.length : Int) 9 = some (pV id (d.length * 9) g) ∧ h[id]? = some (.row g 9 (En.R (d ++ x :: r2))) ∧ id < h.length := by
  rcases q with ⟨_, q⟩ | ⟨id, g, c, ma, rfl, e⟩
  · simp at q
  · exact ⟨id, g, r ++ ma, by rw [ixAddr_sl (by simp)]; simp, by rw [e]; simp, lt_of_get e⟩
theorem En.Rw.keep {h h' : AH} {v : Value} {xs : List En} (q : En.Rw h v xs) (k : Keep h.length h h') : En.Rw h' v xs := by
  rcases q with q | ⟨id, g, c, ma, rfl, e⟩
  · exact .inl q
  · exact .inr ⟨id, g, c, ma, rfl, k.get e (lt_of_get e)⟩
theorem En.Rw.of {h : AH} {id g c : Nat} {xs : List En} (e : h[id]? = some (.row g 9 (En.R xs))) : En.Rw h (slV id g xs.length c) xs := .inr ⟨id, g, c, [], rfl, by simpa using e⟩
def SameQ (b : Bool) (h : AH) (v : Value) (h' : AH) : Prop := v = .bool b ∧ h' = h
theorem L32 (l n : Nat) (a b : Value) (h : AH) (xs ys : List En) (hx : xs.length = n) (hy : ys.length = n) (hn : n ≤ 2 ^ 20) (qa : En.Rw h a xs) (qb : En.Rw h b ys) :
    ∀ (r d r' d' : List En) (i : Int), d ++ r = xs → d' ++ r' = ys → d.length = d'.length → i = d.length → Okr (SameQ (decide (r = r')) h) (L32_0 l a b (iV i) h) := by
  have la := qa.len
  have lb := qb.len
  intro r
  induction r with
  | nil =>
    rintro d r' d' i h1 h2 h3 rfl
    have : r' = [] := List.eq_nil_of_length_eq_zero (by have e1 := congrArg List.length h1; have e2 := congrArg List.length h2; simp at e1 e2; omega)
    subst this
    rw [List.append_nil] at h1
    subst h1
    have hlt : decide ((d.length : Int) < (d.length : Int)) = false := decide_eq_false (by omega)
    refine okr_code Try.func32 rfl rfl ?_
    simp (dsimp := false) (disch := (first | (refine dS ?_; kernel_rfl) | (refine dM ?_; kernel_rfl) | (refine dO ?_; simp (disch := ((try simp only [ZL]) <;> omega)) only [ZK, ZL]; done) | (refine dK ?_; (repeat first | exact Keep.refl _ _ | exact Keep.app _ _ (Nat.le_refl _) | assumption | refine Keep.ap ?_ | refine Keep.st (by first | omega | (simp only [ZL]; omega)) ?_); done) | ((try simp only [ZL]) <;> omega) | fail)) only [XOB, ↓XXs, ↓XD, ↓YX, ZB, Nat.reduceAdd, Nat.reducePow, ↓reduceIte, eq_self, Int.reduceEq, Nat.reduceEqDiff, Nat.reduceMul, Nat.reduceLeDiff, Int.reduceBEq, Int.reduceLT, Try.f32, ↓XH2, XRN, ZC, ZE, ZH, eq_self, Nat.reduceLeDiff, Nat.reduceBEq, slV_new, ZS, reduceIte, ↓op_extract, la, lb, hlt]
    exact Okr.ret ⟨by simp, rfl⟩
  | cons x r ih =>
    rintro d r' d' i h1 h2 h3 rfl
    cases r' with
    | nil => exfalso; have e1 := congrArg List.length h1; have e2 := congrArg List.length h2; simp at e1 e2; omega
    | cons y r' =>
      obtain ⟨p, g, t1, hix, hh, hp⟩ := (h1 ▸ qa : En.Rw h a (d ++ x :: r)).at
      obtain ⟨p2, g2, t2, hix2, hh2, hp2⟩ := (h2 ▸ qb : En.Rw h b (d' ++ y :: r')).at
      have hll : d.length + r.length + 1 = n := by rw [← hx, ← h1]; simp; omega
      have hlt : decide ((d.length : Int) < (xs.length : Int)) = true := decide_eq_true (by omega)
      have hw : IntKind.i64.wrap ((d.length : Int) + 1) = ((d.length + 1 : Nat) : Int) := natCast_succ_wrap (by omega) rfl
      rw [← h3] at hix2
      have c1 := En.get d x t1
      have c2 := En.get d' y t2
      rw [← h3] at c2
      have l1 : d.length * 9 + 9 ≤ (En.R (d ++ x :: t1)).length := by rw [En.R_len]; simp; omega
      have l2 : d.length * 9 + 9 ≤ (En.R (d' ++ y :: t2)).length := by rw [En.R_len]; simp; omega
      refine okr_code Try.func32 rfl rfl ?_
      simp (dsimp := false) (disch := (first | (refine dS ?_; kernel_rfl) | (refine dM ?_; kernel_rfl) | (refine dO ?_; simp (disch := ((try simp only [ZL]) <;> omega)) only [ZK, ZL]; done) | (refine dK ?_; (repeat first | exact Keep.refl _ _ | exact Keep.app _ _ (Nat.le_refl _) | assumption | refine Keep.ap ?_ | refine Keep.st (by first | omega | (simp only [ZL]; omega)) ?_); done) | ((try simp only [ZL]) <;> omega) | fail)) only [XOB, ↓XXs, ↓XD, ↓YX, ZB, Nat.reduceAdd, Nat.reducePow, ↓reduceIte, eq_self, Int.reduceEq, Nat.reduceEqDiff, Nat.reduceMul, Nat.reduceLeDiff, Int.reduceBEq, Int.reduceLT, Try.f32, ↓XH2, XRN, ZC, ZE, ZH, eq_self, Nat.reduceLeDiff, Nat.reduceBEq, slV_new, ZS, reduceIte, ↓op_extract, la, lb, hlt, hix, hix2, hh, hh2, hw, c1, c2, l1, l2, binK_neqA, eqA_EnC, eqOk_EnC]
      refine okr_if (fun t => ?_) (fun t => ?_)
      · have hne : x ≠ y := by simpa using t
        simp (dsimp := false) (disch := (first | (refine dS ?_; kernel_rfl) | (refine dM ?_; kernel_rfl) | (refine dO ?_; simp (disch := ((try simp only [ZL]) <;> omega)) only [ZK, ZL]; done) | (refine dK ?_; (repeat first | exact Keep.refl _ _ | exact Keep.app _ _ (Nat.le_refl _) | assumption | refine Keep.ap ?_ | refine Keep.st (by first | omega | (simp only [ZL]; omega)) ?_); done) | ((try simp only [ZL]) <;> omega) | fail)) only [XOB, ↓XXs, ↓XD, ↓YX, ZB, Nat.reduceAdd, Nat.reducePow, ↓reduceIte, eq_self, Int.reduceEq, Nat.reduceEqDiff, Nat.reduceMul, Nat.reduceLeDiff, Int.reduceBEq, Int.reduceLT, Try.f32, ↓XH2, XRN, ZC, ZE, ZH, eq_self, Nat.reduceLeDiff, Nat.reduceBEq, slV_new, ZS, reduceIte, ↓op_extract, la, lb, hlt, hix, hix2, hh, hh2, hw, c1, c2, l1, l2, binK_neqA, eqA_EnC, eqOk_EnC]
        with_reducible refine Okr.ret ?_
        exact ⟨by simp [hne], rfl⟩
      · have heq : x = y := by simpa using t
        simp (dsimp := false) (disch := (first | (refine dS ?_; kernel_rfl) | (refine dM ?_; kernel_rfl) | (refine dO ?_; simp (disch := ((try simp only [ZL]) <;> omega)) only [ZK, ZL]; done) | (refine dK ?_; (repeat first | exact Keep.refl _ _ | exact Keep.app _ _ (Nat.le_refl _) | assumption | refine Keep.ap ?_ | refine Keep.st (by first | omega | (simp only [ZL]; omega)) ?_); done) | ((try simp only [ZL]) <;> omega) | fail)) only [XOB, ↓XXs, ↓XD, ↓YX, ZB, Nat.reduceAdd, Nat.reducePow, ↓reduceIte, eq_self, Int.reduceEq, Nat.reduceEqDiff, Nat.reduceMul, Nat.reduceLeDiff, Int.reduceBEq, Int.reduceLT, Try.f32, ↓XH2, XRN, ZC, ZE, ZH, eq_self, Nat.reduceLeDiff, Nat.reduceBEq, slV_new, ZS, reduceIte, ↓op_extract, la, lb, hlt, hix, hix2, hh, hh2, hw, c1, c2, l1, l2, binK_neqA, eqA_EnC, eqOk_EnC]
        have := ih (d ++ [x]) r' (d' ++ [y]) ((d.length + 1 : Nat) : Int) (by simp [h1]) (by simp [h2]) (by simp [h3]) (by simp)
        rw [show decide (x :: r = y :: r') = decide (r = r') by simp [heq]]
        exact this
theorem r32 (l : Nat) (a b : Value) (h : AH) (xs ys : List En) (hx : xs.length ≤ 2 ^ 20) (hy : ys.length ≤ 2 ^ 20) (qa : En.Rw h a xs) (qb : En.Rw h b ys) :
    run V0 (.fn 32) l [S a, S b] h = some (.ret (.bool (decide (xs = ys))) h) := by
  have la := qa.len
  have lb := qb.len
  have key : Okr (SameQ (decide (xs = ys)) h) (run V0 (.fn 32) l [S a, S b] h) := by
    refine okr_fn Try.func32 rfl rfl rfl rfl ?_
    simp (dsimp := false) (disch := (first | (refine dS ?_; kernel_rfl) | (refine dM ?_; kernel_rfl) | (refine dO ?_; simp (disch := ((try simp only [ZL]) <;> omega)) only [ZK, ZL]; done) | (refine dK ?_; (repeat first | exact Keep.refl _ _ | exact Keep.app _ _ (Nat.le_refl _) | assumption | refine Keep.ap ?_ | refine Keep.st (by first | omega | (simp only [ZL]; omega)) ?_); done) | ((try simp only [ZL]) <;> omega) | fail)) only [XOB, ↓XXs, ↓XD, ↓YX, ZB, Nat.reduceAdd, Nat.reducePow, ↓reduceIte, eq_self, Int.reduceEq, Nat.reduceEqDiff, Nat.reduceMul, Nat.reduceLeDiff, Int.reduceBEq, Int.reduceLT, Try.f32, ↓XH2, XRN, ZC, ZE, ZH, eq_self, Nat.reduceLeDiff, Nat.reduceBEq, slV_new, ZS, reduceIte, ↓op_extract, la, lb]
    refine okr_if (fun t => ?_) (fun t => ?_)
    · have hne : xs ≠ ys := by rintro rfl; simp at t
      simp (dsimp := false) (disch := (first | (refine dS ?_; kernel_rfl) | (refine dM ?_; kernel_rfl) | (refine dO ?_; simp (disch := ((try simp only [ZL]) <;> omega)) only [ZK, ZL]; done) | (refine dK ?_; (repeat first | exact Keep.refl _ _ | exact Keep.app _ _ (Nat.le_refl _) | assumption | refine Keep.ap ?_ | refine Keep.st (by first | omega | (simp only [ZL]; omega)) ?_); done) | ((try simp only [ZL]) <;> omega) | fail)) only [XOB, ↓XXs, ↓XD, ↓YX, ZB, Nat.reduceAdd, Nat.reducePow, ↓reduceIte, eq_self, Int.reduceEq, Nat.reduceEqDiff, Nat.reduceMul, Nat.reduceLeDiff, Int.reduceBEq, Int.reduceLT, Try.f32, ↓XH2, XRN, ZC, ZE, ZH, eq_self, Nat.reduceLeDiff, Nat.reduceBEq, slV_new, ZS, reduceIte, ↓op_extract, la, lb]
      with_reducible refine Okr.ret ?_
      exact ⟨by simp [hne], rfl⟩
    · have heq : xs.length = ys.length := by have : ((xs.length : Int) = ys.length) := by simpa using t
                                             omega
      simp (dsimp := false) (disch := (first | (refine dS ?_; kernel_rfl) | (refine dM ?_; kernel_rfl) | (refine dO ?_; simp (disch := ((try simp only [ZL]) <;> omega)) only [ZK, ZL]; done) | (refine dK ?_; (repeat first | exact Keep.refl _ _ | exact Keep.app _ _ (Nat.le_refl _) | assumption | refine Keep.ap ?_ | refine Keep.st (by first | omega | (simp only [ZL]; omega)) ?_); done) | ((try simp only [ZL]) <;> omega) | fail)) only [XOB, ↓XXs, ↓XD, ↓YX, ZB, Nat.reduceAdd, Nat.reducePow, ↓reduceIte, eq_self, Int.reduceEq, Nat.reduceEqDiff, Nat.reduceMul, Nat.reduceLeDiff, Int.reduceBEq, Int.reduceLT, Try.f32, ↓XH2, XRN, ZC, ZE, ZH, eq_self, Nat.reduceLeDiff, Nat.reduceBEq, slV_new, ZS, reduceIte, ↓op_extract, la, lb]
      exact L32 l xs.length a b h xs ys rfl heq.symm hx qa qb xs [] ys [] 0 rfl rfl rfl rfl
  obtain ⟨v, h', e, rfl, rfl⟩ := key
  exact e
theorem eqA_RuC (x y : Ru) : eqA V0.P 50 53 (.agg (Ru.C x).toArray) (.agg (Ru.C y).toArray) = some (decide (x = y)) := eqA_Ru' x y
theorem eqOk_RuC (x : Ru) : eqOk V0.P 53 (.agg (Ru.C x).toArray) = true := eqOk_Ru x
def Ru.Rw (h : AH) (v : Value) (xs : List Ru) : Prop :=
  (v = .slice none 0 0 ∧ xs = []) ∨ ∃ id g c ma, v = slV id g xs.length c ∧ h[id]? = some (.row g 4 (Ru.R (xs ++ ma)))
theorem Ru.Rw.len {h : AH} {v : Value} {xs : List Ru} (r : Ru.Rw h v xs) : lenV v = some (xs.length : Int) := by
  rcases r with ⟨rfl, rfl⟩ | ⟨id, g, c, _, rfl, _⟩ <;> rfl
theorem Ru.Rw.at {h : AH} {v : Value} {d r : List Ru} {x : Ru} (q : Ru.Rw h v (d ++ x :: r)) : ∃ id g r2, ixAddr v (d.length : Int) 4 = some (pV id (d.length * 4) g) ∧ h[id]? = some (.row g 4 (Ru.R (d ++ x :: r2))) ∧ id < h.length := by
  rcases q with ⟨_, q⟩ | ⟨id, g, c, ma, rfl, e⟩
  · simp at q
  · exact ⟨id, g, r ++ ma, by rw [ixAddr_sl (by simp)]; simp, by rw [e]; simp, lt_of_get e⟩
theorem Ru.Rw.keep {h h' : AH} {v : Value} {xs : List Ru} (q : Ru.Rw h v xs) (k : Keep h.length h h') : Ru.Rw h' v xs := by
  rcases q with q | ⟨id, g, c, ma, rfl, e⟩
  · exact .inl q
  · exact .inr ⟨id, g, c, ma, rfl, k.get e (lt_of_get e)⟩
theorem Ru.Rw.of {h : AH} {id g c : Nat} {xs : List Ru} (e : h[id]? = some (.row g 4 (Ru.R xs))) : Ru.Rw h (slV id g xs.length c) xs := .inr ⟨id, g, c, [], rfl, by simpa using e⟩
theorem L35 (l n : Nat) (a b : Value) (h : AH) (xs ys : List Ru) (hx : xs.length = n) (hy : ys.length = n) (hn : n ≤ 2 ^ 20) (qa : Ru.Rw h a xs) (qb : Ru.Rw h b ys) :
    ∀ (r d r' d' : List Ru) (i : Int), d ++ r = xs → d' ++ r' = ys → d.length = d'.length → i = d.length → Okr (SameQ (decide (r = r')) h) (L35_0 l a b (iV i) h) := by
  have la := qa.len
  have lb := qb.len
  intro r
  induction r with
  | nil =>
    rintro d r' d' i h1 h2 h3 rfl
    have : r' = [] := List.eq_nil_of_length_eq_zero (by have e1 := congrArg List.length h1; have e2 := congrArg List.length h2; simp at e1 e2; omega)
    subst this
    rw [List.append_nil] at h1
    subst h1
    have hlt : decide ((d.length : Int) < (d.length : Int)) = false := decide_eq_false (by omega)
    refine okr_code Try.func35 rfl rfl ?_
    simp (dsimp := false) (disch := (first | (refine dS ?_; kernel_rfl) | (refine dM ?_; kernel_rfl) | (refine dO ?_; simp (disch := ((try simp only [ZL]) <;> omega)) only [ZK, ZL]; done) | (refine dK ?_; (repeat first | exact Keep.refl _ _ | exact Keep.app _ _ (Nat.le_refl _) | assumption | refine Keep.ap ?_ | refine Keep.st (by first | omega | (simp only [ZL]; omega)) ?_); done) | ((try simp only [ZL]) <;> omega) | fail)) only [XOB, ↓XXs, ↓XD, ↓YX, ZB, Nat.reduceAdd, Nat.reducePow, ↓reduceIte, eq_self, Int.reduceEq, Nat.reduceEqDiff, Nat.reduceMul, Nat.reduceLeDiff, Int.reduceBEq, Int.reduceLT, Try.f35, ↓XH2, XRN, ZC, ZE, ZH, eq_self, Nat.reduceLeDiff, Nat.reduceBEq, slV_new, ZS, reduceIte, ↓op_extract, la, lb, hlt]
    exact Okr.ret ⟨by simp, rfl⟩
  | cons x r ih =>
    rintro d r' d' i h1 h2 h3 rfl
    cases r' with
    | nil => exfalso; have e1 := congrArg List.length h1; have e2 := congrArg List.length h2; simp at e1 e2; omega
    | cons y r' =>
      obtain ⟨p, g, t1, hix, hh, hp⟩ := (h1 ▸ qa : Ru.Rw h a (d ++ x :: r)).at
      obtain ⟨p2, g2, t2, hix2, hh2, hp2⟩ := (h2 ▸ qb : Ru.Rw h b (d' ++ y :: r')).at
      have hll : d.length + r.length + 1 = n := by rw [← hx, ← h1]; simp; omega
      have hlt : decide ((d.length : Int) < (xs.length : Int)) = true := decide_eq_true (by omega)
      have hw : IntKind.i64.wrap ((d.length : Int) + 1) = ((d.length + 1 : Nat) : Int) := natCast_succ_wrap (by omega) rfl
      rw [← h3] at hix2
      have c1 := Ru.get d x t1
      have c2 := Ru.get d' y t2
      rw [← h3] at c2
      have l1 : d.length * 4 + 4 ≤ (Ru.R (d ++ x :: t1)).length := by rw [Ru.R_len]; simp; omega
      have l2 : d.length * 4 + 4 ≤ (Ru.R (d' ++ y :: t2)).length := by rw [Ru.R_len]; simp; omega
      refine okr_code Try.func35 rfl rfl ?_
      simp (dsimp := false) (disch := (first | (refine dS ?_; kernel_rfl) | (refine dM ?_; kernel_rfl) | (refine dO ?_; simp (disch := ((try simp only [ZL]) <;> omega)) only [ZK, ZL]; done) | (refine dK ?_; (repeat first | exact Keep.refl _ _ | exact Keep.app _ _ (Nat.le_refl _) | assumption | refine Keep.ap ?_ | refine Keep.st (by first | omega | (simp only [ZL]; omega)) ?_); done) | ((try simp only [ZL]) <;> omega) | fail)) only [XOB, ↓XXs, ↓XD, ↓YX, ZB, Nat.reduceAdd, Nat.reducePow, ↓reduceIte, eq_self, Int.reduceEq, Nat.reduceEqDiff, Nat.reduceMul, Nat.reduceLeDiff, Int.reduceBEq, Int.reduceLT, Try.f35, ↓XH2, XRN, ZC, ZE, ZH, eq_self, Nat.reduceLeDiff, Nat.reduceBEq, slV_new, ZS, reduceIte, ↓op_extract, la, lb, hlt, hix, hix2, hh, hh2, hw, c1, c2, l1, l2, binK_neqA, eqA_RuC, eqOk_RuC]
      refine okr_if (fun t => ?_) (fun t => ?_)
      · have hne : x ≠ y := by simpa using t
        simp (dsimp := false) (disch := (first | (refine dS ?_; kernel_rfl) | (refine dM ?_; kernel_rfl) | (refine dO ?_; simp (disch := ((try simp only [ZL]) <;> omega)) only [ZK, ZL]; done) | (refine dK ?_; (repeat first | exact Keep.refl _ _ | exact Keep.app _ _ (Nat.le_refl _) | assumption | refine Keep.ap ?_ | refine Keep.st (by first | omega | (simp only [ZL]; omega)) ?_); done) | ((try simp only [ZL]) <;> omega) | fail)) only [XOB, ↓XXs, ↓XD, ↓YX, ZB, Nat.reduceAdd, Nat.reducePow, ↓reduceIte, eq_self, Int.reduceEq, Nat.reduceEqDiff, Nat.reduceMul, Nat.reduceLeDiff, Int.reduceBEq, Int.reduceLT, Try.f35, ↓XH2, XRN, ZC, ZE, ZH, eq_self, Nat.reduceLeDiff, Nat.reduceBEq, slV_new, ZS, reduceIte, ↓op_extract, la, lb, hlt, hix, hix2, hh, hh2, hw, c1, c2, l1, l2, binK_neqA, eqA_RuC, eqOk_RuC]
        with_reducible refine Okr.ret ?_
        exact ⟨by simp [hne], rfl⟩
      · have heq : x = y := by simpa using t
        simp (dsimp := false) (disch := (first | (refine dS ?_; kernel_rfl) | (refine dM ?_; kernel_rfl) | (refine dO ?_; simp (disch := ((try simp only [ZL]) <;> omega)) only [ZK, ZL]; done) | (refine dK ?_; (repeat first | exact Keep.refl _ _ | exact Keep.app _ _ (Nat.le_refl _) | assumption | refine Keep.ap ?_ | refine Keep.st (by first | omega | (simp only [ZL]; omega)) ?_); done) | ((try simp only [ZL]) <;> omega) | fail)) only [XOB, ↓XXs, ↓XD, ↓YX, ZB, Nat.reduceAdd, Nat.reducePow, ↓reduceIte, eq_self, Int.reduceEq, Nat.reduceEqDiff, Nat.reduceMul, Nat.reduceLeDiff, Int.reduceBEq, Int.reduceLT, Try.f35, ↓XH2, XRN, ZC, ZE, ZH, eq_self, Nat.reduceLeDiff, Nat.reduceBEq, slV_new, ZS, reduceIte, ↓op_extract, la, lb, hlt, hix, hix2, hh, hh2, hw, c1, c2, l1, l2, binK_neqA, eqA_RuC, eqOk_RuC]
        have := ih (d ++ [x]) r' (d' ++ [y]) ((d.length + 1 : Nat) : Int) (by simp [h1]) (by simp [h2]) (by simp [h3]) (by simp)
        rw [show decide (x :: r = y :: r') = decide (r = r') by simp [heq]]
        exact this
theorem r35 (l : Nat) (a b : Value) (h : AH) (xs ys : List Ru) (hx : xs.length ≤ 2 ^ 20) (hy : ys.length ≤ 2 ^ 20) (qa : Ru.Rw h a xs) (qb : Ru.Rw h b ys) :
    run V0 (.fn 35) l [S a, S b] h = some (.ret (.bool (decide (xs = ys))) h) := by
  have la := qa.len
  have lb := qb.len
  have key : Okr (SameQ (decide (xs = ys)) h) (run V0 (.fn 35) l [S a, S b] h) := by
    refine okr_fn Try.func35 rfl rfl rfl rfl ?_
    simp (dsimp := false) (disch := (first | (refine dS ?_; kernel_rfl) | (refine dM ?_; kernel_rfl) | (refine dO ?_; simp (disch := ((try simp only [ZL]) <;> omega)) only [ZK, ZL]; done) | (refine dK ?_; (repeat first | exact Keep.refl _ _ | exact Keep.app _ _ (Nat.le_refl _) | assumption | refine Keep.ap ?_ | refine Keep.st (by first | omega | (simp only [ZL]; omega)) ?_); done) | ((try simp only [ZL]) <;> omega) | fail)) only [XOB, ↓XXs, ↓XD, ↓YX, ZB, Nat.reduceAdd, Nat.reducePow, ↓reduceIte, eq_self, Int.reduceEq, Nat.reduceEqDiff, Nat.reduceMul, Nat.reduceLeDiff, Int.reduceBEq, Int.reduceLT, Try.f35, ↓XH2, XRN, ZC, ZE, ZH, eq_self, Nat.reduceLeDiff, Nat.reduceBEq, slV_new, ZS, reduceIte, ↓op_extract, la, lb]
    refine okr_if (fun t => ?_) (fun t => ?_)
    · have hne : xs ≠ ys := by rintro rfl; simp at t
      simp (dsimp := false) (disch := (first | (refine dS ?_; kernel_rfl) | (refine dM ?_; kernel_rfl) | (refine dO ?_; simp (disch := ((try simp only [ZL]) <;> omega)) only [ZK, ZL]; done) | (refine dK ?_; (repeat first | exact Keep.refl _ _ | exact Keep.app _ _ (Nat.le_refl _) | assumption | refine Keep.ap ?_ | refine Keep.st (by first | omega | (simp only [ZL]; omega)) ?_); done) | ((try simp only [ZL]) <;> omega) | fail)) only [XOB, ↓XXs, ↓XD, ↓YX, ZB, Nat.reduceAdd, Nat.reducePow, ↓reduceIte, eq_self, Int.reduceEq, Nat.reduceEqDiff, Nat.reduceMul, Nat.reduceLeDiff, Int.reduceBEq, Int.reduceLT, Try.f35, ↓XH2, XRN, ZC, ZE, ZH, eq_self, Nat.reduceLeDiff, Nat.reduceBEq, slV_new, ZS, reduceIte, ↓op_extract, la, lb]
      with_reducible refine Okr.ret ?_
      exact ⟨by simp [hne], rfl⟩
    · have heq : xs.length = ys.length := by have : ((xs.length : Int) = ys.length) := by simpa using t
                                             omega
      simp (dsimp := false) (disch := (first | (refine dS ?_; kernel_rfl) | (refine dM ?_; kernel_rfl) | (refine dO ?_; simp (disch := ((try simp only [ZL]) <;> omega)) only [ZK, ZL]; done) | (refine dK ?_; (repeat first | exact Keep.refl _ _ | exact Keep.app _ _ (Nat.le_refl _) | assumption | refine Keep.ap ?_ | refine Keep.st (by first | omega | (simp only [ZL]; omega)) ?_); done) | ((try simp only [ZL]) <;> omega) | fail)) only [XOB, ↓XXs, ↓XD, ↓YX, ZB, Nat.reduceAdd, Nat.reducePow, ↓reduceIte, eq_self, Int.reduceEq, Nat.reduceEqDiff, Nat.reduceMul, Nat.reduceLeDiff, Int.reduceBEq, Int.reduceLT, Try.f35, ↓XH2, XRN, ZC, ZE, ZH, eq_self, Nat.reduceLeDiff, Nat.reduceBEq, slV_new, ZS, reduceIte, ↓op_extract, la, lb]
      exact L35 l xs.length a b h xs ys rfl heq.symm hx qa qb xs [] ys [] 0 rfl rfl rfl rfl
  obtain ⟨v, h', e, rfl, rfl⟩ := key
  exact e
end Go.Abs
namespace Go.Abs
open Go.Proofs
set_option maxRecDepth 100000
set_option linter.unusedSimpArgs false
set_option linter.unusedVariables false
set_option pp.maxSteps 20000
set_option pp.deepTerms true
theorem En.Rw.ofRt {h : AH} {l : Nat} {v : Value} {xs : List En} (r : En.Rt h l v xs) : En.Rw h v xs := by
  rcases r with q | ⟨id, g, c, ma, e1, e2, _⟩
  · exact .inl q
  · exact .inr ⟨id, g, c, ma, e1, e2⟩
theorem rshow_filt (xs : List Ru) (es : List En) : es.filter (rshow xs) = filtL xs es := by
  unfold filtL rshow
  split <;> rename_i hq
  · congr 1; funext e; simp [hq]
  · rw [List.filter_eq_nil_iff]; intro e _; simp [hq]
theorem filt_filt (xs : List Ru) (es : List En) : filtL xs (filtL xs es) = filtL xs es := by
  unfold filtL
  split
  · rw [List.filter_filter]; congr 1; funext e; simp
  · rfl
theorem Ru.F.fit {x : Ru} (f : x.F) : x.Fit := ⟨by have := f.1; omega, by have := f.2; omega⟩
def TrueQ (v : Value) (h' : AH) : Prop := v = .bool true
theorem En.Rw.rt {h : AH} {v : Value} {xs : List En} (r : En.Rw h v xs) : En.Rt h 0 v xs := by
  rcases r with q | ⟨id, g, c, ma, e1, e2⟩
  · exact .inl q
  · exact .inr ⟨id, g, c, ma, e1, e2, Nat.zero_le _⟩
theorem L7 (l i1 g1 i2 g2 : Nat) (rs : List Ru) (log : List En) (v5 : Value) (H0 : AH) (fr : ∀ x ∈ rs, x.Fit) (h9 : rs.length ≤ 9) (h60 : log.length ≤ 60) (e1 : H0[i1]? = some (.row g1 4 (Ru.R rs))) (e2 : H0[i2]? = some (.row g2 9 (En.R log))) (w5 : En.Rw H0 v5 (filtL rs log)) (hl : l ≤ H0.length) :
    ∀ (r d : List En), d ++ r = log → ∀ (iw g no : Nat) (i : Int) (out : List En) (h : AH), Keep H0.length H0 h → H0.length ≤ iw → h[iw]? = some (.row g 9 (En.R out)) → out = d.filter (rshow rs) → no = out.length → i = d.length →
      Okr TrueQ (L7_0 l (slV i1 g1 rs.length rs.length) (slV i2 g2 log.length log.length) v5 (slV iw g no no) (iV i) h) := by
  intro r
  induction r with
  | nil =>
    rintro d hd iw g no i out h k hiw ew rfl rfl rfl
    rw [List.append_nil] at hd
    subst hd
    have hfl := filtL_len rs d
    have hk := k.1
    have w := w5.keep k
    have a1 := r32 l v5 (slV iw g (d.filter (rshow rs)).length (d.filter (rshow rs)).length) h _ _ (by omega) (by rw [rshow_filt]; omega) w (En.Rw.of ew)
    rw [decide_eq_true (rshow_filt rs d).symm] at a1
    obtain ⟨v3, h3, a3, rt3, k3⟩ := r27 i1 g1 rs.length l 0 v5 rs (filtL rs d) h (by omega) (by omega) fr (k.get e1 (lt_of_get e1)) w.rt (by omega)
    have a4 := r32 l v3 v5 h3 _ _ (by rw [filt_filt]; omega) (by omega) (En.Rw.ofRt rt3) (w.keep k3)
    rw [decide_eq_true (filt_filt rs d)] at a4
    have hlt : decide ((d.length : Int) < (d.length : Int)) = false := decide_eq_false (by omega)
    refine okr_code Try.func7 rfl rfl ?_
    simp (dsimp := false) (disch := (first | (refine dS ?_; kernel_rfl) | (refine dM ?_; kernel_rfl) | (refine dO ?_; simp (disch := ((try simp only [ZL]) <;> omega)) only [ZK, ZL]; done) | (refine dK ?_; (repeat first | exact Keep.refl _ _ | exact Keep.app _ _ (Nat.le_refl _) | assumption | refine Keep.ap ?_ | refine Keep.st (by first | omega | (simp only [ZL]; omega)) ?_); done) | ((try simp only [ZL]) <;> omega) | fail)) only [XOB, ↓XXs, ↓XD, ↓YX, ZB, Nat.reduceAdd, Nat.reducePow, ↓reduceIte, eq_self, Int.reduceEq, Nat.reduceEqDiff, Nat.reduceMul, Nat.reduceLeDiff, Int.reduceBEq, Int.reduceLT, Try.f7, ↓XH2, XRN, ZC, ZE, ZH, eq_self, Nat.reduceLeDiff, Nat.reduceBEq, slV_new, ZS, reduceIte, ↓op_extract, hlt, a1, a3, a4]
    with_reducible refine Okr.ret ?_
    rfl
  | cons x r ih =>
    rintro d hd iw g no i out h k hiw ew rfl rfl rfl
    have hk := k.1
    have hdl : d.length + r.length + 1 = log.length := by rw [← hd]; simp; omega
    have hlt : decide ((d.length : Int) < (log.length : Int)) = true := decide_eq_true (by omega)
    have hw : IntKind.i64.wrap ((d.length : Int) + 1) = ((d.length + 1 : Nat) : Int) := natCast_succ_wrap (by omega) rfl
    have hix : ixAddr (slV i2 g2 log.length log.length) (d.length : Int) 9 = some (pV i2 (d.length * 9) g2) := by rw [ixAddr_sl (by omega)]; simp
    have e1h := k.get e1 (lt_of_get e1)
    have e2h := k.get e2 (lt_of_get e2)
    have c1 : ((En.R log).drop (d.length * 9)).take 9 = En.C x := by rw [← hd]; exact En.get d x r
    have l1 : d.length * 9 + 9 ≤ (En.R log).length := by rw [En.R_len]; omega
    obtain ⟨h3, a3, k3⟩ := r16 i1 g1 rs.length l rs x h (by omega) fr e1h
    have k03 : Keep H0.length H0 h3 := k.trans (k3.le hk)
    have ew3 := k3.get ew (lt_of_get ew)
    have e2h3 := k3.get e2h (lt_of_get e2h)
    have hi3 := lt_of_get ew3
    have hi23 := lt_of_get e2h3
    have hi20 := lt_of_get e2
    refine okr_code Try.func7 rfl rfl ?_
    simp (dsimp := false) (disch := (first | (refine dS ?_; kernel_rfl) | (refine dM ?_; kernel_rfl) | (refine dO ?_; simp (disch := ((try simp only [ZL]) <;> omega)) only [ZK, ZL]; done) | (refine dK ?_; (repeat first | exact Keep.refl _ _ | exact Keep.app _ _ (Nat.le_refl _) | assumption | refine Keep.ap ?_ | refine Keep.st (by first | omega | (simp only [ZL]; omega)) ?_); done) | ((try simp only [ZL]) <;> omega) | fail)) only [XOB, ↓XXs, ↓XD, ↓YX, ZB, Nat.reduceAdd, Nat.reducePow, ↓reduceIte, eq_self, Int.reduceEq, Nat.reduceEqDiff, Nat.reduceMul, Nat.reduceLeDiff, Int.reduceBEq, Int.reduceLT, Try.f7, ↓XH2, XRN, ZC, ZE, ZH, eq_self, Nat.reduceLeDiff, Nat.reduceBEq, slV_new, ZS, reduceIte, ↓op_extract, hlt, hw, hix, e2h, e2h3, c1, l1, a3]
    refine okr_if (fun t => ?_) (fun t => ?_)
    · simp (dsimp := false) (disch := (first | (refine dS ?_; kernel_rfl) | (refine dM ?_; kernel_rfl) | (refine dO ?_; simp (disch := ((try simp only [ZL]) <;> omega)) only [ZK, ZL]; done) | (refine dK ?_; (repeat first | exact Keep.refl _ _ | exact Keep.app _ _ (Nat.le_refl _) | assumption | refine Keep.ap ?_ | refine Keep.st (by first | omega | (simp only [ZL]; omega)) ?_); done) | ((try simp only [ZL]) <;> omega) | fail)) only [XOB, ↓XXs, ↓XD, ↓YX, ZB, Nat.reduceAdd, Nat.reducePow, ↓reduceIte, eq_self, Int.reduceEq, Nat.reduceEqDiff, Nat.reduceMul, Nat.reduceLeDiff, Int.reduceBEq, Int.reduceLT, Try.f7, ↓XH2, XRN, ZC, ZE, ZH, eq_self, Nat.reduceLeDiff, Nat.reduceBEq, slV_new, ZS, reduceIte, ↓op_extract, hlt, hw, hix, e2h, e2h3, c1, l1, a3]
      refine okr_opt (En.app3 (os := d.filter (rshow rs)) x (by simp (disch := (first | (refine dS ?_; kernel_rfl) | (refine dM ?_; kernel_rfl) | (refine dO ?_; simp (disch := ((try simp only [ZL]) <;> omega)) only [ZK, ZL]; done) | (refine dK ?_; (repeat first | exact Keep.refl _ _ | exact Keep.app _ _ (Nat.le_refl _) | assumption | refine Keep.ap ?_ | refine Keep.st (by first | omega | (simp only [ZL]; omega)) ?_); done) | ((try simp only [ZL]) <;> omega) | fail)) only [↓XH2, XRN, ZC, ZE, ZH, eq_self, Nat.reduceLeDiff, Nat.reduceBEq, ew3]) (by simp (disch := (first | (refine dS ?_; kernel_rfl) | (refine dM ?_; kernel_rfl) | (refine dO ?_; simp (disch := ((try simp only [ZL]) <;> omega)) only [ZK, ZL]; done) | (refine dK ?_; (repeat first | exact Keep.refl _ _ | exact Keep.app _ _ (Nat.le_refl _) | assumption | refine Keep.ap ?_ | refine Keep.st (by first | omega | (simp only [ZL]; omega)) ?_); done) | ((try simp only [ZL]) <;> omega) | fail)) only [↓XH2, XRN, ZC, ZE, ZH, eq_self, Nat.reduceLeDiff, Nat.reduceBEq] <;> rfl) rfl rfl (by first | rfl | omega | (simp (disch := (first | (refine dS ?_; kernel_rfl) | (refine dM ?_; kernel_rfl) | (refine dO ?_; simp (disch := ((try simp only [ZL]) <;> omega)) only [ZK, ZL]; done) | (refine dK ?_; (repeat first | exact Keep.refl _ _ | exact Keep.app _ _ (Nat.le_refl _) | assumption | refine Keep.ap ?_ | refine Keep.st (by first | omega | (simp only [ZL]; omega)) ?_); done) | ((try simp only [ZL]) <;> omega) | fail)) only [ZK, ZL, ZR] <;> omega) | fail) (by have := List.length_filter_le (rshow rs) d; omega) rfl) ?_
      rintro _ ⟨g4, rfl⟩
      simp (dsimp := false) (disch := (first | (refine dS ?_; kernel_rfl) | (refine dM ?_; kernel_rfl) | (refine dO ?_; simp (disch := ((try simp only [ZL]) <;> omega)) only [ZK, ZL]; done) | (refine dK ?_; (repeat first | exact Keep.refl _ _ | exact Keep.app _ _ (Nat.le_refl _) | assumption | refine Keep.ap ?_ | refine Keep.st (by first | omega | (simp only [ZL]; omega)) ?_); done) | ((try simp only [ZL]) <;> omega) | fail)) only [XOB, ↓XXs, ↓XD, ↓YX, ZB, Nat.reduceAdd, Nat.reducePow, ↓reduceIte, eq_self, Int.reduceEq, Nat.reduceEqDiff, Nat.reduceMul, Nat.reduceLeDiff, Int.reduceBEq, Int.reduceLT, Try.f7, ↓XH2, XRN, ZC, ZE, ZH, eq_self, Nat.reduceLeDiff, Nat.reduceBEq, slV_new, ZS, reduceIte, ↓op_extract, hlt, hw, hix, e2h, e2h3, c1, l1, a3]
      exact ih (d ++ [x]) (by simp [hd]) iw g4 ((d.filter (rshow rs)).length + 1) _ (d.filter (rshow rs) ++ [x]) _ (k03.trans ((Keep.set h3 iw _ hiw).trans (Keep.app _ _ (by rw [List.length_set]; exact k03.1)))) hiw (by simp (disch := (first | (refine dS ?_; kernel_rfl) | (refine dM ?_; kernel_rfl) | (refine dO ?_; simp (disch := ((try simp only [ZL]) <;> omega)) only [ZK, ZL]; done) | (refine dK ?_; (repeat first | exact Keep.refl _ _ | exact Keep.app _ _ (Nat.le_refl _) | assumption | refine Keep.ap ?_ | refine Keep.st (by first | omega | (simp only [ZL]; omega)) ?_); done) | ((try simp only [ZL]) <;> omega) | fail)) only [↓XH2, XRN, ZC, ZE, ZH, eq_self, Nat.reduceLeDiff, Nat.reduceBEq]) (by simp [List.filter_append, t]) (by simp) (by simp)
    · simp (dsimp := false) (disch := (first | (refine dS ?_; kernel_rfl) | (refine dM ?_; kernel_rfl) | (refine dO ?_; simp (disch := ((try simp only [ZL]) <;> omega)) only [ZK, ZL]; done) | (refine dK ?_; (repeat first | exact Keep.refl _ _ | exact Keep.app _ _ (Nat.le_refl _) | assumption | refine Keep.ap ?_ | refine Keep.st (by first | omega | (simp only [ZL]; omega)) ?_); done) | ((try simp only [ZL]) <;> omega) | fail)) only [XOB, ↓XXs, ↓XD, ↓YX, ZB, Nat.reduceAdd, Nat.reducePow, ↓reduceIte, eq_self, Int.reduceEq, Nat.reduceEqDiff, Nat.reduceMul, Nat.reduceLeDiff, Int.reduceBEq, Int.reduceLT, Try.f7, ↓XH2, XRN, ZC, ZE, ZH, eq_self, Nat.reduceLeDiff, Nat.reduceBEq, slV_new, ZS, reduceIte, ↓op_extract, hlt, hw, hix, e2h, e2h3, c1, l1, a3]
      exact ih (d ++ [x]) (by simp [hd]) iw g _ _ (d.filter (rshow rs)) h3 k03 hiw ew3 (by simp [List.filter_append, t]) rfl (by simp)
theorem r7 (va : Value) (n l : Nat) (h : AH) (r : Cd h va n) (hl : l ≤ h.length) :
    Okr TrueQ (run V0 (.fn 7) l [S va] h) := by
  have lv := r.len
  refine okr_fn Try.func7 rfl rfl rfl rfl ?_
  simp (dsimp := false) (disch := (first | (refine dS ?_; kernel_rfl) | (refine dM ?_; kernel_rfl) | (refine dO ?_; simp (disch := ((try simp only [ZL]) <;> omega)) only [ZK, ZL]; done) | (refine dK ?_; (repeat first | exact Keep.refl _ _ | exact Keep.app _ _ (Nat.le_refl _) | assumption | refine Keep.ap ?_ | refine Keep.st (by first | omega | (simp only [ZL]; omega)) ?_); done) | ((try simp only [ZL]) <;> omega) | fail)) only [XOB, ↓XXs, ↓XD, ↓YX, ZB, Nat.reduceAdd, Nat.reducePow, ↓reduceIte, eq_self, Int.reduceEq, Nat.reduceEqDiff, Nat.reduceMul, Nat.reduceLeDiff, Int.reduceBEq, Int.reduceLT, Try.f7, ↓XH2, XRN, ZC, ZE, ZH, eq_self, Nat.reduceLeDiff, Nat.reduceBEq, slV_new, ZS, reduceIte, ↓op_extract, lv]
  refine okr_if (fun t => ?_) (fun t => ?_)
  · simp (dsimp := false) (disch := (first | (refine dS ?_; kernel_rfl) | (refine dM ?_; kernel_rfl) | (refine dO ?_; simp (disch := ((try simp only [ZL]) <;> omega)) only [ZK, ZL]; done) | (refine dK ?_; (repeat first | exact Keep.refl _ _ | exact Keep.app _ _ (Nat.le_refl _) | assumption | refine Keep.ap ?_ | refine Keep.st (by first | omega | (simp only [ZL]; omega)) ?_); done) | ((try simp only [ZL]) <;> omega) | fail)) only [XOB, ↓XXs, ↓XD, ↓YX, ZB, Nat.reduceAdd, Nat.reducePow, ↓reduceIte, eq_self, Int.reduceEq, Nat.reduceEqDiff, Nat.reduceMul, Nat.reduceLeDiff, Int.reduceBEq, Int.reduceLT, Try.f7, ↓XH2, XRN, ZC, ZE, ZH, eq_self, Nat.reduceLeDiff, Nat.reduceBEq, slV_new, ZS, reduceIte, ↓op_extract, lv]
    with_reducible refine Okr.ret ?_
    rfl
  · have hn : n ≤ 2 ^ 20 := by have := of_decide_eq_false t; omega
    simp (dsimp := false) (disch := (first | (refine dS ?_; kernel_rfl) | (refine dM ?_; kernel_rfl) | (refine dO ?_; simp (disch := ((try simp only [ZL]) <;> omega)) only [ZK, ZL]; done) | (refine dK ?_; (repeat first | exact Keep.refl _ _ | exact Keep.app _ _ (Nat.le_refl _) | assumption | refine Keep.ap ?_ | refine Keep.st (by first | omega | (simp only [ZL]; omega)) ?_); done) | ((try simp only [ZL]) <;> omega) | fail)) only [XOB, ↓XXs, ↓XD, ↓YX, ZB, Nat.reduceAdd, Nat.reducePow, ↓reduceIte, eq_self, Int.reduceEq, Nat.reduceEqDiff, Nat.reduceMul, Nat.reduceLeDiff, Int.reduceBEq, Int.reduceLT, Try.f7, ↓XH2, XRN, ZC, ZE, ZH, eq_self, Nat.reduceLeDiff, Nat.reduceBEq, slV_new, ZS, reduceIte, ↓op_extract, lv]
    refine okr_call (r31 va n l h r hl (by omega)) ?_
    rintro _ h2 ⟨⟨i1, g1, rs, i2, g2, log, rfl, e1, e2, hi1, hi2, h12, fr, h9, hinc, h60⟩, k2⟩
    have hk2 := k2.1
    obtain ⟨v3, h3, a3, rt3, k3⟩ := r27 i1 g1 rs.length l 0 (slV i2 g2 log.length log.length) rs log h2 (by omega) (by omega) (fun x hx => (fr x hx).fit) e1 (.inr ⟨i2, g2, _, [], rfl, by simpa using e2, by omega⟩) (by omega)
    have e13 := k3.get e1 (lt_of_get e1)
    have e23 := k3.get e2 (lt_of_get e2)
    have hk3 := k3.1
    obtain ⟨v4, h4, a4, rt4, k4⟩ := r25 i1 g1 rs.length l 0 (slV i2 g2 log.length log.length) rs log h3 (by omega) (by omega) (fun x hx => (fr x hx).fit) e13 (.inr ⟨i2, g2, _, [], rfl, by simpa using e23, by omega⟩) (by omega)
    have hk4 := k4.1
    have e14 := k4.get e13 (lt_of_get e13)
    have e24 := k4.get e23 (lt_of_get e23)
    have hfl := filtL_len rs log
    have w3 := (En.Rw.ofRt rt3).keep k4
    have w4 := En.Rw.ofRt rt4
    have a5 := r32 l v3 v4 h4 _ _ (by omega) (by omega) w3 w4
    rw [decide_eq_true rfl] at a5
    simp (dsimp := false) (disch := (first | (refine dS ?_; kernel_rfl) | (refine dM ?_; kernel_rfl) | (refine dO ?_; simp (disch := ((try simp only [ZL]) <;> omega)) only [ZK, ZL]; done) | (refine dK ?_; (repeat first | exact Keep.refl _ _ | exact Keep.app _ _ (Nat.le_refl _) | assumption | refine Keep.ap ?_ | refine Keep.st (by first | omega | (simp only [ZL]; omega)) ?_); done) | ((try simp only [ZL]) <;> omega) | fail)) only [XOB, ↓XXs, ↓XD, ↓YX, ZB, Nat.reduceAdd, Nat.reducePow, ↓reduceIte, eq_self, Int.reduceEq, Nat.reduceEqDiff, Nat.reduceMul, Nat.reduceLeDiff, Int.reduceBEq, Int.reduceLT, Try.f7, ↓XH2, XRN, ZC, ZE, ZH, eq_self, Nat.reduceLeDiff, Nat.reduceBEq, slV_new, ZS, reduceIte, ↓op_extract, lv, a3, a4, a5]
    exact L7 l i1 g1 i2 g2 rs log v3 h4 (fun x hx => (fr x hx).fit) h9 h60 e14 e24 w3 (by omega) log [] rfl h4.length 0 0 0 [] _ (Keep.app _ _ (Nat.le_refl _)) (Nat.le_refl _) (by simp (disch := (first | (refine dS ?_; kernel_rfl) | (refine dM ?_; kernel_rfl) | (refine dO ?_; simp (disch := ((try simp only [ZL]) <;> omega)) only [ZK, ZL]; done) | (refine dK ?_; (repeat first | exact Keep.refl _ _ | exact Keep.app _ _ (Nat.le_refl _) | assumption | refine Keep.ap ?_ | refine Keep.st (by first | omega | (simp only [ZL]; omega)) ?_); done) | ((try simp only [ZL]) <;> omega) | fail)) only [↓XH2, XRN, ZC, ZE, ZH, eq_self, Nat.reduceLeDiff, Nat.reduceBEq]; rfl) rfl rfl rfl
theorem rz7 (va : Value) (n l : Nat) (h : AH) (r : Cd h va n) (hl : l ≤ h.length) : ∃ h', run V0 (.fn 7) l [S va] h = some (.ret (.bool true) h') := by
  obtain ⟨v, h', e, rfl⟩ := r7 va n l h r hl
  exact ⟨h', e⟩
end Go.Abs
namespace Go.Abs
open Go.Proofs
set_option maxRecDepth 100000
set_option linter.unusedSimpArgs false
set_option linter.unusedVariables false
set_option pp.maxSteps 20000
set_option pp.deepTerms true
theorem binK_eqA {P : Program} {t : TypeId} {a b : Array Value} {act : Option Bool} {K : Value → R} : binK P .eql t (.agg a) (.agg b) act K = chk (eqOk P t (.agg a)) (oE act (eqA P 50 t (.agg a) (.agg b)) false fun q => K (.bool q)) := rfl
theorem Ru.F.fit20 {x : Ru} (f : x.F) : x.Fit20 := ⟨by have := f.1; omega, by have := f.2; omega⟩
/-- what a filtering leaves -/
def FiQ (h : AH) (es : List En) (v : Value) (h' : AH) : Prop := En.Rw h' v es ∧ Keep h.length h h'
theorem fi_impl {i g l n : Nat} {vE : Value} {xs : List Ru} {es : List En} {h : AH} (hn : n = xs.length) (hx : xs.length ≤ 2 ^ 20) (he : es.length ≤ 2 ^ 20) (hf : ∀ x ∈ xs, x.F) (el : h[i]? = some (.row g 4 (Ru.R xs))) (eE : En.Rw h vE es) (hl : l ≤ h.length) :
    Okr (FiQ h (filtL xs es)) (run V0 (.fn 27) l [S (slV i g n n), S vE] h) := by
  subst hn
  obtain ⟨v, h', e, q, k⟩ := r27 i g xs.length l 0 vE xs es h hx he (fun x hx => (hf x hx).fit) el eE.rt hl
  exact ⟨v, h', e, En.Rw.ofRt q, k⟩
theorem fi_spec {i g l n : Nat} {vE : Value} {xs : List Ru} {es : List En} {h : AH} (hn : n = xs.length) (hx : xs.length ≤ 2 ^ 20) (he : es.length ≤ 2 ^ 20) (hf : ∀ x ∈ xs, x.F) (el : h[i]? = some (.row g 4 (Ru.R xs))) (eE : En.Rw h vE es) (hl : l ≤ h.length) :
    Okr (FiQ h (filtL xs es)) (run V0 (.fn 25) l [S (slV i g n n), S vE] h) := by
  subst hn
  obtain ⟨v, h', e, q, k⟩ := r25 i g xs.length l 0 vE xs es h hx he (fun x hx => (hf x hx).fit) el eE.rt hl
  exact ⟨v, h', e, En.Rw.ofRt q, k⟩
def StQ (h : AH) (s : Bs) (v : Value) (h' : AH) : Prop := v = sV s ∧ Keep h.length h h'
theorem put_ok {i g l n : Nat} {xs : List Ru} {h : AH} (hn : n = xs.length) (hx : xs.length ≤ 2 ^ 20) (hf : ∀ x ∈ xs, x.F) (el : h[i]? = some (.row g 4 (Ru.R xs))) (hl : l ≤ h.length) :
    Okr (StQ h (rputL xs)) (run V0 (.fn 23) l [S (slV i g n n)] h) := by
  subst hn
  obtain ⟨h', e, k⟩ := r23 i g xs.length l xs h hl hx (fun x hx => (hf x hx).fit20) el
  exact ⟨_, h', e, rfl, k⟩
theorem hb_log {l : Nat} {a b : Value} {h : AH} {xs ys : List En} (e : xs = ys) (hx : xs.length ≤ 2 ^ 20) (qa : En.Rw h a xs) (qb : En.Rw h b ys) : run V0 (.fn 32) l [S a, S b] h = some (.ret (.bool true) h) := by
  subst e
  rw [r32 l a b h xs xs hx hx qa qb, decide_eq_true rfl]
theorem Ru.appL {lim : Nat} {h : AH} {id g gb ib nb cb no : Nat} {os ys : List Ru} (e : h[id]? = some (.row g 4 (Ru.R os))) (e2 : h[ib]? = some (.row gb 4 (Ru.R ys))) (hno : no = os.length) (hnb : nb = ys.length) (hl : lim ≤ id) (hb : os.length + ys.length ≤ 2 ^ 30) :
    ∃ z, app lim h (slV id g no no) (slV ib gb nb cb) 4 4 48 = some z ∧ ∃ g', z = (slV id g' (no + nb) (no + nb), h.set id (.row g' 4 (Ru.R (os ++ ys)))) := by
  subst hno hnb
  obtain ⟨z, e1, g', rfl⟩ := okr_app (lim := lim) (id := id) (g := g) (tg := 4) (n := os.length) (k := ys.length) (by' := 48) (cs := Ru.R os) (x := slV ib gb ys.length cb) (ds := Ru.R ys) (src_new (sz := 4) (tg := 4) e2 (by rw [Ru.R_len]; omega)) e (by rw [Ru.R_len]; omega) hl (by omega)
  exact ⟨_, e1, g', by rw [Ru.R_app]⟩
theorem show_two {a b : List Ru} {e : En} (h : showL (a ++ b) e = true) : showL a e = true := by
  unfold showL at *
  rw [List.find?_append] at h
  cases hq : a.find? fun x => meansL x e with
  | none => rfl
  | some x => rw [hq] at h; exact h
theorem filt_two {a b : List Ru} {es : List En} (h : rokL a = true) : (filtL (a ++ b) es).Sublist (filtL a es) := by
  unfold filtL
  have h' : (a.all ruOk && decide ((a.length : Int) ≤ 8)) = true := h
  rw [if_pos h']
  split
  · have e : es.filter (showL (a ++ b)) = (es.filter (showL a)).filter (showL (a ++ b)) := by
      rw [List.filter_filter]
      refine List.filter_congr fun x _ => ?_
      cases hq : showL (a ++ b) x with
      | false => rfl
      | true => rw [show_two hq]; rfl
    rw [e]
    exact List.filter_sublist
  · exact List.nil_sublist _
theorem rputL_ne {xs : List Ru} (h : rputL xs ≠ []) : rokL xs = true := by
  unfold rputL at h
  cases hq : rokL xs with
  | true => rfl
  | false => rw [hq] at h; exact absurd rfl h
theorem L9 (l : Nat) (va vb : Value) (some_ both : List En) (h : AH) (hs : some_.length ≤ 2 ^ 20) (hb : both.length ≤ 2 ^ 20) (qa : En.Rw h va some_) (qb : En.Rw h vb both) :
    ∀ (r d t e : List En) (i j : Int), d ++ r = some_ → e ++ t = both → t.Sublist r → i = d.length → j = e.length → Okr TrueQ (L9_0 l va vb (iV j) (iV i) h) := by
  have la := qa.len
  have lb := qb.len
  intro r
  induction r with
  | nil =>
    rintro d t e i j h1 h2 st rfl rfl
    obtain rfl := List.sublist_nil.1 st
    rw [List.append_nil] at h1 h2
    subst h1 h2
    have hlt : decide ((d.length : Int) < (d.length : Int)) = false := decide_eq_false (by omega)
    refine okr_code Try.func9 rfl rfl ?_
    simp (dsimp := false) (disch := (first | (refine dS ?_; kernel_rfl) | (refine dM ?_; kernel_rfl) | (refine dO ?_; simp (disch := ((try simp only [ZL]) <;> omega)) only [ZK, ZL]; done) | (refine dK ?_; (repeat first | exact Keep.refl _ _ | exact Keep.app _ _ (Nat.le_refl _) | assumption | refine Keep.ap ?_ | refine Keep.st (by first | omega | (simp only [ZL]; omega)) ?_); done) | ((try simp only [ZL]) <;> omega) | fail)) only [XOB, ↓XXs, ↓XD, ↓YX, ZB, Nat.reduceAdd, Nat.reducePow, ↓reduceIte, eq_self, Int.reduceEq, Nat.reduceEqDiff, Nat.reduceMul, Nat.reduceLeDiff, Int.reduceBEq, Int.reduceLT, Try.f9, ↓XH2, XRN, ZC, ZE, ZH, eq_self, Nat.reduceLeDiff, Nat.reduceBEq, slV_new, ZS, reduceIte, ↓op_extract, binK_eqA, eqA_EnC, eqOk_EnC, la, lb, hlt]
    with_reducible refine Okr.ret ?_
    simp [TrueQ]
  | cons x r ih =>
    rintro d t e i j h1 h2 st rfl rfl
    have hll : d.length + r.length + 1 = some_.length := by rw [← h1]; simp; omega
    have hlt : decide ((d.length : Int) < (some_.length : Int)) = true := decide_eq_true (by omega)
    have hw : IntKind.i64.wrap ((d.length : Int) + 1) = ((d.length + 1 : Nat) : Int) := natCast_succ_wrap (by omega) rfl
    obtain ⟨p, g, t1, hix, hh, hp⟩ := (h1 ▸ qa : En.Rw h va (d ++ x :: r)).at
    have c1 := En.get d x t1
    have l1 : d.length * 9 + 9 ≤ (En.R (d ++ x :: t1)).length := by rw [En.R_len]; simp; omega
    cases t with
    | nil =>
      rw [List.append_nil] at h2
      subst h2
      have hlt2 : decide ((e.length : Int) < (e.length : Int)) = false := decide_eq_false (by omega)
      refine okr_code Try.func9 rfl rfl ?_
      simp (dsimp := false) (disch := (first | (refine dS ?_; kernel_rfl) | (refine dM ?_; kernel_rfl) | (refine dO ?_; simp (disch := ((try simp only [ZL]) <;> omega)) only [ZK, ZL]; done) | (refine dK ?_; (repeat first | exact Keep.refl _ _ | exact Keep.app _ _ (Nat.le_refl _) | assumption | refine Keep.ap ?_ | refine Keep.st (by first | omega | (simp only [ZL]; omega)) ?_); done) | ((try simp only [ZL]) <;> omega) | fail)) only [XOB, ↓XXs, ↓XD, ↓YX, ZB, Nat.reduceAdd, Nat.reducePow, ↓reduceIte, eq_self, Int.reduceEq, Nat.reduceEqDiff, Nat.reduceMul, Nat.reduceLeDiff, Int.reduceBEq, Int.reduceLT, Try.f9, ↓XH2, XRN, ZC, ZE, ZH, eq_self, Nat.reduceLeDiff, Nat.reduceBEq, slV_new, ZS, reduceIte, ↓op_extract, binK_eqA, eqA_EnC, eqOk_EnC, la, lb, hlt, hlt2]
      with_reducible refine Okr.ret ?_
      simp [TrueQ]
    | cons y t =>
      have hlm : e.length + t.length + 1 = both.length := by rw [← h2]; simp; omega
      have hlt2 : decide ((e.length : Int) < (both.length : Int)) = true := decide_eq_true (by omega)
      have hw2 : IntKind.i64.wrap ((e.length : Int) + 1) = ((e.length + 1 : Nat) : Int) := natCast_succ_wrap (by omega) rfl
      obtain ⟨p2, g2, t2, hix2, hh2, hp2⟩ := (h2 ▸ qb : En.Rw h vb (e ++ y :: t)).at
      have c2 := En.get e y t2
      have l2 : e.length * 9 + 9 ≤ (En.R (e ++ y :: t2)).length := by rw [En.R_len]; simp; omega
      refine okr_code Try.func9 rfl rfl ?_
      simp (dsimp := false) (disch := (first | (refine dS ?_; kernel_rfl) | (refine dM ?_; kernel_rfl) | (refine dO ?_; simp (disch := ((try simp only [ZL]) <;> omega)) only [ZK, ZL]; done) | (refine dK ?_; (repeat first | exact Keep.refl _ _ | exact Keep.app _ _ (Nat.le_refl _) | assumption | refine Keep.ap ?_ | refine Keep.st (by first | omega | (simp only [ZL]; omega)) ?_); done) | ((try simp only [ZL]) <;> omega) | fail)) only [XOB, ↓XXs, ↓XD, ↓YX, ZB, Nat.reduceAdd, Nat.reducePow, ↓reduceIte, eq_self, Int.reduceEq, Nat.reduceEqDiff, Nat.reduceMul, Nat.reduceLeDiff, Int.reduceBEq, Int.reduceLT, Try.f9, ↓XH2, XRN, ZC, ZE, ZH, eq_self, Nat.reduceLeDiff, Nat.reduceBEq, slV_new, ZS, reduceIte, ↓op_extract, binK_eqA, eqA_EnC, eqOk_EnC, la, lb, hlt, hlt2, hix, hix2, hh, hh2, hw, hw2, c1, c2, l1, l2]
      refine okr_if (fun q => ?_) (fun q => ?_)
      · have hxy : x = y := of_decide_eq_true q
        subst hxy
        simp (dsimp := false) (disch := (first | (refine dS ?_; kernel_rfl) | (refine dM ?_; kernel_rfl) | (refine dO ?_; simp (disch := ((try simp only [ZL]) <;> omega)) only [ZK, ZL]; done) | (refine dK ?_; (repeat first | exact Keep.refl _ _ | exact Keep.app _ _ (Nat.le_refl _) | assumption | refine Keep.ap ?_ | refine Keep.st (by first | omega | (simp only [ZL]; omega)) ?_); done) | ((try simp only [ZL]) <;> omega) | fail)) only [XOB, ↓XXs, ↓XD, ↓YX, ZB, Nat.reduceAdd, Nat.reducePow, ↓reduceIte, eq_self, Int.reduceEq, Nat.reduceEqDiff, Nat.reduceMul, Nat.reduceLeDiff, Int.reduceBEq, Int.reduceLT, Try.f9, ↓XH2, XRN, ZC, ZE, ZH, eq_self, Nat.reduceLeDiff, Nat.reduceBEq, slV_new, ZS, reduceIte, ↓op_extract, binK_eqA, eqA_EnC, eqOk_EnC, la, lb, hlt, hlt2, hix, hix2, hh, hh2, hw, hw2, c1, c2, l1, l2]
        exact ih (d ++ [x]) t (e ++ [x]) _ _ (by simp [h1]) (by simp [h2]) (List.cons_sublist_cons.1 st) (by simp) (by simp)
      · have hxy : x ≠ y := of_decide_eq_false q
        simp (dsimp := false) (disch := (first | (refine dS ?_; kernel_rfl) | (refine dM ?_; kernel_rfl) | (refine dO ?_; simp (disch := ((try simp only [ZL]) <;> omega)) only [ZK, ZL]; done) | (refine dK ?_; (repeat first | exact Keep.refl _ _ | exact Keep.app _ _ (Nat.le_refl _) | assumption | refine Keep.ap ?_ | refine Keep.st (by first | omega | (simp only [ZL]; omega)) ?_); done) | ((try simp only [ZL]) <;> omega) | fail)) only [XOB, ↓XXs, ↓XD, ↓YX, ZB, Nat.reduceAdd, Nat.reducePow, ↓reduceIte, eq_self, Int.reduceEq, Nat.reduceEqDiff, Nat.reduceMul, Nat.reduceLeDiff, Int.reduceBEq, Int.reduceLT, Try.f9, ↓XH2, XRN, ZC, ZE, ZH, eq_self, Nat.reduceLeDiff, Nat.reduceBEq, slV_new, ZS, reduceIte, ↓op_extract, binK_eqA, eqA_EnC, eqOk_EnC, la, lb, hlt, hlt2, hix, hix2, hh, hh2, hw, hw2, c1, c2, l1, l2]
        refine ih (d ++ [x]) (y :: t) e _ _ (by simp [h1]) h2 ?_ (by simp) rfl
        cases st with
        | cons _ s => exact s
        | cons_cons _ s => exact absurd rfl hxy
theorem r9 (va vb : Value) (n m l : Nat) (h : AH) (r : Cd h va n) (r' : Cd h vb m) (hl : l ≤ h.length) :
    Okr TrueQ (run V0 (.fn 9) l [S va, S vb] h) := by
  have lv := r.len
  have lv' := r'.len
  refine okr_fn Try.func9 rfl rfl rfl rfl ?_
  try simp (dsimp := false) (disch := (first | (refine dS ?_; kernel_rfl) | (refine dM ?_; kernel_rfl) | (refine dO ?_; simp (disch := ((try simp only [ZL]) <;> omega)) only [ZK, ZL]; done) | (refine dK ?_; (repeat first | exact Keep.refl _ _ | exact Keep.app _ _ (Nat.le_refl _) | assumption | refine Keep.ap ?_ | refine Keep.st (by first | omega | (simp only [ZL]; omega)) ?_); done) | ((try simp only [ZL]) <;> omega) | fail)) only [XOB, ↓XXs, ↓XD, ↓YX, ZB, Nat.reduceAdd, Nat.reducePow, ↓reduceIte, eq_self, Int.reduceEq, Nat.reduceEqDiff, Nat.reduceMul, Nat.reduceLeDiff, Int.reduceBEq, Int.reduceLT, Try.f9, ↓XH2, XRN, ZC, ZE, ZH, eq_self, Nat.reduceLeDiff, Nat.reduceBEq, slV_new, ZS, reduceIte, ↓op_extract, binK_eqA, eqA_EnC, eqOk_EnC, lv, lv']
  refine okr_if (fun t => ?_) (fun t => ?_)
  · simp (dsimp := false) (disch := (first | (refine dS ?_; kernel_rfl) | (refine dM ?_; kernel_rfl) | (refine dO ?_; simp (disch := ((try simp only [ZL]) <;> omega)) only [ZK, ZL]; done) | (refine dK ?_; (repeat first | exact Keep.refl _ _ | exact Keep.app _ _ (Nat.le_refl _) | assumption | refine Keep.ap ?_ | refine Keep.st (by first | omega | (simp only [ZL]; omega)) ?_); done) | ((try simp only [ZL]) <;> omega) | fail)) only [XOB, ↓XXs, ↓XD, ↓YX, ZB, Nat.reduceAdd, Nat.reducePow, ↓reduceIte, eq_self, Int.reduceEq, Nat.reduceEqDiff, Nat.reduceMul, Nat.reduceLeDiff, Int.reduceBEq, Int.reduceLT, Try.f9, ↓XH2, XRN, ZC, ZE, ZH, eq_self, Nat.reduceLeDiff, Nat.reduceBEq, slV_new, ZS, reduceIte, ↓op_extract, binK_eqA, eqA_EnC, eqOk_EnC, lv, lv']
    with_reducible refine Okr.ret ?_
    rfl
  try simp (dsimp := false) (disch := (first | (refine dS ?_; kernel_rfl) | (refine dM ?_; kernel_rfl) | (refine dO ?_; simp (disch := ((try simp only [ZL]) <;> omega)) only [ZK, ZL]; done) | (refine dK ?_; (repeat first | exact Keep.refl _ _ | exact Keep.app _ _ (Nat.le_refl _) | assumption | refine Keep.ap ?_ | refine Keep.st (by first | omega | (simp only [ZL]; omega)) ?_); done) | ((try simp only [ZL]) <;> omega) | fail)) only [XOB, ↓XXs, ↓XD, ↓YX, ZB, Nat.reduceAdd, Nat.reducePow, ↓reduceIte, eq_self, Int.reduceEq, Nat.reduceEqDiff, Nat.reduceMul, Nat.reduceLeDiff, Int.reduceBEq, Int.reduceLT, Try.f9, ↓XH2, XRN, ZC, ZE, ZH, eq_self, Nat.reduceLeDiff, Nat.reduceBEq, slV_new, ZS, reduceIte, ↓op_extract, binK_eqA, eqA_EnC, eqOk_EnC, lv, lv']
  refine okr_if (fun t' => ?_) (fun t' => ?_)
  · simp (dsimp := false) (disch := (first | (refine dS ?_; kernel_rfl) | (refine dM ?_; kernel_rfl) | (refine dO ?_; simp (disch := ((try simp only [ZL]) <;> omega)) only [ZK, ZL]; done) | (refine dK ?_; (repeat first | exact Keep.refl _ _ | exact Keep.app _ _ (Nat.le_refl _) | assumption | refine Keep.ap ?_ | refine Keep.st (by first | omega | (simp only [ZL]; omega)) ?_); done) | ((try simp only [ZL]) <;> omega) | fail)) only [XOB, ↓XXs, ↓XD, ↓YX, ZB, Nat.reduceAdd, Nat.reducePow, ↓reduceIte, eq_self, Int.reduceEq, Nat.reduceEqDiff, Nat.reduceMul, Nat.reduceLeDiff, Int.reduceBEq, Int.reduceLT, Try.f9, ↓XH2, XRN, ZC, ZE, ZH, eq_self, Nat.reduceLeDiff, Nat.reduceBEq, slV_new, ZS, reduceIte, ↓op_extract, binK_eqA, eqA_EnC, eqOk_EnC, lv, lv']
    with_reducible refine Okr.ret ?_
    rfl
  have hn : n ≤ 2 ^ 20 := by have := of_decide_eq_false t; omega
  have hm : m ≤ 2 ^ 20 := by have := of_decide_eq_false t'; omega
  try simp (dsimp := false) (disch := (first | (refine dS ?_; kernel_rfl) | (refine dM ?_; kernel_rfl) | (refine dO ?_; simp (disch := ((try simp only [ZL]) <;> omega)) only [ZK, ZL]; done) | (refine dK ?_; (repeat first | exact Keep.refl _ _ | exact Keep.app _ _ (Nat.le_refl _) | assumption | refine Keep.ap ?_ | refine Keep.st (by first | omega | (simp only [ZL]; omega)) ?_); done) | ((try simp only [ZL]) <;> omega) | fail)) only [XOB, ↓XXs, ↓XD, ↓YX, ZB, Nat.reduceAdd, Nat.reducePow, ↓reduceIte, eq_self, Int.reduceEq, Nat.reduceEqDiff, Nat.reduceMul, Nat.reduceLeDiff, Int.reduceBEq, Int.reduceLT, Try.f9, ↓XH2, XRN, ZC, ZE, ZH, eq_self, Nat.reduceLeDiff, Nat.reduceBEq, slV_new, ZS, reduceIte, ↓op_extract, binK_eqA, eqA_EnC, eqOk_EnC, lv, lv']
  refine okr_call (r31 va n l h r hl (by omega)) ?_
  rintro _ h2 ⟨⟨i1, g1, as_, i2, g2, log, rfl, e1, e2, hi1, hi2, h12, fr, h9, hinc, h60⟩, k2⟩
  have hk2 := k2.1
  try simp (dsimp := false) (disch := (first | (refine dS ?_; kernel_rfl) | (refine dM ?_; kernel_rfl) | (refine dO ?_; simp (disch := ((try simp only [ZL]) <;> omega)) only [ZK, ZL]; done) | (refine dK ?_; (repeat first | exact Keep.refl _ _ | exact Keep.app _ _ (Nat.le_refl _) | assumption | refine Keep.ap ?_ | refine Keep.st (by first | omega | (simp only [ZL]; omega)) ?_); done) | ((try simp only [ZL]) <;> omega) | fail)) only [XOB, ↓XXs, ↓XD, ↓YX, ZB, Nat.reduceAdd, Nat.reducePow, ↓reduceIte, eq_self, Int.reduceEq, Nat.reduceEqDiff, Nat.reduceMul, Nat.reduceLeDiff, Int.reduceBEq, Int.reduceLT, Try.f9, ↓XH2, XRN, ZC, ZE, ZH, eq_self, Nat.reduceLeDiff, Nat.reduceBEq, slV_new, ZS, reduceIte, ↓op_extract, binK_eqA, eqA_EnC, eqOk_EnC, lv, lv']
  refine okr_call (r34 vb m l h2 (r'.keep k2) (by omega) (by omega)) ?_
  rintro _ h3 ⟨⟨i3, g3, bs, rfl, e3, hi3, fr', h9'⟩, k3⟩
  have hk3 := k3.1
  have e13 := k3.get e1 (lt_of_get e1)
  have e23 := k3.get e2 (lt_of_get e2)
  try simp (dsimp := false) (disch := (first | (refine dS ?_; kernel_rfl) | (refine dM ?_; kernel_rfl) | (refine dO ?_; simp (disch := ((try simp only [ZL]) <;> omega)) only [ZK, ZL]; done) | (refine dK ?_; (repeat first | exact Keep.refl _ _ | exact Keep.app _ _ (Nat.le_refl _) | assumption | refine Keep.ap ?_ | refine Keep.st (by first | omega | (simp only [ZL]; omega)) ?_); done) | ((try simp only [ZL]) <;> omega) | fail)) only [XOB, ↓XXs, ↓XD, ↓YX, ZB, Nat.reduceAdd, Nat.reducePow, ↓reduceIte, eq_self, Int.reduceEq, Nat.reduceEqDiff, Nat.reduceMul, Nat.reduceLeDiff, Int.reduceBEq, Int.reduceLT, Try.f9, ↓XH2, XRN, ZC, ZE, ZH, eq_self, Nat.reduceLeDiff, Nat.reduceBEq, slV_new, ZS, reduceIte, ↓op_extract, binK_eqA, eqA_EnC, eqOk_EnC, lv, lv']
  refine okr_call (fi_impl rfl (by omega) (by omega) fr e13 (En.Rw.of e23) (by omega)) ?_
  rintro v4 h4 ⟨w4, k4⟩
  have hk4 := k4.1
  have e14 := k4.get e13 (lt_of_get e13)
  have e24 := k4.get e23 (lt_of_get e23)
  have e34 := k4.get e3 (lt_of_get e3)
  try simp (dsimp := false) (disch := (first | (refine dS ?_; kernel_rfl) | (refine dM ?_; kernel_rfl) | (refine dO ?_; simp (disch := ((try simp only [ZL]) <;> omega)) only [ZK, ZL]; done) | (refine dK ?_; (repeat first | exact Keep.refl _ _ | exact Keep.app _ _ (Nat.le_refl _) | assumption | refine Keep.ap ?_ | refine Keep.st (by first | omega | (simp only [ZL]; omega)) ?_); done) | ((try simp only [ZL]) <;> omega) | fail)) only [XOB, ↓XXs, ↓XD, ↓YX, ZB, Nat.reduceAdd, Nat.reducePow, ↓reduceIte, eq_self, Int.reduceEq, Nat.reduceEqDiff, Nat.reduceMul, Nat.reduceLeDiff, Int.reduceBEq, Int.reduceLT, Try.f9, ↓XH2, XRN, ZC, ZE, ZH, eq_self, Nat.reduceLeDiff, Nat.reduceBEq, slV_new, ZS, reduceIte, ↓op_extract, binK_eqA, eqA_EnC, eqOk_EnC, lv, lv']
  refine okr_call (fi_spec rfl (by omega) (by omega) fr e14 (En.Rw.of e24) (by omega)) ?_
  rintro v5 h5 ⟨w5, k5⟩
  have hk5 := k5.1
  have e15 := k5.get e14 (lt_of_get e14)
  have e25 := k5.get e24 (lt_of_get e24)
  have e35 := k5.get e34 (lt_of_get e34)
  have w45 := w4.keep k5
  have hfl := filtL_len as_ log
  have a5 := hb_log (l := l) rfl (by omega) w45 w5
  try simp (dsimp := false) (disch := (first | (refine dS ?_; kernel_rfl) | (refine dM ?_; kernel_rfl) | (refine dO ?_; simp (disch := ((try simp only [ZL]) <;> omega)) only [ZK, ZL]; done) | (refine dK ?_; (repeat first | exact Keep.refl _ _ | exact Keep.app _ _ (Nat.le_refl _) | assumption | refine Keep.ap ?_ | refine Keep.st (by first | omega | (simp only [ZL]; omega)) ?_); done) | ((try simp only [ZL]) <;> omega) | fail)) only [XOB, ↓XXs, ↓XD, ↓YX, ZB, Nat.reduceAdd, Nat.reducePow, ↓reduceIte, eq_self, Int.reduceEq, Nat.reduceEqDiff, Nat.reduceMul, Nat.reduceLeDiff, Int.reduceBEq, Int.reduceLT, Try.f9, ↓XH2, XRN, ZC, ZE, ZH, eq_self, Nat.reduceLeDiff, Nat.reduceBEq, slV_new, ZS, reduceIte, ↓op_extract, binK_eqA, eqA_EnC, eqOk_EnC, lv, lv', a5]
  refine okr_if (fun t8 => ?_) (fun t8 => ?_)
  · try simp (dsimp := false) (disch := (first | (refine dS ?_; kernel_rfl) | (refine dM ?_; kernel_rfl) | (refine dO ?_; simp (disch := ((try simp only [ZL]) <;> omega)) only [ZK, ZL]; done) | (refine dK ?_; (repeat first | exact Keep.refl _ _ | exact Keep.app _ _ (Nat.le_refl _) | assumption | refine Keep.ap ?_ | refine Keep.st (by first | omega | (simp only [ZL]; omega)) ?_); done) | ((try simp only [ZL]) <;> omega) | fail)) only [XOB, ↓XXs, ↓XD, ↓YX, ZB, Nat.reduceAdd, Nat.reducePow, ↓reduceIte, eq_self, Int.reduceEq, Nat.reduceEqDiff, Nat.reduceMul, Nat.reduceLeDiff, Int.reduceBEq, Int.reduceLT, Try.f9, ↓XH2, XRN, ZC, ZE, ZH, eq_self, Nat.reduceLeDiff, Nat.reduceBEq, slV_new, ZS, reduceIte, ↓op_extract, binK_eqA, eqA_EnC, eqOk_EnC, lv, lv']
    refine okr_call (fi_spec rfl (by omega) (by omega) fr (k5.get e14 (lt_of_get e14)) (En.Rw.of (k5.get e24 (lt_of_get e24))) (by omega)) ?_
    rintro v9 h9 ⟨w9, k9⟩
    have a9 := hb_log (l := l) rfl (by omega) ((w4.keep k5).keep k9) w9
    try simp (dsimp := false) (disch := (first | (refine dS ?_; kernel_rfl) | (refine dM ?_; kernel_rfl) | (refine dO ?_; simp (disch := ((try simp only [ZL]) <;> omega)) only [ZK, ZL]; done) | (refine dK ?_; (repeat first | exact Keep.refl _ _ | exact Keep.app _ _ (Nat.le_refl _) | assumption | refine Keep.ap ?_ | refine Keep.st (by first | omega | (simp only [ZL]; omega)) ?_); done) | ((try simp only [ZL]) <;> omega) | fail)) only [XOB, ↓XXs, ↓XD, ↓YX, ZB, Nat.reduceAdd, Nat.reducePow, ↓reduceIte, eq_self, Int.reduceEq, Nat.reduceEqDiff, Nat.reduceMul, Nat.reduceLeDiff, Int.reduceBEq, Int.reduceLT, Try.f9, ↓XH2, XRN, ZC, ZE, ZH, eq_self, Nat.reduceLeDiff, Nat.reduceBEq, slV_new, ZS, reduceIte, ↓op_extract, binK_eqA, eqA_EnC, eqOk_EnC, lv, lv', a9]
    with_reducible refine Okr.ret ?_
    rfl
  have hab : as_.length + bs.length ≤ 8 := by
    have h1 := of_decide_eq_false t8
    rw [wrap64 (by omega)] at h1
    omega
  try simp (dsimp := false) (disch := (first | (refine dS ?_; kernel_rfl) | (refine dM ?_; kernel_rfl) | (refine dO ?_; simp (disch := ((try simp only [ZL]) <;> omega)) only [ZK, ZL]; done) | (refine dK ?_; (repeat first | exact Keep.refl _ _ | exact Keep.app _ _ (Nat.le_refl _) | assumption | refine Keep.ap ?_ | refine Keep.st (by first | omega | (simp only [ZL]; omega)) ?_); done) | ((try simp only [ZL]) <;> omega) | fail)) only [XOB, ↓XXs, ↓XD, ↓YX, ZB, Nat.reduceAdd, Nat.reducePow, ↓reduceIte, eq_self, Int.reduceEq, Nat.reduceEqDiff, Nat.reduceMul, Nat.reduceLeDiff, Int.reduceBEq, Int.reduceLT, Try.f9, ↓XH2, XRN, ZC, ZE, ZH, eq_self, Nat.reduceLeDiff, Nat.reduceBEq, slV_new, ZS, reduceIte, ↓op_extract, binK_eqA, eqA_EnC, eqOk_EnC, lv, lv']
  refine okr_call (put_ok rfl (by omega) fr e15 (by omega)) ?_
  rintro _ h6 ⟨rfl, k6⟩
  have hk6 := k6.1
  have k46 := k5.trans (k6.le hk5)
  have e16 := k6.get e15 (lt_of_get e15)
  have e26 := k6.get e25 (lt_of_get e25)
  have e36 := k6.get e35 (lt_of_get e35)
  try simp (dsimp := false) (disch := (first | (refine dS ?_; kernel_rfl) | (refine dM ?_; kernel_rfl) | (refine dO ?_; simp (disch := ((try simp only [ZL]) <;> omega)) only [ZK, ZL]; done) | (refine dK ?_; (repeat first | exact Keep.refl _ _ | exact Keep.app _ _ (Nat.le_refl _) | assumption | refine Keep.ap ?_ | refine Keep.st (by first | omega | (simp only [ZL]; omega)) ?_); done) | ((try simp only [ZL]) <;> omega) | fail)) only [XOB, ↓XXs, ↓XD, ↓YX, ZB, Nat.reduceAdd, Nat.reducePow, ↓reduceIte, eq_self, Int.reduceEq, Nat.reduceEqDiff, Nat.reduceMul, Nat.reduceLeDiff, Int.reduceBEq, Int.reduceLT, Try.f9, ↓XH2, XRN, ZC, ZE, ZH, eq_self, Nat.reduceLeDiff, Nat.reduceBEq, slV_new, ZS, reduceIte, ↓op_extract, binK_eqA, eqA_EnC, eqOk_EnC, lv, lv']
  refine okr_if (fun t9 => ?_) (fun t9 => ?_)
  · try simp (dsimp := false) (disch := (first | (refine dS ?_; kernel_rfl) | (refine dM ?_; kernel_rfl) | (refine dO ?_; simp (disch := ((try simp only [ZL]) <;> omega)) only [ZK, ZL]; done) | (refine dK ?_; (repeat first | exact Keep.refl _ _ | exact Keep.app _ _ (Nat.le_refl _) | assumption | refine Keep.ap ?_ | refine Keep.st (by first | omega | (simp only [ZL]; omega)) ?_); done) | ((try simp only [ZL]) <;> omega) | fail)) only [XOB, ↓XXs, ↓XD, ↓YX, ZB, Nat.reduceAdd, Nat.reducePow, ↓reduceIte, eq_self, Int.reduceEq, Nat.reduceEqDiff, Nat.reduceMul, Nat.reduceLeDiff, Int.reduceBEq, Int.reduceLT, Try.f9, ↓XH2, XRN, ZC, ZE, ZH, eq_self, Nat.reduceLeDiff, Nat.reduceBEq, slV_new, ZS, reduceIte, ↓op_extract, binK_eqA, eqA_EnC, eqOk_EnC, lv, lv']
    refine okr_call (fi_spec rfl (by omega) (by omega) fr (k46.get e14 (lt_of_get e14)) (En.Rw.of (k46.get e24 (lt_of_get e24))) (by omega)) ?_
    rintro v9 h9 ⟨w9, k9⟩
    have a9 := hb_log (l := l) rfl (by omega) ((w4.keep k46).keep k9) w9
    try simp (dsimp := false) (disch := (first | (refine dS ?_; kernel_rfl) | (refine dM ?_; kernel_rfl) | (refine dO ?_; simp (disch := ((try simp only [ZL]) <;> omega)) only [ZK, ZL]; done) | (refine dK ?_; (repeat first | exact Keep.refl _ _ | exact Keep.app _ _ (Nat.le_refl _) | assumption | refine Keep.ap ?_ | refine Keep.st (by first | omega | (simp only [ZL]; omega)) ?_); done) | ((try simp only [ZL]) <;> omega) | fail)) only [XOB, ↓XXs, ↓XD, ↓YX, ZB, Nat.reduceAdd, Nat.reducePow, ↓reduceIte, eq_self, Int.reduceEq, Nat.reduceEqDiff, Nat.reduceMul, Nat.reduceLeDiff, Int.reduceBEq, Int.reduceLT, Try.f9, ↓XH2, XRN, ZC, ZE, ZH, eq_self, Nat.reduceLeDiff, Nat.reduceBEq, slV_new, ZS, reduceIte, ↓op_extract, binK_eqA, eqA_EnC, eqOk_EnC, lv, lv', a9]
    with_reducible refine Okr.ret ?_
    rfl
  try simp (dsimp := false) (disch := (first | (refine dS ?_; kernel_rfl) | (refine dM ?_; kernel_rfl) | (refine dO ?_; simp (disch := ((try simp only [ZL]) <;> omega)) only [ZK, ZL]; done) | (refine dK ?_; (repeat first | exact Keep.refl _ _ | exact Keep.app _ _ (Nat.le_refl _) | assumption | refine Keep.ap ?_ | refine Keep.st (by first | omega | (simp only [ZL]; omega)) ?_); done) | ((try simp only [ZL]) <;> omega) | fail)) only [XOB, ↓XXs, ↓XD, ↓YX, ZB, Nat.reduceAdd, Nat.reducePow, ↓reduceIte, eq_self, Int.reduceEq, Nat.reduceEqDiff, Nat.reduceMul, Nat.reduceLeDiff, Int.reduceBEq, Int.reduceLT, Try.f9, ↓XH2, XRN, ZC, ZE, ZH, eq_self, Nat.reduceLeDiff, Nat.reduceBEq, slV_new, ZS, reduceIte, ↓op_extract, binK_eqA, eqA_EnC, eqOk_EnC, lv, lv']
  refine okr_call (put_ok rfl (by omega) fr' e36 (by omega)) ?_
  rintro _ h7 ⟨rfl, k7⟩
  have hk7 := k7.1
  have k47 := k46.trans (k7.le (by omega))
  have e17 := k7.get e16 (lt_of_get e16)
  have e27 := k7.get e26 (lt_of_get e26)
  have e37 := k7.get e36 (lt_of_get e36)
  try simp (dsimp := false) (disch := (first | (refine dS ?_; kernel_rfl) | (refine dM ?_; kernel_rfl) | (refine dO ?_; simp (disch := ((try simp only [ZL]) <;> omega)) only [ZK, ZL]; done) | (refine dK ?_; (repeat first | exact Keep.refl _ _ | exact Keep.app _ _ (Nat.le_refl _) | assumption | refine Keep.ap ?_ | refine Keep.st (by first | omega | (simp only [ZL]; omega)) ?_); done) | ((try simp only [ZL]) <;> omega) | fail)) only [XOB, ↓XXs, ↓XD, ↓YX, ZB, Nat.reduceAdd, Nat.reducePow, ↓reduceIte, eq_self, Int.reduceEq, Nat.reduceEqDiff, Nat.reduceMul, Nat.reduceLeDiff, Int.reduceBEq, Int.reduceLT, Try.f9, ↓XH2, XRN, ZC, ZE, ZH, eq_self, Nat.reduceLeDiff, Nat.reduceBEq, slV_new, ZS, reduceIte, ↓op_extract, binK_eqA, eqA_EnC, eqOk_EnC, lv, lv']
  refine okr_if (fun t10 => ?_) (fun t10 => ?_)
  · try simp (dsimp := false) (disch := (first | (refine dS ?_; kernel_rfl) | (refine dM ?_; kernel_rfl) | (refine dO ?_; simp (disch := ((try simp only [ZL]) <;> omega)) only [ZK, ZL]; done) | (refine dK ?_; (repeat first | exact Keep.refl _ _ | exact Keep.app _ _ (Nat.le_refl _) | assumption | refine Keep.ap ?_ | refine Keep.st (by first | omega | (simp only [ZL]; omega)) ?_); done) | ((try simp only [ZL]) <;> omega) | fail)) only [XOB, ↓XXs, ↓XD, ↓YX, ZB, Nat.reduceAdd, Nat.reducePow, ↓reduceIte, eq_self, Int.reduceEq, Nat.reduceEqDiff, Nat.reduceMul, Nat.reduceLeDiff, Int.reduceBEq, Int.reduceLT, Try.f9, ↓XH2, XRN, ZC, ZE, ZH, eq_self, Nat.reduceLeDiff, Nat.reduceBEq, slV_new, ZS, reduceIte, ↓op_extract, binK_eqA, eqA_EnC, eqOk_EnC, lv, lv']
    refine okr_call (fi_spec rfl (by omega) (by omega) fr (k47.get e14 (lt_of_get e14)) (En.Rw.of (k47.get e24 (lt_of_get e24))) (by omega)) ?_
    rintro v9 h9 ⟨w9, k9⟩
    have a9 := hb_log (l := l) rfl (by omega) ((w4.keep k47).keep k9) w9
    try simp (dsimp := false) (disch := (first | (refine dS ?_; kernel_rfl) | (refine dM ?_; kernel_rfl) | (refine dO ?_; simp (disch := ((try simp only [ZL]) <;> omega)) only [ZK, ZL]; done) | (refine dK ?_; (repeat first | exact Keep.refl _ _ | exact Keep.app _ _ (Nat.le_refl _) | assumption | refine Keep.ap ?_ | refine Keep.st (by first | omega | (simp only [ZL]; omega)) ?_); done) | ((try simp only [ZL]) <;> omega) | fail)) only [XOB, ↓XXs, ↓XD, ↓YX, ZB, Nat.reduceAdd, Nat.reducePow, ↓reduceIte, eq_self, Int.reduceEq, Nat.reduceEqDiff, Nat.reduceMul, Nat.reduceLeDiff, Int.reduceBEq, Int.reduceLT, Try.f9, ↓XH2, XRN, ZC, ZE, ZH, eq_self, Nat.reduceLeDiff, Nat.reduceBEq, slV_new, ZS, reduceIte, ↓op_extract, binK_eqA, eqA_EnC, eqOk_EnC, lv, lv', a9]
    with_reducible refine Okr.ret ?_
    rfl
  have hok : rokL as_ = true := rputL_ne (fun q => by rw [q] at t9; simp at t9)
  have e0 : (h7 ++ [AObj.row 0 4 []])[h7.length]? = some (.row 0 4 (Ru.R [])) := by simp [Ru.R]
  have hl17 := lt_of_get e17
  have hl27 := lt_of_get e27
  have hl37 := lt_of_get e37
  try simp (dsimp := false) (disch := (first | (refine dS ?_; kernel_rfl) | (refine dM ?_; kernel_rfl) | (refine dO ?_; simp (disch := ((try simp only [ZL]) <;> omega)) only [ZK, ZL]; done) | (refine dK ?_; (repeat first | exact Keep.refl _ _ | exact Keep.app _ _ (Nat.le_refl _) | assumption | refine Keep.ap ?_ | refine Keep.st (by first | omega | (simp only [ZL]; omega)) ?_); done) | ((try simp only [ZL]) <;> omega) | fail)) only [XOB, ↓XXs, ↓XD, ↓YX, ZB, Nat.reduceAdd, Nat.reducePow, ↓reduceIte, eq_self, Int.reduceEq, Nat.reduceEqDiff, Nat.reduceMul, Nat.reduceLeDiff, Int.reduceBEq, Int.reduceLT, Try.f9, ↓XH2, XRN, ZC, ZE, ZH, eq_self, Nat.reduceLeDiff, Nat.reduceBEq, slV_new, ZS, reduceIte, ↓op_extract, binK_eqA, eqA_EnC, eqOk_EnC, lv, lv']
  refine okr_opt (Ru.appL (os := []) e0 (by simp (disch := (first | (refine dS ?_; kernel_rfl) | (refine dM ?_; kernel_rfl) | (refine dO ?_; simp (disch := ((try simp only [ZL]) <;> omega)) only [ZK, ZL]; done) | (refine dK ?_; (repeat first | exact Keep.refl _ _ | exact Keep.app _ _ (Nat.le_refl _) | assumption | refine Keep.ap ?_ | refine Keep.st (by first | omega | (simp only [ZL]; omega)) ?_); done) | ((try simp only [ZL]) <;> omega) | fail)) only [↓XH2, XRN, ZC, ZE, ZH, eq_self, Nat.reduceLeDiff, Nat.reduceBEq, e17]) rfl rfl (by omega) (by simp; omega)) ?_
  rintro _ ⟨gA, rfl⟩
  try simp (dsimp := false) (disch := (first | (refine dS ?_; kernel_rfl) | (refine dM ?_; kernel_rfl) | (refine dO ?_; simp (disch := ((try simp only [ZL]) <;> omega)) only [ZK, ZL]; done) | (refine dK ?_; (repeat first | exact Keep.refl _ _ | exact Keep.app _ _ (Nat.le_refl _) | assumption | refine Keep.ap ?_ | refine Keep.st (by first | omega | (simp only [ZL]; omega)) ?_); done) | ((try simp only [ZL]) <;> omega) | fail)) only [XOB, ↓XXs, ↓XD, ↓YX, ZB, Nat.reduceAdd, Nat.reducePow, ↓reduceIte, eq_self, Int.reduceEq, Nat.reduceEqDiff, Nat.reduceMul, Nat.reduceLeDiff, Int.reduceBEq, Int.reduceLT, Try.f9, ↓XH2, XRN, ZC, ZE, ZH, eq_self, Nat.reduceLeDiff, Nat.reduceBEq, slV_new, ZS, reduceIte, ↓op_extract, binK_eqA, eqA_EnC, eqOk_EnC, lv, lv']
  refine okr_opt (Ru.appL (os := [] ++ as_) (by simp (disch := (first | (refine dS ?_; kernel_rfl) | (refine dM ?_; kernel_rfl) | (refine dO ?_; simp (disch := ((try simp only [ZL]) <;> omega)) only [ZK, ZL]; done) | (refine dK ?_; (repeat first | exact Keep.refl _ _ | exact Keep.app _ _ (Nat.le_refl _) | assumption | refine Keep.ap ?_ | refine Keep.st (by first | omega | (simp only [ZL]; omega)) ?_); done) | ((try simp only [ZL]) <;> omega) | fail)) only [↓XH2, XRN, ZC, ZE, ZH, eq_self, Nat.reduceLeDiff, Nat.reduceBEq]) (by simp (disch := (first | (refine dS ?_; kernel_rfl) | (refine dM ?_; kernel_rfl) | (refine dO ?_; simp (disch := ((try simp only [ZL]) <;> omega)) only [ZK, ZL]; done) | (refine dK ?_; (repeat first | exact Keep.refl _ _ | exact Keep.app _ _ (Nat.le_refl _) | assumption | refine Keep.ap ?_ | refine Keep.st (by first | omega | (simp only [ZL]; omega)) ?_); done) | ((try simp only [ZL]) <;> omega) | fail)) only [↓XH2, XRN, ZC, ZE, ZH, eq_self, Nat.reduceLeDiff, Nat.reduceBEq, e37]) (by simp) rfl (by omega) (by simp; omega)) ?_
  rintro _ ⟨gB, rfl⟩
  try simp (dsimp := false) (disch := (first | (refine dS ?_; kernel_rfl) | (refine dM ?_; kernel_rfl) | (refine dO ?_; simp (disch := ((try simp only [ZL]) <;> omega)) only [ZK, ZL]; done) | (refine dK ?_; (repeat first | exact Keep.refl _ _ | exact Keep.app _ _ (Nat.le_refl _) | assumption | refine Keep.ap ?_ | refine Keep.st (by first | omega | (simp only [ZL]; omega)) ?_); done) | ((try simp only [ZL]) <;> omega) | fail)) only [XOB, ↓XXs, ↓XD, ↓YX, ZB, Nat.reduceAdd, Nat.reducePow, ↓reduceIte, eq_self, Int.reduceEq, Nat.reduceEqDiff, Nat.reduceMul, Nat.reduceLeDiff, Int.reduceBEq, Int.reduceLT, Try.f9, ↓XH2, XRN, ZC, ZE, ZH, eq_self, Nat.reduceLeDiff, Nat.reduceBEq, slV_new, ZS, reduceIte, ↓op_extract, binK_eqA, eqA_EnC, eqOk_EnC, lv, lv']
  refine okr_call (fi_impl (xs := [] ++ as_ ++ bs) (by simp; try omega) (by simp; omega) (by omega) (fun x hx => ?_) (by simp (disch := (first | (refine dS ?_; kernel_rfl) | (refine dM ?_; kernel_rfl) | (refine dO ?_; simp (disch := ((try simp only [ZL]) <;> omega)) only [ZK, ZL]; done) | (refine dK ?_; (repeat first | exact Keep.refl _ _ | exact Keep.app _ _ (Nat.le_refl _) | assumption | refine Keep.ap ?_ | refine Keep.st (by first | omega | (simp only [ZL]; omega)) ?_); done) | ((try simp only [ZL]) <;> omega) | fail)) only [↓XH2, XRN, ZC, ZE, ZH, eq_self, Nat.reduceLeDiff, Nat.reduceBEq]) (En.Rw.of (by simp (disch := (first | (refine dS ?_; kernel_rfl) | (refine dM ?_; kernel_rfl) | (refine dO ?_; simp (disch := ((try simp only [ZL]) <;> omega)) only [ZK, ZL]; done) | (refine dK ?_; (repeat first | exact Keep.refl _ _ | exact Keep.app _ _ (Nat.le_refl _) | assumption | refine Keep.ap ?_ | refine Keep.st (by first | omega | (simp only [ZL]; omega)) ?_); done) | ((try simp only [ZL]) <;> omega) | fail)) only [↓XH2, XRN, ZC, ZE, ZH, eq_self, Nat.reduceLeDiff, Nat.reduceBEq, e27])) (by first | rfl | omega | (simp (disch := (first | (refine dS ?_; kernel_rfl) | (refine dM ?_; kernel_rfl) | (refine dO ?_; simp (disch := ((try simp only [ZL]) <;> omega)) only [ZK, ZL]; done) | (refine dK ?_; (repeat first | exact Keep.refl _ _ | exact Keep.app _ _ (Nat.le_refl _) | assumption | refine Keep.ap ?_ | refine Keep.st (by first | omega | (simp only [ZL]; omega)) ?_); done) | ((try simp only [ZL]) <;> omega) | fail)) only [ZK, ZL, ZR] <;> omega) | fail)) ?_
  · simp at hx
    exact hx.elim (fr x) (fr' x)
  rintro v11 h11 ⟨w11, k11⟩
  have kk : Keep h4.length h4 h11 := k47.trans (((Keep.app h7 _ (Nat.le_refl _)).le (by omega)).trans (k11.le (by simp; omega)))
  have w4' := w4.keep kk
  try simp (dsimp := false) (disch := (first | (refine dS ?_; kernel_rfl) | (refine dM ?_; kernel_rfl) | (refine dO ?_; simp (disch := ((try simp only [ZL]) <;> omega)) only [ZK, ZL]; done) | (refine dK ?_; (repeat first | exact Keep.refl _ _ | exact Keep.app _ _ (Nat.le_refl _) | assumption | refine Keep.ap ?_ | refine Keep.st (by first | omega | (simp only [ZL]; omega)) ?_); done) | ((try simp only [ZL]) <;> omega) | fail)) only [XOB, ↓XXs, ↓XD, ↓YX, ZB, Nat.reduceAdd, Nat.reducePow, ↓reduceIte, eq_self, Int.reduceEq, Nat.reduceEqDiff, Nat.reduceMul, Nat.reduceLeDiff, Int.reduceBEq, Int.reduceLT, Try.f9, ↓XH2, XRN, ZC, ZE, ZH, eq_self, Nat.reduceLeDiff, Nat.reduceBEq, slV_new, ZS, reduceIte, ↓op_extract, binK_eqA, eqA_EnC, eqOk_EnC, lv, lv']
  exact L9 l v4 v11 _ _ h11 (by omega) (by have := filtL_len ([] ++ as_ ++ bs) log; omega) w4' w11 _ [] _ [] 0 0 rfl rfl (by rw [List.nil_append]; exact filt_two hok) rfl rfl
theorem rz9 (va vb : Value) (n m l : Nat) (h : AH) (r : Cd h va n) (r' : Cd h vb m) (hl : l ≤ h.length) : ∃ h', run V0 (.fn 9) l [S va, S vb] h = some (.ret (.bool true) h') := by
  obtain ⟨v, h', e, rfl⟩ := r9 va vb n m l h r r' hl
  exact ⟨h', e⟩
end Go.Abs
namespace Go.Abs
open Go.Proofs
set_option maxRecDepth 100000
set_option linter.unusedSimpArgs false
set_option linter.unusedVariables false
set_option pp.maxSteps 20000
set_option pp.deepTerms true
structure DrawS (H : AH) (v : Value) (h' : AH) : Prop where
  ex : ∃ i1 g1 rs, ∃ e : En, v = .tuple ⟨[slV i1 g1 rs.length rs.length, e.V]⟩ ∧ h'[i1]? = some (.row g1 4 (Ru.R rs)) ∧ H.length ≤ i1 ∧ (∀ x ∈ rs, x.F) ∧ rs.length ≤ 9
  k : Keep H.length H h'
theorem den_len : ([100, 101, 110] : Bs).length ≤ 64 := by decide
theorem r33 (va : Value) (n l : Nat) (h : AH) (r : Cd h va n) (hl : l ≤ h.length) (hn : n ≤ 2 ^ 62) :
    Okr (DrawS h) (run V0 (.fn 33) l [S va] h) := by
  refine okr_fn Try.func33 rfl rfl rfl rfl ?_
  have k0 : Keep h.length h (h ++ [AObj.row 0 9 z9]) := Keep.app _ _ (Nat.le_refl _)
  obtain ⟨vb, m, h1, a1, r1, hm, k1⟩ := r58 va n l (h ++ [AObj.row 0 9 z9]) (r.keep k0) hn
  have hl0 : (h ++ [AObj.row 0 9 z9]).length = h.length + 1 := by simp
  have eb : (h ++ [AObj.row 0 9 z9])[h.length]? = some (.row 0 9 z9) := by simp
  have eb1 := k1.get eb (lt_of_get eb)
  rw [hl0] at r1 k1
  have hid1 := lt_of_get r1.1
  simp (dsimp := false) (disch := (first | (refine dS ?_; kernel_rfl) | (refine dM ?_; kernel_rfl) | (refine dO ?_; simp (disch := ((try simp only [ZL]) <;> omega)) only [ZK, ZL]; done) | (refine dK ?_; (repeat first | exact Keep.refl _ _ | exact Keep.app _ _ (Nat.le_refl _) | assumption | refine Keep.ap ?_ | refine Keep.st (by first | omega | (simp only [ZL]; omega)) ?_); done) | ((try simp only [ZL]) <;> omega) | fail)) only [XOB, ↓XXs, ↓XD, ↓YX, ZB, Nat.reduceAdd, Nat.reducePow, ↓reduceIte, eq_self, Int.reduceEq, Nat.reduceEqDiff, Nat.reduceMul, Nat.reduceLeDiff, Int.reduceBEq, Int.reduceLT, Try.f33, ↓XH2, XRN, ZC, ZE, ZH, eq_self, Nat.reduceLeDiff, Nat.reduceBEq, slV_new, ZS, reduceIte, ↓op_extract, a1]
  refine okr_call (r59 r1 (by omega) (by omega) (by omega)) ?_
  rintro _ h2 ⟨⟨i1, g1, rs, rfl, q, hrs⟩⟩
  obtain ⟨p2, hp2, r2⟩ := q.r
  have hq1 := q.k.1
  have hid2 := q.hid
  have eb2 := q.k.get eb1 (lt_of_get eb1) (by omega)
  try simp (dsimp := false) (disch := (first | (refine dS ?_; kernel_rfl) | (refine dM ?_; kernel_rfl) | (refine dO ?_; simp (disch := ((try simp only [ZL]) <;> omega)) only [ZK, ZL]; done) | (refine dK ?_; (repeat first | exact Keep.refl _ _ | exact Keep.app _ _ (Nat.le_refl _) | assumption | refine Keep.ap ?_ | refine Keep.st (by first | omega | (simp only [ZL]; omega)) ?_); done) | ((try simp only [ZL]) <;> omega) | fail)) only [XOB, ↓XXs, ↓XD, ↓YX, ZB, Nat.reduceAdd, Nat.reducePow, ↓reduceIte, eq_self, Int.reduceEq, Nat.reduceEqDiff, Nat.reduceMul, Nat.reduceLeDiff, Int.reduceBEq, Int.reduceLT, Try.f33, ↓XH2, XRN, ZC, ZE, ZH, eq_self, Nat.reduceLeDiff, Nat.reduceBEq, slV_new, ZS, reduceIte, ↓op_extract, a1]
  refine okr_call (r60 r2 (by omega) (by omega) (by omega)) ?_
  rintro _ h3 ⟨⟨i2, g2, log, rfl, e2, hi2, hinc, h60⟩, ⟨p3, hp3, r3⟩, k3⟩
  have hi1 := q.hi
  have hl1 := lt_of_get q.e
  have e13 := k3.get q.e hl1 (by omega)
  have hk3 := k3.1
  have eb3 := k3.get eb2 (lt_of_get eb2) (by omega)
  try simp (dsimp := false) (disch := (first | (refine dS ?_; kernel_rfl) | (refine dM ?_; kernel_rfl) | (refine dO ?_; simp (disch := ((try simp only [ZL]) <;> omega)) only [ZK, ZL]; done) | (refine dK ?_; (repeat first | exact Keep.refl _ _ | exact Keep.app _ _ (Nat.le_refl _) | assumption | refine Keep.ap ?_ | refine Keep.st (by first | omega | (simp only [ZL]; omega)) ?_); done) | ((try simp only [ZL]) <;> omega) | fail)) only [XOB, ↓XXs, ↓XD, ↓YX, ZB, Nat.reduceAdd, Nat.reducePow, ↓reduceIte, eq_self, Int.reduceEq, Nat.reduceEqDiff, Nat.reduceMul, Nat.reduceLeDiff, Int.reduceBEq, Int.reduceLT, Try.f33, ↓XH2, XRN, ZC, ZE, ZH, eq_self, Nat.reduceLeDiff, Nat.reduceBEq, slV_new, ZS, reduceIte, ↓op_extract, a1]
  refine okr_call (r62 l [100, 101, 110] (slV i2 g2 log.length log.length) h3 log (by omega) (En.Rd.own e2) hinc.2 (by omega) den_len) ?_
  rintro _ h4 ⟨⟨ro, ms, rs', rfl, qr, _, _, hms, _⟩, k4⟩
  have hk4 := k4.1
  have hid3 := lt_of_get r3.1
  have e14 := k4.get e13 (lt_of_get e13)
  try simp (dsimp := false) (disch := (first | (refine dS ?_; kernel_rfl) | (refine dM ?_; kernel_rfl) | (refine dO ?_; simp (disch := ((try simp only [ZL]) <;> omega)) only [ZK, ZL]; done) | (refine dK ?_; (repeat first | exact Keep.refl _ _ | exact Keep.app _ _ (Nat.le_refl _) | assumption | refine Keep.ap ?_ | refine Keep.st (by first | omega | (simp only [ZL]; omega)) ?_); done) | ((try simp only [ZL]) <;> omega) | fail)) only [XOB, ↓XXs, ↓XD, ↓YX, ZB, Nat.reduceAdd, Nat.reducePow, ↓reduceIte, eq_self, Int.reduceEq, Nat.reduceEqDiff, Nat.reduceMul, Nat.reduceLeDiff, Int.reduceBEq, Int.reduceLT, Try.f33, ↓XH2, XRN, ZC, ZE, ZH, eq_self, Nat.reduceLeDiff, Nat.reduceBEq, slV_new, ZS, reduceIte, ↓op_extract, a1]
  refine okr_call (r61 (r3.keep (k4.le (by omega))) qr (by omega) (by omega) (by omega) (by omega)) ?_
  rintro _ h5 ⟨⟨e, rfl⟩, k5⟩
  have eb4 := k4.get eb3 (lt_of_get eb3)
  have eb5 := k5.get eb4 (lt_of_get eb4) (by omega)
  have e15 := k5.get e14 (lt_of_get e14) (by omega)
  have kk : Keep h.length h h5 := k0.trans ((k1.le (by omega)).trans ((Keep.ofKX q.k (by omega) (by omega)).trans ((Keep.ofKX k3 (by have := q.k.1; omega) (by omega)).trans ((k4.le (by have := q.k.1; omega)).trans (Keep.ofKX k5 (by have := q.k.1; omega) (by omega))))))
  try simp (dsimp := false) (disch := (first | (refine dS ?_; kernel_rfl) | (refine dM ?_; kernel_rfl) | (refine dO ?_; simp (disch := ((try simp only [ZL]) <;> omega)) only [ZK, ZL]; done) | (refine dK ?_; (repeat first | exact Keep.refl _ _ | exact Keep.app _ _ (Nat.le_refl _) | assumption | refine Keep.ap ?_ | refine Keep.st (by first | omega | (simp only [ZL]; omega)) ?_); done) | ((try simp only [ZL]) <;> omega) | fail)) only [XOB, ↓XXs, ↓XD, ↓YX, ZB, Nat.reduceAdd, Nat.reducePow, ↓reduceIte, eq_self, Int.reduceEq, Nat.reduceEqDiff, Nat.reduceMul, Nat.reduceLeDiff, Int.reduceBEq, Int.reduceLT, Try.f33, ↓XH2, XRN, ZC, ZE, ZH, eq_self, Nat.reduceLeDiff, Nat.reduceBEq, slV_new, ZS, reduceIte, ↓op_extract, a1, eb5, get_set _ eb5]
  with_reducible refine Okr.ret ?_
  exact ⟨⟨i1, g1, rs, e, rfl, by rw [List.getElem?_set_ne (by omega)]; exact e15, by omega, q.f, hrs⟩, kk.trans (Keep.set _ _ _ (Nat.le_refl _))⟩
def ShQ (h : AH) (b : Bool) (v : Value) (h' : AH) : Prop := v = .bool b ∧ Keep h.length h h'
theorem sh_impl {i g l n c : Nat} {xs : List Ru} {e : En} {h : AH} (hn : n = xs.length) (hx : xs.length ≤ 2 ^ 20) (hf : ∀ x ∈ xs, x.F) (el : h[i]? = some (.row g 4 (Ru.R xs))) :
    Okr (ShQ h (rshow xs e)) (run V0 (.fn 16) l [S (slV i g n c), S e.V] h) := by
  subst hn
  obtain ⟨h', a, k⟩ := r16 i g c l xs e h (by omega) (fun x hx => (hf x hx).fit) el
  exact ⟨_, h', a, rfl, k⟩
theorem sh_spec {i g l n c : Nat} {xs : List Ru} {e : En} {h : AH} (hn : n = xs.length) (hx : xs.length ≤ 2 ^ 20) (hf : ∀ x ∈ xs, x.F) (el : h[i]? = some (.row g 4 (Ru.R xs))) :
    Okr (ShQ h (rshow xs e)) (run V0 (.fn 13) l [S (slV i g n c), S e.V] h) := by
  subst hn
  obtain ⟨h', a, k⟩ := r13 i g c l xs e h (by omega) (fun x hx => (hf x hx).fit) el
  exact ⟨_, h', a, rfl, k⟩
abbrev ruQ : Ru := ⟨true, [], [], 0⟩
abbrev ruS : Ru := ⟨false, [], [], 0⟩
theorem meansQ (q : Bool) (e : En) : meansL ⟨q, [], [], 0⟩ e = true := by simp [meansL]
theorem first_quiet (xs : List Ru) (e : En) : rshow (ruQ :: xs) e = false := by
  have h : showL (ruQ :: xs) e = false := by unfold showL; rw [List.find?_cons, meansQ]; rfl
  unfold rshow
  rw [h, Bool.and_false]
theorem ok0 (q : Bool) : ruOk ⟨q, [], [], 0⟩ = true := by cases q <;> decide
theorem first_show {xs : List Ru} (e : En) (h : rokL xs = true) (h8 : xs.length < 8) : rshow (ruS :: xs) e = true := by
  have h1 : showL (ruS :: xs) e = true := by unfold showL; rw [List.find?_cons, meansQ]; rfl
  unfold rokL at h
  rw [Bool.and_eq_true] at h
  unfold rshow
  rw [h1, List.all_cons, ok0, h.1, decide_eq_true (by simp; omega)]
  rfl
theorem first_last {xs : List Ru} (e : En) (h : rokL xs = true) (h8 : xs.length < 8) : rshow (xs ++ [ruS]) e = rshow xs e := by
  have h1 : showL (xs ++ [ruS]) e = showL xs e := by
    unfold showL
    rw [List.find?_append]
    cases xs.find? (fun x => meansL x e) with
    | some x => rfl
    | none => rw [List.find?_cons, meansQ]; rfl
  unfold rokL at h
  rw [Bool.and_eq_true] at h
  unfold rshow
  rw [h1, List.all_append, List.all_cons, ok0, h.1, decide_eq_true (by simp; omega), decide_eq_true (by omega)]
  rfl
theorem ruF0 (q : Bool) : (⟨q, [], [], 0⟩ : Ru).F := by constructor <;> simp
theorem r8 (va : Value) (n l : Nat) (h : AH) (r : Cd h va n) (hl : l ≤ h.length) :
    Okr TrueQ (run V0 (.fn 8) l [S va] h) := by
  have lv := r.len
  refine okr_fn Try.func8 rfl rfl rfl rfl ?_
  simp (dsimp := false) (disch := (first | (refine dS ?_; kernel_rfl) | (refine dM ?_; kernel_rfl) | (refine dO ?_; simp (disch := ((try simp only [ZL]) <;> omega)) only [ZK, ZL]; done) | (refine dK ?_; (repeat first | exact Keep.refl _ _ | exact Keep.app _ _ (Nat.le_refl _) | assumption | refine Keep.ap ?_ | refine Keep.st (by first | omega | (simp only [ZL]; omega)) ?_); done) | ((try simp only [ZL]) <;> omega) | fail)) only [XOB, ↓XXs, ↓XD, ↓YX, ZB, Nat.reduceAdd, Nat.reducePow, ↓reduceIte, eq_self, Int.reduceEq, Nat.reduceEqDiff, Nat.reduceMul, Nat.reduceLeDiff, Int.reduceBEq, Int.reduceLT, Try.f8, ↓XH2, XRN, ZC, ZE, ZH, eq_self, Nat.reduceLeDiff, Nat.reduceBEq, slV_new, ZS, reduceIte, ↓op_extract, lv]
  refine okr_if (fun t => ?_) (fun t => ?_)
  · try simp (dsimp := false) (disch := (first | (refine dS ?_; kernel_rfl) | (refine dM ?_; kernel_rfl) | (refine dO ?_; simp (disch := ((try simp only [ZL]) <;> omega)) only [ZK, ZL]; done) | (refine dK ?_; (repeat first | exact Keep.refl _ _ | exact Keep.app _ _ (Nat.le_refl _) | assumption | refine Keep.ap ?_ | refine Keep.st (by first | omega | (simp only [ZL]; omega)) ?_); done) | ((try simp only [ZL]) <;> omega) | fail)) only [XOB, ↓XXs, ↓XD, ↓YX, ZB, Nat.reduceAdd, Nat.reducePow, ↓reduceIte, eq_self, Int.reduceEq, Nat.reduceEqDiff, Nat.reduceMul, Nat.reduceLeDiff, Int.reduceBEq, Int.reduceLT, Try.f8, ↓XH2, XRN, ZC, ZE, ZH, eq_self, Nat.reduceLeDiff, Nat.reduceBEq, slV_new, ZS, reduceIte, ↓op_extract, lv]
    with_reducible refine Okr.ret ?_
    rfl
  have hn : n ≤ 2 ^ 20 := by have := of_decide_eq_false t; omega
  try simp (dsimp := false) (disch := (first | (refine dS ?_; kernel_rfl) | (refine dM ?_; kernel_rfl) | (refine dO ?_; simp (disch := ((try simp only [ZL]) <;> omega)) only [ZK, ZL]; done) | (refine dK ?_; (repeat first | exact Keep.refl _ _ | exact Keep.app _ _ (Nat.le_refl _) | assumption | refine Keep.ap ?_ | refine Keep.st (by first | omega | (simp only [ZL]; omega)) ?_); done) | ((try simp only [ZL]) <;> omega) | fail)) only [XOB, ↓XXs, ↓XD, ↓YX, ZB, Nat.reduceAdd, Nat.reducePow, ↓reduceIte, eq_self, Int.reduceEq, Nat.reduceEqDiff, Nat.reduceMul, Nat.reduceLeDiff, Int.reduceBEq, Int.reduceLT, Try.f8, ↓XH2, XRN, ZC, ZE, ZH, eq_self, Nat.reduceLeDiff, Nat.reduceBEq, slV_new, ZS, reduceIte, ↓op_extract, lv]
  refine okr_call (r33 va n l h r hl (by omega)) ?_
  rintro _ h2 ⟨⟨i1, g1, rs, e, rfl, e1, hi1, fr, h9⟩, k2⟩
  have hk2 := k2.1
  have hi1' := lt_of_get e1
  try simp (dsimp := false) (disch := (first | (refine dS ?_; kernel_rfl) | (refine dM ?_; kernel_rfl) | (refine dO ?_; simp (disch := ((try simp only [ZL]) <;> omega)) only [ZK, ZL]; done) | (refine dK ?_; (repeat first | exact Keep.refl _ _ | exact Keep.app _ _ (Nat.le_refl _) | assumption | refine Keep.ap ?_ | refine Keep.st (by first | omega | (simp only [ZL]; omega)) ?_); done) | ((try simp only [ZL]) <;> omega) | fail)) only [XOB, ↓XXs, ↓XD, ↓YX, ZB, Nat.reduceAdd, Nat.reducePow, ↓reduceIte, eq_self, Int.reduceEq, Nat.reduceEqDiff, Nat.reduceMul, Nat.reduceLeDiff, Int.reduceBEq, Int.reduceLT, Try.f8, ↓XH2, XRN, ZC, ZE, ZH, eq_self, Nat.reduceLeDiff, Nat.reduceBEq, slV_new, ZS, reduceIte, ↓op_extract, lv]
  refine okr_call (sh_impl rfl (by omega) fr (by simp (disch := (first | (refine dS ?_; kernel_rfl) | (refine dM ?_; kernel_rfl) | (refine dO ?_; simp (disch := ((try simp only [ZL]) <;> omega)) only [ZK, ZL]; done) | (refine dK ?_; (repeat first | exact Keep.refl _ _ | exact Keep.app _ _ (Nat.le_refl _) | assumption | refine Keep.ap ?_ | refine Keep.st (by first | omega | (simp only [ZL]; omega)) ?_); done) | ((try simp only [ZL]) <;> omega) | fail)) only [↓XH2, XRN, ZC, ZE, ZH, eq_self, Nat.reduceLeDiff, Nat.reduceBEq, e1])) ?_
  rintro _ h3 ⟨rfl, k3⟩
  have hk3 := k3.1
  simp only [List.length_append, List.length_cons, List.length_nil] at hk3
  have eb : (h2 ++ [AObj.row 0 9 e.C])[h2.length]? = some (.row 0 9 e.C) := by simp
  have e13 := (Keep.app h2 [AObj.row 0 9 e.C] (Nat.le_refl _)).get e1 (lt_of_get e1)
  have e13 := k3.get e13 (lt_of_get e13)
  have eb3 := k3.get eb (lt_of_get eb)
  try simp (dsimp := false) (disch := (first | (refine dS ?_; kernel_rfl) | (refine dM ?_; kernel_rfl) | (refine dO ?_; simp (disch := ((try simp only [ZL]) <;> omega)) only [ZK, ZL]; done) | (refine dK ?_; (repeat first | exact Keep.refl _ _ | exact Keep.app _ _ (Nat.le_refl _) | assumption | refine Keep.ap ?_ | refine Keep.st (by first | omega | (simp only [ZL]; omega)) ?_); done) | ((try simp only [ZL]) <;> omega) | fail)) only [XOB, ↓XXs, ↓XD, ↓YX, ZB, Nat.reduceAdd, Nat.reducePow, ↓reduceIte, eq_self, Int.reduceEq, Nat.reduceEqDiff, Nat.reduceMul, Nat.reduceLeDiff, Int.reduceBEq, Int.reduceLT, Try.f8, ↓XH2, XRN, ZC, ZE, ZH, eq_self, Nat.reduceLeDiff, Nat.reduceBEq, slV_new, ZS, reduceIte, ↓op_extract, lv, eb3]
  refine okr_call (sh_spec rfl (by omega) fr e13) ?_
  rintro _ h4 ⟨rfl, k4⟩
  have hk4 := k4.1
  have e14 := k4.get e13 (lt_of_get e13)
  have eb4 := k4.get eb3 (lt_of_get eb3)
  have hbb : (rshow rs e == rshow rs e) = true := by simp
  try simp (dsimp := false) (disch := (first | (refine dS ?_; kernel_rfl) | (refine dM ?_; kernel_rfl) | (refine dO ?_; simp (disch := ((try simp only [ZL]) <;> omega)) only [ZK, ZL]; done) | (refine dK ?_; (repeat first | exact Keep.refl _ _ | exact Keep.app _ _ (Nat.le_refl _) | assumption | refine Keep.ap ?_ | refine Keep.st (by first | omega | (simp only [ZL]; omega)) ?_); done) | ((try simp only [ZL]) <;> omega) | fail)) only [XOB, ↓XXs, ↓XD, ↓YX, ZB, Nat.reduceAdd, Nat.reducePow, ↓reduceIte, eq_self, Int.reduceEq, Nat.reduceEqDiff, Nat.reduceMul, Nat.reduceLeDiff, Int.reduceBEq, Int.reduceLT, Try.f8, ↓XH2, XRN, ZC, ZE, ZH, eq_self, Nat.reduceLeDiff, Nat.reduceBEq, slV_new, ZS, reduceIte, ↓op_extract, lv, eb4, hbb]
  refine okr_call (put_ok rfl (by omega) fr e14 (by omega)) ?_
  rintro _ h5 ⟨rfl, k5⟩
  have hk5 := k5.1
  have e15 := k5.get e14 (lt_of_get e14)
  have eb5 := k5.get eb4 (lt_of_get eb4)
  try simp (dsimp := false) (disch := (first | (refine dS ?_; kernel_rfl) | (refine dM ?_; kernel_rfl) | (refine dO ?_; simp (disch := ((try simp only [ZL]) <;> omega)) only [ZK, ZL]; done) | (refine dK ?_; (repeat first | exact Keep.refl _ _ | exact Keep.app _ _ (Nat.le_refl _) | assumption | refine Keep.ap ?_ | refine Keep.st (by first | omega | (simp only [ZL]; omega)) ?_); done) | ((try simp only [ZL]) <;> omega) | fail)) only [XOB, ↓XXs, ↓XD, ↓YX, ZB, Nat.reduceAdd, Nat.reducePow, ↓reduceIte, eq_self, Int.reduceEq, Nat.reduceEqDiff, Nat.reduceMul, Nat.reduceLeDiff, Int.reduceBEq, Int.reduceLT, Try.f8, ↓XH2, XRN, ZC, ZE, ZH, eq_self, Nat.reduceLeDiff, Nat.reduceBEq, slV_new, ZS, reduceIte, ↓op_extract, lv, eb5, hbb]
  refine okr_if (fun t5 => ?_) (fun t5 => ?_)
  · try simp (dsimp := false) (disch := (first | (refine dS ?_; kernel_rfl) | (refine dM ?_; kernel_rfl) | (refine dO ?_; simp (disch := ((try simp only [ZL]) <;> omega)) only [ZK, ZL]; done) | (refine dK ?_; (repeat first | exact Keep.refl _ _ | exact Keep.app _ _ (Nat.le_refl _) | assumption | refine Keep.ap ?_ | refine Keep.st (by first | omega | (simp only [ZL]; omega)) ?_); done) | ((try simp only [ZL]) <;> omega) | fail)) only [XOB, ↓XXs, ↓XD, ↓YX, ZB, Nat.reduceAdd, Nat.reducePow, ↓reduceIte, eq_self, Int.reduceEq, Nat.reduceEqDiff, Nat.reduceMul, Nat.reduceLeDiff, Int.reduceBEq, Int.reduceLT, Try.f8, ↓XH2, XRN, ZC, ZE, ZH, eq_self, Nat.reduceLeDiff, Nat.reduceBEq, slV_new, ZS, reduceIte, ↓op_extract, lv, eb5, hbb]
    refine okr_call (sh_spec rfl (by omega) fr e15) ?_
    rintro _ h9 ⟨rfl, k9⟩
    try simp (dsimp := false) (disch := (first | (refine dS ?_; kernel_rfl) | (refine dM ?_; kernel_rfl) | (refine dO ?_; simp (disch := ((try simp only [ZL]) <;> omega)) only [ZK, ZL]; done) | (refine dK ?_; (repeat first | exact Keep.refl _ _ | exact Keep.app _ _ (Nat.le_refl _) | assumption | refine Keep.ap ?_ | refine Keep.st (by first | omega | (simp only [ZL]; omega)) ?_); done) | ((try simp only [ZL]) <;> omega) | fail)) only [XOB, ↓XXs, ↓XD, ↓YX, ZB, Nat.reduceAdd, Nat.reducePow, ↓reduceIte, eq_self, Int.reduceEq, Nat.reduceEqDiff, Nat.reduceMul, Nat.reduceLeDiff, Int.reduceBEq, Int.reduceLT, Try.f8, ↓XH2, XRN, ZC, ZE, ZH, eq_self, Nat.reduceLeDiff, Nat.reduceBEq, slV_new, ZS, reduceIte, ↓op_extract, lv, eb5, hbb]
    with_reducible refine Okr.ret ?_
    rfl
  have hok : rokL rs = true := rputL_ne (fun q => by rw [q] at t5; simp at t5)
  try simp (dsimp := false) (disch := (first | (refine dS ?_; kernel_rfl) | (refine dM ?_; kernel_rfl) | (refine dO ?_; simp (disch := ((try simp only [ZL]) <;> omega)) only [ZK, ZL]; done) | (refine dK ?_; (repeat first | exact Keep.refl _ _ | exact Keep.app _ _ (Nat.le_refl _) | assumption | refine Keep.ap ?_ | refine Keep.st (by first | omega | (simp only [ZL]; omega)) ?_); done) | ((try simp only [ZL]) <;> omega) | fail)) only [XOB, ↓XXs, ↓XD, ↓YX, ZB, Nat.reduceAdd, Nat.reducePow, ↓reduceIte, eq_self, Int.reduceEq, Nat.reduceEqDiff, Nat.reduceMul, Nat.reduceLeDiff, Int.reduceBEq, Int.reduceLT, Try.f8, ↓XH2, XRN, ZC, ZE, ZH, eq_self, Nat.reduceLeDiff, Nat.reduceBEq, slV_new, ZS, reduceIte, ↓op_extract, lv, eb5, hbb]
  refine okr_if (fun t6 => ?_) (fun t6 => ?_)
  · try simp (dsimp := false) (disch := (first | (refine dS ?_; kernel_rfl) | (refine dM ?_; kernel_rfl) | (refine dO ?_; simp (disch := ((try simp only [ZL]) <;> omega)) only [ZK, ZL]; done) | (refine dK ?_; (repeat first | exact Keep.refl _ _ | exact Keep.app _ _ (Nat.le_refl _) | assumption | refine Keep.ap ?_ | refine Keep.st (by first | omega | (simp only [ZL]; omega)) ?_); done) | ((try simp only [ZL]) <;> omega) | fail)) only [XOB, ↓XXs, ↓XD, ↓YX, ZB, Nat.reduceAdd, Nat.reducePow, ↓reduceIte, eq_self, Int.reduceEq, Nat.reduceEqDiff, Nat.reduceMul, Nat.reduceLeDiff, Int.reduceBEq, Int.reduceLT, Try.f8, ↓XH2, XRN, ZC, ZE, ZH, eq_self, Nat.reduceLeDiff, Nat.reduceBEq, slV_new, ZS, reduceIte, ↓op_extract, lv, eb5, hbb]
    refine okr_call (sh_spec rfl (by omega) fr e15) ?_
    rintro _ h9 ⟨rfl, k9⟩
    try simp (dsimp := false) (disch := (first | (refine dS ?_; kernel_rfl) | (refine dM ?_; kernel_rfl) | (refine dO ?_; simp (disch := ((try simp only [ZL]) <;> omega)) only [ZK, ZL]; done) | (refine dK ?_; (repeat first | exact Keep.refl _ _ | exact Keep.app _ _ (Nat.le_refl _) | assumption | refine Keep.ap ?_ | refine Keep.st (by first | omega | (simp only [ZL]; omega)) ?_); done) | ((try simp only [ZL]) <;> omega) | fail)) only [XOB, ↓XXs, ↓XD, ↓YX, ZB, Nat.reduceAdd, Nat.reducePow, ↓reduceIte, eq_self, Int.reduceEq, Nat.reduceEqDiff, Nat.reduceMul, Nat.reduceLeDiff, Int.reduceBEq, Int.reduceLT, Try.f8, ↓XH2, XRN, ZC, ZE, ZH, eq_self, Nat.reduceLeDiff, Nat.reduceBEq, slV_new, ZS, reduceIte, ↓op_extract, lv, eb5, hbb]
    with_reducible refine Okr.ret ?_
    rfl
  have h8 : rs.length < 8 := by have := of_decide_eq_false t6; omega
  have hl15 := lt_of_get e15
  have hlb5 := lt_of_get eb5
  try simp (dsimp := false) (disch := (first | (refine dS ?_; kernel_rfl) | (refine dM ?_; kernel_rfl) | (refine dO ?_; simp (disch := ((try simp only [ZL]) <;> omega)) only [ZK, ZL]; done) | (refine dK ?_; (repeat first | exact Keep.refl _ _ | exact Keep.app _ _ (Nat.le_refl _) | assumption | refine Keep.ap ?_ | refine Keep.st (by first | omega | (simp only [ZL]; omega)) ?_); done) | ((try simp only [ZL]) <;> omega) | fail)) only [XOB, ↓XXs, ↓XD, ↓YX, ZB, Nat.reduceAdd, Nat.reducePow, ↓reduceIte, eq_self, Int.reduceEq, Nat.reduceEqDiff, Nat.reduceMul, Nat.reduceLeDiff, Int.reduceBEq, Int.reduceLT, Try.f8, ↓XH2, XRN, ZC, ZE, ZH, eq_self, Nat.reduceLeDiff, Nat.reduceBEq, slV_new, ZS, reduceIte, ↓op_extract, lv, eb5, hbb]
  have hq : rshow (ruQ :: rs) e = false := first_quiet rs e
  have hs : rshow (ruS :: rs) e = true := first_show e hok h8
  refine okr_opt (Ru.appL (os := [ruQ]) (by simp (disch := (first | (refine dS ?_; kernel_rfl) | (refine dM ?_; kernel_rfl) | (refine dO ?_; simp (disch := ((try simp only [ZL]) <;> omega)) only [ZK, ZL]; done) | (refine dK ?_; (repeat first | exact Keep.refl _ _ | exact Keep.app _ _ (Nat.le_refl _) | assumption | refine Keep.ap ?_ | refine Keep.st (by first | omega | (simp only [ZL]; omega)) ?_); done) | ((try simp only [ZL]) <;> omega) | fail)) only [↓XH2, XRN, ZC, ZE, ZH, eq_self, Nat.reduceLeDiff, Nat.reduceBEq] <;> rfl) (by simp (disch := (first | (refine dS ?_; kernel_rfl) | (refine dM ?_; kernel_rfl) | (refine dO ?_; simp (disch := ((try simp only [ZL]) <;> omega)) only [ZK, ZL]; done) | (refine dK ?_; (repeat first | exact Keep.refl _ _ | exact Keep.app _ _ (Nat.le_refl _) | assumption | refine Keep.ap ?_ | refine Keep.st (by first | omega | (simp only [ZL]; omega)) ?_); done) | ((try simp only [ZL]) <;> omega) | fail)) only [↓XH2, XRN, ZC, ZE, ZH, eq_self, Nat.reduceLeDiff, Nat.reduceBEq, e15]) rfl rfl (by omega) (by simp; omega)) ?_
  rintro _ ⟨g6, rfl⟩
  try simp (dsimp := false) (disch := (first | (refine dS ?_; kernel_rfl) | (refine dM ?_; kernel_rfl) | (refine dO ?_; simp (disch := ((try simp only [ZL]) <;> omega)) only [ZK, ZL]; done) | (refine dK ?_; (repeat first | exact Keep.refl _ _ | exact Keep.app _ _ (Nat.le_refl _) | assumption | refine Keep.ap ?_ | refine Keep.st (by first | omega | (simp only [ZL]; omega)) ?_); done) | ((try simp only [ZL]) <;> omega) | fail)) only [XOB, ↓XXs, ↓XD, ↓YX, ZB, Nat.reduceAdd, Nat.reducePow, ↓reduceIte, eq_self, Int.reduceEq, Nat.reduceEqDiff, Nat.reduceMul, Nat.reduceLeDiff, Int.reduceBEq, Int.reduceLT, Try.f8, ↓XH2, XRN, ZC, ZE, ZH, eq_self, Nat.reduceLeDiff, Nat.reduceBEq, slV_new, ZS, reduceIte, ↓op_extract, lv, eb5, hbb]
  refine okr_call (sh_impl (xs := ruQ :: rs) (by simp; try omega) (by simp; omega) (fun x hx => by
    rcases List.mem_cons.1 hx with hx | hx
    · subst hx; exact ruF0 _
    · exact fr x hx) (by simp (disch := (first | (refine dS ?_; kernel_rfl) | (refine dM ?_; kernel_rfl) | (refine dO ?_; simp (disch := ((try simp only [ZL]) <;> omega)) only [ZK, ZL]; done) | (refine dK ?_; (repeat first | exact Keep.refl _ _ | exact Keep.app _ _ (Nat.le_refl _) | assumption | refine Keep.ap ?_ | refine Keep.st (by first | omega | (simp only [ZL]; omega)) ?_); done) | ((try simp only [ZL]) <;> omega) | fail)) only [↓XH2, XRN, ZC, ZE, ZH, eq_self, Nat.reduceLeDiff, Nat.reduceBEq])) ?_
  rintro _ h6 ⟨rfl, k6⟩
  have hk6 := k6.1
  simp only [List.length_append, List.length_cons, List.length_nil] at hk6
  have e16 := k6.get ((Keep.app h5 _ (Nat.le_refl _)).get e15 hl15) (by simp; omega)
  have eb6 := k6.get ((Keep.app h5 _ (Nat.le_refl _)).get eb5 hlb5) (by simp; omega)
  have hl16 := lt_of_get e16
  have hlb6 := lt_of_get eb6
  try simp (dsimp := false) (disch := (first | (refine dS ?_; kernel_rfl) | (refine dM ?_; kernel_rfl) | (refine dO ?_; simp (disch := ((try simp only [ZL]) <;> omega)) only [ZK, ZL]; done) | (refine dK ?_; (repeat first | exact Keep.refl _ _ | exact Keep.app _ _ (Nat.le_refl _) | assumption | refine Keep.ap ?_ | refine Keep.st (by first | omega | (simp only [ZL]; omega)) ?_); done) | ((try simp only [ZL]) <;> omega) | fail)) only [XOB, ↓XXs, ↓XD, ↓YX, ZB, Nat.reduceAdd, Nat.reducePow, ↓reduceIte, eq_self, Int.reduceEq, Nat.reduceEqDiff, Nat.reduceMul, Nat.reduceLeDiff, Int.reduceBEq, Int.reduceLT, Try.f8, ↓XH2, XRN, ZC, ZE, ZH, eq_self, Nat.reduceLeDiff, Nat.reduceBEq, slV_new, ZS, reduceIte, ↓op_extract, lv, eb6, hbb, hq, hs]
  refine okr_opt (Ru.appL (os := [ruS]) (by simp (disch := (first | (refine dS ?_; kernel_rfl) | (refine dM ?_; kernel_rfl) | (refine dO ?_; simp (disch := ((try simp only [ZL]) <;> omega)) only [ZK, ZL]; done) | (refine dK ?_; (repeat first | exact Keep.refl _ _ | exact Keep.app _ _ (Nat.le_refl _) | assumption | refine Keep.ap ?_ | refine Keep.st (by first | omega | (simp only [ZL]; omega)) ?_); done) | ((try simp only [ZL]) <;> omega) | fail)) only [↓XH2, XRN, ZC, ZE, ZH, eq_self, Nat.reduceLeDiff, Nat.reduceBEq] <;> rfl) (by simp (disch := (first | (refine dS ?_; kernel_rfl) | (refine dM ?_; kernel_rfl) | (refine dO ?_; simp (disch := ((try simp only [ZL]) <;> omega)) only [ZK, ZL]; done) | (refine dK ?_; (repeat first | exact Keep.refl _ _ | exact Keep.app _ _ (Nat.le_refl _) | assumption | refine Keep.ap ?_ | refine Keep.st (by first | omega | (simp only [ZL]; omega)) ?_); done) | ((try simp only [ZL]) <;> omega) | fail)) only [↓XH2, XRN, ZC, ZE, ZH, eq_self, Nat.reduceLeDiff, Nat.reduceBEq, e16]) rfl rfl (by omega) (by simp; omega)) ?_
  rintro _ ⟨g7, rfl⟩
  try simp (dsimp := false) (disch := (first | (refine dS ?_; kernel_rfl) | (refine dM ?_; kernel_rfl) | (refine dO ?_; simp (disch := ((try simp only [ZL]) <;> omega)) only [ZK, ZL]; done) | (refine dK ?_; (repeat first | exact Keep.refl _ _ | exact Keep.app _ _ (Nat.le_refl _) | assumption | refine Keep.ap ?_ | refine Keep.st (by first | omega | (simp only [ZL]; omega)) ?_); done) | ((try simp only [ZL]) <;> omega) | fail)) only [XOB, ↓XXs, ↓XD, ↓YX, ZB, Nat.reduceAdd, Nat.reducePow, ↓reduceIte, eq_self, Int.reduceEq, Nat.reduceEqDiff, Nat.reduceMul, Nat.reduceLeDiff, Int.reduceBEq, Int.reduceLT, Try.f8, ↓XH2, XRN, ZC, ZE, ZH, eq_self, Nat.reduceLeDiff, Nat.reduceBEq, slV_new, ZS, reduceIte, ↓op_extract, lv, eb6, hbb, hq, hs]
  refine okr_call (sh_impl (xs := ruS :: rs) (by simp; try omega) (by simp; omega) (fun x hx => by
    rcases List.mem_cons.1 hx with hx | hx
    · subst hx; exact ruF0 _
    · exact fr x hx) (by simp (disch := (first | (refine dS ?_; kernel_rfl) | (refine dM ?_; kernel_rfl) | (refine dO ?_; simp (disch := ((try simp only [ZL]) <;> omega)) only [ZK, ZL]; done) | (refine dK ?_; (repeat first | exact Keep.refl _ _ | exact Keep.app _ _ (Nat.le_refl _) | assumption | refine Keep.ap ?_ | refine Keep.st (by first | omega | (simp only [ZL]; omega)) ?_); done) | ((try simp only [ZL]) <;> omega) | fail)) only [↓XH2, XRN, ZC, ZE, ZH, eq_self, Nat.reduceLeDiff, Nat.reduceBEq])) ?_
  rintro _ h7 ⟨rfl, k7⟩
  have hk7 := k7.1
  simp only [List.length_append, List.length_cons, List.length_nil] at hk7
  have e17 := k7.get ((Keep.app h6 _ (Nat.le_refl _)).get e16 hl16) (by simp; omega)
  have eb7 := k7.get ((Keep.app h6 _ (Nat.le_refl _)).get eb6 hlb6) (by simp; omega)
  have hl17 := lt_of_get e17
  have hlb7 := lt_of_get eb7
  try simp (dsimp := false) (disch := (first | (refine dS ?_; kernel_rfl) | (refine dM ?_; kernel_rfl) | (refine dO ?_; simp (disch := ((try simp only [ZL]) <;> omega)) only [ZK, ZL]; done) | (refine dK ?_; (repeat first | exact Keep.refl _ _ | exact Keep.app _ _ (Nat.le_refl _) | assumption | refine Keep.ap ?_ | refine Keep.st (by first | omega | (simp only [ZL]; omega)) ?_); done) | ((try simp only [ZL]) <;> omega) | fail)) only [XOB, ↓XXs, ↓XD, ↓YX, ZB, Nat.reduceAdd, Nat.reducePow, ↓reduceIte, eq_self, Int.reduceEq, Nat.reduceEqDiff, Nat.reduceMul, Nat.reduceLeDiff, Int.reduceBEq, Int.reduceLT, Try.f8, ↓XH2, XRN, ZC, ZE, ZH, eq_self, Nat.reduceLeDiff, Nat.reduceBEq, slV_new, ZS, reduceIte, ↓op_extract, lv, eb7, hbb, hq, hs]
  refine okr_opt (Ru.appL (os := []) (by simp (disch := (first | (refine dS ?_; kernel_rfl) | (refine dM ?_; kernel_rfl) | (refine dO ?_; simp (disch := ((try simp only [ZL]) <;> omega)) only [ZK, ZL]; done) | (refine dK ?_; (repeat first | exact Keep.refl _ _ | exact Keep.app _ _ (Nat.le_refl _) | assumption | refine Keep.ap ?_ | refine Keep.st (by first | omega | (simp only [ZL]; omega)) ?_); done) | ((try simp only [ZL]) <;> omega) | fail)) only [↓XH2, XRN, ZC, ZE, ZH, eq_self, Nat.reduceLeDiff, Nat.reduceBEq] <;> rfl) (by simp (disch := (first | (refine dS ?_; kernel_rfl) | (refine dM ?_; kernel_rfl) | (refine dO ?_; simp (disch := ((try simp only [ZL]) <;> omega)) only [ZK, ZL]; done) | (refine dK ?_; (repeat first | exact Keep.refl _ _ | exact Keep.app _ _ (Nat.le_refl _) | assumption | refine Keep.ap ?_ | refine Keep.st (by first | omega | (simp only [ZL]; omega)) ?_); done) | ((try simp only [ZL]) <;> omega) | fail)) only [↓XH2, XRN, ZC, ZE, ZH, eq_self, Nat.reduceLeDiff, Nat.reduceBEq, e17]) rfl rfl (by omega) (by simp; omega)) ?_
  rintro _ ⟨g8, rfl⟩
  try simp (dsimp := false) (disch := (first | (refine dS ?_; kernel_rfl) | (refine dM ?_; kernel_rfl) | (refine dO ?_; simp (disch := ((try simp only [ZL]) <;> omega)) only [ZK, ZL]; done) | (refine dK ?_; (repeat first | exact Keep.refl _ _ | exact Keep.app _ _ (Nat.le_refl _) | assumption | refine Keep.ap ?_ | refine Keep.st (by first | omega | (simp only [ZL]; omega)) ?_); done) | ((try simp only [ZL]) <;> omega) | fail)) only [XOB, ↓XXs, ↓XD, ↓YX, ZB, Nat.reduceAdd, Nat.reducePow, ↓reduceIte, eq_self, Int.reduceEq, Nat.reduceEqDiff, Nat.reduceMul, Nat.reduceLeDiff, Int.reduceBEq, Int.reduceLT, Try.f8, ↓XH2, XRN, ZC, ZE, ZH, eq_self, Nat.reduceLeDiff, Nat.reduceBEq, slV_new, ZS, reduceIte, ↓op_extract, lv, eb7, hbb, hq, hs]
  refine okr_opt (Ru.appL (os := rs) (ys := [ruS]) (by simp (disch := (first | (refine dS ?_; kernel_rfl) | (refine dM ?_; kernel_rfl) | (refine dO ?_; simp (disch := ((try simp only [ZL]) <;> omega)) only [ZK, ZL]; done) | (refine dK ?_; (repeat first | exact Keep.refl _ _ | exact Keep.app _ _ (Nat.le_refl _) | assumption | refine Keep.ap ?_ | refine Keep.st (by first | omega | (simp only [ZL]; omega)) ?_); done) | ((try simp only [ZL]) <;> omega) | fail)) only [↓XH2, XRN, ZC, ZE, ZH, eq_self, Nat.reduceLeDiff, Nat.reduceBEq] <;> rfl) (by simp (disch := (first | (refine dS ?_; kernel_rfl) | (refine dM ?_; kernel_rfl) | (refine dO ?_; simp (disch := ((try simp only [ZL]) <;> omega)) only [ZK, ZL]; done) | (refine dK ?_; (repeat first | exact Keep.refl _ _ | exact Keep.app _ _ (Nat.le_refl _) | assumption | refine Keep.ap ?_ | refine Keep.st (by first | omega | (simp only [ZL]; omega)) ?_); done) | ((try simp only [ZL]) <;> omega) | fail)) only [↓XH2, XRN, ZC, ZE, ZH, eq_self, Nat.reduceLeDiff, Nat.reduceBEq] <;> rfl) (by simp) rfl (by omega) (by simp; omega)) ?_
  rintro _ ⟨g9, rfl⟩
  try simp (dsimp := false) (disch := (first | (refine dS ?_; kernel_rfl) | (refine dM ?_; kernel_rfl) | (refine dO ?_; simp (disch := ((try simp only [ZL]) <;> omega)) only [ZK, ZL]; done) | (refine dK ?_; (repeat first | exact Keep.refl _ _ | exact Keep.app _ _ (Nat.le_refl _) | assumption | refine Keep.ap ?_ | refine Keep.st (by first | omega | (simp only [ZL]; omega)) ?_); done) | ((try simp only [ZL]) <;> omega) | fail)) only [XOB, ↓XXs, ↓XD, ↓YX, ZB, Nat.reduceAdd, Nat.reducePow, ↓reduceIte, eq_self, Int.reduceEq, Nat.reduceEqDiff, Nat.reduceMul, Nat.reduceLeDiff, Int.reduceBEq, Int.reduceLT, Try.f8, ↓XH2, XRN, ZC, ZE, ZH, eq_self, Nat.reduceLeDiff, Nat.reduceBEq, slV_new, ZS, reduceIte, ↓op_extract, lv, eb7, hbb, hq, hs]
  with_reducible refine okr_same1 ?_ ?_
  · simp (disch := (first | (refine dS ?_; kernel_rfl) | (refine dM ?_; kernel_rfl) | (refine dO ?_; simp (disch := ((try simp only [ZL]) <;> omega)) only [ZK, ZL]; done) | (refine dK ?_; (repeat first | exact Keep.refl _ _ | exact Keep.app _ _ (Nat.le_refl _) | assumption | refine Keep.ap ?_ | refine Keep.st (by first | omega | (simp only [ZL]; omega)) ?_); done) | ((try simp only [ZL]) <;> omega) | fail)) only [↓XH2, XRN, ZC, ZE, ZH, eq_self, Nat.reduceLeDiff, Nat.reduceBEq]
  refine okr_call (sh_impl (xs := rs ++ [ruS]) (by simp; try omega) (by simp; omega) (fun x hx => by
    rcases List.mem_append.1 hx with hx | hx
    · exact fr x hx
    · rw [List.mem_singleton] at hx; subst hx; exact ruF0 _) (by simp (disch := (first | (refine dS ?_; kernel_rfl) | (refine dM ?_; kernel_rfl) | (refine dO ?_; simp (disch := ((try simp only [ZL]) <;> omega)) only [ZK, ZL]; done) | (refine dK ?_; (repeat first | exact Keep.refl _ _ | exact Keep.app _ _ (Nat.le_refl _) | assumption | refine Keep.ap ?_ | refine Keep.st (by first | omega | (simp only [ZL]; omega)) ?_); done) | ((try simp only [ZL]) <;> omega) | fail)) only [↓XH2, XRN, ZC, ZE, ZH, eq_self, Nat.reduceLeDiff, Nat.reduceBEq])) ?_
  rintro _ h9 ⟨rfl, k9⟩
  have hlast := first_last e hok h8
  try simp (dsimp := false) (disch := (first | (refine dS ?_; kernel_rfl) | (refine dM ?_; kernel_rfl) | (refine dO ?_; simp (disch := ((try simp only [ZL]) <;> omega)) only [ZK, ZL]; done) | (refine dK ?_; (repeat first | exact Keep.refl _ _ | exact Keep.app _ _ (Nat.le_refl _) | assumption | refine Keep.ap ?_ | refine Keep.st (by first | omega | (simp only [ZL]; omega)) ?_); done) | ((try simp only [ZL]) <;> omega) | fail)) only [XOB, ↓XXs, ↓XD, ↓YX, ZB, Nat.reduceAdd, Nat.reducePow, ↓reduceIte, eq_self, Int.reduceEq, Nat.reduceEqDiff, Nat.reduceMul, Nat.reduceLeDiff, Int.reduceBEq, Int.reduceLT, Try.f8, ↓XH2, XRN, ZC, ZE, ZH, eq_self, Nat.reduceLeDiff, Nat.reduceBEq, slV_new, ZS, reduceIte, ↓op_extract, lv, eb7, hbb, hq, hs, hlast]
  with_reducible refine Okr.ret ?_
  simp [TrueQ, hq, hs, hlast]
theorem rz8 (va : Value) (n l : Nat) (h : AH) (r : Cd h va n) (hl : l ≤ h.length) : ∃ h', run V0 (.fn 8) l [S va] h = some (.ret (.bool true) h') := by
  obtain ⟨v, h', e, rfl⟩ := r8 va n l h r hl
  exact ⟨h', e⟩
end Go.Abs
