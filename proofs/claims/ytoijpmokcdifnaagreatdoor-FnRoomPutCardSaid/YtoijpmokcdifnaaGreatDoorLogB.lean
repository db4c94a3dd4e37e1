/- That a drawn log is small and in order. For every code; no condition. -/
import Derived.Test.YtoijpmokcdifnaaGreatDoorLogA
namespace Go.Abs
open Go.Proofs
set_option maxRecDepth 100000
set_option linter.unusedSimpArgs false
set_option linter.unusedVariables false
set_option pp.maxSteps 20000
set_option pp.deepTerms true
set_option maxHeartbeats 4000000 in
theorem rq140 (ro : Ro) (ms : List Me) (rs : List Rk) (us : Bs) (s : Sa) (l : Nat) (h : AH) (hl : l ≤ h.length) (hn : ms.length ≤ 2 ^ 20) (hm : rs.length ≤ 2 ^ 20) (q : RoomAt h ro ms rs) (fu : us.length ≤ 64) (fs : s.F) (hs : 0 ≤ ro.next ∧ ro.next ≤ 20001) :
    Okr (DoQ ro h) (run V0 (.fn 140) l [S ro.V, S (sV us), S s.V] h) := by
  have a1 := fun (h' : AH) (l : Nat) (us : Bs) (k : Keep h.length h h') => rq103 ro us rs l h' (by omega) (q.keep k).qr.rd
  have a2 := fun (h' : AH) (l : Nat) (us : Bs) (k : Keep h.length h h') => rq101 ro us ms l h' (by omega) (q.keep k).qm.rd
  have a3 := fun (h' : AH) (l : Nat) (k : Keep h.length h h') => rq60 ro rs l h' (by omega) (q.keep k).qr.rd
  have a5 := fun (h' : AH) (kd : Int) (u : Bs) (hl : l ≤ h'.length) (k : Keep h.length h h') => rq137 ro ms rs kd u l h' hl (by omega) (q.keep k)
  have hlen := q.qr.rd.len
  have fr := q.fr
  have nm : ro.name.length ≤ 64 := q.nm
  have fnk := fun kd u => entNick_F (kd := kd) (u := u) q.fm
  have hor := q.qr.one
  have hom := q.qm.one
  rcases ro with ⟨rn, rx, rm, rr, rj⟩
  rcases s with ⟨sk, sr, sn, sm, si, sf, st, su, sa, sb⟩
  have fm : sm.length ≤ 64 := fs.2.2.1
  simp only at hor hom hs a1 a2 a3 a5 hlen
  have hw0 : IntKind.i64.wrap (rx + ((0 : Nat) : Int)) = rx := by rw [wrap64 (by omega)]; simp
  have hw1 : IntKind.i64.wrap (rx + ((1 : Nat) : Int)) = rx + 1 := by rw [wrap64 (by omega)]; rfl
  have hw2 : IntKind.i64.wrap (rx + ((2 : Nat) : Int)) = rx + 2 := by rw [wrap64 (by omega)]; rfl
  refine okr_fn Tryz.func140 rfl rfl rfl rfl ?_
  simp (dsimp := false) (disch := first | exact dI | fail) only [XOB, ↓XXs, ↓XD, ↓YX, ZB, Nat.reduceAdd, Nat.reducePow, ↓reduceIte, eq_self, Int.reduceEq, Nat.reduceEqDiff, Nat.reduceMul, Nat.reduceLeDiff, Tryz.f140, ↓XH2, XRN, ZC, ZE, ZH, eq_self, Nat.reduceLeDiff, Nat.reduceBEq, slV_new, ZS, reduceIte, ↓op_extract, hor, hom, a1, a3, a5, hlen, hw0, hw1, hw2]
  repeat' with_reducible refine okr_if (fun _ => ?_) (fun _ => ?_) <;> simp (dsimp := false) (disch := first | exact dI | fail) only [XOB, ↓XXs, ↓XD, ↓YX, ZB, Nat.reduceAdd, Nat.reducePow, ↓reduceIte, eq_self, Int.reduceEq, Nat.reduceEqDiff, Nat.reduceMul, Nat.reduceLeDiff, Tryz.f140, ↓XH2, XRN, ZC, ZE, ZH, eq_self, Nat.reduceLeDiff, Nat.reduceBEq, slV_new, ZS, reduceIte, ↓op_extract, hor, hom, a1, a3, a5, hlen, hw0, hw1, hw2]
  all_goals first
    | (with_reducible refine Okr.ret ?_); exact ⟨⟨_, [], _, rfl, .inl ⟨rfl, rfl⟩, trivial, by simp⟩, by (first | exact Keep.app _ _ (Nat.le_refl _) | exact Keep.app _ _ (by first | assumption | omega))⟩
    | rcases ofL_spec sm ms 0 with hq | ⟨d, x, t, hmd, hxu, hq⟩
      · have hge : decide ((0 : Int) ≤ -1) = false := rfl
        have gx : ixAddr rm (-1) 3 = none ∧ addOff rm 2 = none ∧ ∀ H, ld H rm = none := by rcases q.qm with ⟨e, _⟩ | ⟨i, g, e, _⟩ <;> simp only at e <;> subst e <;> exact ⟨rfl, rfl, fun _ => rfl⟩
        simp (dsimp := false) (disch := first | exact dI | fail) only [XOB, ↓XXs, ↓XD, ↓YX, ZB, Nat.reduceAdd, Nat.reducePow, ↓reduceIte, eq_self, Int.reduceEq, Nat.reduceEqDiff, Nat.reduceMul, Nat.reduceLeDiff, Tryz.f140, ↓XH2, XRN, ZC, ZE, ZH, eq_self, Nat.reduceLeDiff, Nat.reduceBEq, slV_new, ZS, reduceIte, ↓op_extract, hor, hom, a1, a3, a5, hlen, hw0, hw1, hw2, a2, hq, hge, gx.1, gx.2.1, gx.2.2]
        refine okr_opt (En.app3 (os := []) ⟨rn, rx, 6, sm, entNick 6 sm ms, [], [], [], su⟩ (by simp (disch := first | exact dI | fail) only [↓XH2, XRN, ZC, ZE, ZH, eq_self, Nat.reduceLeDiff, Nat.reduceBEq] <;> rfl) (by simp (disch := first | exact dI | fail) only [↓XH2, XRN, ZC, ZE, ZH, eq_self, Nat.reduceLeDiff, Nat.reduceBEq] <;> rfl) rfl rfl (by first | rfl | omega | (simp (disch := first | exact dI | fail) only [ZK, ZL, ZR] <;> omega) | fail) (by simp) rfl) ?_
        rintro _ ⟨g0, rfl⟩
        simp (dsimp := false) (disch := first | exact dI | fail) only [XOB, ↓XXs, ↓XD, ↓YX, ZB, Nat.reduceAdd, Nat.reducePow, ↓reduceIte, eq_self, Int.reduceEq, Nat.reduceEqDiff, Nat.reduceMul, Nat.reduceLeDiff, Tryz.f140, ↓XH2, XRN, ZC, ZE, ZH, eq_self, Nat.reduceLeDiff, Nat.reduceBEq, slV_new, ZS, reduceIte, ↓op_extract, hor, hom, a1, a3, a5, hlen, hw0, hw1, hw2, a2, hq, hge, gx.1, gx.2.1, gx.2.2]
        with_reducible refine Okr.ret ?_
        exact ⟨⟨_, [⟨rn, rx, 6, sm, entNick 6 sm ms, [], [], [], su⟩], 0, rfl, .inr ⟨_, g0, 1, rfl, (by simp (disch := first | exact dI | fail) only [↓XH2, XRN, ZC, ZE, ZH, eq_self, Nat.reduceLeDiff, Nat.reduceBEq])⟩, ⟨rfl, rfl, ⟨nm, fm, fnk _ _, by simp, by simp, by simp⟩, trivial⟩, by simp⟩, by (first | exact Keep.app _ _ (Nat.le_refl _) | exact Keep.app _ _ (by first | assumption | omega))⟩
      · rw [Nat.zero_add] at hq
        have hge : decide ((0 : Int) ≤ (d.length : Int)) = true := decide_eq_true (by omega)
        obtain ⟨id, g, mx⟩ := q.meAt hmd
        have hv := mx.v
        simp only at hv
        subst hv
        have mb := mx.b
        have ml := mx.lt
        simp (dsimp := false) (disch := first | exact dI | fail) only [XOB, ↓XXs, ↓XD, ↓YX, ZB, Nat.reduceAdd, Nat.reducePow, ↓reduceIte, eq_self, Int.reduceEq, Nat.reduceEqDiff, Nat.reduceMul, Nat.reduceLeDiff, Tryz.f140, ↓XH2, XRN, ZC, ZE, ZH, eq_self, Nat.reduceLeDiff, Nat.reduceBEq, slV_new, ZS, reduceIte, ↓op_extract, hor, hom, a1, a3, a5, hlen, hw0, hw1, hw2, a2, hq, hge, mx.ix, mx.e, mx.c2]
        refine okr_if (fun t10 => ?_) (fun t10 => ?_)
        · have t4 : decide (3 ≤ su) = false := by simp only [beq_iff_eq] at t10; rw [t10]; rfl
          simp (dsimp := false) (disch := first | exact dI | fail) only [XOB, ↓XXs, ↓XD, ↓YX, ZB, Nat.reduceAdd, Nat.reducePow, ↓reduceIte, eq_self, Int.reduceEq, Nat.reduceEqDiff, Nat.reduceMul, Nat.reduceLeDiff, Tryz.f140, ↓XH2, XRN, ZC, ZE, ZH, eq_self, Nat.reduceLeDiff, Nat.reduceBEq, slV_new, ZS, reduceIte, ↓op_extract, hor, hom, a1, a3, a5, hlen, hw0, hw1, hw2, a2, hq, hge, mx.ix, mx.e, mx.c2, t4]
          refine okr_opt (En.app3 (os := []) ⟨rn, rx, 2, sm, entNick 2 sm ms, [], [], [], 2⟩ (by simp (disch := first | exact dI | fail) only [↓XH2, XRN, ZC, ZE, ZH, eq_self, Nat.reduceLeDiff, Nat.reduceBEq] <;> rfl) (by simp (disch := first | exact dI | fail) only [↓XH2, XRN, ZC, ZE, ZH, eq_self, Nat.reduceLeDiff, Nat.reduceBEq] <;> rfl) rfl rfl (by first | rfl | omega | (simp (disch := first | exact dI | fail) only [ZK, ZL, ZR] <;> omega) | fail) (by simp) rfl) ?_
          rintro _ ⟨g0, rfl⟩
          simp (dsimp := false) (disch := first | exact dI | fail) only [XOB, ↓XXs, ↓XD, ↓YX, ZB, Nat.reduceAdd, Nat.reducePow, ↓reduceIte, eq_self, Int.reduceEq, Nat.reduceEqDiff, Nat.reduceMul, Nat.reduceLeDiff, Tryz.f140, ↓XH2, XRN, ZC, ZE, ZH, eq_self, Nat.reduceLeDiff, Nat.reduceBEq, slV_new, ZS, reduceIte, ↓op_extract, hor, hom, a1, a3, a5, hlen, hw0, hw1, hw2, a2, hq, hge, mx.ix, mx.e, mx.c2, t4]
          refine okr_opt (En.app3 (os := [⟨rn, rx, 2, sm, entNick 2 sm ms, [], [], [], 2⟩]) ⟨rn, rx + 1, 6, sm, entNick 6 sm ms, [], [], [], su⟩ (by simp (disch := first | exact dI | fail) only [↓XH2, XRN, ZC, ZE, ZH, eq_self, Nat.reduceLeDiff, Nat.reduceBEq] <;> rfl) (by simp (disch := first | exact dI | fail) only [↓XH2, XRN, ZC, ZE, ZH, eq_self, Nat.reduceLeDiff, Nat.reduceBEq] <;> rfl) rfl rfl (by first | rfl | omega | (simp (disch := first | exact dI | fail) only [ZK, ZL, ZR] <;> omega) | fail) (by simp) rfl) ?_
          rintro _ ⟨g1, rfl⟩
          simp (dsimp := false) (disch := first | exact dI | fail) only [XOB, ↓XXs, ↓XD, ↓YX, ZB, Nat.reduceAdd, Nat.reducePow, ↓reduceIte, eq_self, Int.reduceEq, Nat.reduceEqDiff, Nat.reduceMul, Nat.reduceLeDiff, Tryz.f140, ↓XH2, XRN, ZC, ZE, ZH, eq_self, Nat.reduceLeDiff, Nat.reduceBEq, slV_new, ZS, reduceIte, ↓op_extract, hor, hom, a1, a3, a5, hlen, hw0, hw1, hw2, a2, hq, hge, mx.ix, mx.e, mx.c2, t4]
          with_reducible refine Okr.ret ?_
          exact ⟨⟨_, [⟨rn, rx, 2, sm, entNick 2 sm ms, [], [], [], 2⟩, ⟨rn, rx + 1, 6, sm, entNick 6 sm ms, [], [], [], su⟩], 0, rfl, .inr ⟨_, g1, 2, rfl, (by simp (disch := first | exact dI | fail) only [↓XH2, XRN, ZC, ZE, ZH, eq_self, Nat.reduceLeDiff, Nat.reduceBEq])⟩, ⟨rfl, rfl, ⟨nm, fm, fnk _ _, by simp, by simp, by simp⟩, rfl, rfl, ⟨nm, fm, fnk _ _, by simp, by simp, by simp⟩, trivial⟩, by simp⟩, by (first | exact Keep.app _ _ (Nat.le_refl _) | exact Keep.app _ _ (by first | assumption | omega))⟩
        · simp (dsimp := false) (disch := first | exact dI | fail) only [XOB, ↓XXs, ↓XD, ↓YX, ZB, Nat.reduceAdd, Nat.reducePow, ↓reduceIte, eq_self, Int.reduceEq, Nat.reduceEqDiff, Nat.reduceMul, Nat.reduceLeDiff, Tryz.f140, ↓XH2, XRN, ZC, ZE, ZH, eq_self, Nat.reduceLeDiff, Nat.reduceBEq, slV_new, ZS, reduceIte, ↓op_extract, hor, hom, a1, a3, a5, hlen, hw0, hw1, hw2, a2, hq, hge, mx.ix, mx.e, mx.c2]
          refine okr_opt (En.app3 (os := []) ⟨rn, rx, 6, sm, entNick 6 sm ms, [], [], [], su⟩ (by simp (disch := first | exact dI | fail) only [↓XH2, XRN, ZC, ZE, ZH, eq_self, Nat.reduceLeDiff, Nat.reduceBEq] <;> rfl) (by simp (disch := first | exact dI | fail) only [↓XH2, XRN, ZC, ZE, ZH, eq_self, Nat.reduceLeDiff, Nat.reduceBEq] <;> rfl) rfl rfl (by first | rfl | omega | (simp (disch := first | exact dI | fail) only [ZK, ZL, ZR] <;> omega) | fail) (by simp) rfl) ?_
          rintro _ ⟨g0, rfl⟩
          simp (dsimp := false) (disch := first | exact dI | fail) only [XOB, ↓XXs, ↓XD, ↓YX, ZB, Nat.reduceAdd, Nat.reducePow, ↓reduceIte, eq_self, Int.reduceEq, Nat.reduceEqDiff, Nat.reduceMul, Nat.reduceLeDiff, Tryz.f140, ↓XH2, XRN, ZC, ZE, ZH, eq_self, Nat.reduceLeDiff, Nat.reduceBEq, slV_new, ZS, reduceIte, ↓op_extract, hor, hom, a1, a3, a5, hlen, hw0, hw1, hw2, a2, hq, hge, mx.ix, mx.e, mx.c2]
          repeat' with_reducible refine okr_if (fun _ => ?_) (fun _ => ?_) <;> simp (dsimp := false) (disch := first | exact dI | fail) only [XOB, ↓XXs, ↓XD, ↓YX, ZB, Nat.reduceAdd, Nat.reducePow, ↓reduceIte, eq_self, Int.reduceEq, Nat.reduceEqDiff, Nat.reduceMul, Nat.reduceLeDiff, Tryz.f140, ↓XH2, XRN, ZC, ZE, ZH, eq_self, Nat.reduceLeDiff, Nat.reduceBEq, slV_new, ZS, reduceIte, ↓op_extract, hor, hom, a1, a3, a5, hlen, hw0, hw1, hw2, a2, hq, hge, mx.ix, mx.e, mx.c2]
          all_goals first
            | (with_reducible refine Okr.ret ?_)
              exact ⟨⟨_, [⟨rn, rx, 6, sm, entNick 6 sm ms, [], [], [], su⟩], 0, rfl, .inr ⟨_, g0, 1, rfl, (by simp (disch := first | exact dI | fail) only [↓XH2, XRN, ZC, ZE, ZH, eq_self, Nat.reduceLeDiff, Nat.reduceBEq])⟩, ⟨rfl, rfl, ⟨nm, fm, fnk _ _, by simp, by simp, by simp⟩, trivial⟩, by simp⟩, by (first | exact Keep.app _ _ (Nat.le_refl _) | exact Keep.app _ _ (by first | assumption | omega))⟩
            | refine okr_opt (En.app3 (os := [⟨rn, rx, 6, sm, entNick 6 sm ms, [], [], [], su⟩]) ⟨rn, rx + 1, 5, sm, entNick 5 sm ms, [], [], [], 3⟩ (by simp (disch := first | exact dI | fail) only [↓XH2, XRN, ZC, ZE, ZH, eq_self, Nat.reduceLeDiff, Nat.reduceBEq] <;> rfl) (by simp (disch := first | exact dI | fail) only [↓XH2, XRN, ZC, ZE, ZH, eq_self, Nat.reduceLeDiff, Nat.reduceBEq] <;> rfl) rfl rfl (by first | rfl | omega | (simp (disch := first | exact dI | fail) only [ZK, ZL, ZR] <;> omega) | fail) (by simp) rfl) ?_
              rintro _ ⟨g1, rfl⟩
              simp (dsimp := false) (disch := first | exact dI | fail) only [XOB, ↓XXs, ↓XD, ↓YX, ZB, Nat.reduceAdd, Nat.reducePow, ↓reduceIte, eq_self, Int.reduceEq, Nat.reduceEqDiff, Nat.reduceMul, Nat.reduceLeDiff, Tryz.f140, ↓XH2, XRN, ZC, ZE, ZH, eq_self, Nat.reduceLeDiff, Nat.reduceBEq, slV_new, ZS, reduceIte, ↓op_extract, hor, hom, a1, a3, a5, hlen, hw0, hw1, hw2, a2, hq, hge, mx.ix, mx.e, mx.c2]
              with_reducible refine Okr.ret ?_
              exact ⟨⟨_, [⟨rn, rx, 6, sm, entNick 6 sm ms, [], [], [], su⟩, ⟨rn, rx + 1, 5, sm, entNick 5 sm ms, [], [], [], 3⟩], 0, rfl, .inr ⟨_, g1, 2, rfl, (by simp (disch := first | exact dI | fail) only [↓XH2, XRN, ZC, ZE, ZH, eq_self, Nat.reduceLeDiff, Nat.reduceBEq])⟩, ⟨rfl, rfl, ⟨nm, fm, fnk _ _, by simp, by simp, by simp⟩, rfl, rfl, ⟨nm, fm, fnk _ _, by simp, by simp, by simp⟩, trivial⟩, by simp⟩, by (first | exact Keep.app _ _ (Nat.le_refl _) | exact Keep.app _ _ (by first | assumption | omega))⟩
end Go.Abs
namespace Go.Abs
open Go.Proofs
set_option maxRecDepth 100000
set_option linter.unusedSimpArgs false
set_option linter.unusedVariables false
set_option pp.maxSteps 20000
set_option pp.deepTerms true
set_option maxHeartbeats 4000000 in
theorem rq117 (ro : Ro) (ms : List Me) (rs : List Rk) (lv : Value) (log : List En) (us : Bs) (s : Sa) (l : Nat) (h : AH) (hl : l ≤ h.length) (hn : ms.length ≤ 2 ^ 20) (hm : rs.length ≤ 2 ^ 20) (q : RoomAt h ro ms rs) (hlog : log.length ≤ 2 ^ 20) (ql : En.Rd h lv log) (fu : us.length ≤ 64) (fs : s.F) (hs : 0 ≤ ro.next ∧ ro.next ≤ 20001) (hus : ofL us ms 0 ≠ -1) :
    Okr (DoQ ro h) (run V0 (.fn 117) l [S ro.V, S lv, S (sV us), S s.V] h) := by
  have a2 := fun (h' : AH) (l : Nat) (us : Bs) (k : Keep h.length h h') => rq101 ro us ms l h' (by omega) (q.keep k).qm.rd
  have a5 := fun (h' : AH) (l : Nat) (kd : Int) (u : Bs) (hl : l ≤ h'.length) (k : Keep h.length h h') => rq137 ro ms rs kd u l h' hl (by omega) (q.keep k)
  have a6 := fun (h' : AH) (l : Nat) (hl : l ≤ h'.length) (k : Keep h.length h h') => rq139 ro ms rs us s l h' hl hn hm (q.keep k) fu fs hs hus
  have a7 := fun (h' : AH) (l : Nat) (hl : l ≤ h'.length) (k : Keep h.length h h') => rq140 ro ms rs us s l h' hl hn hm (q.keep k) fu fs hs
  have a8 := fun (h' : AH) (l : Nat) (nm us id : Bs) (hl : l ≤ h'.length) (k : Keep h.length h h') => rq138 l nm us id lv h' log hlog (ql.keep k) hl
  have nm : ro.name.length ≤ 64 := q.nm
  have fnk := fun kd u => entNick_F (kd := kd) (u := u) q.fm
  rcases ofL_spec us ms 0 with hq | ⟨d, x, t, hmd, hxu, hq⟩
  · exact absurd hq hus
  rw [Nat.zero_add] at hq
  obtain ⟨id, g, mx⟩ := q.meAt hmd
  have hor := q.qr.one
  rcases ro with ⟨rn, rx, rm, rr, rj⟩
  rcases s with ⟨sk, sr, sn, sm, si, sf, st, su, sa, sb⟩
  have hv := mx.v
  simp only at hor hs hv a2 a5 a6 a7
  subst hv
  have mb := mx.b
  have ml := mx.lt
  refine okr_fn Tryz.func117 rfl rfl rfl rfl ?_
  cases hk7 : (sk == 7) with
  | true =>
    simp (dsimp := false) (disch := first | exact dI | fail) only [XOB, ↓XXs, ↓XD, ↓YX, ZB, Nat.reduceAdd, Nat.reducePow, ↓reduceIte, eq_self, Int.reduceEq, Nat.reduceEqDiff, Nat.reduceMul, Nat.reduceLeDiff, Tryz.f117, ↓XH2, XRN, ZC, ZE, ZH, eq_self, Nat.reduceLeDiff, Nat.reduceBEq, slV_new, ZS, reduceIte, ↓op_extract, hor, a2, a5, hq, mx.ix, mx.e, mx.all, hk7]
    with_reducible refine Okr.ret ?_
    exact ⟨⟨_, [⟨rn, rx, 2, us, entNick 2 us ms, [], [], [], 0⟩], 0, rfl, .inr ⟨_, 0, 1, rfl, (by simp (disch := first | exact dI | fail) only [↓XH2, XRN, ZC, ZE, ZH, eq_self, Nat.reduceLeDiff, Nat.reduceBEq] <;> rfl)⟩, ⟨rfl, rfl, ⟨nm, fu, fnk _ _, by simp, by simp, by simp⟩, trivial⟩, by simp⟩, by (first | exact Keep.app _ _ (Nat.le_refl _) | exact Keep.app _ _ (by first | assumption | omega))⟩
  | false =>
  cases hk8 : (sk == 8) with
  | true =>
    simp (dsimp := false) (disch := first | exact dI | fail) only [XOB, ↓XXs, ↓XD, ↓YX, ZB, Nat.reduceAdd, Nat.reducePow, ↓reduceIte, eq_self, Int.reduceEq, Nat.reduceEqDiff, Nat.reduceMul, Nat.reduceLeDiff, Tryz.f117, ↓XH2, XRN, ZC, ZE, ZH, eq_self, Nat.reduceLeDiff, Nat.reduceBEq, slV_new, ZS, reduceIte, ↓op_extract, hor, a2, a5, hq, mx.ix, mx.e, mx.all, hk7, hk8]
    refine okr_if (fun _ => ?_) (fun _ => ?_)
    · simp (dsimp := false) (disch := first | exact dI | fail) only [XOB, ↓XXs, ↓XD, ↓YX, ZB, Nat.reduceAdd, Nat.reducePow, ↓reduceIte, eq_self, Int.reduceEq, Nat.reduceEqDiff, Nat.reduceMul, Nat.reduceLeDiff, Tryz.f117, ↓XH2, XRN, ZC, ZE, ZH, eq_self, Nat.reduceLeDiff, Nat.reduceBEq, slV_new, ZS, reduceIte, ↓op_extract, hor, a2, a5, hq, mx.ix, mx.e, mx.all, hk7, hk8]
      with_reducible refine Okr.ret ?_
      exact ⟨⟨_, [], _, rfl, .inl ⟨rfl, rfl⟩, trivial, by simp⟩, by (first | exact Keep.app _ _ (Nat.le_refl _) | exact Keep.app _ _ (by first | assumption | omega))⟩
    · simp (dsimp := false) (disch := first | exact dI | fail) only [XOB, ↓XXs, ↓XD, ↓YX, ZB, Nat.reduceAdd, Nat.reducePow, ↓reduceIte, eq_self, Int.reduceEq, Nat.reduceEqDiff, Nat.reduceMul, Nat.reduceLeDiff, Tryz.f117, ↓XH2, XRN, ZC, ZE, ZH, eq_self, Nat.reduceLeDiff, Nat.reduceBEq, slV_new, ZS, reduceIte, ↓op_extract, hor, a2, a5, hq, mx.ix, mx.e, mx.all, hk7, hk8]
      refine okr_if (fun _ => ?_) (fun _ => ?_)
      · simp (dsimp := false) (disch := first | exact dI | fail) only [XOB, ↓XXs, ↓XD, ↓YX, ZB, Nat.reduceAdd, Nat.reducePow, ↓reduceIte, eq_self, Int.reduceEq, Nat.reduceEqDiff, Nat.reduceMul, Nat.reduceLeDiff, Tryz.f117, ↓XH2, XRN, ZC, ZE, ZH, eq_self, Nat.reduceLeDiff, Nat.reduceBEq, slV_new, ZS, reduceIte, ↓op_extract, hor, a2, a5, hq, mx.ix, mx.e, mx.all, hk7, hk8]
        refine okr_call (a8 _ _ _ _ _ (by first | rfl | omega | (simp (disch := first | exact dI | fail) only [ZK, ZL, ZR] <;> omega) | fail) (by (first | exact Keep.app _ _ (Nat.le_refl _) | exact Keep.app _ _ (by first | assumption | omega)))) ?_
        rintro _ h1 ⟨⟨b, rfl⟩, k1⟩
        have kb : Keep h.length h h1 := Keep.trans (by (first | exact Keep.app _ _ (Nat.le_refl _) | exact Keep.app _ _ (by first | assumption | omega))) (k1.le (by simp only [List.length_append]; omega))
        have k1' := k1.1
        have k1'' := k1.2
        simp only [List.length_append, List.length_cons, List.length_nil, Nat.zero_add, Nat.reduceAdd] at k1' k1''
        simp (dsimp := false) (disch := first | exact dI | fail) only [XOB, ↓XXs, ↓XD, ↓YX, ZB, Nat.reduceAdd, Nat.reducePow, ↓reduceIte, eq_self, Int.reduceEq, Nat.reduceEqDiff, Nat.reduceMul, Nat.reduceLeDiff, Tryz.f117, ↓XH2, XRN, ZC, ZE, ZH, eq_self, Nat.reduceLeDiff, Nat.reduceBEq, slV_new, ZS, reduceIte, ↓op_extract, hor, a2, a5, hq, mx.ix, mx.e, mx.all, k1'']
        refine okr_if (fun _ => ?_) (fun _ => ?_)
        · simp (dsimp := false) (disch := first | exact dI | fail) only [XOB, ↓XXs, ↓XD, ↓YX, ZB, Nat.reduceAdd, Nat.reducePow, ↓reduceIte, eq_self, Int.reduceEq, Nat.reduceEqDiff, Nat.reduceMul, Nat.reduceLeDiff, Tryz.f117, ↓XH2, XRN, ZC, ZE, ZH, eq_self, Nat.reduceLeDiff, Nat.reduceBEq, slV_new, ZS, reduceIte, ↓op_extract, hor, a2, a5, hq, mx.ix, mx.e, mx.all, k1'']
          with_reducible refine Okr.ret ?_
          exact ⟨⟨_, [], _, rfl, .inl ⟨rfl, rfl⟩, trivial, by simp⟩, kb⟩
        · simp (dsimp := false) (disch := first | exact dI | fail) only [XOB, ↓XXs, ↓XD, ↓YX, ZB, Nat.reduceAdd, Nat.reducePow, ↓reduceIte, eq_self, Int.reduceEq, Nat.reduceEqDiff, Nat.reduceMul, Nat.reduceLeDiff, Tryz.f117, ↓XH2, XRN, ZC, ZE, ZH, eq_self, Nat.reduceLeDiff, Nat.reduceBEq, slV_new, ZS, reduceIte, ↓op_extract, hor, a2, a5, hq, mx.ix, mx.e, mx.all, k1'']
          with_reducible refine Okr.ret ?_
          exact ⟨⟨_, [⟨rn, rx, 3, us, entNick 3 us ms, st, si, sf, 0⟩], 0, rfl, .inr ⟨_, 0, 1, rfl, (by simp (disch := first | exact dI | fail) only [↓XH2, XRN, ZC, ZE, ZH, eq_self, Nat.reduceLeDiff, Nat.reduceBEq] <;> rfl)⟩, ⟨rfl, rfl, ⟨nm, fu, fnk _ _, fs.2.2.2.2.2, fs.2.2.2.1, fs.2.2.2.2.1⟩, trivial⟩, by simp⟩, kb.trans (Keep.app _ _ kb.1)⟩
      · simp (dsimp := false) (disch := first | exact dI | fail) only [XOB, ↓XXs, ↓XD, ↓YX, ZB, Nat.reduceAdd, Nat.reducePow, ↓reduceIte, eq_self, Int.reduceEq, Nat.reduceEqDiff, Nat.reduceMul, Nat.reduceLeDiff, Tryz.f117, ↓XH2, XRN, ZC, ZE, ZH, eq_self, Nat.reduceLeDiff, Nat.reduceBEq, slV_new, ZS, reduceIte, ↓op_extract, hor, a2, a5, hq, mx.ix, mx.e, mx.all, hk7, hk8]
        with_reducible refine Okr.ret ?_
        exact ⟨⟨_, [⟨rn, rx, 3, us, entNick 3 us ms, st, si, sf, 0⟩], 0, rfl, .inr ⟨_, 0, 1, rfl, (by simp (disch := first | exact dI | fail) only [↓XH2, XRN, ZC, ZE, ZH, eq_self, Nat.reduceLeDiff, Nat.reduceBEq] <;> rfl)⟩, ⟨rfl, rfl, ⟨nm, fu, fnk _ _, fs.2.2.2.2.2, fs.2.2.2.1, fs.2.2.2.2.1⟩, trivial⟩, by simp⟩, by (first | exact Keep.app _ _ (Nat.le_refl _) | exact Keep.app _ _ (by first | assumption | omega))⟩
  | false =>
  cases hk9 : (sk == 9) with
  | true =>
    simp (dsimp := false) (disch := first | exact dI | fail) only [XOB, ↓XXs, ↓XD, ↓YX, ZB, Nat.reduceAdd, Nat.reducePow, ↓reduceIte, eq_self, Int.reduceEq, Nat.reduceEqDiff, Nat.reduceMul, Nat.reduceLeDiff, Tryz.f117, ↓XH2, XRN, ZC, ZE, ZH, eq_self, Nat.reduceLeDiff, Nat.reduceBEq, slV_new, ZS, reduceIte, ↓op_extract, hor, a2, a5, hq, mx.ix, mx.e, mx.all, hk7, hk8, hk9]
    refine okr_if (fun _ => ?_) (fun _ => ?_)
    · simp (dsimp := false) (disch := first | exact dI | fail) only [XOB, ↓XXs, ↓XD, ↓YX, ZB, Nat.reduceAdd, Nat.reducePow, ↓reduceIte, eq_self, Int.reduceEq, Nat.reduceEqDiff, Nat.reduceMul, Nat.reduceLeDiff, Tryz.f117, ↓XH2, XRN, ZC, ZE, ZH, eq_self, Nat.reduceLeDiff, Nat.reduceBEq, slV_new, ZS, reduceIte, ↓op_extract, hor, a2, a5, hq, mx.ix, mx.e, mx.all, hk7, hk8, hk9]
      with_reducible refine Okr.ret ?_
      exact ⟨⟨_, [], _, rfl, .inl ⟨rfl, rfl⟩, trivial, by simp⟩, by (first | exact Keep.app _ _ (Nat.le_refl _) | exact Keep.app _ _ (by first | assumption | omega))⟩
    · simp (dsimp := false) (disch := first | exact dI | fail) only [XOB, ↓XXs, ↓XD, ↓YX, ZB, Nat.reduceAdd, Nat.reducePow, ↓reduceIte, eq_self, Int.reduceEq, Nat.reduceEqDiff, Nat.reduceMul, Nat.reduceLeDiff, Tryz.f117, ↓XH2, XRN, ZC, ZE, ZH, eq_self, Nat.reduceLeDiff, Nat.reduceBEq, slV_new, ZS, reduceIte, ↓op_extract, hor, a2, a5, hq, mx.ix, mx.e, mx.all, hk7, hk8, hk9]
      with_reducible refine Okr.ret ?_
      exact ⟨⟨_, [⟨rn, rx, 4, us, entNick 4 us ms, st, si, [], 0⟩], 0, rfl, .inr ⟨_, 0, 1, rfl, (by simp (disch := first | exact dI | fail) only [↓XH2, XRN, ZC, ZE, ZH, eq_self, Nat.reduceLeDiff, Nat.reduceBEq] <;> rfl)⟩, ⟨rfl, rfl, ⟨nm, fu, fnk _ _, fs.2.2.2.2.2, fs.2.2.2.1, by simp⟩, trivial⟩, by simp⟩, by (first | exact Keep.app _ _ (Nat.le_refl _) | exact Keep.app _ _ (by first | assumption | omega))⟩
  | false =>
  cases hk10 : (sk == 10) with
  | true =>
    simp (dsimp := false) (disch := first | exact dI | fail) only [XOB, ↓XXs, ↓XD, ↓YX, ZB, Nat.reduceAdd, Nat.reducePow, ↓reduceIte, eq_self, Int.reduceEq, Nat.reduceEqDiff, Nat.reduceMul, Nat.reduceLeDiff, Tryz.f117, ↓XH2, XRN, ZC, ZE, ZH, eq_self, Nat.reduceLeDiff, Nat.reduceBEq, slV_new, ZS, reduceIte, ↓op_extract, hor, a2, a5, hq, mx.ix, mx.e, mx.all, hk7, hk8, hk9, hk10]
    refine okr_call (a6 _ _ (by first | rfl | omega | (simp (disch := first | exact dI | fail) only [ZK, ZL, ZR] <;> omega) | fail) (by (first | exact Keep.app _ _ (Nat.le_refl _) | exact Keep.app _ _ (by first | assumption | omega)))) ?_
    rintro _ h1 ⟨⟨lv2, es, c, rfl, e1, e2, e3⟩, k1⟩
    have kb : Keep h.length h h1 := Keep.trans (by (first | exact Keep.app _ _ (Nat.le_refl _) | exact Keep.app _ _ (by first | assumption | omega))) (k1.le (by simp only [List.length_append]; omega))
    simp (dsimp := false) (disch := first | exact dI | fail) only [XOB, ↓XXs, ↓XD, ↓YX, ZB, Nat.reduceAdd, Nat.reducePow, ↓reduceIte, eq_self, Int.reduceEq, Nat.reduceEqDiff, Nat.reduceMul, Nat.reduceLeDiff, Tryz.f117, ↓XH2, XRN, ZC, ZE, ZH, eq_self, Nat.reduceLeDiff, Nat.reduceBEq, slV_new, ZS, reduceIte, ↓op_extract, hor, a2, a5, hq, mx.ix, mx.e, mx.all, hk7, hk8, hk9, hk10]
    with_reducible refine Okr.ret ?_
    exact ⟨⟨lv2, es, c, rfl, e1, e2, e3⟩, kb⟩
  | false =>
    simp (dsimp := false) (disch := first | exact dI | fail) only [XOB, ↓XXs, ↓XD, ↓YX, ZB, Nat.reduceAdd, Nat.reducePow, ↓reduceIte, eq_self, Int.reduceEq, Nat.reduceEqDiff, Nat.reduceMul, Nat.reduceLeDiff, Tryz.f117, ↓XH2, XRN, ZC, ZE, ZH, eq_self, Nat.reduceLeDiff, Nat.reduceBEq, slV_new, ZS, reduceIte, ↓op_extract, hor, a2, a5, hq, mx.ix, mx.e, mx.all, hk7, hk8, hk9, hk10]
    refine okr_call (a7 _ _ (by first | rfl | omega | (simp (disch := first | exact dI | fail) only [ZK, ZL, ZR] <;> omega) | fail) (by (first | exact Keep.app _ _ (Nat.le_refl _) | exact Keep.app _ _ (by first | assumption | omega)))) ?_
    rintro _ h1 ⟨⟨lv2, es, c, rfl, e1, e2, e3⟩, k1⟩
    have kb : Keep h.length h h1 := Keep.trans (by (first | exact Keep.app _ _ (Nat.le_refl _) | exact Keep.app _ _ (by first | assumption | omega))) (k1.le (by simp only [List.length_append]; omega))
    simp (dsimp := false) (disch := first | exact dI | fail) only [XOB, ↓XXs, ↓XD, ↓YX, ZB, Nat.reduceAdd, Nat.reducePow, ↓reduceIte, eq_self, Int.reduceEq, Nat.reduceEqDiff, Nat.reduceMul, Nat.reduceLeDiff, Tryz.f117, ↓XH2, XRN, ZC, ZE, ZH, eq_self, Nat.reduceLeDiff, Nat.reduceBEq, slV_new, ZS, reduceIte, ↓op_extract, hor, a2, a5, hq, mx.ix, mx.e, mx.all, hk7, hk8, hk9, hk10]
    with_reducible refine Okr.ret ?_
    exact ⟨⟨lv2, es, c, rfl, e1, e2, e3⟩, kb⟩
end Go.Abs
namespace Go.Abs
open Go.Proofs
set_option maxRecDepth 100000
set_option linter.unusedSimpArgs false
set_option linter.unusedVariables false
set_option pp.maxSteps 20000
set_option pp.deepTerms true
structure Do2Q (ro : Ro) (H0 : AH) (v : Value) (h' : AH) : Prop where
  ex : ∃ lv es c, v = .tuple ⟨[lv, iV c]⟩ ∧ En.Rd h' lv es ∧ EsOk ro.name ro.next es ∧ es.length ≤ 3 ∧ (es = [] ∨ ro.next + 3 ≤ 20000)
  k : Keep H0.length H0 h'
theorem rq95 (ro : Ro) (ms : List Me) (rs : List Rk) (lv : Value) (log : List En) (us : Bs) (s : Sa) (l : Nat) (h : AH) (hl : l ≤ h.length) (hn : ms.length ≤ 2 ^ 20) (hm : rs.length ≤ 2 ^ 20) (q : RoomAt h ro ms rs) (hlog : log.length ≤ 2 ^ 20) (ql : En.Rd h lv log) (fu : us.length ≤ 64) (fs : s.F) (hs : 0 ≤ ro.next ∧ ro.next ≤ 20001) :
    Okr (Do2Q ro h) (run V0 (.fn 95) l [S ro.V, S lv, S (sV us), S s.V] h) := by
  have a2 := fun (h' : AH) (l : Nat) (us : Bs) (k : Keep h.length h h') => rq101 ro us ms l h' (by omega) (q.keep k).qm.rd
  have a6 := fun (h' : AH) (l : Nat) (hl : l ≤ h'.length) (k : Keep h.length h h') => rq116 ro ms rs us s.nick l h' hl hn hm (q.keep k) fu fs.2.1 hs
  have a7 := fun (hus : ofL us ms 0 ≠ -1) (h' : AH) (l : Nat) (hl : l ≤ h'.length) (k : Keep h.length h h') => rq117 ro ms rs lv log us s l h' hl hn hm (q.keep k) hlog (ql.keep k) fu fs hs hus
  have hor := q.qr.one
  have hom := q.qm.one
  rcases ro with ⟨rn, rx, rm, rr, rj⟩
  rcases s with ⟨sk, sr, sn, sm, si, sf, st, su, sa, sb⟩
  simp only at hor hom hs a2 a6 a7
  have hw : IntKind.i64.wrap (rx + 3) = rx + 3 := wrap64 (by omega)
  refine okr_fn Tryz.func95 rfl rfl rfl rfl ?_
  simp (dsimp := false) (disch := first | exact dI | fail) only [XOB, ↓XXs, ↓XD, ↓YX, ZB, Nat.reduceAdd, Nat.reducePow, ↓reduceIte, eq_self, Int.reduceEq, Nat.reduceEqDiff, Nat.reduceMul, Nat.reduceLeDiff, Tryz.f95, ↓XH2, XRN, ZC, ZE, ZH, eq_self, Nat.reduceLeDiff, Nat.reduceBEq, slV_new, ZS, reduceIte, ↓op_extract, hor, hom, hw]
  refine okr_if (fun t1 => ?_) (fun t1 => ?_)
  · simp (dsimp := false) (disch := first | exact dI | fail) only [XOB, ↓XXs, ↓XD, ↓YX, ZB, Nat.reduceAdd, Nat.reducePow, ↓reduceIte, eq_self, Int.reduceEq, Nat.reduceEqDiff, Nat.reduceMul, Nat.reduceLeDiff, Tryz.f95, ↓XH2, XRN, ZC, ZE, ZH, eq_self, Nat.reduceLeDiff, Nat.reduceBEq, slV_new, ZS, reduceIte, ↓op_extract, hor, hom, hw]
    with_reducible refine Okr.ret ?_
    exact ⟨⟨_, [], _, rfl, .inl ⟨rfl, rfl⟩, trivial, by simp, .inl rfl⟩, by (first | exact Keep.app _ _ (Nat.le_refl _) | exact Keep.app _ _ (by first | assumption | omega))⟩
  · have hb : rx + 3 ≤ 20000 := by have := of_decide_eq_false t1; omega
    simp (dsimp := false) (disch := first | exact dI | fail) only [XOB, ↓XXs, ↓XD, ↓YX, ZB, Nat.reduceAdd, Nat.reducePow, ↓reduceIte, eq_self, Int.reduceEq, Nat.reduceEqDiff, Nat.reduceMul, Nat.reduceLeDiff, Tryz.f95, ↓XH2, XRN, ZC, ZE, ZH, eq_self, Nat.reduceLeDiff, Nat.reduceBEq, slV_new, ZS, reduceIte, ↓op_extract, hor, hom, hw]
    refine okr_if (fun t2 => ?_) (fun t2 => ?_)
    · simp (dsimp := false) (disch := first | exact dI | fail) only [XOB, ↓XXs, ↓XD, ↓YX, ZB, Nat.reduceAdd, Nat.reducePow, ↓reduceIte, eq_self, Int.reduceEq, Nat.reduceEqDiff, Nat.reduceMul, Nat.reduceLeDiff, Tryz.f95, ↓XH2, XRN, ZC, ZE, ZH, eq_self, Nat.reduceLeDiff, Nat.reduceBEq, slV_new, ZS, reduceIte, ↓op_extract, hor, hom, hw]
      refine okr_call (a6 _ _ (by first | rfl | omega | (simp (disch := first | exact dI | fail) only [ZK, ZL, ZR] <;> omega) | fail) (by (first | exact Keep.app _ _ (Nat.le_refl _) | exact Keep.app _ _ (by first | assumption | omega)))) ?_
      rintro _ h1 ⟨⟨lv2, es, c, rfl, e1, e2, e3⟩, k1⟩
      have kb : Keep h.length h h1 := Keep.trans (by (first | exact Keep.app _ _ (Nat.le_refl _) | exact Keep.app _ _ (by first | assumption | omega))) (k1.le (by simp only [List.length_append]; omega))
      simp (dsimp := false) (disch := first | exact dI | fail) only [XOB, ↓XXs, ↓XD, ↓YX, ZB, Nat.reduceAdd, Nat.reducePow, ↓reduceIte, eq_self, Int.reduceEq, Nat.reduceEqDiff, Nat.reduceMul, Nat.reduceLeDiff, Tryz.f95, ↓XH2, XRN, ZC, ZE, ZH, eq_self, Nat.reduceLeDiff, Nat.reduceBEq, slV_new, ZS, reduceIte, ↓op_extract, hor, hom, hw]
      with_reducible refine Okr.ret ?_
      exact ⟨⟨lv2, es, c, rfl, e1, e2, e3, .inr hb⟩, kb⟩
    · simp (dsimp := false) (disch := first | exact dI | fail) only [XOB, ↓XXs, ↓XD, ↓YX, ZB, Nat.reduceAdd, Nat.reducePow, ↓reduceIte, eq_self, Int.reduceEq, Nat.reduceEqDiff, Nat.reduceMul, Nat.reduceLeDiff, Tryz.f95, ↓XH2, XRN, ZC, ZE, ZH, eq_self, Nat.reduceLeDiff, Nat.reduceBEq, slV_new, ZS, reduceIte, ↓op_extract, hor, hom, hw, a2]
      refine okr_if (fun t3 => ?_) (fun t3 => ?_)
      · simp (dsimp := false) (disch := first | exact dI | fail) only [XOB, ↓XXs, ↓XD, ↓YX, ZB, Nat.reduceAdd, Nat.reducePow, ↓reduceIte, eq_self, Int.reduceEq, Nat.reduceEqDiff, Nat.reduceMul, Nat.reduceLeDiff, Tryz.f95, ↓XH2, XRN, ZC, ZE, ZH, eq_self, Nat.reduceLeDiff, Nat.reduceBEq, slV_new, ZS, reduceIte, ↓op_extract, hor, hom, hw]
        with_reducible refine Okr.ret ?_
        exact ⟨⟨_, [], _, rfl, .inl ⟨rfl, rfl⟩, trivial, by simp, .inl rfl⟩, by (first | exact Keep.app _ _ (Nat.le_refl _) | exact Keep.app _ _ (by first | assumption | omega))⟩
      · have hus : ofL us ms 0 ≠ -1 := by have := of_decide_eq_false t3; omega
        simp (dsimp := false) (disch := first | exact dI | fail) only [XOB, ↓XXs, ↓XD, ↓YX, ZB, Nat.reduceAdd, Nat.reducePow, ↓reduceIte, eq_self, Int.reduceEq, Nat.reduceEqDiff, Nat.reduceMul, Nat.reduceLeDiff, Tryz.f95, ↓XH2, XRN, ZC, ZE, ZH, eq_self, Nat.reduceLeDiff, Nat.reduceBEq, slV_new, ZS, reduceIte, ↓op_extract, hor, hom, hw]
        refine okr_call (a7 hus _ _ (by first | rfl | omega | (simp (disch := first | exact dI | fail) only [ZK, ZL, ZR] <;> omega) | fail) (by (first | exact Keep.app _ _ (Nat.le_refl _) | exact Keep.app _ _ (by first | assumption | omega)))) ?_
        rintro _ h1 ⟨⟨lv2, es, c, rfl, e1, e2, e3⟩, k1⟩
        have kb : Keep h.length h h1 := Keep.trans (by (first | exact Keep.app _ _ (Nat.le_refl _) | exact Keep.app _ _ (by first | assumption | omega))) (k1.le (by simp only [List.length_append]; omega))
        simp (dsimp := false) (disch := first | exact dI | fail) only [XOB, ↓XXs, ↓XD, ↓YX, ZB, Nat.reduceAdd, Nat.reducePow, ↓reduceIte, eq_self, Int.reduceEq, Nat.reduceEqDiff, Nat.reduceMul, Nat.reduceLeDiff, Tryz.f95, ↓XH2, XRN, ZC, ZE, ZH, eq_self, Nat.reduceLeDiff, Nat.reduceBEq, slV_new, ZS, reduceIte, ↓op_extract, hor, hom, hw]
        with_reducible refine Okr.ret ?_
        exact ⟨⟨lv2, es, c, rfl, e1, e2, e3, .inr hb⟩, kb⟩
end Go.Abs
namespace Go.Abs
open Go.Proofs
set_option maxRecDepth 100000
set_option linter.unusedSimpArgs false
set_option linter.unusedVariables false
set_option pp.maxSteps 20000
set_option pp.deepTerms true
/-! ### draws, with the heap told -/
abbrev rdO (va : Value) (p : Nat) : AObj := .row 0 2 [va, iV p]
structure OfQ (xs : List Bs) (H : AH) (id : Nat) (va : Value) (p : Nat) (v : Value) (h' : AH) : Prop where
  ex : ∃ x, v = sV x ∧ x ∈ xs
  k : h' = H.set id (rdO va (p + 1))
theorem okr_of {id : Nat} {va : Value} {n p l k i2 : Nat} {H : AH} {cs : List Value} (xs : List Bs) (r : Rd H id va n p) (hl : l ≤ id) (e : H[i2]? = some (.row 0 1 cs)) (hc : cs = sL xs) (hk : k = xs.length) (hi : i2 ≠ id) (h0 : 0 < xs.length) (hx : xs.length ≤ 2 ^ 20) (hn : n ≤ 2 ^ 62) (hp : p ≤ 2 ^ 40) :
    Okr (OfQ xs H id va p) (run V0 (.fn 84) l [S (pV id 0 0), S (slV i2 0 k k)] H) := by
  subst hc hk
  obtain ⟨x, h', a1, a2, a3⟩ := rq84 id va n p l H i2 xs r hl e hi h0 hx hn hp
  exact ⟨_, _, a2, ⟨x, rfl, a1⟩, a3⟩
structure PickQ (K : Nat) (H : AH) (id : Nat) (va : Value) (p : Nat) (v : Value) (h' : AH) : Prop where
  ex : ∃ m : Nat, v = iV m ∧ m < K
  k : h' = H.set id (rdO va (p + 1))
theorem okr_pick {id : Nat} {va : Value} {n p l : Nat} {H : AH} (K : Nat) {k : Int} (r : Rd H id va n p) (hl : l ≤ id) (hk : k = K) (h0 : 0 < K) (hx : K ≤ 2 ^ 20) (hn : n ≤ 2 ^ 62) (hp : p ≤ 2 ^ 40) :
    Okr (PickQ K H id va p) (run V0 (.fn 83) l [S (pV id 0 0), S (iV k)] H) := by
  subst hk
  obtain ⟨m, h', a1, a2, a3⟩ := rq83 id va n p K l H r hl h0 hx hn hp
  exact ⟨_, _, a1, ⟨m, rfl, a2⟩, a3⟩
structure OneQ (xs : List Int) (H : AH) (id : Nat) (va : Value) (p : Nat) (v : Value) (h' : AH) : Prop where
  ex : ∃ x, v = iV x ∧ x ∈ xs
  k : h' = H.set id (rdO va (p + 1))
theorem Rd.kp {h L : AH} {id : Nat} {va : Value} {n p : Nat} (r : Rd h id va n p) (p' : Nat) : Rd (h.set id (rdO va p') ++ L) id va n p' := by
  have hid := lt_of_get r.1
  exact (r.step p').keep (Keep.app _ _ (by rw [List.length_set]; omega))
theorem Rd.ap {h L : AH} {id : Nat} {va : Value} {n p : Nat} (r : Rd h id va n p) : Rd (h ++ L) id va n p := by
  have hid := lt_of_get r.1
  exact r.keep (Keep.app _ _ (by omega))
structure StrQ (H : AH) (id : Nat) (va : Value) (p : Nat) (v : Value) (h' : AH) : Prop where
  ex : ∃ x o, v = sV x ∧ x.length ≤ 64 ∧ h' = H.set id (rdO va (p + 1)) ++ [o]
theorem rq86 {id : Nat} {va : Value} {n p l : Nat} {H : AH} (r : Rd H id va n p) (hl : l ≤ id) (hn : n ≤ 2 ^ 62) (hp : p ≤ 2 ^ 40) :
    Okr (StrQ H id va p) (run V0 (.fn 86) l [S (pV id 0 0)] H) := by
  have hid := lt_of_get r.1
  refine okr_fn Tryz.func86 rfl rfl rfl rfl ?_
  simp (dsimp := false) (disch := first | exact dI | fail) only [XOB, ↓XXs, ↓XD, ↓YX, ZB, Nat.reduceAdd, Nat.reducePow, ↓reduceIte, eq_self, Int.reduceEq, Nat.reduceEqDiff, Nat.reduceMul, Nat.reduceLeDiff, Tryz.f86, ↓XH2, XRN, ZC, ZE, ZH, eq_self, Nat.reduceLeDiff, Nat.reduceBEq, slV_new, ZS, reduceIte, ↓op_extract]
  refine okr_call (okr_of [_, _, _, _, _, _] r.ap hl (by simp (disch := first | exact dI | fail) only [↓XH2, XRN, ZC, ZE, ZH, eq_self, Nat.reduceLeDiff, Nat.reduceBEq] <;> rfl) rfl rfl (by omega) (by simp) (by simp) hn hp) ?_
  rintro _ _ ⟨⟨x, rfl, hx⟩, rfl⟩
  simp (dsimp := false) (disch := first | exact dI | fail) only [XOB, ↓XXs, ↓XD, ↓YX, ZB, Nat.reduceAdd, Nat.reducePow, ↓reduceIte, eq_self, Int.reduceEq, Nat.reduceEqDiff, Nat.reduceMul, Nat.reduceLeDiff, Tryz.f86, ↓XH2, XRN, ZC, ZE, ZH, eq_self, Nat.reduceLeDiff, Nat.reduceBEq, slV_new, ZS, reduceIte, ↓op_extract]
  with_reducible refine Okr.ret ?_
  refine ⟨x, _, rfl, ?_, rfl⟩
  revert x; decide
theorem rq97 {id : Nat} {va : Value} {n p l : Nat} {H : AH} (r : Rd H id va n p) (hl : l ≤ id) (hn : n ≤ 2 ^ 62) (hp : p ≤ 2 ^ 40) :
    Okr (StrQ H id va p) (run V0 (.fn 97) l [S (pV id 0 0)] H) := by
  have hid := lt_of_get r.1
  refine okr_fn Tryz.func97 rfl rfl rfl rfl ?_
  simp (dsimp := false) (disch := first | exact dI | fail) only [XOB, ↓XXs, ↓XD, ↓YX, ZB, Nat.reduceAdd, Nat.reducePow, ↓reduceIte, eq_self, Int.reduceEq, Nat.reduceEqDiff, Nat.reduceMul, Nat.reduceLeDiff, Tryz.f97, ↓XH2, XRN, ZC, ZE, ZH, eq_self, Nat.reduceLeDiff, Nat.reduceBEq, slV_new, ZS, reduceIte, ↓op_extract]
  refine okr_call (okr_of [_, _, _, _, _, _] r.ap hl (by simp (disch := first | exact dI | fail) only [↓XH2, XRN, ZC, ZE, ZH, eq_self, Nat.reduceLeDiff, Nat.reduceBEq] <;> rfl) rfl rfl (by omega) (by simp) (by simp) hn hp) ?_
  rintro _ _ ⟨⟨x, rfl, hx⟩, rfl⟩
  simp (dsimp := false) (disch := first | exact dI | fail) only [XOB, ↓XXs, ↓XD, ↓YX, ZB, Nat.reduceAdd, Nat.reducePow, ↓reduceIte, eq_self, Int.reduceEq, Nat.reduceEqDiff, Nat.reduceMul, Nat.reduceLeDiff, Tryz.f97, ↓XH2, XRN, ZC, ZE, ZH, eq_self, Nat.reduceLeDiff, Nat.reduceBEq, slV_new, ZS, reduceIte, ↓op_extract]
  with_reducible refine Okr.ret ?_
  refine ⟨x, _, rfl, ?_, rfl⟩
  revert x; decide
theorem rq87 {id : Nat} {va : Value} {n p l : Nat} {H : AH} (r : Rd H id va n p) (hl : l ≤ id) (hn : n ≤ 2 ^ 62) (hp : p ≤ 2 ^ 40) :
    Okr (StrQ H id va p) (run V0 (.fn 87) l [S (pV id 0 0)] H) := by
  have hid := lt_of_get r.1
  refine okr_fn Tryz.func87 rfl rfl rfl rfl ?_
  simp (dsimp := false) (disch := first | exact dI | fail) only [XOB, ↓XXs, ↓XD, ↓YX, ZB, Nat.reduceAdd, Nat.reducePow, ↓reduceIte, eq_self, Int.reduceEq, Nat.reduceEqDiff, Nat.reduceMul, Nat.reduceLeDiff, Tryz.f87, ↓XH2, XRN, ZC, ZE, ZH, eq_self, Nat.reduceLeDiff, Nat.reduceBEq, slV_new, ZS, reduceIte, ↓op_extract]
  refine okr_call (okr_of [_, _, _, _, _] r.ap hl (by simp (disch := first | exact dI | fail) only [↓XH2, XRN, ZC, ZE, ZH, eq_self, Nat.reduceLeDiff, Nat.reduceBEq] <;> rfl) rfl rfl (by omega) (by simp) (by simp) hn hp) ?_
  rintro _ _ ⟨⟨x, rfl, hx⟩, rfl⟩
  simp (dsimp := false) (disch := first | exact dI | fail) only [XOB, ↓XXs, ↓XD, ↓YX, ZB, Nat.reduceAdd, Nat.reducePow, ↓reduceIte, eq_self, Int.reduceEq, Nat.reduceEqDiff, Nat.reduceMul, Nat.reduceLeDiff, Tryz.f87, ↓XH2, XRN, ZC, ZE, ZH, eq_self, Nat.reduceLeDiff, Nat.reduceBEq, slV_new, ZS, reduceIte, ↓op_extract]
  with_reducible refine Okr.ret ?_
  refine ⟨x, _, rfl, ?_, rfl⟩
  revert x; decide
structure CleanQ (H : AH) (v : Value) (h' : AH) : Prop where
  ex : ∃ s : Sa, v = s.V ∧ s.F
  k : Keep H.length H h'
theorem rq118 (s : Sa) (l : Nat) (h : AH) (hl : l ≤ h.length) (fs : s.F) :
    Okr (CleanQ h) (run V0 (.fn 118) l [S s.V] h) := by
  rcases s with ⟨sk, sr, sn, sm, si, sf, st, su, sa, sb⟩
  obtain ⟨f1, f2, f3, f4, f5, f6⟩ := fs
  simp only at f1 f2 f3 f4 f5 f6
  have f0 : ([] : Bs).length ≤ 64 := by simp
  refine okr_fn Tryz.func118 rfl rfl rfl rfl ?_
  simp (dsimp := false) (disch := first | exact dI | fail) only [XOB, ↓XXs, ↓XD, ↓YX, ZB, Nat.reduceAdd, Nat.reducePow, ↓reduceIte, eq_self, Int.reduceEq, Nat.reduceEqDiff, Nat.reduceMul, Nat.reduceLeDiff, Tryz.f118, ↓XH2, XRN, ZC, ZE, ZH, eq_self, Nat.reduceLeDiff, Nat.reduceBEq, slV_new, ZS, reduceIte, ↓op_extract]
  repeat' with_reducible refine okr_if (fun _ => ?_) (fun _ => ?_) <;> simp (dsimp := false) (disch := first | exact dI | fail) only [XOB, ↓XXs, ↓XD, ↓YX, ZB, Nat.reduceAdd, Nat.reducePow, ↓reduceIte, eq_self, Int.reduceEq, Nat.reduceEqDiff, Nat.reduceMul, Nat.reduceLeDiff, Tryz.f118, ↓XH2, XRN, ZC, ZE, ZH, eq_self, Nat.reduceLeDiff, Nat.reduceBEq, slV_new, ZS, reduceIte, ↓op_extract]
  all_goals
    with_reducible refine Okr.ret ?_
    exact ⟨⟨⟨_, _, _, _, _, _, _, _, _, _⟩, rfl, ⟨by assumption, by assumption, by assumption, by assumption, by assumption, by assumption⟩⟩, by (first | exact Keep.app _ _ (Nat.le_refl _) | exact Keep.app _ _ (by first | assumption | omega))⟩
end Go.Abs
namespace Go.Abs
open Go.Proofs
set_option maxRecDepth 100000
set_option linter.unusedSimpArgs false
set_option linter.unusedVariables false
set_option pp.maxSteps 20000
set_option pp.deepTerms true
theorem okr_one {id : Nat} {va : Value} {n p l k i2 : Nat} {H : AH} {cs : List Value} (xs : List Int) (r : Rd H id va n p) (hl : l ≤ id) (e : H[i2]? = some (.row 0 1 cs)) (hc : cs = iL xs) (hk : k = xs.length) (hi : i2 ≠ id) (h0 : 0 < xs.length) (hx : xs.length ≤ 2 ^ 20) (hn : n ≤ 2 ^ 62) (hp : p ≤ 2 ^ 40) :
    Okr (OneQ xs H id va p) (run V0 (.fn 85) l [S (pV id 0 0), S (slV i2 0 k k)] H) := by
  subst hc hk
  obtain ⟨m, h', a1, a2, a3⟩ := rq83 id va n p xs.length l H r hl h0 hx hn hp
  refine ⟨iV xs[m], h', run_fn Tryz.func85 rfl rfl rfl rfl ?_, ⟨xs[m], rfl, List.getElem_mem a2⟩, a3⟩
  have hix : ixAddr (slV i2 0 xs.length xs.length) (m : Int) 1 = some (pV i2 m 0) := by rw [ixAddr_sl a2]; simp
  have hld : ld h' (pV i2 m 0) = some (iV xs[m]) := ld_of (by rw [a3, List.getElem?_set_ne (Ne.symm hi), e]) (by simp [iL, a2])
  simp only [↓XX, ↓XD, ↓YX, ZB, Nat.reduceAdd, Nat.reducePow, ↓reduceIte, eq_self, Int.reduceEq, Nat.reduceEqDiff, Nat.reduceMul, Nat.reduceLeDiff, Tryz.f85, lenV, a1, hix, hld]
structure SayQ (H : AH) (id : Nat) (va : Value) (n p : Nat) (v : Value) (h' : AH) : Prop where
  ex : ∃ s : Sa, v = s.V ∧ s.F
  r : ∃ p', p' ≤ p + 14 ∧ Rd h' id va n p'
  k : KX H.length id H h'
theorem SayQ.fin {H L h1 h2 : AH} {id : Nat} {va : Value} {n p : Nat} {o : AObj} {s : Sa} (k : Nat) (hk : k ≤ 14) (r : Rd H id va n p) (hid : id < H.length) (fq : s.F) (k1 : Keep (H.set id (rdO va (p + k)) ++ L).length (H.set id (rdO va (p + k)) ++ L) h1) (e : h2 = h1.set H.length o) :
    SayQ H id va n p s.V h2 := by
  subst e
  have kk : Keep H.length (H.set id (rdO va (p + k)) ++ L) (h1.set H.length o) := (k1.le (by simp)).trans (Keep.set _ _ _ (Nat.le_refl _))
  refine ⟨⟨s, rfl, fq⟩, ⟨p + k, by omega, (r.kp (L := L) (p + k)).keep (kk.le (by omega))⟩, ?_⟩
  have c1 : KX H.length id H (H.set id (rdO va (p + k))) := KX.set _ _ _ _
  have c2 : KX H.length id (H.set id (rdO va (p + k))) (H.set id (rdO va (p + k)) ++ L) := (Keep.app _ _ (by simp)).kx (Nat.le_refl _)
  exact KX.trans c1 (KX.trans c2 (kk.kx (Nat.le_refl _)))
set_option maxHeartbeats 4000000 in
theorem rq96 {id : Nat} {va : Value} {n p l : Nat} {H : AH} (r : Rd H id va n p) (hl : l ≤ id) (hn : n ≤ 2 ^ 62) (hp : p ≤ 2 ^ 39) :
    Okr (SayQ H id va n p) (run V0 (.fn 96) l [S (pV id 0 0)] H) := by
  have hid := lt_of_get r.1
  refine okr_fn Tryz.func96 rfl rfl rfl rfl ?_
  simp (dsimp := false) (disch := first | exact dI | fail) only [XOB, ↓XXs, ↓XD, ↓YX, ZB, Nat.reduceAdd, Nat.reducePow, ↓reduceIte, eq_self, Int.reduceEq, Nat.reduceEqDiff, Nat.reduceMul, Nat.reduceLeDiff, Tryz.f96, ↓XH2, XRN, ZC, ZE, ZH, eq_self, Nat.reduceLeDiff, Nat.reduceBEq, slV_new, ZS, reduceIte, ↓op_extract]
  refine okr_call (okr_one [_, _, _, _, _, _, _, _, _, _, _, _, _] r.ap hl (by simp (disch := first | exact dI | fail) only [↓XH2, XRN, ZC, ZE, ZH, eq_self, Nat.reduceLeDiff, Nat.reduceBEq] <;> rfl) rfl rfl (by omega) (by simp) (by simp) hn (by omega)) ?_
  rintro _ _ ⟨⟨kd, rfl, hkd⟩, rfl⟩
  simp (dsimp := false) (disch := first | exact dI | fail) only [XOB, ↓XXs, ↓XD, ↓YX, ZB, Nat.reduceAdd, Nat.reducePow, ↓reduceIte, eq_self, Int.reduceEq, Nat.reduceEqDiff, Nat.reduceMul, Nat.reduceLeDiff, Tryz.f96, ↓XH2, XRN, ZC, ZE, ZH, eq_self, Nat.reduceLeDiff, Nat.reduceBEq, slV_new, ZS, reduceIte, ↓op_extract]
  refine okr_call (rq97 (r.kp (p + 1)) hl hn (by omega)) ?_
  rintro _ _ ⟨rm, orm, rfl, hrm, rfl⟩
  simp (dsimp := false) (disch := first | exact dI | fail) only [XOB, ↓XXs, ↓XD, ↓YX, ZB, Nat.reduceAdd, Nat.reducePow, ↓reduceIte, eq_self, Int.reduceEq, Nat.reduceEqDiff, Nat.reduceMul, Nat.reduceLeDiff, Tryz.f96, ↓XH2, XRN, ZC, ZE, ZH, eq_self, Nat.reduceLeDiff, Nat.reduceBEq, slV_new, ZS, reduceIte, ↓op_extract]
  refine okr_call (okr_of [_, _, _] (r.kp (p + 2)) hl (by simp (disch := first | exact dI | fail) only [↓XH2, XRN, ZC, ZE, ZH, eq_self, Nat.reduceLeDiff, Nat.reduceBEq] <;> rfl) rfl rfl (by omega) (by simp) (by simp) hn (by omega)) ?_
  rintro _ _ ⟨⟨d1, rfl, hd1⟩, rfl⟩
  have fd1 : d1.length ≤ 64 := by revert d1; decide
  simp (dsimp := false) (disch := first | exact dI | fail) only [XOB, ↓XXs, ↓XD, ↓YX, ZB, Nat.reduceAdd, Nat.reducePow, ↓reduceIte, eq_self, Int.reduceEq, Nat.reduceEqDiff, Nat.reduceMul, Nat.reduceLeDiff, Tryz.f96, ↓XH2, XRN, ZC, ZE, ZH, eq_self, Nat.reduceLeDiff, Nat.reduceBEq, slV_new, ZS, reduceIte, ↓op_extract]
  refine okr_call (rq87 (r.kp (p + 3)) hl hn (by omega)) ?_
  rintro _ _ ⟨nk, onk, rfl, hnk, rfl⟩
  simp (dsimp := false) (disch := first | exact dI | fail) only [XOB, ↓XXs, ↓XD, ↓YX, ZB, Nat.reduceAdd, Nat.reducePow, ↓reduceIte, eq_self, Int.reduceEq, Nat.reduceEqDiff, Nat.reduceMul, Nat.reduceLeDiff, Tryz.f96, ↓XH2, XRN, ZC, ZE, ZH, eq_self, Nat.reduceLeDiff, Nat.reduceBEq, slV_new, ZS, reduceIte, ↓op_extract]
  refine okr_call (rq86 (r.kp (p + 4)) hl hn (by omega)) ?_
  rintro _ _ ⟨us, ous, rfl, hus, rfl⟩
  simp (dsimp := false) (disch := first | exact dI | fail) only [XOB, ↓XXs, ↓XD, ↓YX, ZB, Nat.reduceAdd, Nat.reducePow, ↓reduceIte, eq_self, Int.reduceEq, Nat.reduceEqDiff, Nat.reduceMul, Nat.reduceLeDiff, Tryz.f96, ↓XH2, XRN, ZC, ZE, ZH, eq_self, Nat.reduceLeDiff, Nat.reduceBEq, slV_new, ZS, reduceIte, ↓op_extract]
  refine okr_call (okr_of [_, _, _, _, _, _] (r.kp (p + 5)) hl (by simp (disch := first | exact dI | fail) only [↓XH2, XRN, ZC, ZE, ZH, eq_self, Nat.reduceLeDiff, Nat.reduceBEq] <;> rfl) rfl rfl (by omega) (by simp) (by simp) hn (by omega)) ?_
  rintro _ _ ⟨⟨tx, rfl, htx⟩, rfl⟩
  have ftx : tx.length ≤ 64 := by revert tx; decide
  simp (dsimp := false) (disch := first | exact dI | fail) only [XOB, ↓XXs, ↓XD, ↓YX, ZB, Nat.reduceAdd, Nat.reducePow, ↓reduceIte, eq_self, Int.reduceEq, Nat.reduceEqDiff, Nat.reduceMul, Nat.reduceLeDiff, Tryz.f96, ↓XH2, XRN, ZC, ZE, ZH, eq_self, Nat.reduceLeDiff, Nat.reduceBEq, slV_new, ZS, reduceIte, ↓op_extract]
  refine okr_call (okr_of [_, _, _, _] (r.kp (p + 6)) hl (by simp (disch := first | exact dI | fail) only [↓XH2, XRN, ZC, ZE, ZH, eq_self, Nat.reduceLeDiff, Nat.reduceBEq] <;> rfl) rfl rfl (by omega) (by simp) (by simp) hn (by omega)) ?_
  rintro _ _ ⟨⟨rf, rfl, hrf⟩, rfl⟩
  have frf : rf.length ≤ 64 := by revert rf; decide
  simp (dsimp := false) (disch := first | exact dI | fail) only [XOB, ↓XXs, ↓XD, ↓YX, ZB, Nat.reduceAdd, Nat.reducePow, ↓reduceIte, eq_self, Int.reduceEq, Nat.reduceEqDiff, Nat.reduceMul, Nat.reduceLeDiff, Tryz.f96, ↓XH2, XRN, ZC, ZE, ZH, eq_self, Nat.reduceLeDiff, Nat.reduceBEq, slV_new, ZS, reduceIte, ↓op_extract]
  refine okr_if (fun _ => ?_) (fun _ => ?_)
  · simp (dsimp := false) (disch := first | exact dI | fail) only [XOB, ↓XXs, ↓XD, ↓YX, ZB, Nat.reduceAdd, Nat.reducePow, ↓reduceIte, eq_self, Int.reduceEq, Nat.reduceEqDiff, Nat.reduceMul, Nat.reduceLeDiff, Tryz.f96, ↓XH2, XRN, ZC, ZE, ZH, eq_self, Nat.reduceLeDiff, Nat.reduceBEq, slV_new, ZS, reduceIte, ↓op_extract]
    refine okr_call (okr_pick 4 (r.kp (p + 7)) hl rfl (by simp) (by simp) hn (by omega)) ?_
    rintro _ _ ⟨⟨m, rfl, hm⟩, rfl⟩
    simp (dsimp := false) (disch := first | exact dI | fail) only [XOB, ↓XXs, ↓XD, ↓YX, ZB, Nat.reduceAdd, Nat.reducePow, ↓reduceIte, eq_self, Int.reduceEq, Nat.reduceEqDiff, Nat.reduceMul, Nat.reduceLeDiff, Tryz.f96, ↓XH2, XRN, ZC, ZE, ZH, eq_self, Nat.reduceLeDiff, Nat.reduceBEq, slV_new, ZS, reduceIte, ↓op_extract]
    refine okr_call (rq118 ⟨_, _, _, _, _, _, _, _, _, _⟩ l _ (by first | rfl | omega | (simp (disch := first | exact dI | fail) only [ZK, ZL, ZR] <;> omega) | fail) ⟨hrm, hnk, hus, fd1, frf, ftx⟩) ?_
    rintro _ h1 ⟨⟨⟨q0, q1, q2, q3, q4, q5, q6, q7, q8, q9⟩, rfl, fq⟩, k1⟩
    have k1' := k1.1
    have k1'' := k1.2
    simp only [List.length_append, List.length_set, List.length_cons, List.length_nil, Nat.zero_add, Nat.reduceAdd] at k1' k1''
    simp (dsimp := false) (disch := first | exact dI | fail) only [XOB, ↓XXs, ↓XD, ↓YX, ZB, Nat.reduceAdd, Nat.reducePow, ↓reduceIte, eq_self, Int.reduceEq, Nat.reduceEqDiff, Nat.reduceMul, Nat.reduceLeDiff, Tryz.f96, ↓XH2, XRN, ZC, ZE, ZH, eq_self, Nat.reduceLeDiff, Nat.reduceBEq, slV_new, ZS, reduceIte, ↓op_extract, k1'']
    with_reducible refine Okr.ret ?_
    exact SayQ.fin 8 (by omega) r hid fq k1 rfl
  · simp (dsimp := false) (disch := first | exact dI | fail) only [XOB, ↓XXs, ↓XD, ↓YX, ZB, Nat.reduceAdd, Nat.reducePow, ↓reduceIte, eq_self, Int.reduceEq, Nat.reduceEqDiff, Nat.reduceMul, Nat.reduceLeDiff, Tryz.f96, ↓XH2, XRN, ZC, ZE, ZH, eq_self, Nat.reduceLeDiff, Nat.reduceBEq, slV_new, ZS, reduceIte, ↓op_extract]
    refine okr_if (fun _ => ?_) (fun _ => ?_)
    · simp (dsimp := false) (disch := first | exact dI | fail) only [XOB, ↓XXs, ↓XD, ↓YX, ZB, Nat.reduceAdd, Nat.reducePow, ↓reduceIte, eq_self, Int.reduceEq, Nat.reduceEqDiff, Nat.reduceMul, Nat.reduceLeDiff, Tryz.f96, ↓XH2, XRN, ZC, ZE, ZH, eq_self, Nat.reduceLeDiff, Nat.reduceBEq, slV_new, ZS, reduceIte, ↓op_extract]
      refine okr_call (okr_pick 5 (r.kp (p + 7)) hl rfl (by simp) (by simp) hn (by omega)) ?_
      rintro _ _ ⟨⟨m, rfl, hm⟩, rfl⟩
      simp (dsimp := false) (disch := first | exact dI | fail) only [XOB, ↓XXs, ↓XD, ↓YX, ZB, Nat.reduceAdd, Nat.reducePow, ↓reduceIte, eq_self, Int.reduceEq, Nat.reduceEqDiff, Nat.reduceMul, Nat.reduceLeDiff, Tryz.f96, ↓XH2, XRN, ZC, ZE, ZH, eq_self, Nat.reduceLeDiff, Nat.reduceBEq, slV_new, ZS, reduceIte, ↓op_extract]
      refine okr_call (rq118 ⟨_, _, _, _, _, _, _, _, _, _⟩ l _ (by first | rfl | omega | (simp (disch := first | exact dI | fail) only [ZK, ZL, ZR] <;> omega) | fail) ⟨hrm, hnk, hus, fd1, frf, ftx⟩) ?_
      rintro _ h1 ⟨⟨⟨q0, q1, q2, q3, q4, q5, q6, q7, q8, q9⟩, rfl, fq⟩, k1⟩
      have k1' := k1.1
      have k1'' := k1.2
      simp only [List.length_append, List.length_set, List.length_cons, List.length_nil, Nat.zero_add, Nat.reduceAdd] at k1' k1''
      simp (dsimp := false) (disch := first | exact dI | fail) only [XOB, ↓XXs, ↓XD, ↓YX, ZB, Nat.reduceAdd, Nat.reducePow, ↓reduceIte, eq_self, Int.reduceEq, Nat.reduceEqDiff, Nat.reduceMul, Nat.reduceLeDiff, Tryz.f96, ↓XH2, XRN, ZC, ZE, ZH, eq_self, Nat.reduceLeDiff, Nat.reduceBEq, slV_new, ZS, reduceIte, ↓op_extract, k1'']
      with_reducible refine Okr.ret ?_
      exact SayQ.fin 8 (by omega) r hid fq k1 rfl
    · simp (dsimp := false) (disch := first | exact dI | fail) only [XOB, ↓XXs, ↓XD, ↓YX, ZB, Nat.reduceAdd, Nat.reducePow, ↓reduceIte, eq_self, Int.reduceEq, Nat.reduceEqDiff, Nat.reduceMul, Nat.reduceLeDiff, Tryz.f96, ↓XH2, XRN, ZC, ZE, ZH, eq_self, Nat.reduceLeDiff, Nat.reduceBEq, slV_new, ZS, reduceIte, ↓op_extract]
      refine okr_if (fun _ => ?_) (fun _ => ?_)
      · simp (dsimp := false) (disch := first | exact dI | fail) only [XOB, ↓XXs, ↓XD, ↓YX, ZB, Nat.reduceAdd, Nat.reducePow, ↓reduceIte, eq_self, Int.reduceEq, Nat.reduceEqDiff, Nat.reduceMul, Nat.reduceLeDiff, Tryz.f96, ↓XH2, XRN, ZC, ZE, ZH, eq_self, Nat.reduceLeDiff, Nat.reduceBEq, slV_new, ZS, reduceIte, ↓op_extract]
        refine okr_call (okr_pick 4 (r.kp (p + 7)) hl rfl (by simp) (by simp) hn (by omega)) ?_
        rintro _ _ ⟨⟨m, rfl, hm⟩, rfl⟩
        simp (dsimp := false) (disch := first | exact dI | fail) only [XOB, ↓XXs, ↓XD, ↓YX, ZB, Nat.reduceAdd, Nat.reducePow, ↓reduceIte, eq_self, Int.reduceEq, Nat.reduceEqDiff, Nat.reduceMul, Nat.reduceLeDiff, Tryz.f96, ↓XH2, XRN, ZC, ZE, ZH, eq_self, Nat.reduceLeDiff, Nat.reduceBEq, slV_new, ZS, reduceIte, ↓op_extract]
        refine okr_call (okr_one [_, _, _, _, _, _] (r.kp (p + 8)) hl (by simp (disch := first | exact dI | fail) only [↓XH2, XRN, ZC, ZE, ZH, eq_self, Nat.reduceLeDiff, Nat.reduceBEq] <;> rfl) rfl rfl (by omega) (by simp) (by simp) hn (by omega)) ?_
        rintro _ _ ⟨⟨fr, rfl, hfr⟩, rfl⟩
        simp (dsimp := false) (disch := first | exact dI | fail) only [XOB, ↓XXs, ↓XD, ↓YX, ZB, Nat.reduceAdd, Nat.reducePow, ↓reduceIte, eq_self, Int.reduceEq, Nat.reduceEqDiff, Nat.reduceMul, Nat.reduceLeDiff, Tryz.f96, ↓XH2, XRN, ZC, ZE, ZH, eq_self, Nat.reduceLeDiff, Nat.reduceBEq, slV_new, ZS, reduceIte, ↓op_extract]
        refine okr_call (okr_pick 3 (r.kp (p + 9)) hl rfl (by simp) (by simp) hn (by omega)) ?_
        rintro _ _ ⟨⟨m2, rfl, hm2⟩, rfl⟩
        simp (dsimp := false) (disch := first | exact dI | fail) only [XOB, ↓XXs, ↓XD, ↓YX, ZB, Nat.reduceAdd, Nat.reducePow, ↓reduceIte, eq_self, Int.reduceEq, Nat.reduceEqDiff, Nat.reduceMul, Nat.reduceLeDiff, Tryz.f96, ↓XH2, XRN, ZC, ZE, ZH, eq_self, Nat.reduceLeDiff, Nat.reduceBEq, slV_new, ZS, reduceIte, ↓op_extract]
        refine okr_if (fun _ => ?_) (fun _ => ?_)
        · simp (dsimp := false) (disch := first | exact dI | fail) only [XOB, ↓XXs, ↓XD, ↓YX, ZB, Nat.reduceAdd, Nat.reducePow, ↓reduceIte, eq_self, Int.reduceEq, Nat.reduceEqDiff, Nat.reduceMul, Nat.reduceLeDiff, Tryz.f96, ↓XH2, XRN, ZC, ZE, ZH, eq_self, Nat.reduceLeDiff, Nat.reduceBEq, slV_new, ZS, reduceIte, ↓op_extract]
          refine okr_call (okr_of [_, _, _] (r.kp (p + 10)) hl (by simp (disch := first | exact dI | fail) only [↓XH2, XRN, ZC, ZE, ZH, eq_self, Nat.reduceLeDiff, Nat.reduceBEq] <;> rfl) rfl rfl (by omega) (by simp) (by simp) hn (by omega)) ?_
          rintro _ _ ⟨⟨n2, rfl, hn2⟩, rfl⟩
          have fn2 : n2.length ≤ 64 := by simp only [List.mem_cons, List.not_mem_nil, or_false] at hn2; rcases hn2 with q | q | q <;> rw [q] <;> first | assumption | simp
          simp (dsimp := false) (disch := first | exact dI | fail) only [XOB, ↓XXs, ↓XD, ↓YX, ZB, Nat.reduceAdd, Nat.reducePow, ↓reduceIte, eq_self, Int.reduceEq, Nat.reduceEqDiff, Nat.reduceMul, Nat.reduceLeDiff, Tryz.f96, ↓XH2, XRN, ZC, ZE, ZH, eq_self, Nat.reduceLeDiff, Nat.reduceBEq, slV_new, ZS, reduceIte, ↓op_extract]
          refine okr_call (rq118 ⟨_, _, _, _, _, _, _, _, _, _⟩ l _ (by first | rfl | omega | (simp (disch := first | exact dI | fail) only [ZK, ZL, ZR] <;> omega) | fail) ⟨hrm, hnk, fn2, fd1, frf, ftx⟩) ?_
          rintro _ h1 ⟨⟨⟨q0, q1, q2, q3, q4, q5, q6, q7, q8, q9⟩, rfl, fq⟩, k1⟩
          have k1' := k1.1
          have k1'' := k1.2
          simp only [List.length_append, List.length_set, List.length_cons, List.length_nil, Nat.zero_add, Nat.reduceAdd] at k1' k1''
          simp (dsimp := false) (disch := first | exact dI | fail) only [XOB, ↓XXs, ↓XD, ↓YX, ZB, Nat.reduceAdd, Nat.reducePow, ↓reduceIte, eq_self, Int.reduceEq, Nat.reduceEqDiff, Nat.reduceMul, Nat.reduceLeDiff, Tryz.f96, ↓XH2, XRN, ZC, ZE, ZH, eq_self, Nat.reduceLeDiff, Nat.reduceBEq, slV_new, ZS, reduceIte, ↓op_extract, k1'']
          with_reducible refine Okr.ret ?_
          exact SayQ.fin 11 (by omega) r hid fq k1 rfl
        · simp (dsimp := false) (disch := first | exact dI | fail) only [XOB, ↓XXs, ↓XD, ↓YX, ZB, Nat.reduceAdd, Nat.reducePow, ↓reduceIte, eq_self, Int.reduceEq, Nat.reduceEqDiff, Nat.reduceMul, Nat.reduceLeDiff, Tryz.f96, ↓XH2, XRN, ZC, ZE, ZH, eq_self, Nat.reduceLeDiff, Nat.reduceBEq, slV_new, ZS, reduceIte, ↓op_extract]
          refine okr_call (okr_of [_, _, _] (r.kp (p + 10)) hl (by simp (disch := first | exact dI | fail) only [↓XH2, XRN, ZC, ZE, ZH, eq_self, Nat.reduceLeDiff, Nat.reduceBEq] <;> rfl) rfl rfl (by omega) (by simp) (by simp) hn (by omega)) ?_
          rintro _ _ ⟨⟨n2, rfl, hn2⟩, rfl⟩
          have fn2 : n2.length ≤ 64 := by simp only [List.mem_cons, List.not_mem_nil, or_false] at hn2; rcases hn2 with q | q | q <;> rw [q] <;> first | assumption | simp
          simp (dsimp := false) (disch := first | exact dI | fail) only [XOB, ↓XXs, ↓XD, ↓YX, ZB, Nat.reduceAdd, Nat.reducePow, ↓reduceIte, eq_self, Int.reduceEq, Nat.reduceEqDiff, Nat.reduceMul, Nat.reduceLeDiff, Tryz.f96, ↓XH2, XRN, ZC, ZE, ZH, eq_self, Nat.reduceLeDiff, Nat.reduceBEq, slV_new, ZS, reduceIte, ↓op_extract]
          refine okr_call (rq118 ⟨_, _, _, _, _, _, _, _, _, _⟩ l _ (by first | rfl | omega | (simp (disch := first | exact dI | fail) only [ZK, ZL, ZR] <;> omega) | fail) ⟨hrm, hnk, fn2, fd1, frf, ftx⟩) ?_
          rintro _ h1 ⟨⟨⟨q0, q1, q2, q3, q4, q5, q6, q7, q8, q9⟩, rfl, fq⟩, k1⟩
          have k1' := k1.1
          have k1'' := k1.2
          simp only [List.length_append, List.length_set, List.length_cons, List.length_nil, Nat.zero_add, Nat.reduceAdd] at k1' k1''
          simp (dsimp := false) (disch := first | exact dI | fail) only [XOB, ↓XXs, ↓XD, ↓YX, ZB, Nat.reduceAdd, Nat.reducePow, ↓reduceIte, eq_self, Int.reduceEq, Nat.reduceEqDiff, Nat.reduceMul, Nat.reduceLeDiff, Tryz.f96, ↓XH2, XRN, ZC, ZE, ZH, eq_self, Nat.reduceLeDiff, Nat.reduceBEq, slV_new, ZS, reduceIte, ↓op_extract, k1'']
          with_reducible refine Okr.ret ?_
          exact SayQ.fin 11 (by omega) r hid fq k1 rfl
      · simp (dsimp := false) (disch := first | exact dI | fail) only [XOB, ↓XXs, ↓XD, ↓YX, ZB, Nat.reduceAdd, Nat.reducePow, ↓reduceIte, eq_self, Int.reduceEq, Nat.reduceEqDiff, Nat.reduceMul, Nat.reduceLeDiff, Tryz.f96, ↓XH2, XRN, ZC, ZE, ZH, eq_self, Nat.reduceLeDiff, Nat.reduceBEq, slV_new, ZS, reduceIte, ↓op_extract]
        refine okr_call (rq118 ⟨_, _, _, _, _, _, _, _, _, _⟩ l _ (by first | rfl | omega | (simp (disch := first | exact dI | fail) only [ZK, ZL, ZR] <;> omega) | fail) ⟨hrm, hnk, hus, fd1, frf, ftx⟩) ?_
        rintro _ h1 ⟨⟨⟨q0, q1, q2, q3, q4, q5, q6, q7, q8, q9⟩, rfl, fq⟩, k1⟩
        have k1' := k1.1
        have k1'' := k1.2
        simp only [List.length_append, List.length_set, List.length_cons, List.length_nil, Nat.zero_add, Nat.reduceAdd] at k1' k1''
        simp (dsimp := false) (disch := first | exact dI | fail) only [XOB, ↓XXs, ↓XD, ↓YX, ZB, Nat.reduceAdd, Nat.reducePow, ↓reduceIte, eq_self, Int.reduceEq, Nat.reduceEqDiff, Nat.reduceMul, Nat.reduceLeDiff, Tryz.f96, ↓XH2, XRN, ZC, ZE, ZH, eq_self, Nat.reduceLeDiff, Nat.reduceBEq, slV_new, ZS, reduceIte, ↓op_extract, k1'']
        with_reducible refine Okr.ret ?_
        exact SayQ.fin 7 (by omega) r hid fq k1 rfl
end Go.Abs
namespace Go.Abs
open Go.Proofs
set_option maxRecDepth 100000
set_option linter.unusedSimpArgs false
set_option linter.unusedVariables false
/-! ### what happened, in the order of each room -/
def Inc (log : List En) : Prop := log.Pairwise (fun a b => a.room = b.room → a.seq < b.seq) ∧ ∀ x ∈ log, x.F ∧ x.S
theorem nextL_ge (nm : Bs) : ∀ (r : List En) (y : Int), r.Pairwise (fun a b => a.room = b.room → a.seq < b.seq) → (∀ b ∈ r, b.room = nm → y ≤ b.seq) → y ≤ nextL nm r y
  | [], y, _, _ => Int.le_refl _
  | b :: r, y, hp, hy => by
    simp only [nextL]
    rw [List.pairwise_cons] at hp
    by_cases h : b.room = nm
    · rw [if_pos h]
      have h1 := hy b (by simp) h
      have h2 := nextL_ge nm r (b.seq + 1) hp.2 (fun c hc hcn => by have := hp.1 c hc (by rw [h, hcn]); omega)
      omega
    · rw [if_neg h]
      exact nextL_ge nm r y hp.2 (fun c hc => hy c (by simp [hc]))
theorem nextL_gt (nm : Bs) : ∀ (r : List En) (x : Int), r.Pairwise (fun a b => a.room = b.room → a.seq < b.seq) → ∀ a ∈ r, a.room = nm → a.seq < nextL nm r x
  | [], x, _, a, ha, _ => by simp at ha
  | b :: r, x, hp, a, ha, hr => by
    simp only [nextL]
    rw [List.pairwise_cons] at hp
    rcases List.mem_cons.mp ha with rfl | ha
    · rw [if_pos hr]
      have := nextL_ge nm r (a.seq + 1) hp.2 (fun c hc hcn => by have := hp.1 c hc (by rw [hr, hcn]); omega)
      omega
    · exact nextL_gt nm r _ hp.2 a ha hr
theorem nextL_in (nm : Bs) : ∀ (r : List En) (x : Int), (∀ a ∈ r, a.S) → 0 ≤ x ∧ x ≤ 20001 → 0 ≤ nextL nm r x ∧ nextL nm r x ≤ 20001
  | [], x, _, hx => hx
  | b :: r, x, hs, hx => by
    simp only [nextL]
    refine nextL_in nm r _ (fun a ha => hs a (by simp [ha])) ?_
    have := hs b (by simp)
    simp only [En.S] at this
    split <;> omega
theorem EsOk.all {nm : Bs} : ∀ {es : List En} {n : Int}, EsOk nm n es → ∀ b ∈ es, b.room = nm ∧ n ≤ b.seq ∧ b.seq < n + es.length ∧ b.F
  | [], n, _, b, hb => by simp at hb
  | e :: r, n, h, b, hb => by
    simp only [EsOk] at h
    rcases List.mem_cons.mp hb with rfl | hb
    · exact ⟨h.1, by omega, by simp; omega, h.2.2.1⟩
    · have := EsOk.all h.2.2.2 b hb
      exact ⟨this.1, by omega, by simp; omega, this.2.2.2⟩
theorem EsOk.inc {nm : Bs} : ∀ {es : List En} {n : Int}, EsOk nm n es → es.Pairwise (fun a b => a.room = b.room → a.seq < b.seq)
  | [], n, _ => List.Pairwise.nil
  | e :: r, n, h => by
    simp only [EsOk] at h
    refine List.Pairwise.cons (fun b hb _ => ?_) (EsOk.inc h.2.2.2)
    have := EsOk.all h.2.2.2 b hb
    omega
theorem Inc.app {log es : List En} {nm : Bs} (h : Inc log) (e : EsOk nm (nextL nm log 0) es) (hl : es.length ≤ 3) (hb : es = [] ∨ nextL nm log 0 + 3 ≤ 20000) : Inc (log ++ es) := by
  have hn := nextL_in nm log 0 (fun a ha => (h.2 a ha).2) (by omega)
  refine ⟨List.pairwise_append.mpr ⟨h.1, e.inc, fun a ha b hbm hab => ?_⟩, fun x hx => ?_⟩
  · have h1 := e.all b hbm
    have h2 := nextL_gt nm log 0 h.1 a ha (by rw [hab, h1.1])
    omega
  · rcases List.mem_append.mp hx with hx | hx
    · exact h.2 x hx
    · have h1 := e.all x hx
      rcases hb with rfl | hb
      · simp at hx
      · exact ⟨h1.2.2.2, by simp only [En.S]; omega⟩
/-- what l16Log has so far -/
structure LogAt (H0 h : AH) (id : Nat) (va : Value) (n P : Nat) (il g : Nat) (log : List En) : Prop where
  e : h[il]? = some (.row g 9 (En.R log))
  hi : H0.length ≤ il
  inc : Inc log
  r : ∃ p, p ≤ P ∧ Rd h id va n p
  hid : id < H0.length
  k : KX H0.length id H0 h
end Go.Abs
namespace Go.Abs
open Go.Proofs
set_option maxRecDepth 100000
set_option linter.unusedSimpArgs false
set_option linter.unusedVariables false
set_option pp.maxSteps 20000
set_option pp.deepTerms true
structure LogQ (H0 : AH) (id : Nat) (va : Value) (n P : Nat) (v : Value) (h' : AH) : Prop where
  ex : ∃ il g log, v = slV il g log.length log.length ∧ h'[il]? = some (.row g 9 (En.R log)) ∧ H0.length ≤ il ∧ Inc log ∧ log.length ≤ 60
  r : ∃ p, p ≤ P ∧ Rd h' id va n p
  k : KX H0.length id H0 h'
theorem LogAt.rd {H0 h : AH} {id : Nat} {va : Value} {n P il g : Nat} {log : List En} (q : LogAt H0 h id va n P il g log) : En.Rd h (slV il g log.length log.length) log := .inr ⟨il, g, _, rfl, q.e⟩
theorem LogAt.keep {H0 h h' : AH} {id : Nat} {va : Value} {n P il g : Nat} {log : List En} (q : LogAt H0 h id va n P il g log) (k : Keep h.length h h') : LogAt H0 h' id va n P il g log := by
  have h1 := q.k.1
  have h2 := q.hid
  obtain ⟨p, hp, r⟩ := q.r
  exact ⟨k.get q.e (lt_of_get q.e), q.hi, q.inc, ⟨p, hp, r.keep (k.le (by omega))⟩, q.hid, q.k.trans (k.kx (by omega))⟩
theorem LogAt.say {H0 h h' : AH} {id : Nat} {va : Value} {n P Q p il g : Nat} {log : List En} (q : LogAt H0 h id va n P il g log) (k : KX h.length id h h') (r : Rd h' id va n p) (hp : p ≤ Q) : LogAt H0 h' id va n Q il g log := by
  have h1 := q.k.1
  have h2 := q.hid
  have h3 := q.hi
  have h4 := lt_of_get q.e
  exact ⟨k.get q.e h4 (by omega), q.hi, q.inc, ⟨p, hp, r⟩, q.hid, q.k.trans ⟨k.1, fun j hj hi => k.2 j (by omega) hi⟩⟩
theorem LogAt.dr {H0 h : AH} {id : Nat} {va : Value} {n P Q p il g : Nat} {log : List En} (q : LogAt H0 h id va n P il g log) (L : AH) (hr : Rd h id va n p) (p' : Nat) (hp : p' ≤ Q) : LogAt H0 (h.set id (rdO va p') ++ L) id va n Q il g log := by
  have h1 := lt_of_get hr.1
  exact (q.say (KX.set _ _ _ _) (hr.step p') hp).keep (Keep.app _ _ (Nat.le_refl _))
theorem LogAt.add {H0 h : AH} {id : Nat} {va : Value} {n P il g g' : Nat} {log es : List En} (q : LogAt H0 h id va n P il g log) (hi : Inc (log ++ es)) : LogAt H0 (h.set il (.row g' 9 (En.R log ++ En.R es))) id va n P il g' (log ++ es) := by
  have h1 := q.k.1
  have h2 := q.hid
  have h3 := q.hi
  have h4 := lt_of_get q.e
  obtain ⟨p, hp, r⟩ := q.r
  refine ⟨by rw [HC4 rfl h4, En.R_app], q.hi, hi, ⟨p, hp, r.keep ⟨by simp, fun j hj => HC3 (by omega)⟩⟩, q.hid, q.k.trans ⟨by simp, fun j hj _ => HC3 (by omega)⟩⟩
set_option maxHeartbeats 4000000 in
theorem L52b {H0 : AH} {id : Nat} {va : Value} {n l : Nat} (hl : l ≤ id) (hn : n ≤ 2 ^ 62) :
    ∀ (k P il g no : Nat) (i : Int) (log : List En) (h : AH), LogAt H0 h id va n P il g log → log.length ≤ 60 → no = log.length → i = k → k ≤ 30 → P + 20 * k ≤ 2 ^ 39 →
      Okr (LogQ H0 id va n (P + 20 * k)) (L52_1 l (pV id 0 0) (slV il g no no) (iV i) h) := by
  intro k
  induction k with
  | zero =>
    rintro P il g no i log h q h60 rfl rfl hk hP
    have hlt : decide ((0 : Int) < ((0 : Nat) : Int)) = false := rfl
    refine okr_code Tryz.func52 rfl rfl ?_
    simp (dsimp := false) (disch := first | exact dI | fail) only [XOB, ↓XXs, ↓XD, ↓YX, ZB, Nat.reduceAdd, Nat.reducePow, ↓reduceIte, eq_self, Int.reduceEq, Nat.reduceEqDiff, Nat.reduceMul, Nat.reduceLeDiff, Int.reduceBEq, Tryz.f52, ↓XH2, XRN, ZC, ZE, ZH, eq_self, Nat.reduceLeDiff, Nat.reduceBEq, slV_new, ZS, reduceIte, ↓op_extract, hlt]
    with_reducible refine Okr.ret ?_
    exact ⟨⟨il, g, log, rfl, q.e, q.hi, q.inc, h60⟩, q.r, q.k⟩
  | succ k ih =>
    rintro P il g no i log h q h60 rfl rfl hk hP
    have hlt : decide ((0 : Int) < ((k + 1 : Nat) : Int)) = true := decide_eq_true (by omega)
    have hw : IntKind.i64.wrap (((k + 1 : Nat) : Int) - 1) = (k : Int) := by rw [wrap64 (by omega)]; omega
    refine okr_code Tryz.func52 rfl rfl ?_
    simp (dsimp := false) (disch := first | exact dI | fail) only [XOB, ↓XXs, ↓XD, ↓YX, ZB, Nat.reduceAdd, Nat.reducePow, ↓reduceIte, eq_self, Int.reduceEq, Nat.reduceEqDiff, Nat.reduceMul, Nat.reduceLeDiff, Int.reduceBEq, Tryz.f52, ↓XH2, XRN, ZC, ZE, ZH, eq_self, Nat.reduceLeDiff, Nat.reduceBEq, slV_new, ZS, reduceIte, ↓op_extract, hlt, hw]
    obtain ⟨p, hp, r⟩ := q.r
    refine okr_call (rq96 r hl hn (by omega)) ?_
    rintro _ h1 ⟨⟨⟨sk, sr, sn, sm, si, sf, st, su, sa, sb⟩, rfl, fs⟩, ⟨p1, hp1, r1⟩, k1⟩
    have q1 : LogAt H0 h1 id va n (P + 14) il g log := q.say k1 r1 (by omega)
    have hid1 := lt_of_get r1.1
    have ide := q.hid
    have hi := q.hi
    have hil1 := lt_of_get q1.e
    simp (dsimp := false) (disch := first | exact dI | fail) only [XOB, ↓XXs, ↓XD, ↓YX, ZB, Nat.reduceAdd, Nat.reducePow, ↓reduceIte, eq_self, Int.reduceEq, Nat.reduceEqDiff, Nat.reduceMul, Nat.reduceLeDiff, Int.reduceBEq, Tryz.f52, ↓XH2, XRN, ZC, ZE, ZH, eq_self, Nat.reduceLeDiff, Nat.reduceBEq, slV_new, ZS, reduceIte, ↓op_extract, hlt, hw]
    refine okr_call (rq86 r1.ap hl hn (by omega)) ?_
    rintro _ _ ⟨us, o1, rfl, hus, rfl⟩
    simp (dsimp := false) (disch := first | exact dI | fail) only [XOB, ↓XXs, ↓XD, ↓YX, ZB, Nat.reduceAdd, Nat.reducePow, ↓reduceIte, eq_self, Int.reduceEq, Nat.reduceEqDiff, Nat.reduceMul, Nat.reduceLeDiff, Int.reduceBEq, Tryz.f52, ↓XH2, XRN, ZC, ZE, ZH, eq_self, Nat.reduceLeDiff, Nat.reduceBEq, slV_new, ZS, reduceIte, ↓op_extract, hlt, hw]
    refine okr_call (okr_pick 6 (r1.kp (p1 + 1)) hl rfl (by simp) (by simp) hn (by omega)) ?_
    rintro _ _ ⟨⟨m, rfl, hm⟩, rfl⟩
    simp (dsimp := false) (disch := first | exact dI | fail) only [XOB, ↓XXs, ↓XD, ↓YX, ZB, Nat.reduceAdd, Nat.reducePow, ↓reduceIte, eq_self, Int.reduceEq, Nat.reduceEqDiff, Nat.reduceMul, Nat.reduceLeDiff, Int.reduceBEq, Tryz.f52, ↓XH2, XRN, ZC, ZE, ZH, eq_self, Nat.reduceLeDiff, Nat.reduceBEq, slV_new, ZS, reduceIte, ↓op_extract, hlt, hw]
    refine okr_if (fun _ => ?_) (fun _ => ?_)
    · simp (dsimp := false) (disch := first | exact dI | fail) only [XOB, ↓XXs, ↓XD, ↓YX, ZB, Nat.reduceAdd, Nat.reducePow, ↓reduceIte, eq_self, Int.reduceEq, Nat.reduceEqDiff, Nat.reduceMul, Nat.reduceLeDiff, Int.reduceBEq, Tryz.f52, ↓XH2, XRN, ZC, ZE, ZH, eq_self, Nat.reduceLeDiff, Nat.reduceBEq, slV_new, ZS, reduceIte, ↓op_extract, hlt, hw]
      refine okr_call (rq97 (r1.kp (p1 + 2)) hl hn (by omega)) ?_
      rintro _ _ ⟨rm, o2, rfl, hrm, rfl⟩
      simp (dsimp := false) (disch := first | exact dI | fail) only [XOB, ↓XXs, ↓XD, ↓YX, ZB, Nat.reduceAdd, Nat.reducePow, ↓reduceIte, eq_self, Int.reduceEq, Nat.reduceEqDiff, Nat.reduceMul, Nat.reduceLeDiff, Int.reduceBEq, Tryz.f52, ↓XH2, XRN, ZC, ZE, ZH, eq_self, Nat.reduceLeDiff, Nat.reduceBEq, slV_new, ZS, reduceIte, ↓op_extract, hlt, hw]
      refine okr_call (rq87 (r1.kp (p1 + 3)) hl hn (by omega)) ?_
      rintro _ _ ⟨nk, o3, rfl, hnk, rfl⟩
      simp (dsimp := false) (disch := first | exact dI | fail) only [XOB, ↓XXs, ↓XD, ↓YX, ZB, Nat.reduceAdd, Nat.reducePow, ↓reduceIte, eq_self, Int.reduceEq, Nat.reduceEqDiff, Nat.reduceMul, Nat.reduceLeDiff, Int.reduceBEq, Tryz.f52, ↓XH2, XRN, ZC, ZE, ZH, eq_self, Nat.reduceLeDiff, Nat.reduceBEq, slV_new, ZS, reduceIte, ↓op_extract, hlt, hw]
      refine okr_call (rq51 _ _ _ _ log (by omega) (q1.dr _ r1 (p1 + 4) (Nat.le_refl _)).rd q1.inc.2 (by simp) hrm) ?_
      rintro _ h2 ⟨⟨⟨rn, rx, rm2, rr2, rj2⟩, ms, rs, rfl, qr, hnm, hnx, hms, hrs⟩, k2⟩
      have q3 := (q1.dr (Q := P + 20) _ r1 (p1 + 4) (by omega)).keep k2
      have hom := qr.qm.one
      have hor := qr.qr.one
      try simp only at hom hor hnm hnx
      have k2' := k2.1
      have k2'' := k2.2
      simp only [List.length_append, List.length_set, List.length_cons, List.length_nil, Nat.zero_add, Nat.reduceAdd] at k2' k2''
      have hnr := nextL_in rm log 0 (fun a ha => (q.inc.2 a ha).2) (by omega)
      have hil2 := lt_of_get q3.e
      try simp (dsimp := false) (disch := first | exact dI | fail) only [XOB, ↓XXs, ↓XD, ↓YX, ZB, Nat.reduceAdd, Nat.reducePow, ↓reduceIte, eq_self, Int.reduceEq, Nat.reduceEqDiff, Nat.reduceMul, Nat.reduceLeDiff, Int.reduceBEq, Tryz.f52, ↓XH2, XRN, ZC, ZE, ZH, eq_self, Nat.reduceLeDiff, Nat.reduceBEq, slV_new, ZS, reduceIte, ↓op_extract, hlt, hw, k2'', hom, hor]
      refine okr_call (rq95 ⟨rn, rx, rm2, rr2, rj2⟩ ms rs _ log us ⟨6, rm, nk, [], [], [], [], 0, 0, 0⟩ l h2 (by first | rfl | omega | (simp (disch := first | exact dI | fail) only [ZK, ZL, ZR] <;> omega) | fail) (by omega) (by omega) qr (by omega) q3.rd hus ⟨hrm, hnk, by simp, by simp, by simp, by simp⟩ (by simp only [hnx]; exact hnr)) ?_
      rintro _ h3 ⟨⟨lv2, es, c, rfl, e1, e2, e3, e4⟩, k3⟩
      have q4 := q3.keep k3
      have hlv := e1.len
      have hil3 := lt_of_get q4.e
      have hwl : IntKind.i64.wrap ((log.length : Int) + (es.length : Int)) = ((log.length + es.length : Nat) : Int) := by rw [wrap64 (by omega)]; omega
      try simp only [hnm, hnx] at e2 e4
      have hinc := q.inc.app e2 e3 e4
      have hPP : P + 20 * (k + 1) = P + (20 + 20 * k) := by omega
      have ih2 := ih (P + 20)
      rw [show P + 20 + 20 * k = P + (20 + 20 * k) by omega] at ih2
      rw [hPP]
      simp (dsimp := false) (disch := first | exact dI | fail) only [XOB, ↓XXs, ↓XD, ↓YX, ZB, Nat.reduceAdd, Nat.reducePow, ↓reduceIte, eq_self, Int.reduceEq, Nat.reduceEqDiff, Nat.reduceMul, Nat.reduceLeDiff, Int.reduceBEq, Tryz.f52, ↓XH2, XRN, ZC, ZE, ZH, eq_self, Nat.reduceLeDiff, Nat.reduceBEq, slV_new, ZS, reduceIte, ↓op_extract, hlt, hw, hlv, hwl]
      have hgo : Okr (LogQ H0 id va n (P + (20 + 20 * k))) (L52_1 l (pV id 0 0) (slV il g log.length log.length) (iV k) h3) := ih2 il g _ _ log h3 q4 h60 rfl rfl (by omega) (by omega)
      refine okr_if (fun _ => ?_) (fun _ => ?_)
      · simp (dsimp := false) (disch := first | exact dI | fail) only [XOB, ↓XXs, ↓XD, ↓YX, ZB, Nat.reduceAdd, Nat.reducePow, ↓reduceIte, eq_self, Int.reduceEq, Nat.reduceEqDiff, Nat.reduceMul, Nat.reduceLeDiff, Int.reduceBEq, Tryz.f52, ↓XH2, XRN, ZC, ZE, ZH, eq_self, Nat.reduceLeDiff, Nat.reduceBEq, slV_new, ZS, reduceIte, ↓op_extract, hlt, hw, hlv, hwl]
        refine okr_if (fun t60 => ?_) (fun _ => ?_)
        · have hle : log.length + es.length ≤ 60 := by have := of_decide_eq_true t60; omega
          simp (dsimp := false) (disch := first | exact dI | fail) only [XOB, ↓XXs, ↓XD, ↓YX, ZB, Nat.reduceAdd, Nat.reducePow, ↓reduceIte, eq_self, Int.reduceEq, Nat.reduceEqDiff, Nat.reduceMul, Nat.reduceLeDiff, Int.reduceBEq, Tryz.f52, ↓XH2, XRN, ZC, ZE, ZH, eq_self, Nat.reduceLeDiff, Nat.reduceBEq, slV_new, ZS, reduceIte, ↓op_extract, hlt, hw, hlv, hwl]
          refine okr_opt (okr_app (k := es.length) (ds := En.R es) (cs := En.R log) e1.src q4.e (by rw [En.R_len]; omega) (by first | rfl | omega | (simp (disch := first | exact dI | fail) only [ZK, ZL, ZR] <;> omega) | fail) (by omega)) ?_
          rintro _ ⟨g2, rfl⟩
          simp (dsimp := false) (disch := first | exact dI | fail) only [XOB, ↓XXs, ↓XD, ↓YX, ZB, Nat.reduceAdd, Nat.reducePow, ↓reduceIte, eq_self, Int.reduceEq, Nat.reduceEqDiff, Nat.reduceMul, Nat.reduceLeDiff, Int.reduceBEq, Tryz.f52, ↓XH2, XRN, ZC, ZE, ZH, eq_self, Nat.reduceLeDiff, Nat.reduceBEq, slV_new, ZS, reduceIte, ↓op_extract, hlt, hw, hlv, hwl]
          exact ih2 il g2 (log.length + es.length) _ (log ++ es) _ (q4.add hinc) (by simp; omega) (by simp) rfl (by omega) (by omega)
        · simp (dsimp := false) (disch := first | exact dI | fail) only [XOB, ↓XXs, ↓XD, ↓YX, ZB, Nat.reduceAdd, Nat.reducePow, ↓reduceIte, eq_self, Int.reduceEq, Nat.reduceEqDiff, Nat.reduceMul, Nat.reduceLeDiff, Int.reduceBEq, Tryz.f52, ↓XH2, XRN, ZC, ZE, ZH, eq_self, Nat.reduceLeDiff, Nat.reduceBEq, slV_new, ZS, reduceIte, ↓op_extract, hlt, hw, hlv, hwl]
          exact hgo
      · simp (dsimp := false) (disch := first | exact dI | fail) only [XOB, ↓XXs, ↓XD, ↓YX, ZB, Nat.reduceAdd, Nat.reducePow, ↓reduceIte, eq_self, Int.reduceEq, Nat.reduceEqDiff, Nat.reduceMul, Nat.reduceLeDiff, Int.reduceBEq, Tryz.f52, ↓XH2, XRN, ZC, ZE, ZH, eq_self, Nat.reduceLeDiff, Nat.reduceBEq, slV_new, ZS, reduceIte, ↓op_extract, hlt, hw, hlv, hwl]
        exact hgo
    · simp (dsimp := false) (disch := first | exact dI | fail) only [XOB, ↓XXs, ↓XD, ↓YX, ZB, Nat.reduceAdd, Nat.reducePow, ↓reduceIte, eq_self, Int.reduceEq, Nat.reduceEqDiff, Nat.reduceMul, Nat.reduceLeDiff, Int.reduceBEq, Tryz.f52, ↓XH2, XRN, ZC, ZE, ZH, eq_self, Nat.reduceLeDiff, Nat.reduceBEq, slV_new, ZS, reduceIte, ↓op_extract, hlt, hw]
      refine okr_if (fun _ => ?_) (fun _ => ?_)
      · simp (dsimp := false) (disch := first | exact dI | fail) only [XOB, ↓XXs, ↓XD, ↓YX, ZB, Nat.reduceAdd, Nat.reducePow, ↓reduceIte, eq_self, Int.reduceEq, Nat.reduceEqDiff, Nat.reduceMul, Nat.reduceLeDiff, Int.reduceBEq, Tryz.f52, ↓XH2, XRN, ZC, ZE, ZH, eq_self, Nat.reduceLeDiff, Nat.reduceBEq, slV_new, ZS, reduceIte, ↓op_extract, hlt, hw]
        have hPP : P + 20 * (k + 1) = P + 20 + 20 * k := by omega
        first | rw [hPP] | skip
        exact ih _ il g _ _ log _ (q1.dr (Q := P + 20) _ r1 (p1 + 2) (by omega)) h60 rfl rfl (by omega) (by omega)
      · simp (dsimp := false) (disch := first | exact dI | fail) only [XOB, ↓XXs, ↓XD, ↓YX, ZB, Nat.reduceAdd, Nat.reducePow, ↓reduceIte, eq_self, Int.reduceEq, Nat.reduceEqDiff, Nat.reduceMul, Nat.reduceLeDiff, Int.reduceBEq, Tryz.f52, ↓XH2, XRN, ZC, ZE, ZH, eq_self, Nat.reduceLeDiff, Nat.reduceBEq, slV_new, ZS, reduceIte, ↓op_extract, hlt, hw]
        refine okr_call (rq51 _ _ _ _ log (by omega) (q1.dr _ r1 (p1 + 2) (Nat.le_refl _)).rd q1.inc.2 (by simp) fs.1) ?_
        rintro _ h2 ⟨⟨⟨rn, rx, rm2, rr2, rj2⟩, ms, rs, rfl, qr, hnm, hnx, hms, hrs⟩, k2⟩
        have q3 := (q1.dr (Q := P + 20) _ r1 (p1 + 2) (by omega)).keep k2
        have hom := qr.qm.one
        have hor := qr.qr.one
        try simp only at hom hor hnm hnx
        have k2' := k2.1
        have k2'' := k2.2
        simp only [List.length_append, List.length_set, List.length_cons, List.length_nil, Nat.zero_add, Nat.reduceAdd] at k2' k2''
        have hnr := nextL_in sr log 0 (fun a ha => (q.inc.2 a ha).2) (by omega)
        have hil2 := lt_of_get q3.e
        try simp (dsimp := false) (disch := first | exact dI | fail) only [XOB, ↓XXs, ↓XD, ↓YX, ZB, Nat.reduceAdd, Nat.reducePow, ↓reduceIte, eq_self, Int.reduceEq, Nat.reduceEqDiff, Nat.reduceMul, Nat.reduceLeDiff, Int.reduceBEq, Tryz.f52, ↓XH2, XRN, ZC, ZE, ZH, eq_self, Nat.reduceLeDiff, Nat.reduceBEq, slV_new, ZS, reduceIte, ↓op_extract, hlt, hw, k2'', hom, hor]
        refine okr_call (rq95 ⟨rn, rx, rm2, rr2, rj2⟩ ms rs _ log us ⟨sk, sr, sn, sm, si, sf, st, su, sa, sb⟩ l h2 (by first | rfl | omega | (simp (disch := first | exact dI | fail) only [ZK, ZL, ZR] <;> omega) | fail) (by omega) (by omega) qr (by omega) q3.rd hus fs (by simp only [hnx]; exact hnr)) ?_
        rintro _ h3 ⟨⟨lv2, es, c, rfl, e1, e2, e3, e4⟩, k3⟩
        have q4 := q3.keep k3
        have hlv := e1.len
        have hil3 := lt_of_get q4.e
        have hwl : IntKind.i64.wrap ((log.length : Int) + (es.length : Int)) = ((log.length + es.length : Nat) : Int) := by rw [wrap64 (by omega)]; omega
        try simp only [hnm, hnx] at e2 e4
        have hinc := q.inc.app e2 e3 e4
        have hPP : P + 20 * (k + 1) = P + (20 + 20 * k) := by omega
        have ih2 := ih (P + 20)
        rw [show P + 20 + 20 * k = P + (20 + 20 * k) by omega] at ih2
        rw [hPP]
        simp (dsimp := false) (disch := first | exact dI | fail) only [XOB, ↓XXs, ↓XD, ↓YX, ZB, Nat.reduceAdd, Nat.reducePow, ↓reduceIte, eq_self, Int.reduceEq, Nat.reduceEqDiff, Nat.reduceMul, Nat.reduceLeDiff, Int.reduceBEq, Tryz.f52, ↓XH2, XRN, ZC, ZE, ZH, eq_self, Nat.reduceLeDiff, Nat.reduceBEq, slV_new, ZS, reduceIte, ↓op_extract, hlt, hw, hlv, hwl]
        have hgo : Okr (LogQ H0 id va n (P + (20 + 20 * k))) (L52_1 l (pV id 0 0) (slV il g log.length log.length) (iV k) h3) := ih2 il g _ _ log h3 q4 h60 rfl rfl (by omega) (by omega)
        refine okr_if (fun _ => ?_) (fun _ => ?_)
        · simp (dsimp := false) (disch := first | exact dI | fail) only [XOB, ↓XXs, ↓XD, ↓YX, ZB, Nat.reduceAdd, Nat.reducePow, ↓reduceIte, eq_self, Int.reduceEq, Nat.reduceEqDiff, Nat.reduceMul, Nat.reduceLeDiff, Int.reduceBEq, Tryz.f52, ↓XH2, XRN, ZC, ZE, ZH, eq_self, Nat.reduceLeDiff, Nat.reduceBEq, slV_new, ZS, reduceIte, ↓op_extract, hlt, hw, hlv, hwl]
          refine okr_if (fun t60 => ?_) (fun _ => ?_)
          · have hle : log.length + es.length ≤ 60 := by have := of_decide_eq_true t60; omega
            simp (dsimp := false) (disch := first | exact dI | fail) only [XOB, ↓XXs, ↓XD, ↓YX, ZB, Nat.reduceAdd, Nat.reducePow, ↓reduceIte, eq_self, Int.reduceEq, Nat.reduceEqDiff, Nat.reduceMul, Nat.reduceLeDiff, Int.reduceBEq, Tryz.f52, ↓XH2, XRN, ZC, ZE, ZH, eq_self, Nat.reduceLeDiff, Nat.reduceBEq, slV_new, ZS, reduceIte, ↓op_extract, hlt, hw, hlv, hwl]
            refine okr_opt (okr_app (k := es.length) (ds := En.R es) (cs := En.R log) e1.src q4.e (by rw [En.R_len]; omega) (by first | rfl | omega | (simp (disch := first | exact dI | fail) only [ZK, ZL, ZR] <;> omega) | fail) (by omega)) ?_
            rintro _ ⟨g2, rfl⟩
            simp (dsimp := false) (disch := first | exact dI | fail) only [XOB, ↓XXs, ↓XD, ↓YX, ZB, Nat.reduceAdd, Nat.reducePow, ↓reduceIte, eq_self, Int.reduceEq, Nat.reduceEqDiff, Nat.reduceMul, Nat.reduceLeDiff, Int.reduceBEq, Tryz.f52, ↓XH2, XRN, ZC, ZE, ZH, eq_self, Nat.reduceLeDiff, Nat.reduceBEq, slV_new, ZS, reduceIte, ↓op_extract, hlt, hw, hlv, hwl]
            exact ih2 il g2 (log.length + es.length) _ (log ++ es) _ (q4.add hinc) (by simp; omega) (by simp) rfl (by omega) (by omega)
          · simp (dsimp := false) (disch := first | exact dI | fail) only [XOB, ↓XXs, ↓XD, ↓YX, ZB, Nat.reduceAdd, Nat.reducePow, ↓reduceIte, eq_self, Int.reduceEq, Nat.reduceEqDiff, Nat.reduceMul, Nat.reduceLeDiff, Int.reduceBEq, Tryz.f52, ↓XH2, XRN, ZC, ZE, ZH, eq_self, Nat.reduceLeDiff, Nat.reduceBEq, slV_new, ZS, reduceIte, ↓op_extract, hlt, hw, hlv, hwl]
            exact hgo
        · simp (dsimp := false) (disch := first | exact dI | fail) only [XOB, ↓XXs, ↓XD, ↓YX, ZB, Nat.reduceAdd, Nat.reducePow, ↓reduceIte, eq_self, Int.reduceEq, Nat.reduceEqDiff, Nat.reduceMul, Nat.reduceLeDiff, Int.reduceBEq, Tryz.f52, ↓XH2, XRN, ZC, ZE, ZH, eq_self, Nat.reduceLeDiff, Nat.reduceBEq, slV_new, ZS, reduceIte, ↓op_extract, hlt, hw, hlv, hwl]
          exact hgo
end Go.Abs
namespace Go.Abs
open Go.Proofs
set_option maxRecDepth 100000
set_option linter.unusedSimpArgs false
set_option linter.unusedVariables false
set_option pp.maxSteps 20000
set_option pp.deepTerms true
set_option maxHeartbeats 4000000 in
theorem L52a3 {H0 : AH} {id : Nat} {va : Value} {n l mn : Nat} (hl : l ≤ id) (hn : n ≤ 2 ^ 62) (hmn : mn ≤ 30) (P il g no : Nat) (i : Int) (log : List En) (h : AH) (q : LogAt H0 h id va n P il g log) (hlg : log.length ≤ 9) (hno : no = log.length) (hi : i = 3) (hP : P + 20 * mn ≤ 2 ^ 39) :
    Okr (LogQ H0 id va n (P + 20 * mn)) (L52_0 l (pV id 0 0) (slV il g no no) (iV mn) (iV i) h) := by
  subst hno hi
  refine okr_code Tryz.func52 rfl rfl ?_
  have h33 : decide ((3 : Int) < 3) = false := rfl
  simp (dsimp := false) (disch := first | exact dI | fail) only [XOB, ↓XXs, ↓XD, ↓YX, ZB, Nat.reduceAdd, Nat.reducePow, ↓reduceIte, eq_self, Int.reduceEq, Nat.reduceEqDiff, Nat.reduceMul, Nat.reduceLeDiff, Int.reduceBEq, Int.reduceLT, Tryz.f52, ↓XH2, XRN, ZC, ZE, ZH, eq_self, Nat.reduceLeDiff, Nat.reduceBEq, slV_new, ZS, reduceIte, ↓op_extract, h33]
  refine okr_if (fun _ => ?_) (fun _ => ?_)
  · simp (dsimp := false) (disch := first | exact dI | fail) only [XOB, ↓XXs, ↓XD, ↓YX, ZB, Nat.reduceAdd, Nat.reducePow, ↓reduceIte, eq_self, Int.reduceEq, Nat.reduceEqDiff, Nat.reduceMul, Nat.reduceLeDiff, Int.reduceBEq, Int.reduceLT, Tryz.f52, ↓XH2, XRN, ZC, ZE, ZH, eq_self, Nat.reduceLeDiff, Nat.reduceBEq, slV_new, ZS, reduceIte, ↓op_extract, h33]
    exact L52b hl hn mn P il g _ _ log h q (by omega) rfl rfl (by omega) (by omega)
  · simp (dsimp := false) (disch := first | exact dI | fail) only [XOB, ↓XXs, ↓XD, ↓YX, ZB, Nat.reduceAdd, Nat.reducePow, ↓reduceIte, eq_self, Int.reduceEq, Nat.reduceEqDiff, Nat.reduceMul, Nat.reduceLeDiff, Int.reduceBEq, Int.reduceLT, Tryz.f52, ↓XH2, XRN, ZC, ZE, ZH, eq_self, Nat.reduceLeDiff, Nat.reduceBEq, slV_new, ZS, reduceIte, ↓op_extract, h33]
    exact L52b hl hn mn P il g _ _ log h q (by omega) rfl rfl (by omega) (by omega)
set_option maxHeartbeats 4000000 in
theorem L52a2 {H0 : AH} {id : Nat} {va : Value} {n l mn : Nat} (hl : l ≤ id) (hn : n ≤ 2 ^ 62) (hmn : mn ≤ 30) (P il g no : Nat) (i : Int) (log : List En) (h : AH) (q : LogAt H0 h id va n P il g log) (hlg : log.length ≤ 6) (hno : no = log.length) (hi : i = 2) (hP : P + 20 * mn ≤ 2 ^ 39) :
    Okr (LogQ H0 id va n (P + 20 * mn)) (L52_0 l (pV id 0 0) (slV il g no no) (iV mn) (iV i) h) := by
  subst hno hi
  refine okr_code Tryz.func52 rfl rfl ?_
  have h33 : decide ((2 : Int) < 3) = true := rfl
  have hw : IntKind.i64.wrap ((2 : Int) + 1) = 3 := rfl
  have hix : ∀ a, ixAddr (slV a 0 3 3) (2 : Int) 1 = some (pV a 2 0) := fun a => by have := ixAddr_sl (id := a) (off := 0) (g := 0) (n := 3) (c := 3) (i := 2) (sz := 1) (by omega); simpa using this
  simp (dsimp := false) (disch := first | exact dI | fail) only [XOB, ↓XXs, ↓XD, ↓YX, ZB, Nat.reduceAdd, Nat.reducePow, ↓reduceIte, eq_self, Int.reduceEq, Nat.reduceEqDiff, Nat.reduceMul, Nat.reduceLeDiff, Int.reduceBEq, Int.reduceLT, Tryz.f52, ↓XH2, XRN, ZC, ZE, ZH, eq_self, Nat.reduceLeDiff, Nat.reduceBEq, slV_new, ZS, reduceIte, ↓op_extract, h33, hix, hw]
  refine okr_if (fun _ => ?_) (fun _ => ?_)
  · simp (dsimp := false) (disch := first | exact dI | fail) only [XOB, ↓XXs, ↓XD, ↓YX, ZB, Nat.reduceAdd, Nat.reducePow, ↓reduceIte, eq_self, Int.reduceEq, Nat.reduceEqDiff, Nat.reduceMul, Nat.reduceLeDiff, Int.reduceBEq, Int.reduceLT, Tryz.f52, ↓XH2, XRN, ZC, ZE, ZH, eq_self, Nat.reduceLeDiff, Nat.reduceBEq, slV_new, ZS, reduceIte, ↓op_extract, h33, hix, hw]
    have hil := lt_of_get q.e
    have q2 : LogAt H0 (h ++ [AObj.row 0 1 [sV [97, 110, 110], sV [98, 111, 98], sV [99, 121, 100]]]) id va n P il g log := q.keep (Keep.app _ _ (Nat.le_refl _))
    refine okr_call (rq51 _ _ _ _ log (by omega) q2.rd q2.inc.2 (by have := q.k.1; have := q.hid; simp; omega) (by simp)) ?_
    rintro _ h2 ⟨⟨⟨rn, rx, rm2, rr2, rj2⟩, ms, rs, rfl, qr, hnm, hnx, hms, hrs⟩, k2⟩
    have q3 := q2.keep k2
    have hom := qr.qm.one
    have hor := qr.qr.one
    try simp only at hom hor hnm hnx
    have hnr := nextL_in [100, 101, 110] log 0 (fun a ha => (q.inc.2 a ha).2) (by omega)
    have hil2 := lt_of_get q3.e
    try simp (dsimp := false) (disch := first | exact dI | fail) only [XOB, ↓XXs, ↓XD, ↓YX, ZB, Nat.reduceAdd, Nat.reducePow, ↓reduceIte, eq_self, Int.reduceEq, Nat.reduceEqDiff, Nat.reduceMul, Nat.reduceLeDiff, Int.reduceBEq, Int.reduceLT, Tryz.f52, ↓XH2, XRN, ZC, ZE, ZH, eq_self, Nat.reduceLeDiff, Nat.reduceBEq, slV_new, ZS, reduceIte, ↓op_extract, h33, hix, hw, hom, hor]
    have q4 : LogAt H0 (h2 ++ [AObj.row 0 1 [sV [65, 110, 110], sV [66, 111, 98], sV [67, 121, 100]]]) id va n P il g log := q3.keep (Keep.app _ _ (Nat.le_refl _))
    have hm1 := q.hid
    have hm2 := q3.k.1
    refine okr_call (rq95 ⟨rn, rx, rm2, rr2, rj2⟩ ms rs _ log [99, 121, 100] ⟨6, [100, 101, 110], [67, 121, 100], [], [], [], [], 0, 0, 0⟩ l _ (by simp; omega) (by omega) (by omega) (qr.keep (Keep.app _ _ (Nat.le_refl _))) (by omega) q4.rd (by simp) ⟨by simp, by simp, by simp, by simp, by simp, by simp⟩ (by simp only [hnx]; exact hnr)) ?_
    rintro _ h3 ⟨⟨lv2, es, c, rfl, e1, e2, e3, e4⟩, k3⟩
    have q5 := q4.keep k3
    have hi5 := q5.hi
    try simp only [hnm, hnx] at e2 e4
    have hinc := q.inc.app e2 e3 e4
    simp (dsimp := false) (disch := first | exact dI | fail) only [XOB, ↓XXs, ↓XD, ↓YX, ZB, Nat.reduceAdd, Nat.reducePow, ↓reduceIte, eq_self, Int.reduceEq, Nat.reduceEqDiff, Nat.reduceMul, Nat.reduceLeDiff, Int.reduceBEq, Int.reduceLT, Tryz.f52, ↓XH2, XRN, ZC, ZE, ZH, eq_self, Nat.reduceLeDiff, Nat.reduceBEq, slV_new, ZS, reduceIte, ↓op_extract, h33, hix, hw, ↓unc, ↓nilL]
    refine okr_opt (okr_app (k := es.length) (ds := En.R es) (cs := En.R log) e1.src q5.e (by rw [En.R_len]; omega) (by first | rfl | omega | (simp (disch := first | exact dI | fail) only [ZK, ZL, ZR] <;> omega) | fail) (by omega)) ?_
    rintro _ ⟨g2, rfl⟩
    try simp (dsimp := false) (disch := first | exact dI | fail) only [XOB, ↓XXs, ↓XD, ↓YX, ZB, Nat.reduceAdd, Nat.reducePow, ↓reduceIte, eq_self, Int.reduceEq, Nat.reduceEqDiff, Nat.reduceMul, Nat.reduceLeDiff, Int.reduceBEq, Int.reduceLT, Tryz.f52, ↓XH2, XRN, ZC, ZE, ZH, eq_self, Nat.reduceLeDiff, Nat.reduceBEq, slV_new, ZS, reduceIte, ↓op_extract, h33, hix, hw]
    exact L52a3 hl hn hmn P il g2 (log.length + es.length) _ (log ++ es) _ (q5.add hinc) (by simp; omega) (by simp) rfl hP
  · simp (dsimp := false) (disch := first | exact dI | fail) only [XOB, ↓XXs, ↓XD, ↓YX, ZB, Nat.reduceAdd, Nat.reducePow, ↓reduceIte, eq_self, Int.reduceEq, Nat.reduceEqDiff, Nat.reduceMul, Nat.reduceLeDiff, Int.reduceBEq, Int.reduceLT, Tryz.f52, ↓XH2, XRN, ZC, ZE, ZH, eq_self, Nat.reduceLeDiff, Nat.reduceBEq, slV_new, ZS, reduceIte, ↓op_extract, h33, hix, hw]
    exact L52b hl hn mn P il g _ _ log h q (by omega) rfl rfl (by omega) (by omega)
set_option maxHeartbeats 4000000 in
theorem L52a1 {H0 : AH} {id : Nat} {va : Value} {n l mn : Nat} (hl : l ≤ id) (hn : n ≤ 2 ^ 62) (hmn : mn ≤ 30) (P il g no : Nat) (i : Int) (log : List En) (h : AH) (q : LogAt H0 h id va n P il g log) (hlg : log.length ≤ 3) (hno : no = log.length) (hi : i = 1) (hP : P + 20 * mn ≤ 2 ^ 39) :
    Okr (LogQ H0 id va n (P + 20 * mn)) (L52_0 l (pV id 0 0) (slV il g no no) (iV mn) (iV i) h) := by
  subst hno hi
  refine okr_code Tryz.func52 rfl rfl ?_
  have h33 : decide ((1 : Int) < 3) = true := rfl
  have hw : IntKind.i64.wrap ((1 : Int) + 1) = 2 := rfl
  have hix : ∀ a, ixAddr (slV a 0 3 3) (1 : Int) 1 = some (pV a 1 0) := fun a => by have := ixAddr_sl (id := a) (off := 0) (g := 0) (n := 3) (c := 3) (i := 1) (sz := 1) (by omega); simpa using this
  simp (dsimp := false) (disch := first | exact dI | fail) only [XOB, ↓XXs, ↓XD, ↓YX, ZB, Nat.reduceAdd, Nat.reducePow, ↓reduceIte, eq_self, Int.reduceEq, Nat.reduceEqDiff, Nat.reduceMul, Nat.reduceLeDiff, Int.reduceBEq, Int.reduceLT, Tryz.f52, ↓XH2, XRN, ZC, ZE, ZH, eq_self, Nat.reduceLeDiff, Nat.reduceBEq, slV_new, ZS, reduceIte, ↓op_extract, h33, hix, hw]
  refine okr_if (fun _ => ?_) (fun _ => ?_)
  · simp (dsimp := false) (disch := first | exact dI | fail) only [XOB, ↓XXs, ↓XD, ↓YX, ZB, Nat.reduceAdd, Nat.reducePow, ↓reduceIte, eq_self, Int.reduceEq, Nat.reduceEqDiff, Nat.reduceMul, Nat.reduceLeDiff, Int.reduceBEq, Int.reduceLT, Tryz.f52, ↓XH2, XRN, ZC, ZE, ZH, eq_self, Nat.reduceLeDiff, Nat.reduceBEq, slV_new, ZS, reduceIte, ↓op_extract, h33, hix, hw]
    have hil := lt_of_get q.e
    have q2 : LogAt H0 (h ++ [AObj.row 0 1 [sV [97, 110, 110], sV [98, 111, 98], sV [99, 121, 100]]]) id va n P il g log := q.keep (Keep.app _ _ (Nat.le_refl _))
    refine okr_call (rq51 _ _ _ _ log (by omega) q2.rd q2.inc.2 (by have := q.k.1; have := q.hid; simp; omega) (by simp)) ?_
    rintro _ h2 ⟨⟨⟨rn, rx, rm2, rr2, rj2⟩, ms, rs, rfl, qr, hnm, hnx, hms, hrs⟩, k2⟩
    have q3 := q2.keep k2
    have hom := qr.qm.one
    have hor := qr.qr.one
    try simp only at hom hor hnm hnx
    have hnr := nextL_in [100, 101, 110] log 0 (fun a ha => (q.inc.2 a ha).2) (by omega)
    have hil2 := lt_of_get q3.e
    try simp (dsimp := false) (disch := first | exact dI | fail) only [XOB, ↓XXs, ↓XD, ↓YX, ZB, Nat.reduceAdd, Nat.reducePow, ↓reduceIte, eq_self, Int.reduceEq, Nat.reduceEqDiff, Nat.reduceMul, Nat.reduceLeDiff, Int.reduceBEq, Int.reduceLT, Tryz.f52, ↓XH2, XRN, ZC, ZE, ZH, eq_self, Nat.reduceLeDiff, Nat.reduceBEq, slV_new, ZS, reduceIte, ↓op_extract, h33, hix, hw, hom, hor]
    have q4 : LogAt H0 (h2 ++ [AObj.row 0 1 [sV [65, 110, 110], sV [66, 111, 98], sV [67, 121, 100]]]) id va n P il g log := q3.keep (Keep.app _ _ (Nat.le_refl _))
    have hm1 := q.hid
    have hm2 := q3.k.1
    refine okr_call (rq95 ⟨rn, rx, rm2, rr2, rj2⟩ ms rs _ log [98, 111, 98] ⟨6, [100, 101, 110], [66, 111, 98], [], [], [], [], 0, 0, 0⟩ l _ (by simp; omega) (by omega) (by omega) (qr.keep (Keep.app _ _ (Nat.le_refl _))) (by omega) q4.rd (by simp) ⟨by simp, by simp, by simp, by simp, by simp, by simp⟩ (by simp only [hnx]; exact hnr)) ?_
    rintro _ h3 ⟨⟨lv2, es, c, rfl, e1, e2, e3, e4⟩, k3⟩
    have q5 := q4.keep k3
    have hi5 := q5.hi
    try simp only [hnm, hnx] at e2 e4
    have hinc := q.inc.app e2 e3 e4
    simp (dsimp := false) (disch := first | exact dI | fail) only [XOB, ↓XXs, ↓XD, ↓YX, ZB, Nat.reduceAdd, Nat.reducePow, ↓reduceIte, eq_self, Int.reduceEq, Nat.reduceEqDiff, Nat.reduceMul, Nat.reduceLeDiff, Int.reduceBEq, Int.reduceLT, Tryz.f52, ↓XH2, XRN, ZC, ZE, ZH, eq_self, Nat.reduceLeDiff, Nat.reduceBEq, slV_new, ZS, reduceIte, ↓op_extract, h33, hix, hw, ↓unc, ↓nilL]
    refine okr_opt (okr_app (k := es.length) (ds := En.R es) (cs := En.R log) e1.src q5.e (by rw [En.R_len]; omega) (by first | rfl | omega | (simp (disch := first | exact dI | fail) only [ZK, ZL, ZR] <;> omega) | fail) (by omega)) ?_
    rintro _ ⟨g2, rfl⟩
    try simp (dsimp := false) (disch := first | exact dI | fail) only [XOB, ↓XXs, ↓XD, ↓YX, ZB, Nat.reduceAdd, Nat.reducePow, ↓reduceIte, eq_self, Int.reduceEq, Nat.reduceEqDiff, Nat.reduceMul, Nat.reduceLeDiff, Int.reduceBEq, Int.reduceLT, Tryz.f52, ↓XH2, XRN, ZC, ZE, ZH, eq_self, Nat.reduceLeDiff, Nat.reduceBEq, slV_new, ZS, reduceIte, ↓op_extract, h33, hix, hw]
    exact L52a2 hl hn hmn P il g2 (log.length + es.length) _ (log ++ es) _ (q5.add hinc) (by simp; omega) (by simp) rfl hP
  · simp (dsimp := false) (disch := first | exact dI | fail) only [XOB, ↓XXs, ↓XD, ↓YX, ZB, Nat.reduceAdd, Nat.reducePow, ↓reduceIte, eq_self, Int.reduceEq, Nat.reduceEqDiff, Nat.reduceMul, Nat.reduceLeDiff, Int.reduceBEq, Int.reduceLT, Tryz.f52, ↓XH2, XRN, ZC, ZE, ZH, eq_self, Nat.reduceLeDiff, Nat.reduceBEq, slV_new, ZS, reduceIte, ↓op_extract, h33, hix, hw]
    exact L52b hl hn mn P il g _ _ log h q (by omega) rfl rfl (by omega) (by omega)
set_option maxHeartbeats 4000000 in
theorem L52a0 {H0 : AH} {id : Nat} {va : Value} {n l mn : Nat} (hl : l ≤ id) (hn : n ≤ 2 ^ 62) (hmn : mn ≤ 30) (P il g no : Nat) (i : Int) (log : List En) (h : AH) (q : LogAt H0 h id va n P il g log) (hlg : log.length ≤ 0) (hno : no = log.length) (hi : i = 0) (hP : P + 20 * mn ≤ 2 ^ 39) :
    Okr (LogQ H0 id va n (P + 20 * mn)) (L52_0 l (pV id 0 0) (slV il g no no) (iV mn) (iV i) h) := by
  subst hno hi
  refine okr_code Tryz.func52 rfl rfl ?_
  have h33 : decide ((0 : Int) < 3) = true := rfl
  have hw : IntKind.i64.wrap ((0 : Int) + 1) = 1 := rfl
  have hix : ∀ a, ixAddr (slV a 0 3 3) (0 : Int) 1 = some (pV a 0 0) := fun a => by have := ixAddr_sl (id := a) (off := 0) (g := 0) (n := 3) (c := 3) (i := 0) (sz := 1) (by omega); simpa using this
  simp (dsimp := false) (disch := first | exact dI | fail) only [XOB, ↓XXs, ↓XD, ↓YX, ZB, Nat.reduceAdd, Nat.reducePow, ↓reduceIte, eq_self, Int.reduceEq, Nat.reduceEqDiff, Nat.reduceMul, Nat.reduceLeDiff, Int.reduceBEq, Int.reduceLT, Tryz.f52, ↓XH2, XRN, ZC, ZE, ZH, eq_self, Nat.reduceLeDiff, Nat.reduceBEq, slV_new, ZS, reduceIte, ↓op_extract, h33, hix, hw]
  refine okr_if (fun _ => ?_) (fun _ => ?_)
  · simp (dsimp := false) (disch := first | exact dI | fail) only [XOB, ↓XXs, ↓XD, ↓YX, ZB, Nat.reduceAdd, Nat.reducePow, ↓reduceIte, eq_self, Int.reduceEq, Nat.reduceEqDiff, Nat.reduceMul, Nat.reduceLeDiff, Int.reduceBEq, Int.reduceLT, Tryz.f52, ↓XH2, XRN, ZC, ZE, ZH, eq_self, Nat.reduceLeDiff, Nat.reduceBEq, slV_new, ZS, reduceIte, ↓op_extract, h33, hix, hw]
    have hil := lt_of_get q.e
    have q2 : LogAt H0 (h ++ [AObj.row 0 1 [sV [97, 110, 110], sV [98, 111, 98], sV [99, 121, 100]]]) id va n P il g log := q.keep (Keep.app _ _ (Nat.le_refl _))
    refine okr_call (rq51 _ _ _ _ log (by omega) q2.rd q2.inc.2 (by have := q.k.1; have := q.hid; simp; omega) (by simp)) ?_
    rintro _ h2 ⟨⟨⟨rn, rx, rm2, rr2, rj2⟩, ms, rs, rfl, qr, hnm, hnx, hms, hrs⟩, k2⟩
    have q3 := q2.keep k2
    have hom := qr.qm.one
    have hor := qr.qr.one
    try simp only at hom hor hnm hnx
    have hnr := nextL_in [100, 101, 110] log 0 (fun a ha => (q.inc.2 a ha).2) (by omega)
    have hil2 := lt_of_get q3.e
    try simp (dsimp := false) (disch := first | exact dI | fail) only [XOB, ↓XXs, ↓XD, ↓YX, ZB, Nat.reduceAdd, Nat.reducePow, ↓reduceIte, eq_self, Int.reduceEq, Nat.reduceEqDiff, Nat.reduceMul, Nat.reduceLeDiff, Int.reduceBEq, Int.reduceLT, Tryz.f52, ↓XH2, XRN, ZC, ZE, ZH, eq_self, Nat.reduceLeDiff, Nat.reduceBEq, slV_new, ZS, reduceIte, ↓op_extract, h33, hix, hw, hom, hor]
    have q4 : LogAt H0 (h2 ++ [AObj.row 0 1 [sV [65, 110, 110], sV [66, 111, 98], sV [67, 121, 100]]]) id va n P il g log := q3.keep (Keep.app _ _ (Nat.le_refl _))
    have hm1 := q.hid
    have hm2 := q3.k.1
    refine okr_call (rq95 ⟨rn, rx, rm2, rr2, rj2⟩ ms rs _ log [97, 110, 110] ⟨6, [100, 101, 110], [65, 110, 110], [], [], [], [], 0, 0, 0⟩ l _ (by simp; omega) (by omega) (by omega) (qr.keep (Keep.app _ _ (Nat.le_refl _))) (by omega) q4.rd (by simp) ⟨by simp, by simp, by simp, by simp, by simp, by simp⟩ (by simp only [hnx]; exact hnr)) ?_
    rintro _ h3 ⟨⟨lv2, es, c, rfl, e1, e2, e3, e4⟩, k3⟩
    have q5 := q4.keep k3
    have hi5 := q5.hi
    try simp only [hnm, hnx] at e2 e4
    have hinc := q.inc.app e2 e3 e4
    simp (dsimp := false) (disch := first | exact dI | fail) only [XOB, ↓XXs, ↓XD, ↓YX, ZB, Nat.reduceAdd, Nat.reducePow, ↓reduceIte, eq_self, Int.reduceEq, Nat.reduceEqDiff, Nat.reduceMul, Nat.reduceLeDiff, Int.reduceBEq, Int.reduceLT, Tryz.f52, ↓XH2, XRN, ZC, ZE, ZH, eq_self, Nat.reduceLeDiff, Nat.reduceBEq, slV_new, ZS, reduceIte, ↓op_extract, h33, hix, hw, ↓unc, ↓nilL]
    refine okr_opt (okr_app (k := es.length) (ds := En.R es) (cs := En.R log) e1.src q5.e (by rw [En.R_len]; omega) (by first | rfl | omega | (simp (disch := first | exact dI | fail) only [ZK, ZL, ZR] <;> omega) | fail) (by omega)) ?_
    rintro _ ⟨g2, rfl⟩
    try simp (dsimp := false) (disch := first | exact dI | fail) only [XOB, ↓XXs, ↓XD, ↓YX, ZB, Nat.reduceAdd, Nat.reducePow, ↓reduceIte, eq_self, Int.reduceEq, Nat.reduceEqDiff, Nat.reduceMul, Nat.reduceLeDiff, Int.reduceBEq, Int.reduceLT, Tryz.f52, ↓XH2, XRN, ZC, ZE, ZH, eq_self, Nat.reduceLeDiff, Nat.reduceBEq, slV_new, ZS, reduceIte, ↓op_extract, h33, hix, hw]
    exact L52a1 hl hn hmn P il g2 (log.length + es.length) _ (log ++ es) _ (q5.add hinc) (by simp; omega) (by simp) rfl hP
  · simp (dsimp := false) (disch := first | exact dI | fail) only [XOB, ↓XXs, ↓XD, ↓YX, ZB, Nat.reduceAdd, Nat.reducePow, ↓reduceIte, eq_self, Int.reduceEq, Nat.reduceEqDiff, Nat.reduceMul, Nat.reduceLeDiff, Int.reduceBEq, Int.reduceLT, Tryz.f52, ↓XH2, XRN, ZC, ZE, ZH, eq_self, Nat.reduceLeDiff, Nat.reduceBEq, slV_new, ZS, reduceIte, ↓op_extract, h33, hix, hw]
    exact L52b hl hn mn P il g _ _ log h q (by omega) rfl rfl (by omega) (by omega)
theorem rq52 {H : AH} {id : Nat} {va : Value} {n l p : Nat} (r : Rd H id va n p) (hl : l ≤ id) (hn : n ≤ 2 ^ 62) (hp : p ≤ 2 ^ 38) :
    Okr (LogQ H id va n (p + 1000)) (run V0 (.fn 52) l [S (pV id 0 0)] H) := by
  have hid := lt_of_get r.1
  refine okr_fn Tryz.func52 rfl rfl rfl rfl ?_
  simp (dsimp := false) (disch := first | exact dI | fail) only [XOB, ↓XXs, ↓XD, ↓YX, ZB, Nat.reduceAdd, Nat.reducePow, ↓reduceIte, eq_self, Int.reduceEq, Nat.reduceEqDiff, Nat.reduceMul, Nat.reduceLeDiff, Int.reduceBEq, Int.reduceLT, Tryz.f52, ↓XH2, XRN, ZC, ZE, ZH, eq_self, Nat.reduceLeDiff, Nat.reduceBEq, slV_new, ZS, reduceIte, ↓op_extract]
  refine okr_call (okr_one [_, _, _, _, _, _] r.ap hl (by simp (disch := first | exact dI | fail) only [↓XH2, XRN, ZC, ZE, ZH, eq_self, Nat.reduceLeDiff, Nat.reduceBEq] <;> rfl) rfl rfl (by omega) (by simp) (by simp) hn (by omega)) ?_
  rintro _ _ ⟨⟨x, rfl, hx⟩, rfl⟩
  obtain ⟨mn, rfl, hmn⟩ : ∃ mn : Nat, x = mn ∧ mn ≤ 30 := ⟨x.toNat, by revert x; decide, by revert x; decide⟩
  simp (dsimp := false) (disch := first | exact dI | fail) only [XOB, ↓XXs, ↓XD, ↓YX, ZB, Nat.reduceAdd, Nat.reducePow, ↓reduceIte, eq_self, Int.reduceEq, Nat.reduceEqDiff, Nat.reduceMul, Nat.reduceLeDiff, Int.reduceBEq, Int.reduceLT, Tryz.f52, ↓XH2, XRN, ZC, ZE, ZH, eq_self, Nat.reduceLeDiff, Nat.reduceBEq, slV_new, ZS, reduceIte, ↓op_extract]
  have q : LogAt H (H.set id (rdO va (p + 1)) ++ [AObj.row 0 9 [], AObj.row 0 1 [iV 0, iV 4, iV 8, iV 14, iV 22, iV 22]]) id va n (p + 1) H.length 0 [] :=
    ⟨by simp (disch := first | exact dI | fail) only [↓XH2, XRN, ZC, ZE, ZH, eq_self, Nat.reduceLeDiff, Nat.reduceBEq]; rfl, Nat.le_refl _, ⟨List.Pairwise.nil, by simp⟩, ⟨p + 1, Nat.le_refl _, r.kp (p + 1)⟩, hid, (KX.set H.length id H _).trans ((Keep.app _ _ (by simp)).kx (Nat.le_refl _))⟩
  refine Okr.mono (L52a0 hl hn hmn (p + 1) H.length 0 0 0 [] _ q (by simp) rfl rfl (by omega)) fun v h' e => ⟨e.ex, ?_, e.k⟩
  obtain ⟨p', hp', r'⟩ := e.r
  exact ⟨p', by omega, r'⟩
end Go.Abs
