/- That the law FnRoomPut answers true. For every code; no condition. -/
import Derived.Test.YtoijpmokcdifnaaGreatDoorRoomE
import Derived.Test.YtoijpmokcdifnaaGreatDoorRoomD
import Derived.Test.YtoijpmokcdifnaaGreatDoorLogB
namespace Go.Abs
open Go.Proofs
set_option maxRecDepth 100000
set_option linter.unusedSimpArgs false
set_option linter.unusedVariables false
set_option pp.maxSteps 20000
set_option pp.deepTerms true
/-- the room of a text, or an empty one -/
def rmOf (s : Bs) : Rm := (getS s).getD ⟨[], 0, [], [], []⟩
theorem get_v {s : Bs} {o : Option Rm} {H0 h : AH} {v : Value} (ho : sealL s o = getS s) (q : GetQ s o H0 v h) : ∃ mv rv, v = .tuple ⟨[.agg ⟨[sV (rmOf s).name, iV (rmOf s).next, mv, rv, sV (rmOf s).sub]⟩, .bool (getS s).isSome]⟩ ∧ Me.OwL H0.length h mv (rmOf s).ms ∧ Rk.OwL H0.length h rv (rmOf s).rs ∧ Keep H0.length H0 h := by
  obtain ⟨q, k⟩ := q
  rw [ho] at q
  unfold rmOf
  cases hq : getS s with
  | none =>
    rw [hq] at q
    exact ⟨.slice none 0 0, .slice none 0 0, q, .inl ⟨rfl, rfl⟩, .inl ⟨rfl, rfl⟩, k⟩
  | some R =>
    rw [hq] at q
    obtain ⟨mv, rv, rfl, m, r⟩ := q
    exact ⟨mv, rv, rfl, m, r, k⟩
end Go.Abs
namespace Go.Abs
open Go.Proofs
set_option maxRecDepth 100000
set_option linter.unusedSimpArgs false
set_option linter.unusedVariables false
set_option pp.maxSteps 20000
set_option pp.deepTerms true
theorem binK_neqA {P : Program} {t : TypeId} {a b : Array Value} {act : Option Bool} {K : Value → R} : binK P .neq t (.agg a) (.agg b) act K = chk (eqOk P t (.agg a)) (oE act (eqA P 50 t (.agg a) (.agg b)) false fun q => K (.bool (!q))) := rfl
theorem eqA_Me (x : Me) : eqA V0.P 50 52 (.agg (Me.C x).toArray) (.agg (Me.C x).toArray) = some true := by
  have : eqA V0.P 50 52 (.agg (Me.C x).toArray) (.agg (Me.C x).toArray) = some (decide (B x.user = B x.user) && (decide (B x.nick = B x.nick) && ((x.role == x.role) && true))) := by kernel_rfl
  rw [this]; simp
theorem eqOk_Me (x : Me) : eqOk V0.P 52 (.agg (Me.C x).toArray) = true := by kernel_rfl
theorem eqA_Rk (x : Rk) : eqA V0.P 50 54 (.agg (Rk.C x).toArray) (.agg (Rk.C x).toArray) = some true := by
  have : eqA V0.P 50 54 (.agg (Rk.C x).toArray) (.agg (Rk.C x).toArray) = some (decide (B x.user = B x.user) && ((x.num == x.num) && true)) := by kernel_rfl
  rw [this]; simp
theorem eqOk_Rk (x : Rk) : eqOk V0.P 54 (.agg (Rk.C x).toArray) = true := by kernel_rfl
set_option maxHeartbeats 4000000 in
theorem L118 (R : Rm) (sm : R.Sm) (l ia ib : Nat) (mv rv mv' rv' : Value) (h : AH) (ea : h[ia]? = some (.row 0 5 [sV R.name, iV R.next, mv, rv, sV R.sub])) (eb : h[ib]? = some (.row 0 5 [sV R.name, iV R.next, mv', rv', sV R.sub])) (qm : Me.Rd h mv R.ms) (qr : Rk.Rd h rv R.rs) (qm' : Me.Rd h mv' R.ms) (qr' : Rk.Rd h rv' R.rs) :
    ∀ (r d : List Rk), d ++ r = R.rs → Okr (VQ (.bool true) h) (L18_1 l (pV ia 0 0) (pV ib 0 0) (iV d.length) h) := by
  have hmb := sm.k
  have n5 : ∀ a b c d e : Value, [a, b, c, d, e].length = 5 := fun _ _ _ _ _ => rfl
  have c2 : ∀ a b c d e : Value, [a, b, c, d, e][2]? = some c := fun _ _ _ _ _ => rfl
  have c3 : ∀ a b c d e : Value, [a, b, c, d, e][3]? = some d := fun _ _ _ _ _ => rfl
  have la := qr.len
  have lb := qr'.len
  intro r
  induction r with
  | nil =>
    intro d hd
    rw [List.append_nil] at hd
    have hlt : decide ((d.length : Int) < (R.rs.length : Int)) = false := by rw [decide_eq_false_iff_not, hd]; omega
    refine okr_code Tryz.func18 rfl rfl ?_
    simp (dsimp := false) (disch := first | exact dI | fail) only [XOB, ↓XXs, ↓XD, ↓YX, ZB, Nat.reduceAdd, Nat.reducePow, ↓reduceIte, eq_self, Int.reduceEq, Nat.reduceEqDiff, Nat.reduceMul, Nat.reduceLeDiff, Int.reduceBEq, Int.reduceLT, Tryz.f18, ↓XH2, XRN, ZC, ZE, ZH, eq_self, Nat.reduceLeDiff, Nat.reduceBEq, slV_new, reduceIte, ↓op_extract, tupAt_mk, lenV_sl, Bool.not_true, Bool.not_false, ea, eb, c2, c3, la, lb, hlt]
    exact Okr.ret ⟨rfl, Keep.refl _ _⟩
  | cons x r ih =>
    intro d hd
    have hll := congrArg List.length hd
    simp only [List.length_append, List.length_cons] at hll
    have hlt : decide ((d.length : Int) < (R.rs.length : Int)) = true := decide_eq_true (by omega)
    have hw : IntKind.i64.wrap ((d.length : Int) + 1) = ((d.length + 1 : Nat) : Int) := natCast_succ_wrap (by omega) rfl
    rw [← hd] at qr qr'
    rcases qr with ⟨_, q⟩ | ⟨i1, g1, k1, hv1, e1⟩
    · simp at q
    rcases qr' with ⟨_, q⟩ | ⟨i2, g2, k2, hv2, e2⟩
    · simp at q
    have hix : ixAddr rv (d.length : Int) 2 = some (pV i1 (d.length * 2) g1) := by rw [hv1, ixAddr_sl (by simp)]; simp
    have hix2 : ixAddr rv' (d.length : Int) 2 = some (pV i2 (d.length * 2) g2) := by rw [hv2, ixAddr_sl (by simp)]; simp
    have cc := Rk.get d x r
    have l1 : d.length * 2 + 2 ≤ (Rk.R (d ++ x :: r)).length := by rw [Rk.R_len]; simp; omega
    refine okr_code Tryz.func18 rfl rfl ?_
    simp (dsimp := false) (disch := first | exact dI | fail) only [XOB, ↓XXs, ↓XD, ↓YX, ZB, Nat.reduceAdd, Nat.reducePow, ↓reduceIte, eq_self, Int.reduceEq, Nat.reduceEqDiff, Nat.reduceMul, Nat.reduceLeDiff, Int.reduceBEq, Int.reduceLT, Tryz.f18, ↓XH2, XRN, ZC, ZE, ZH, eq_self, Nat.reduceLeDiff, Nat.reduceBEq, slV_new, reduceIte, ↓op_extract, tupAt_mk, lenV_sl, Bool.not_true, Bool.not_false, ea, eb, c2, c3, la, lb, hlt, hix, hix2, e1, e2, cc, l1, binK_neqA, eqA_Rk, eqOk_Rk, Bool.not_true, hw, decide_true]
    have := ih (d ++ [x]) (by rw [← hd]; simp)
    rw [show (d ++ [x]).length = d.length + 1 by simp] at this
    exact this
set_option maxHeartbeats 4000000 in
theorem L018 (R : Rm) (sm : R.Sm) (l ia ib : Nat) (mv rv mv' rv' : Value) (h : AH) (ea : h[ia]? = some (.row 0 5 [sV R.name, iV R.next, mv, rv, sV R.sub])) (eb : h[ib]? = some (.row 0 5 [sV R.name, iV R.next, mv', rv', sV R.sub])) (qm : Me.Rd h mv R.ms) (qr : Rk.Rd h rv R.rs) (qm' : Me.Rd h mv' R.ms) (qr' : Rk.Rd h rv' R.rs) :
    ∀ (r d : List Me), d ++ r = R.ms → Okr (VQ (.bool true) h) (L18_0 l (pV ia 0 0) (pV ib 0 0) (iV d.length) h) := by
  have hmb := sm.m
  have n5 : ∀ a b c d e : Value, [a, b, c, d, e].length = 5 := fun _ _ _ _ _ => rfl
  have c2 : ∀ a b c d e : Value, [a, b, c, d, e][2]? = some c := fun _ _ _ _ _ => rfl
  have c3 : ∀ a b c d e : Value, [a, b, c, d, e][3]? = some d := fun _ _ _ _ _ => rfl
  have la := qm.len
  have lb := qm'.len
  intro r
  induction r with
  | nil =>
    intro d hd
    rw [List.append_nil] at hd
    have hlt : decide ((d.length : Int) < (R.ms.length : Int)) = false := by rw [decide_eq_false_iff_not, hd]; omega
    refine okr_code Tryz.func18 rfl rfl ?_
    simp (dsimp := false) (disch := first | exact dI | fail) only [XOB, ↓XXs, ↓XD, ↓YX, ZB, Nat.reduceAdd, Nat.reducePow, ↓reduceIte, eq_self, Int.reduceEq, Nat.reduceEqDiff, Nat.reduceMul, Nat.reduceLeDiff, Int.reduceBEq, Int.reduceLT, Tryz.f18, ↓XH2, XRN, ZC, ZE, ZH, eq_self, Nat.reduceLeDiff, Nat.reduceBEq, slV_new, reduceIte, ↓op_extract, tupAt_mk, lenV_sl, Bool.not_true, Bool.not_false, ea, eb, c2, c3, la, lb, hlt]
    exact L118 R sm l ia ib mv rv mv' rv' h ea eb qm qr qm' qr' R.rs [] rfl
  | cons x r ih =>
    intro d hd
    have hll := congrArg List.length hd
    simp only [List.length_append, List.length_cons] at hll
    have hlt : decide ((d.length : Int) < (R.ms.length : Int)) = true := decide_eq_true (by omega)
    have hw : IntKind.i64.wrap ((d.length : Int) + 1) = ((d.length + 1 : Nat) : Int) := natCast_succ_wrap (by omega) rfl
    rw [← hd] at qm qm'
    rcases qm with ⟨_, q⟩ | ⟨i1, g1, k1, hv1, e1⟩
    · simp at q
    rcases qm' with ⟨_, q⟩ | ⟨i2, g2, k2, hv2, e2⟩
    · simp at q
    have hix : ixAddr mv (d.length : Int) 3 = some (pV i1 (d.length * 3) g1) := by rw [hv1, ixAddr_sl (by simp)]; simp
    have hix2 : ixAddr mv' (d.length : Int) 3 = some (pV i2 (d.length * 3) g2) := by rw [hv2, ixAddr_sl (by simp)]; simp
    have cc := Me.get d x r
    have l1 : d.length * 3 + 3 ≤ (Me.R (d ++ x :: r)).length := by rw [Me.R_len]; simp; omega
    refine okr_code Tryz.func18 rfl rfl ?_
    simp (dsimp := false) (disch := first | exact dI | fail) only [XOB, ↓XXs, ↓XD, ↓YX, ZB, Nat.reduceAdd, Nat.reducePow, ↓reduceIte, eq_self, Int.reduceEq, Nat.reduceEqDiff, Nat.reduceMul, Nat.reduceLeDiff, Int.reduceBEq, Int.reduceLT, Tryz.f18, ↓XH2, XRN, ZC, ZE, ZH, eq_self, Nat.reduceLeDiff, Nat.reduceBEq, slV_new, reduceIte, ↓op_extract, tupAt_mk, lenV_sl, Bool.not_true, Bool.not_false, ea, eb, c2, c3, la, lb, hlt, hix, hix2, e1, e2, cc, l1, binK_neqA, eqA_Me, eqOk_Me, Bool.not_true, hw, decide_true]
    have := ih (d ++ [x]) (by rw [← hd]; simp)
    rw [show (d ++ [x]).length = d.length + 1 by simp] at this
    exact this

set_option maxHeartbeats 4000000 in
theorem rq18 (R : Rm) (sm : R.Sm) (va vb : Value) (l : Nat) (h : AH) (hl : l ≤ h.length) (qa : RmV h R va) (qb : RmV h R vb) :
    Okr (VQ (.bool true) h) (run V0 (.fn 18) l [S va, S vb] h) := by
  obtain ⟨mv, rv, rfl, qm, qr, om, oq⟩ := qa.ex
  obtain ⟨mv', rv', rfl, qm', qr', om', oq'⟩ := qb.ex
  have la := qm.len
  have lb := qm'.len
  have lc := qr.len
  have ld := qr'.len
  have kx : Keep h.length h (h ++ [AObj.row 0 5 [sV R.name, iV R.next, mv, rv, sV R.sub], AObj.row 0 5 [sV R.name, iV R.next, mv', rv', sV R.sub]]) := Keep.app _ _ (Nat.le_refl _)
  have ni : ∀ a : Int, (a != a) = false := fun a => by simp
  refine okr_fn Tryz.func18 rfl rfl rfl rfl ?_
  simp (dsimp := false) (disch := first | exact dI | fail) only [XOB, ↓XXs, ↓XD, ↓YX, ZB, Nat.reduceAdd, Nat.reducePow, ↓reduceIte, eq_self, Int.reduceEq, Nat.reduceEqDiff, Nat.reduceMul, Nat.reduceLeDiff, Int.reduceBEq, Int.reduceLT, Tryz.f18, ↓XH2, XRN, ZC, ZE, ZH, eq_self, Nat.reduceLeDiff, Nat.reduceBEq, slV_new, reduceIte, ↓op_extract, tupAt_mk, lenV_sl, Bool.not_true, Bool.not_false, la, lb, lc, ld, ni]
  refine (L018 R sm l h.length (h.length + 1) mv rv mv' rv' _ (by simp) (by simp) (qm.keep kx) (qr.keep kx) (qm'.keep kx) (qr'.keep kx) R.ms [] rfl).mono ?_
  rintro v h' ⟨e, k⟩
  exact ⟨e, kx.trans (k.le kx.1)⟩
end Go.Abs
namespace Go.Abs
open Go.Proofs
set_option maxRecDepth 100000
set_option linter.unusedSimpArgs false
set_option linter.unusedVariables false
set_option pp.maxSteps 20000
set_option pp.deepTerms true
structure DrawT (H : AH) (v : Value) (h' : AH) : Prop where
  ex : ∃ s, v = sV s ∧ s.length ≤ 2 ^ 20
  k : Keep H.length H h'
theorem den_len : ([100, 101, 110] : Bs).length ≤ 64 := by decide
theorem flat_le {α : Type} (f : α → Bs) (c : Nat) : ∀ (xs : List α), (∀ x ∈ xs, (f x).length ≤ c) → (xs.flatMap f).length ≤ xs.length * c
  | [], _ => by simp
  | x :: xs, h => by
    have h1 := h x (by simp)
    have h2 := flat_le f c xs (fun y hy => h y (by simp [hy]))
    simp only [List.flatMap_cons, List.length_append, List.length_cons, Nat.succ_mul]
    omega
theorem rput_len {R : Rm} (h : R.ok = true) : R.put.length ≤ 2 ^ 12 := by
  have b := Rm.ok_bd h
  have b1 := b.n; have b2 := b.nm; have b3 := b.sb; have b4 := b.m; have b5 := b.k
  have d1 := decI_len b1.1 b1.2
  have d2 := decI_len (n := (R.ms.length : Int)) (by omega) (by omega)
  have f1 := flat_le (fun m : Me => 124 :: m.user ++ 124 :: fieldL m.nick ++ 124 :: decI m.role) 64 R.ms (fun m hm => by
    obtain ⟨c1, c2, c3, c4, c5⟩ := b.ms m hm
    have := decI_len c4 c5
    simp only [List.length_append, List.length_cons]
    omega)
  have f2 := flat_le (fun x : Rk => 124 :: x.user ++ 124 :: decI x.num) 64 R.rs (fun x hx => by
    obtain ⟨c1, c4, c5⟩ := b.rs x hx
    have := decI_len c4 c5
    simp only [List.length_append, List.length_cons]
    omega)
  rw [put_eq h]
  simp only [List.length_append, List.length_cons]
  have g1 : R.ms.length * 64 ≤ 5 * 64 := Nat.mul_le_mul_right _ b4
  have g2 : R.rs.length * 64 ≤ 6 * 64 := Nat.mul_le_mul_right _ b5
  omega
/-- the room of a record in memory -/
abbrev rmR (ro : Ro) (ms : List Me) (rs : List Rk) : Rm := ⟨ro.name, ro.next, ms, rs, ro.subj⟩
theorem rmR_sm {h : AH} {ro : Ro} {ms : List Me} {rs : List Rk} (q : RoomAt h ro ms rs) (hm : ms.length ≤ 60) (hr : rs.length ≤ 60) : (rmR ro ms rs).Sm :=
  ⟨by have := q.nm; show ro.name.length ≤ _; omega, by have := q.sj; show ro.subj.length ≤ _; omega, by show ms.length ≤ _; omega, by show rs.length ≤ _; omega, fun x hx => by have := q.fm x hx; unfold Me.F at this; omega, fun x hx => by have := q.fr x hx; unfold Rk.F at this; omega⟩
end Go.Abs
namespace Go.Abs
open Go.Proofs
set_option maxRecDepth 100000
set_option linter.unusedSimpArgs false
set_option linter.unusedVariables false
set_option pp.maxSteps 20000
set_option pp.deepTerms true
theorem okr_same1 {P : Value → AH → Prop} {h h' : AH} {X : R} {i n m b : Nat} (e : h'[b]? = h[b]?) (k : Okr P X) : Okr P (sameAt h h' X [⟨i, n, m, some b⟩]) := by
  simp only [sameAt, e, if_true]
  exact k

theorem Me.Ow.lo {lo : Nat} {h : AH} {v : Value} {xs : List Me} (q : Me.Ow h v xs) (f : v = .slice none 0 0 ∨ ∃ id g n c, lo ≤ id ∧ v = slV id g n c) : Me.OwL lo h v xs := by
  rcases q with q | ⟨id, g, rfl, e⟩
  · exact .inl q
  · rcases f with f | ⟨i2, g2, n2, c2, f1, f2⟩
    · cases f
    · injection f2 with f2 f3 f4
      injection f2 with f2
      injection f2 with f2 f5 f6
      subst f2
      exact .inr ⟨_, g, f1, rfl, e⟩
theorem Me.OwL.up {lo : Nat} {h h' : AH} {v : Value} {xs : List Me} (q : Me.OwL lo h v xs) (k : ∀ j, lo ≤ j → j < h.length → h'[j]? = h[j]?) : Me.OwL lo h' v xs := by
  rcases q with q | ⟨id, g, a, rfl, e⟩
  · exact .inl q
  · exact .inr ⟨id, g, a, rfl, by rw [k id a (lt_of_get e)]; exact e⟩
/-- one more, wherever it was made -/
theorem Me.app4 {lim lo nh g2 : Nat} {h : AH} {v : Value} {xs : List Me} {ys : List Value} (x : Me) (e2 : h[nh]? = some (.row g2 3 ys)) (hy : ys = Me.C x) (q : Me.OwL lo h v xs) (hl : lim ≤ lo) (hlo : lo ≤ h.length) (hb : xs.length ≤ 2 ^ 30) :
    ∃ z, app lim h v (slV nh g2 1 1) 3 3 40 = some z ∧ ∃ v' h', z = (v', h') ∧ Me.OwL lo h' v' (xs ++ [x]) ∧ oneCell v' = true ∧ Ch 3 lo h h' := by
  subst hy
  have src := src_new (n := 1) (c := 1) (sz := 3) e2 rfl
  rcases q with ⟨rfl, rfl⟩ | ⟨id, g, a, rfl, e⟩
  · refine ⟨(newS h 1 1, h ++ [.row 0 3 (Me.C x)]), ?_, _, _, rfl, .inr ⟨h.length, 0, hlo, rfl, by simp [Me.R]⟩, rfl, ⟨by simp, fun j hj => ?_, fun j g sz cs e _ => ?_⟩⟩
    · obtain ⟨s1, s2⟩ := src
      simp only [app, s1, Option.bind_some, s2]
      rfl
    · exact List.getElem?_append_left (by omega)
    · rw [List.getElem?_append_left (lt_of_get e)]; exact e
  · obtain ⟨z, e1, g', rfl⟩ := Me.app3 (lim := lim) x e e2 rfl rfl (by omega) hb rfl
    have hi := lt_of_get e
    refine ⟨_, e1, _, _, rfl, .inr ⟨id, g', a, by simp, ?_⟩, rfl, ⟨by simp, fun j hj => List.getElem?_set_ne (by omega), fun j g3 sz cs e3 hz => ?_⟩⟩
    · exact List.getElem?_set_self hi
    · have hne : id ≠ j := by rintro rfl; rw [e] at e3; cases e3; exact hz rfl
      rw [List.getElem?_set_ne hne]; exact e3

theorem Rk.Ow.lo {lo : Nat} {h : AH} {v : Value} {xs : List Rk} (q : Rk.Ow h v xs) (f : v = .slice none 0 0 ∨ ∃ id g n c, lo ≤ id ∧ v = slV id g n c) : Rk.OwL lo h v xs := by
  rcases q with q | ⟨id, g, rfl, e⟩
  · exact .inl q
  · rcases f with f | ⟨i2, g2, n2, c2, f1, f2⟩
    · cases f
    · injection f2 with f2 f3 f4
      injection f2 with f2
      injection f2 with f2 f5 f6
      subst f2
      exact .inr ⟨_, g, f1, rfl, e⟩
theorem Rk.OwL.up {lo : Nat} {h h' : AH} {v : Value} {xs : List Rk} (q : Rk.OwL lo h v xs) (k : ∀ j, lo ≤ j → j < h.length → h'[j]? = h[j]?) : Rk.OwL lo h' v xs := by
  rcases q with q | ⟨id, g, a, rfl, e⟩
  · exact .inl q
  · exact .inr ⟨id, g, a, rfl, by rw [k id a (lt_of_get e)]; exact e⟩
/-- one more, wherever it was made -/
theorem Rk.app4 {lim lo nh g2 : Nat} {h : AH} {v : Value} {xs : List Rk} {ys : List Value} (x : Rk) (e2 : h[nh]? = some (.row g2 2 ys)) (hy : ys = Rk.C x) (q : Rk.OwL lo h v xs) (hl : lim ≤ lo) (hlo : lo ≤ h.length) (hb : xs.length ≤ 2 ^ 30) :
    ∃ z, app lim h v (slV nh g2 1 1) 2 2 24 = some z ∧ ∃ v' h', z = (v', h') ∧ Rk.OwL lo h' v' (xs ++ [x]) ∧ oneCell v' = true ∧ Ch 2 lo h h' := by
  subst hy
  have src := src_new (n := 1) (c := 1) (sz := 2) e2 rfl
  rcases q with ⟨rfl, rfl⟩ | ⟨id, g, a, rfl, e⟩
  · refine ⟨(newS h 1 1, h ++ [.row 0 2 (Rk.C x)]), ?_, _, _, rfl, .inr ⟨h.length, 0, hlo, rfl, by simp [Rk.R]⟩, rfl, ⟨by simp, fun j hj => ?_, fun j g sz cs e _ => ?_⟩⟩
    · obtain ⟨s1, s2⟩ := src
      simp only [app, s1, Option.bind_some, s2]
      rfl
    · exact List.getElem?_append_left (by omega)
    · rw [List.getElem?_append_left (lt_of_get e)]; exact e
  · obtain ⟨z, e1, g', rfl⟩ := Rk.app3 (lim := lim) x e e2 rfl rfl (by omega) hb rfl
    have hi := lt_of_get e
    refine ⟨_, e1, _, _, rfl, .inr ⟨id, g', a, by simp, ?_⟩, rfl, ⟨by simp, fun j hj => List.getElem?_set_ne (by omega), fun j g3 sz cs e3 hz => ?_⟩⟩
    · exact List.getElem?_set_self hi
    · have hne : id ≠ j := by rintro rfl; rw [e] at e3; cases e3; exact hz rfl
      rw [List.getElem?_set_ne hne]; exact e3

theorem rq112 {id : Nat} {va : Value} {n p l : Nat} {H : AH} (r : Rd H id va n p) (hl : l ≤ id) (hn : n ≤ 2 ^ 62) (hp : p ≤ 2 ^ 40) :
    Okr (StrQ H id va p) (run V0 (.fn 112) l [S (pV id 0 0)] H) := by
  have hid := lt_of_get r.1
  refine okr_fn Tryz.func112 rfl rfl rfl rfl ?_
  simp (dsimp := false) (disch := first | exact dI | fail) only [XOB, ↓XXs, ↓XD, ↓YX, ZB, Nat.reduceAdd, Nat.reducePow, ↓reduceIte, eq_self, Int.reduceEq, Nat.reduceEqDiff, Nat.reduceMul, Nat.reduceLeDiff, Int.reduceBEq, Int.reduceLT, Tryz.f112, ↓XH2, XRN, ZC, ZE, ZH, eq_self, Nat.reduceLeDiff, Nat.reduceBEq, slV_new, reduceIte, ↓op_extract, tupAt_mk, lenV_sl, Bool.not_true, Bool.not_false]
  refine okr_call (okr_of [_, _, _, _, _, _, _, _, _, _, _, _] r.ap hl (by simp (disch := first | exact dI | fail) only [↓XH2, XRN, ZC, ZE, ZH, eq_self, Nat.reduceLeDiff, Nat.reduceBEq] <;> rfl) rfl rfl (by omega) (by simp) (by simp) hn hp) ?_
  rintro _ _ ⟨⟨x, rfl, hx⟩, rfl⟩
  simp (dsimp := false) (disch := first | exact dI | fail) only [XOB, ↓XXs, ↓XD, ↓YX, ZB, Nat.reduceAdd, Nat.reducePow, ↓reduceIte, eq_self, Int.reduceEq, Nat.reduceEqDiff, Nat.reduceMul, Nat.reduceLeDiff, Int.reduceBEq, Int.reduceLT, Tryz.f112, ↓XH2, XRN, ZC, ZE, ZH, eq_self, Nat.reduceLeDiff, Nat.reduceBEq, slV_new, reduceIte, ↓op_extract, tupAt_mk, lenV_sl, Bool.not_true, Bool.not_false]
  with_reducible refine Okr.ret ?_
  refine ⟨x, _, rfl, ?_, rfl⟩
  revert x; decide
structure AnyQ (H : AH) (id : Nat) (va : Value) (p : Nat) (v : Value) (h' : AH) : Prop where
  ex : ∃ x o o2, v = sV x ∧ x.length ≤ 80 ∧ h' = H.set id (rdO va (p + 2)) ++ [o, o2]
theorem rq88 {id : Nat} {va : Value} {n p l : Nat} {H : AH} (r : Rd H id va n p) (hl : l ≤ id) (hn : n ≤ 2 ^ 62) (hp : p ≤ 2 ^ 39) :
    Okr (AnyQ H id va p) (run V0 (.fn 88) l [S (pV id 0 0)] H) := by
  have hid := lt_of_get r.1
  refine okr_fn Tryz.func88 rfl rfl rfl rfl ?_
  simp (dsimp := false) (disch := first | exact dI | fail) only [XOB, ↓XXs, ↓XD, ↓YX, ZB, Nat.reduceAdd, Nat.reducePow, ↓reduceIte, eq_self, Int.reduceEq, Nat.reduceEqDiff, Nat.reduceMul, Nat.reduceLeDiff, Int.reduceBEq, Int.reduceLT, Tryz.f88, ↓XH2, XRN, ZC, ZE, ZH, eq_self, Nat.reduceLeDiff, Nat.reduceBEq, slV_new, reduceIte, ↓op_extract, tupAt_mk, lenV_sl, Bool.not_true, Bool.not_false]
  refine okr_call (rq112 r hl hn (by omega)) ?_
  rintro _ _ ⟨x, o, rfl, hx, rfl⟩
  simp (dsimp := false) (disch := first | exact dI | fail) only [XOB, ↓XXs, ↓XD, ↓YX, ZB, Nat.reduceAdd, Nat.reducePow, ↓reduceIte, eq_self, Int.reduceEq, Nat.reduceEqDiff, Nat.reduceMul, Nat.reduceLeDiff, Int.reduceBEq, Int.reduceLT, Tryz.f88, ↓XH2, XRN, ZC, ZE, ZH, eq_self, Nat.reduceLeDiff, Nat.reduceBEq, slV_new, reduceIte, ↓op_extract, tupAt_mk, lenV_sl, Bool.not_true, Bool.not_false]
  refine okr_call (okr_of [_, _, _, _, _, _, _, _, _, _, _] (r.kp (p + 1)) hl (by simp (disch := first | exact dI | fail) only [↓XH2, XRN, ZC, ZE, ZH, eq_self, Nat.reduceLeDiff, Nat.reduceBEq] <;> rfl) rfl rfl (by omega) (by simp) (by simp) hn (by omega)) ?_
  rintro _ _ ⟨⟨y, rfl, hy⟩, rfl⟩
  have fy : y.length ≤ 16 := by revert y; decide
  have hc : catA (B x) (B y) = some (B (x ++ y)) := catA_B x y (by omega)
  simp (dsimp := false) (disch := first | exact dI | fail) only [XOB, ↓XXs, ↓XD, ↓YX, ZB, Nat.reduceAdd, Nat.reducePow, ↓reduceIte, eq_self, Int.reduceEq, Nat.reduceEqDiff, Nat.reduceMul, Nat.reduceLeDiff, Int.reduceBEq, Int.reduceLT, Tryz.f88, ↓XH2, XRN, ZC, ZE, ZH, eq_self, Nat.reduceLeDiff, Nat.reduceBEq, slV_new, reduceIte, ↓op_extract, tupAt_mk, lenV_sl, Bool.not_true, Bool.not_false, hc]
  with_reducible refine Okr.ret ?_
  exact ⟨x ++ y, o, _, rfl, by simp; omega, rfl⟩
/-- a drawn room -/
def RmE (v : Value) (h' : AH) : Prop := ∃ (R : Rm) (mv rv : Value), v = (R.ro mv rv).V ∧ R.Sm ∧ Me.Rd h' mv R.ms ∧ Rk.Rd h' rv R.rs ∧ oneCell mv = true ∧ oneCell rv = true
structure RmD (H : AH) (id : Nat) (v : Value) (h' : AH) : Prop where
  ex : RmE v h'
  k : H.length ≤ h'.length
  x : ∀ j, j < H.length → j ≠ id → h'[j]? = H[j]?
theorem RmD.fin {H h4 h' : AH} {lo id : Nat} {mv rv : Value} (R : Rm) (sm : R.Sm) (qm : Me.OwL lo h4 mv R.ms) (qr : Rk.OwL lo h4 rv R.rs) (k : ∀ j, lo ≤ j → j < h4.length → h'[j]? = h4[j]?) (kl : H.length ≤ h'.length) (kx : ∀ j, j < H.length → j ≠ id → h'[j]? = H[j]?) : RmD H id (.agg ⟨[sV R.name, iV R.next, mv, rv, sV R.sub]⟩) h' :=
  ⟨⟨R, mv, rv, rfl, sm, (qm.up k).rd, (qr.up k).rd, qm.one, qr.one⟩, kl, kx⟩
set_option maxHeartbeats 8000000 in
theorem rq40 {id : Nat} {va : Value} {n p l : Nat} {H : AH} (r : Rd H id va n p) (hl : l ≤ id) (hn : n ≤ 2 ^ 62) (hp : p ≤ 2 ^ 30) :
    Okr (RmD H id) (run V0 (.fn 40) l [S (pV id 0 0)] H) := by
  have n5 : ∀ a b c d e : Value, [a, b, c, d, e].length = 5 := fun _ _ _ _ _ => rfl
  have le5 : (5 ≤ 5) = True := by simp
  have tk : ∀ a b c d e : Value, List.take 5 [a, b, c, d, e] = [a, b, c, d, e] := fun _ _ _ _ _ => rfl
  have hid := lt_of_get r.1
  have hlh : l ≤ H.length := by omega
  refine okr_fn Tryz.func40 rfl rfl rfl rfl ?_
  simp (dsimp := false) (disch := first | exact dI | fail) only [XOB, ↓XXs, ↓XD, ↓YX, ZB, Nat.reduceAdd, Nat.reducePow, ↓reduceIte, eq_self, Int.reduceEq, Nat.reduceEqDiff, Nat.reduceMul, Nat.reduceLeDiff, Int.reduceBEq, Int.reduceLT, Tryz.f40, ↓XH2, XRN, ZC, ZE, ZH, eq_self, Nat.reduceLeDiff, Nat.reduceBEq, slV_new, reduceIte, ↓op_extract, tupAt_mk, lenV_sl, Bool.not_true, Bool.not_false]
  refine okr_call (rq52 r.ap (by omega) (by omega) (by omega)) ?_
  rintro _ h3 ⟨⟨i2, g2, log, rfl, e2, hi2, hinc, h60⟩, ⟨p3, hp3, r3⟩, k3⟩
  have hk3 := k3.1
  simp only [List.length_append, List.length_cons, List.length_nil, Nat.zero_add] at hk3
  have ez3 : h3[H.length]? = some (.row 0 5 [sV [], iV 0, .slice none 0 0, .slice none 0 0, sV []]) := k3.get (by simp) (by simp) (by omega)
  try simp (dsimp := false) (disch := first | exact dI | fail) only [XOB, ↓XXs, ↓XD, ↓YX, ZB, Nat.reduceAdd, Nat.reducePow, ↓reduceIte, eq_self, Int.reduceEq, Nat.reduceEqDiff, Nat.reduceMul, Nat.reduceLeDiff, Int.reduceBEq, Int.reduceLT, Tryz.f40, ↓XH2, XRN, ZC, ZE, ZH, eq_self, Nat.reduceLeDiff, Nat.reduceBEq, slV_new, reduceIte, ↓op_extract, tupAt_mk, lenV_sl, Bool.not_true, Bool.not_false]
  refine okr_call (rq51 l [100, 101, 110] (slV i2 g2 log.length log.length) h3 log (by omega) (En.Rd.own e2) hinc.2 (by omega) den_len) ?_
  rintro _ h4 ⟨⟨ro, ms, rs, rfl, qr, _, _, hms, hrs, fr⟩, k4⟩
  have hk4 := k4.1
  have sm := rmR_sm qr (by omega) (by omega)
  have ow := qr.qm.lo fr.1
  have owr := qr.qr.lo fr.2
  rcases ro with ⟨rn, rx, rm, rr, rj⟩
  simp only at ow owr
  have om := ow.one
  have or := owr.one
  have r4 := r3.keep (k4.le (by omega))
  have hid3 := lt_of_get r3.1
  have ez : ∀ o (L : AH), (List.set h4 id o ++ L)[H.length]? = some (.row 0 5 [sV [], iV 0, .slice none 0 0, .slice none 0 0, sV []]) := fun o L => by
    rw [List.getElem?_append_left (by simp; omega), List.getElem?_set_ne (by omega), k4.2 _ (by omega)]; exact ez3
  try simp (dsimp := false) (disch := first | exact dI | fail) only [XOB, ↓XXs, ↓XD, ↓YX, ZB, Nat.reduceAdd, Nat.reducePow, ↓reduceIte, eq_self, Int.reduceEq, Nat.reduceEqDiff, Nat.reduceMul, Nat.reduceLeDiff, Int.reduceBEq, Int.reduceLT, Tryz.f40, ↓XH2, XRN, ZC, ZE, ZH, eq_self, Nat.reduceLeDiff, Nat.reduceBEq, slV_new, reduceIte, ↓op_extract, tupAt_mk, lenV_sl, Bool.not_true, Bool.not_false, n5, le5, tk, om, or, ez, hlh, decide_true]
  refine okr_call (okr_pick 14 r4.ap (by omega) rfl (by simp) (by simp) hn (by omega)) ?_
  rintro _ _ ⟨⟨m, rfl, hm⟩, rfl⟩
  simp (dsimp := false) (disch := first | exact dI | fail) only [XOB, ↓XXs, ↓XD, ↓YX, ZB, Nat.reduceAdd, Nat.reducePow, ↓reduceIte, eq_self, Int.reduceEq, Nat.reduceEqDiff, Nat.reduceMul, Nat.reduceLeDiff, Int.reduceBEq, Int.reduceLT, Tryz.f40, ↓XH2, XRN, ZC, ZE, ZH, eq_self, Nat.reduceLeDiff, Nat.reduceBEq, slV_new, reduceIte, ↓op_extract, tupAt_mk, lenV_sl, Bool.not_true, Bool.not_false, n5, le5, tk, om, or, ez, hlh, decide_true]
  -- behind all: the room is loaded and handed back
  have fin0 : ∀ (X : AH), (∀ j, h3.length ≤ j → j < h4.length → X[j]? = h4[j]?) → H.length ≤ X.length → (∀ j, j < H.length → j ≠ id → X[j]? = H[j]?) → ∀ (nm sb : Bs) (nx : Int) (mv rv : Value) (ms2 : List Me) (rs2 : List Rk), nm.length ≤ 2 ^ 20 → sb.length ≤ 2 ^ 20 → ((mv = rm ∧ ms2 = ms)) → ((rv = rr ∧ rs2 = rs) ∨ (rv = .slice none 0 0 ∧ rs2 = [])) →
      RmD H id (.agg ⟨[sV nm, iV nx, mv, rv, sV sb]⟩) X := by
    rintro X hX hl hx nm sb nx mv rv ms2 rs2 hnm hsb ⟨rfl, rfl⟩ hr
    have sm1 := sm.ms
    have sm2 := sm.rs
    have m1 := sm.m
    have k1 := sm.k
    simp only at sm1 sm2 m1 k1
    rcases hr with ⟨rfl, rfl⟩ | ⟨rfl, rfl⟩
    · exact RmD.fin ⟨nm, nx, _, _, sb⟩ ⟨by show nm.length ≤ _; omega, by show sb.length ≤ _; omega, m1, k1, sm1, sm2⟩ ow owr hX hl hx
    · exact RmD.fin ⟨nm, nx, _, [], sb⟩ ⟨by show nm.length ≤ _; omega, by show sb.length ≤ _; omega, m1, by simp, sm1, by simp⟩ ow (.inl ⟨rfl, rfl⟩) hX hl hx
  have rnl := sm.nm
  have rjl := sm.sb
  simp only at rnl rjl
  have rn6 := qr.nm
  have rj6 := qr.sj
  simp only at rn6 rj6
  have hkeep : ∀ (o : AObj) (L : AH) (z : AObj) (j : Nat), h3.length ≤ j → j < h4.length → ((List.set h4 id o).set H.length z ++ L)[j]? = h4[j]? := fun o L z j h1 h2 => by
    rw [List.getElem?_append_left (by simp; omega), List.getElem?_set_ne (by omega), List.getElem?_set_ne (by omega)]
  have h4x : ∀ j, j < H.length → j ≠ id → h4[j]? = H[j]? := fun j h1 h2 => by
    rw [k4.2 _ (by omega), k3.2 j (by simp; omega) h2, List.getElem?_append_left h1]
  have hkx : ∀ (o : AObj) (L : AH) (z : AObj) (j : Nat), j < H.length → j ≠ id → ((List.set h4 id o).set H.length z ++ L)[j]? = H[j]? := fun o L z j h1 h2 => by
    rw [List.getElem?_append_left (by simp; omega), List.getElem?_set_ne (by omega), List.getElem?_set_ne (by omega)]; exact h4x j h1 h2
  have hset : ∀ (o z : AObj) (L : AH), (List.set h4 id o ++ L).set H.length z = (List.set h4 id o).set H.length z ++ L := fun o z L => List.set_append_left _ _ (by simp; omega)
  with_reducible refine okr_if (fun q0 => ?_) (fun q0 => ?_)
  · simp (dsimp := false) (disch := first | exact dI | fail) only [XOB, ↓XXs, ↓XD, ↓YX, ZB, Nat.reduceAdd, Nat.reducePow, ↓reduceIte, eq_self, Int.reduceEq, Nat.reduceEqDiff, Nat.reduceMul, Nat.reduceLeDiff, Int.reduceBEq, Int.reduceLT, Tryz.f40, ↓XH2, XRN, ZC, ZE, ZH, eq_self, Nat.reduceLeDiff, Nat.reduceBEq, slV_new, reduceIte, ↓op_extract, tupAt_mk, lenV_sl, Bool.not_true, Bool.not_false, n5, le5, tk, om, or, ez, hlh, decide_true, hset]
    refine okr_call (okr_of [_, _, _] (r4.kp (p3 + 1)) (by omega) (by simp (disch := first | exact dI | fail) only [↓XH2, XRN, ZC, ZE, ZH, eq_self, Nat.reduceLeDiff, Nat.reduceBEq] <;> rfl) rfl rfl (by omega) (by simp) (by simp) hn (by omega)) ?_
    rintro _ _ ⟨⟨x, rfl, hx⟩, rfl⟩
    have fx : x.length ≤ 80 := by revert x; decide
    simp (dsimp := false) (disch := first | exact dI | fail) only [XOB, ↓XXs, ↓XD, ↓YX, ZB, Nat.reduceAdd, Nat.reducePow, ↓reduceIte, eq_self, Int.reduceEq, Nat.reduceEqDiff, Nat.reduceMul, Nat.reduceLeDiff, Int.reduceBEq, Int.reduceLT, Tryz.f40, ↓XH2, XRN, ZC, ZE, ZH, eq_self, Nat.reduceLeDiff, Nat.reduceBEq, slV_new, reduceIte, ↓op_extract, tupAt_mk, lenV_sl, Bool.not_true, Bool.not_false, n5, le5, tk, om, or, ez, hlh, decide_true, hset]
    with_reducible refine Okr.ret ?_
    exact fin0 _ (hkeep _ _ _) (by simp; omega) (hkx _ _ _) _ _ _ _ _ _ _ (by omega) (by omega) ⟨rfl, rfl⟩ (.inl ⟨rfl, rfl⟩)
  · simp (dsimp := false) (disch := first | exact dI | fail) only [XOB, ↓XXs, ↓XD, ↓YX, ZB, Nat.reduceAdd, Nat.reducePow, ↓reduceIte, eq_self, Int.reduceEq, Nat.reduceEqDiff, Nat.reduceMul, Nat.reduceLeDiff, Int.reduceBEq, Int.reduceLT, Tryz.f40, ↓XH2, XRN, ZC, ZE, ZH, eq_self, Nat.reduceLeDiff, Nat.reduceBEq, slV_new, reduceIte, ↓op_extract, tupAt_mk, lenV_sl, Bool.not_true, Bool.not_false, n5, le5, tk, om, or, ez, hlh, decide_true, hset]
    with_reducible refine okr_if (fun q0 => ?_) (fun q0 => ?_)
    · simp (dsimp := false) (disch := first | exact dI | fail) only [XOB, ↓XXs, ↓XD, ↓YX, ZB, Nat.reduceAdd, Nat.reducePow, ↓reduceIte, eq_self, Int.reduceEq, Nat.reduceEqDiff, Nat.reduceMul, Nat.reduceLeDiff, Int.reduceBEq, Int.reduceLT, Tryz.f40, ↓XH2, XRN, ZC, ZE, ZH, eq_self, Nat.reduceLeDiff, Nat.reduceBEq, slV_new, reduceIte, ↓op_extract, tupAt_mk, lenV_sl, Bool.not_true, Bool.not_false, n5, le5, tk, om, or, ez, hlh, decide_true, hset]
      refine okr_call (okr_one [_, _, _, _] (r4.kp (p3 + 1)) (by omega) (by simp (disch := first | exact dI | fail) only [↓XH2, XRN, ZC, ZE, ZH, eq_self, Nat.reduceLeDiff, Nat.reduceBEq] <;> rfl) rfl rfl (by omega) (by simp) (by simp) hn (by omega)) ?_
      rintro _ _ ⟨⟨x, rfl, hx⟩, rfl⟩
      simp (dsimp := false) (disch := first | exact dI | fail) only [XOB, ↓XXs, ↓XD, ↓YX, ZB, Nat.reduceAdd, Nat.reducePow, ↓reduceIte, eq_self, Int.reduceEq, Nat.reduceEqDiff, Nat.reduceMul, Nat.reduceLeDiff, Int.reduceBEq, Int.reduceLT, Tryz.f40, ↓XH2, XRN, ZC, ZE, ZH, eq_self, Nat.reduceLeDiff, Nat.reduceBEq, slV_new, reduceIte, ↓op_extract, tupAt_mk, lenV_sl, Bool.not_true, Bool.not_false, n5, le5, tk, om, or, ez, hlh, decide_true, hset]
      with_reducible refine Okr.ret ?_
      exact fin0 _ (hkeep _ _ _) (by simp; omega) (hkx _ _ _) _ _ _ _ _ _ _ (by omega) (by omega) ⟨rfl, rfl⟩ (.inl ⟨rfl, rfl⟩)
    · simp (dsimp := false) (disch := first | exact dI | fail) only [XOB, ↓XXs, ↓XD, ↓YX, ZB, Nat.reduceAdd, Nat.reducePow, ↓reduceIte, eq_self, Int.reduceEq, Nat.reduceEqDiff, Nat.reduceMul, Nat.reduceLeDiff, Int.reduceBEq, Int.reduceLT, Tryz.f40, ↓XH2, XRN, ZC, ZE, ZH, eq_self, Nat.reduceLeDiff, Nat.reduceBEq, slV_new, reduceIte, ↓op_extract, tupAt_mk, lenV_sl, Bool.not_true, Bool.not_false, n5, le5, tk, om, or, ez, hlh, decide_true, hset]
      with_reducible refine okr_if (fun q0 => ?_) (fun q0 => ?_)
      · simp (dsimp := false) (disch := first | exact dI | fail) only [XOB, ↓XXs, ↓XD, ↓YX, ZB, Nat.reduceAdd, Nat.reducePow, ↓reduceIte, eq_self, Int.reduceEq, Nat.reduceEqDiff, Nat.reduceMul, Nat.reduceLeDiff, Int.reduceBEq, Int.reduceLT, Tryz.f40, ↓XH2, XRN, ZC, ZE, ZH, eq_self, Nat.reduceLeDiff, Nat.reduceBEq, slV_new, reduceIte, ↓op_extract, tupAt_mk, lenV_sl, Bool.not_true, Bool.not_false, n5, le5, tk, om, or, ez, hlh, decide_true, hset]
        refine okr_call (rq86 (r4.kp (p3 + 1)) (by omega) hn (by omega)) ?_
        rintro _ _ ⟨us, o1, rfl, hus, rfl⟩
        simp (dsimp := false) (disch := first | exact dI | fail) only [XOB, ↓XXs, ↓XD, ↓YX, ZB, Nat.reduceAdd, Nat.reducePow, ↓reduceIte, eq_self, Int.reduceEq, Nat.reduceEqDiff, Nat.reduceMul, Nat.reduceLeDiff, Int.reduceBEq, Int.reduceLT, Tryz.f40, ↓XH2, XRN, ZC, ZE, ZH, eq_self, Nat.reduceLeDiff, Nat.reduceBEq, slV_new, reduceIte, ↓op_extract, tupAt_mk, lenV_sl, Bool.not_true, Bool.not_false, n5, le5, tk, om, or, ez, hlh, decide_true, hset]
        with_reducible refine okr_same1 ?_ ?_
        · simp (disch := first | exact dI | fail) only [↓XH2, XRN, ZC, ZE, ZH, eq_self, Nat.reduceLeDiff, Nat.reduceBEq]
        refine okr_call (rq87 (r4.kp (p3 + 2)) (by omega) hn (by omega)) ?_
        rintro _ _ ⟨nk, o2, rfl, hnk, rfl⟩
        simp (dsimp := false) (disch := first | exact dI | fail) only [XOB, ↓XXs, ↓XD, ↓YX, ZB, Nat.reduceAdd, Nat.reducePow, ↓reduceIte, eq_self, Int.reduceEq, Nat.reduceEqDiff, Nat.reduceMul, Nat.reduceLeDiff, Int.reduceBEq, Int.reduceLT, Tryz.f40, ↓XH2, XRN, ZC, ZE, ZH, eq_self, Nat.reduceLeDiff, Nat.reduceBEq, slV_new, reduceIte, ↓op_extract, tupAt_mk, lenV_sl, Bool.not_true, Bool.not_false, n5, le5, tk, om, or, ez, hlh, decide_true, hset]
        with_reducible refine okr_same1 ?_ ?_
        · simp (disch := first | exact dI | fail) only [↓XH2, XRN, ZC, ZE, ZH, eq_self, Nat.reduceLeDiff, Nat.reduceBEq]
        refine okr_call (okr_pick 5 (r4.kp (p3 + 3)) (by omega) rfl (by simp) (by simp) hn (by omega)) ?_
        rintro _ _ ⟨⟨m2, rfl, hm2⟩, rfl⟩
        simp (dsimp := false) (disch := first | exact dI | fail) only [XOB, ↓XXs, ↓XD, ↓YX, ZB, Nat.reduceAdd, Nat.reducePow, ↓reduceIte, eq_self, Int.reduceEq, Nat.reduceEqDiff, Nat.reduceMul, Nat.reduceLeDiff, Int.reduceBEq, Int.reduceLT, Tryz.f40, ↓XH2, XRN, ZC, ZE, ZH, eq_self, Nat.reduceLeDiff, Nat.reduceBEq, slV_new, reduceIte, ↓op_extract, tupAt_mk, lenV_sl, Bool.not_true, Bool.not_false, n5, le5, tk, om, or, ez, hlh, decide_true, hset]
        with_reducible refine okr_same1 ?_ ?_
        · simp (disch := first | exact dI | fail) only [↓XH2, XRN, ZC, ZE, ZH, eq_self, Nat.reduceLeDiff, Nat.reduceBEq]
        -- one more
        refine okr_opt (Me.app4 (lim := l) (lo := h3.length) (h := List.set h4 id (rdO va (p3 + 4)) ++ [AObj.row 0 5 [sV rn, iV rx, rm, rr, sV rj], o1, o2, AObj.row 0 3 [sV us, sV nk, iV m2]]) ⟨us, nk, m2⟩ (by simp (disch := first | exact dI | fail) only [↓XH2, XRN, ZC, ZE, ZH, eq_self, Nat.reduceLeDiff, Nat.reduceBEq] <;> rfl) rfl (ow.up fun j h1 h2 => by rw [List.getElem?_append_left (by simp; omega), List.getElem?_set_ne (by omega)]) (by omega) (by simp; omega) (by omega)) ?_
        rintro _ ⟨v', h', rfl, ow', one', ch⟩
        have ex : h'[h4.length]? = some (.row 0 5 [sV rn, iV rx, rm, rr, sV rj]) := ch.oth _ _ _ _ (by simp (disch := first | exact dI | fail) only [↓XH2, XRN, ZC, ZE, ZH, eq_self, Nat.reduceLeDiff, Nat.reduceBEq] <;> rfl) (by decide)
        have ez' : h'[H.length]? = some (.row 0 5 [sV [], iV 0, .slice none 0 0, .slice none 0 0, sV []]) := ch.oth _ _ _ _ (ez _ _) (by decide)
        have e1 : (h'.set h4.length (.row 0 5 [sV rn, iV rx, v', rr, sV rj]))[h4.length]? = some (.row 0 5 [sV rn, iV rx, v', rr, sV rj]) := get_set _ ex
        have e2 : (h'.set h4.length (.row 0 5 [sV rn, iV rx, v', rr, sV rj]))[H.length]? = some (.row 0 5 [sV [], iV 0, .slice none 0 0, .slice none 0 0, sV []]) := by rw [List.getElem?_set_ne (by omega)]; exact ez'
        have e4 : ((h'.set h4.length (.row 0 5 [sV rn, iV rx, v', rr, sV rj])).set H.length (.row 0 5 [sV rn, iV rx, v', rr, sV rj]))[H.length]? = some (.row 0 5 [sV rn, iV rx, v', rr, sV rj]) := get_set _ e2
        simp (dsimp := false) (disch := first | exact dI | fail) only [XOB, ↓XXs, ↓XD, ↓YX, ZB, Nat.reduceAdd, Nat.reducePow, ↓reduceIte, eq_self, Int.reduceEq, Nat.reduceEqDiff, Nat.reduceMul, Nat.reduceLeDiff, Int.reduceBEq, Int.reduceLT, Tryz.f40, ↓XH2, XRN, ZC, ZE, ZH, eq_self, Nat.reduceLeDiff, Nat.reduceBEq, slV_new, reduceIte, ↓op_extract, tupAt_mk, lenV_sl, Bool.not_true, Bool.not_false, n5, le5, tk, om, or, ez, hlh, decide_true, ex, ez', e1, e2, e4, one']
        with_reducible refine Okr.ret ?_
        have c5 : Ch 5 h3.length h' (h'.set h4.length (.row 0 5 [sV rn, iV rx, v', rr, sV rj])) := Ch.set ex (by omega)
        have sm1 := sm.ms
        have sm2 := sm.rs
        have m1 := sm.m
        have k1 := sm.k
        simp only at sm1 sm2 m1 k1
        have up : ∀ j, h3.length ≤ j → j < h4.length → (List.set h4 id (rdO va (p3 + 4)) ++ [AObj.row 0 5 [sV rn, iV rx, rm, rr, sV rj], o1, o2, AObj.row 0 3 [sV us, sV nk, iV m2]])[j]? = h4[j]? := fun j h1 h2 => by rw [List.getElem?_append_left (by simp; omega), List.getElem?_set_ne (by omega)]
        have hch := ch.len
        simp only [List.length_append, List.length_set, List.length_cons, List.length_nil] at hch
        refine ⟨⟨⟨rn, rx, ms ++ [⟨us, nk, m2⟩], rs, rj⟩, v', rr, rfl, ⟨by show rn.length ≤ _; omega, by show rj.length ≤ _; omega, by simp; omega, k1, fun x hx => ?_, sm2⟩, ((ow'.ch c5 (by decide)).up fun j h1 h2 => List.getElem?_set_ne (by omega)).rd, ((((owr.up up).ch ch (by decide)).ch c5 (by decide)).up fun j h1 h2 => List.getElem?_set_ne (by omega)).rd, one', or⟩, by simp; omega, fun j h1 h2 => ?_⟩
        rotate_left
        · rw [List.getElem?_set_ne (by omega), List.getElem?_set_ne (by omega), ch.low j (by omega), List.getElem?_append_left (by simp; omega), List.getElem?_set_ne (by omega)]; exact h4x j h1 h2
        rcases List.mem_append.1 hx with hx | hx
        · exact sm1 x hx
        · rw [List.mem_singleton] at hx; subst hx; exact ⟨by show us.length ≤ _; omega, by show nk.length ≤ _; omega⟩
      · simp (dsimp := false) (disch := first | exact dI | fail) only [XOB, ↓XXs, ↓XD, ↓YX, ZB, Nat.reduceAdd, Nat.reducePow, ↓reduceIte, eq_self, Int.reduceEq, Nat.reduceEqDiff, Nat.reduceMul, Nat.reduceLeDiff, Int.reduceBEq, Int.reduceLT, Tryz.f40, ↓XH2, XRN, ZC, ZE, ZH, eq_self, Nat.reduceLeDiff, Nat.reduceBEq, slV_new, reduceIte, ↓op_extract, tupAt_mk, lenV_sl, Bool.not_true, Bool.not_false, n5, le5, tk, om, or, ez, hlh, decide_true, hset]
        with_reducible refine okr_if (fun q0 => ?_) (fun q0 => ?_)
        · simp (dsimp := false) (disch := first | exact dI | fail) only [XOB, ↓XXs, ↓XD, ↓YX, ZB, Nat.reduceAdd, Nat.reducePow, ↓reduceIte, eq_self, Int.reduceEq, Nat.reduceEqDiff, Nat.reduceMul, Nat.reduceLeDiff, Int.reduceBEq, Int.reduceLT, Tryz.f40, ↓XH2, XRN, ZC, ZE, ZH, eq_self, Nat.reduceLeDiff, Nat.reduceBEq, slV_new, reduceIte, ↓op_extract, tupAt_mk, lenV_sl, Bool.not_true, Bool.not_false, n5, le5, tk, om, or, ez, hlh, decide_true, hset]
          refine okr_call (okr_of [_, _] (r4.kp (p3 + 1)) (by omega) (by simp (disch := first | exact dI | fail) only [↓XH2, XRN, ZC, ZE, ZH, eq_self, Nat.reduceLeDiff, Nat.reduceBEq] <;> rfl) rfl rfl (by omega) (by simp) (by simp) hn (by omega)) ?_
          rintro _ _ ⟨⟨us, rfl, hus⟩, rfl⟩
          have fus : us.length ≤ 80 := by revert us; decide
          simp (dsimp := false) (disch := first | exact dI | fail) only [XOB, ↓XXs, ↓XD, ↓YX, ZB, Nat.reduceAdd, Nat.reducePow, ↓reduceIte, eq_self, Int.reduceEq, Nat.reduceEqDiff, Nat.reduceMul, Nat.reduceLeDiff, Int.reduceBEq, Int.reduceLT, Tryz.f40, ↓XH2, XRN, ZC, ZE, ZH, eq_self, Nat.reduceLeDiff, Nat.reduceBEq, slV_new, reduceIte, ↓op_extract, tupAt_mk, lenV_sl, Bool.not_true, Bool.not_false, n5, le5, tk, om, or, ez, hlh, decide_true, hset]
          with_reducible refine okr_same1 ?_ ?_
          · simp (disch := first | exact dI | fail) only [↓XH2, XRN, ZC, ZE, ZH, eq_self, Nat.reduceLeDiff, Nat.reduceBEq]
          refine okr_call (okr_pick 6 (r4.kp (p3 + 2)) (by omega) rfl (by simp) (by simp) hn (by omega)) ?_
          rintro _ _ ⟨⟨m2, rfl, hm2⟩, rfl⟩
          simp (dsimp := false) (disch := first | exact dI | fail) only [XOB, ↓XXs, ↓XD, ↓YX, ZB, Nat.reduceAdd, Nat.reducePow, ↓reduceIte, eq_self, Int.reduceEq, Nat.reduceEqDiff, Nat.reduceMul, Nat.reduceLeDiff, Int.reduceBEq, Int.reduceLT, Tryz.f40, ↓XH2, XRN, ZC, ZE, ZH, eq_self, Nat.reduceLeDiff, Nat.reduceBEq, slV_new, reduceIte, ↓op_extract, tupAt_mk, lenV_sl, Bool.not_true, Bool.not_false, n5, le5, tk, om, or, ez, hlh, decide_true, hset]
          with_reducible refine okr_same1 ?_ ?_
          · simp (disch := first | exact dI | fail) only [↓XH2, XRN, ZC, ZE, ZH, eq_self, Nat.reduceLeDiff, Nat.reduceBEq]
          refine okr_opt (Rk.app4 (lim := l) (lo := h3.length) (h := List.set h4 id (rdO va (p3 + 3)) ++ [AObj.row 0 5 [sV rn, iV rx, rm, rr, sV rj], _, AObj.row 0 2 [sV us, iV m2]]) ⟨us, m2⟩ (by simp (disch := first | exact dI | fail) only [↓XH2, XRN, ZC, ZE, ZH, eq_self, Nat.reduceLeDiff, Nat.reduceBEq] <;> rfl) rfl (owr.up fun j h1 h2 => by rw [List.getElem?_append_left (by simp; omega), List.getElem?_set_ne (by omega)]) (by omega) (by simp; omega) (by omega)) ?_
          rintro _ ⟨v', h', rfl, ow', one', ch⟩
          have ex : h'[h4.length]? = some (.row 0 5 [sV rn, iV rx, rm, rr, sV rj]) := ch.oth _ _ _ _ (by simp (disch := first | exact dI | fail) only [↓XH2, XRN, ZC, ZE, ZH, eq_self, Nat.reduceLeDiff, Nat.reduceBEq] <;> rfl) (by decide)
          have ez' : h'[H.length]? = some (.row 0 5 [sV [], iV 0, .slice none 0 0, .slice none 0 0, sV []]) := ch.oth _ _ _ _ (ez _ _) (by decide)
          have e1 : (h'.set h4.length (.row 0 5 [sV rn, iV rx, rm, v', sV rj]))[h4.length]? = some (.row 0 5 [sV rn, iV rx, rm, v', sV rj]) := get_set _ ex
          have e2 : (h'.set h4.length (.row 0 5 [sV rn, iV rx, rm, v', sV rj]))[H.length]? = some (.row 0 5 [sV [], iV 0, .slice none 0 0, .slice none 0 0, sV []]) := by rw [List.getElem?_set_ne (by omega)]; exact ez'
          have e4 : ((h'.set h4.length (.row 0 5 [sV rn, iV rx, rm, v', sV rj])).set H.length (.row 0 5 [sV rn, iV rx, rm, v', sV rj]))[H.length]? = some (.row 0 5 [sV rn, iV rx, rm, v', sV rj]) := get_set _ e2
          simp (dsimp := false) (disch := first | exact dI | fail) only [XOB, ↓XXs, ↓XD, ↓YX, ZB, Nat.reduceAdd, Nat.reducePow, ↓reduceIte, eq_self, Int.reduceEq, Nat.reduceEqDiff, Nat.reduceMul, Nat.reduceLeDiff, Int.reduceBEq, Int.reduceLT, Tryz.f40, ↓XH2, XRN, ZC, ZE, ZH, eq_self, Nat.reduceLeDiff, Nat.reduceBEq, slV_new, reduceIte, ↓op_extract, tupAt_mk, lenV_sl, Bool.not_true, Bool.not_false, n5, le5, tk, om, or, ez, hlh, decide_true, ex, ez', e1, e2, e4, one']
          with_reducible refine Okr.ret ?_
          have c5 : Ch 5 h3.length h' (h'.set h4.length (.row 0 5 [sV rn, iV rx, rm, v', sV rj])) := Ch.set ex (by omega)
          have sm1 := sm.ms
          have sm2 := sm.rs
          have m1 := sm.m
          have k1 := sm.k
          simp only at sm1 sm2 m1 k1
          have up : ∀ (X : AObj) j, h3.length ≤ j → j < h4.length → (List.set h4 id (rdO va (p3 + 3)) ++ [AObj.row 0 5 [sV rn, iV rx, rm, rr, sV rj], X, AObj.row 0 2 [sV us, iV m2]])[j]? = h4[j]? := fun X j h1 h2 => by rw [List.getElem?_append_left (by simp; omega), List.getElem?_set_ne (by omega)]
          have hch := ch.len
          simp only [List.length_append, List.length_set, List.length_cons, List.length_nil] at hch
          refine ⟨⟨⟨rn, rx, ms, rs ++ [⟨us, m2⟩], rj⟩, rm, v', rfl, ⟨by show rn.length ≤ _; omega, by show rj.length ≤ _; omega, m1, by simp; omega, sm1, fun x hx => ?_⟩, ((((ow.up (up _)).ch ch (by decide)).ch c5 (by decide)).up fun j h1 h2 => List.getElem?_set_ne (by omega)).rd, ((ow'.ch c5 (by decide)).up fun j h1 h2 => List.getElem?_set_ne (by omega)).rd, om, one'⟩, by simp; omega, fun j h1 h2 => ?_⟩
          rotate_left
          · rw [List.getElem?_set_ne (by omega), List.getElem?_set_ne (by omega), ch.low j (by omega), List.getElem?_append_left (by simp; omega), List.getElem?_set_ne (by omega)]; exact h4x j h1 h2
          rcases List.mem_append.1 hx with hx | hx
          · exact sm2 x hx
          · rw [List.mem_singleton] at hx; subst hx; show us.length ≤ _; omega
        · simp (dsimp := false) (disch := first | exact dI | fail) only [XOB, ↓XXs, ↓XD, ↓YX, ZB, Nat.reduceAdd, Nat.reducePow, ↓reduceIte, eq_self, Int.reduceEq, Nat.reduceEqDiff, Nat.reduceMul, Nat.reduceLeDiff, Int.reduceBEq, Int.reduceLT, Tryz.f40, ↓XH2, XRN, ZC, ZE, ZH, eq_self, Nat.reduceLeDiff, Nat.reduceBEq, slV_new, reduceIte, ↓op_extract, tupAt_mk, lenV_sl, Bool.not_true, Bool.not_false, n5, le5, tk, om, or, ez, hlh, decide_true, hset]
          with_reducible refine okr_if (fun q0 => ?_) (fun q0 => ?_)
          · simp (dsimp := false) (disch := first | exact dI | fail) only [XOB, ↓XXs, ↓XD, ↓YX, ZB, Nat.reduceAdd, Nat.reducePow, ↓reduceIte, eq_self, Int.reduceEq, Nat.reduceEqDiff, Nat.reduceMul, Nat.reduceLeDiff, Int.reduceBEq, Int.reduceLT, Tryz.f40, ↓XH2, XRN, ZC, ZE, ZH, eq_self, Nat.reduceLeDiff, Nat.reduceBEq, slV_new, reduceIte, ↓op_extract, tupAt_mk, lenV_sl, Bool.not_true, Bool.not_false, n5, le5, tk, om, or, ez, hlh, decide_true, hset]
            refine okr_call (rq88 (r4.kp (p3 + 1)) (by omega) hn (by omega)) ?_
            rintro _ _ ⟨x, o1, o2, rfl, hx, rfl⟩
            simp (dsimp := false) (disch := first | exact dI | fail) only [XOB, ↓XXs, ↓XD, ↓YX, ZB, Nat.reduceAdd, Nat.reducePow, ↓reduceIte, eq_self, Int.reduceEq, Nat.reduceEqDiff, Nat.reduceMul, Nat.reduceLeDiff, Int.reduceBEq, Int.reduceLT, Tryz.f40, ↓XH2, XRN, ZC, ZE, ZH, eq_self, Nat.reduceLeDiff, Nat.reduceBEq, slV_new, reduceIte, ↓op_extract, tupAt_mk, lenV_sl, Bool.not_true, Bool.not_false, n5, le5, tk, om, or, ez, hlh, decide_true, hset]
            with_reducible refine Okr.ret ?_
            exact fin0 _ (hkeep _ _ _) (by simp; omega) (hkx _ _ _) _ _ _ _ _ _ _ (by omega) (by omega) ⟨rfl, rfl⟩ (.inl ⟨rfl, rfl⟩)
          · simp (dsimp := false) (disch := first | exact dI | fail) only [XOB, ↓XXs, ↓XD, ↓YX, ZB, Nat.reduceAdd, Nat.reducePow, ↓reduceIte, eq_self, Int.reduceEq, Nat.reduceEqDiff, Nat.reduceMul, Nat.reduceLeDiff, Int.reduceBEq, Int.reduceLT, Tryz.f40, ↓XH2, XRN, ZC, ZE, ZH, eq_self, Nat.reduceLeDiff, Nat.reduceBEq, slV_new, reduceIte, ↓op_extract, tupAt_mk, lenV_sl, Bool.not_true, Bool.not_false, n5, le5, tk, om, or, ez, hlh, decide_true, hset]
            with_reducible refine okr_if (fun q0 => ?_) (fun q0 => ?_)
            · simp (dsimp := false) (disch := first | exact dI | fail) only [XOB, ↓XXs, ↓XD, ↓YX, ZB, Nat.reduceAdd, Nat.reducePow, ↓reduceIte, eq_self, Int.reduceEq, Nat.reduceEqDiff, Nat.reduceMul, Nat.reduceLeDiff, Int.reduceBEq, Int.reduceLT, Tryz.f40, ↓XH2, XRN, ZC, ZE, ZH, eq_self, Nat.reduceLeDiff, Nat.reduceBEq, slV_new, reduceIte, ↓op_extract, tupAt_mk, lenV_sl, Bool.not_true, Bool.not_false, n5, le5, tk, om, or, ez, hlh, decide_true, hset]
              with_reducible refine Okr.ret ?_
              exact fin0 _ (hkeep _ _ _) (by simp; omega) (hkx _ _ _) _ _ _ _ _ _ _ (by omega) (by omega) ⟨rfl, rfl⟩ (.inr ⟨rfl, rfl⟩)
            · simp (dsimp := false) (disch := first | exact dI | fail) only [XOB, ↓XXs, ↓XD, ↓YX, ZB, Nat.reduceAdd, Nat.reducePow, ↓reduceIte, eq_self, Int.reduceEq, Nat.reduceEqDiff, Nat.reduceMul, Nat.reduceLeDiff, Int.reduceBEq, Int.reduceLT, Tryz.f40, ↓XH2, XRN, ZC, ZE, ZH, eq_self, Nat.reduceLeDiff, Nat.reduceBEq, slV_new, reduceIte, ↓op_extract, tupAt_mk, lenV_sl, Bool.not_true, Bool.not_false, n5, le5, tk, om, or, ez, hlh, decide_true, hset]
              with_reducible refine Okr.ret ?_
              exact fin0 _ (hkeep _ _ _) (by simp; omega) (hkx _ _ _) _ _ _ _ _ _ _ (by omega) (by omega) ⟨rfl, rfl⟩ (.inl ⟨rfl, rfl⟩)
set_option maxHeartbeats 4000000 in
theorem rq16 (va : Value) (n l : Nat) (h : AH) (r : Cd h va n) (hl : l ≤ h.length) (hn : n ≤ 2 ^ 62) :
    Okr (fun v h' => RmE v h' ∧ h.length ≤ h'.length) (run V0 (.fn 16) l [S va] h) := by
  have n5 : ∀ a b c d e : Value, [a, b, c, d, e].length = 5 := fun _ _ _ _ _ => rfl
  have le5 : (5 ≤ 5) = True := by simp
  have tk : ∀ a b c d e : Value, List.take 5 [a, b, c, d, e] = [a, b, c, d, e] := fun _ _ _ _ _ => rfl
  refine okr_fn Tryz.func16 rfl rfl rfl rfl ?_
  simp (dsimp := false) (disch := first | exact dI | fail) only [XOB, ↓XXs, ↓XD, ↓YX, ZB, Nat.reduceAdd, Nat.reducePow, ↓reduceIte, eq_self, Int.reduceEq, Nat.reduceEqDiff, Nat.reduceMul, Nat.reduceLeDiff, Int.reduceBEq, Int.reduceLT, Tryz.f16, ↓XH2, XRN, ZC, ZE, ZH, eq_self, Nat.reduceLeDiff, Nat.reduceBEq, slV_new, reduceIte, ↓op_extract, tupAt_mk, lenV_sl, Bool.not_true, Bool.not_false]
  have rz : Cd (h ++ [AObj.row 0 5 [sV [], iV 0, .slice none 0 0, .slice none 0 0, sV []]]) va n := r.keep (Keep.app _ _ (Nat.le_refl _))
  obtain ⟨vb, m, h1, a1, r1, hm, k1⟩ := rq41 va n l _ rz hn
  have hk1 := k1.1
  simp only [List.length_append, List.length_cons, List.length_nil, Nat.zero_add] at hk1 r1
  have hid1 := lt_of_get r1.1
  have ez1 : h1[h.length]? = some (.row 0 5 [sV [], iV 0, .slice none 0 0, .slice none 0 0, sV []]) := k1.get (by simp) (by simp)
  simp (dsimp := false) (disch := first | exact dI | fail) only [XOB, ↓XXs, ↓XD, ↓YX, ZB, Nat.reduceAdd, Nat.reducePow, ↓reduceIte, eq_self, Int.reduceEq, Nat.reduceEqDiff, Nat.reduceMul, Nat.reduceLeDiff, Int.reduceBEq, Int.reduceLT, Tryz.f16, ↓XH2, XRN, ZC, ZE, ZH, eq_self, Nat.reduceLeDiff, Nat.reduceBEq, slV_new, reduceIte, ↓op_extract, tupAt_mk, lenV_sl, Bool.not_true, Bool.not_false, a1]
  refine okr_call (rq40 r1 (by omega) (by omega) (by omega)) ?_
  rintro _ h2 ⟨⟨R, mv, rv, rfl, sm, qm, qr, om, or⟩, hk2, kx⟩
  have ez2 : h2[h.length]? = some (.row 0 5 [sV [], iV 0, .slice none 0 0, .slice none 0 0, sV []]) := by rw [kx _ (by omega) (by omega)]; exact ez1
  have e3 : (h2.set h.length (.row 0 5 [sV R.name, iV R.next, mv, rv, sV R.sub]))[h.length]? = some (.row 0 5 [sV R.name, iV R.next, mv, rv, sV R.sub]) := get_set _ ez2
  have hlh : l ≤ h.length := hl
  simp (dsimp := false) (disch := first | exact dI | fail) only [XOB, ↓XXs, ↓XD, ↓YX, ZB, Nat.reduceAdd, Nat.reducePow, ↓reduceIte, eq_self, Int.reduceEq, Nat.reduceEqDiff, Nat.reduceMul, Nat.reduceLeDiff, Int.reduceBEq, Int.reduceLT, Tryz.f16, ↓XH2, XRN, ZC, ZE, ZH, eq_self, Nat.reduceLeDiff, Nat.reduceBEq, slV_new, reduceIte, ↓op_extract, tupAt_mk, lenV_sl, Bool.not_true, Bool.not_false, aggOf, Option.bind_some, n5, ez2, om, or, hlh, e3, le5, tk, decide_true]
  with_reducible refine Okr.ret ?_
  have o5 : ∀ id g sz : Nat, sz ≠ 5 → ∀ cs : List Value, h2[id]? = some (.row g sz cs) → (h2.set h.length (.row 0 5 [sV R.name, iV R.next, mv, rv, sV R.sub]))[id]? = some (.row g sz cs) := fun id g sz hz cs e => by
    have hne : h.length ≠ id := by rintro rfl; rw [ez2] at e; cases e; exact hz rfl
    rw [List.getElem?_set_ne hne]; exact e
  refine ⟨⟨R, mv, rv, rfl, sm, ?_, ?_, om, or⟩, by simp; omega⟩
  · rcases qm with q | ⟨id, g, c, rfl, e⟩
    · exact .inl q
    · exact .inr ⟨id, g, c, rfl, o5 _ _ _ (by decide) _ e⟩
  · rcases qr with q | ⟨id, g, c, rfl, e⟩
    · exact .inl q
    · exact .inr ⟨id, g, c, rfl, o5 _ _ _ (by decide) _ e⟩
end Go.Abs
namespace Go.Abs
open Go.Proofs
set_option maxRecDepth 100000
set_option linter.unusedSimpArgs false
set_option linter.unusedVariables false
set_option pp.maxSteps 20000
set_option pp.deepTerms true
set_option maxHeartbeats 8000000 in
theorem rq5 (va : Value) (n l : Nat) (h : AH) (r : Cd h va n) (hl : l ≤ h.length) : Okr (fun v _ => v = .bool true) (run V0 (.fn 5) l [S va] h) := by
  have n5 : ∀ a b c d e : Value, [a, b, c, d, e].length = 5 := fun _ _ _ _ _ => rfl
  have le5 : (5 ≤ 5) = True := by simp
  have tk : ∀ a b c d e : Value, List.take 5 [a, b, c, d, e] = [a, b, c, d, e] := fun _ _ _ _ _ => rfl
  have cc : ∀ (H : AH) (x : AObj), (H ++ [x])[H.length]? = some x := fun H x => List.getElem?_concat_length ..
  have lv := r.len
  refine okr_fn Tryz.func5 rfl rfl rfl rfl ?_
  simp (dsimp := false) (disch := first | exact dI | fail) only [XOB, ↓XXs, ↓XD, ↓YX, ZB, Nat.reduceAdd, Nat.reducePow, ↓reduceIte, eq_self, Int.reduceEq, Nat.reduceEqDiff, Nat.reduceMul, Nat.reduceLeDiff, Int.reduceBEq, Int.reduceLT, Tryz.f5, ↓XH2, XRN, ZC, ZE, ZH, eq_self, Nat.reduceLeDiff, Nat.reduceBEq, slV_new, reduceIte, ↓op_extract, tupAt_mk, lenV_sl, Bool.not_true, Bool.not_false, lv]
  with_reducible refine okr_if (fun q0 => ?_) (fun q0 => ?_)
  · simp (dsimp := false) (disch := first | exact dI | fail) only [XOB, ↓XXs, ↓XD, ↓YX, ZB, Nat.reduceAdd, Nat.reducePow, ↓reduceIte, eq_self, Int.reduceEq, Nat.reduceEqDiff, Nat.reduceMul, Nat.reduceLeDiff, Int.reduceBEq, Int.reduceLT, Tryz.f5, ↓XH2, XRN, ZC, ZE, ZH, eq_self, Nat.reduceLeDiff, Nat.reduceBEq, slV_new, reduceIte, ↓op_extract, tupAt_mk, lenV_sl, Bool.not_true, Bool.not_false]
    exact Okr.ret rfl
  · simp only [decide_eq_false_iff_not] at q0
    simp (dsimp := false) (disch := first | exact dI | fail) only [XOB, ↓XXs, ↓XD, ↓YX, ZB, Nat.reduceAdd, Nat.reducePow, ↓reduceIte, eq_self, Int.reduceEq, Nat.reduceEqDiff, Nat.reduceMul, Nat.reduceLeDiff, Int.reduceBEq, Int.reduceLT, Tryz.f5, ↓XH2, XRN, ZC, ZE, ZH, eq_self, Nat.reduceLeDiff, Nat.reduceBEq, slV_new, reduceIte, ↓op_extract, tupAt_mk, lenV_sl, Bool.not_true, Bool.not_false, lv]
    refine okr_call (rq16 va n l h r hl (by omega)) ?_
    rintro _ h1 ⟨⟨R, mv, rv, rfl, sm, qm, qr, om1, or1⟩, k0⟩
    have hl1 : l ≤ h1.length := by omega
    simp (dsimp := false) (disch := first | exact dI | fail) only [XOB, ↓XXs, ↓XD, ↓YX, ZB, Nat.reduceAdd, Nat.reducePow, ↓reduceIte, eq_self, Int.reduceEq, Nat.reduceEqDiff, Nat.reduceMul, Nat.reduceLeDiff, Int.reduceBEq, Int.reduceLT, Tryz.f5, ↓XH2, XRN, ZC, ZE, ZH, eq_self, Nat.reduceLeDiff, Nat.reduceBEq, slV_new, reduceIte, ↓op_extract, tupAt_mk, lenV_sl, Bool.not_true, Bool.not_false, unc, nilL, aggOf, Option.bind_some, hl1, om1, or1, Bool.and_true, and_self, if_true, cc, n5, le5, tk, decide_true]
    generalize hWd : [sV R.name, iV R.next, mv, rv, sV R.sub] = W
    obtain ⟨H1, hH1⟩ : ∃ H1 : AH, H1 = h1 ++ [AObj.row 0 5 W] := ⟨_, rfl⟩
    try rw [← hH1]
    have kH1 : Keep h1.length h1 H1 := by rw [hH1]; exact Keep.app _ _ (Nat.le_refl _)
    have eW : H1[h1.length]? = some (.row 0 5 W) := by rw [hH1]; exact cc _ _
    have nW : W.length = 5 := by rw [← hWd]; rfl
    have tW : List.take 5 W = W := by rw [← hWd]; rfl
    have hl2 : l ≤ H1.length := by have := kH1.1; omega
    have hv : (R.ro mv rv).V = .agg ⟨W⟩ := by rw [← hWd]
    have qm1 := qm.keep kH1
    have qr1 := qr.keep kH1
    try simp (dsimp := false) (disch := first | exact dI | fail) only [XOB, ↓XXs, ↓XD, ↓YX, ZB, Nat.reduceAdd, Nat.reducePow, ↓reduceIte, eq_self, Int.reduceEq, Nat.reduceEqDiff, Nat.reduceMul, Nat.reduceLeDiff, Int.reduceBEq, Int.reduceLT, Tryz.f5, ↓XH2, XRN, ZC, ZE, ZH, eq_self, Nat.reduceLeDiff, Nat.reduceBEq, slV_new, reduceIte, ↓op_extract, tupAt_mk, lenV_sl, Bool.not_true, Bool.not_false, eW, nW, tW, le5, decide_true]
    have a1 := rq10 R sm mv rv l H1 hl2 qm1 qr1
    rw [hv] at a1
    refine okr_call a1 ?_
    rintro _ h2 ⟨rfl, k2⟩
    have hl3 : l ≤ h2.length := by have := k2.1; omega
    have eW2 := k2.get eW (lt_of_get eW)
    generalize hs : (if R.ok = true then R.put else []) = s
    simp (dsimp := false) (disch := first | exact dI | fail) only [XOB, ↓XXs, ↓XD, ↓YX, ZB, Nat.reduceAdd, Nat.reducePow, ↓reduceIte, eq_self, Int.reduceEq, Nat.reduceEqDiff, Nat.reduceMul, Nat.reduceLeDiff, Int.reduceBEq, Int.reduceLT, Tryz.f5, ↓XH2, XRN, ZC, ZE, ZH, eq_self, Nat.reduceLeDiff, Nat.reduceBEq, slV_new, reduceIte, ↓op_extract, tupAt_mk, lenV_sl, Bool.not_true, Bool.not_false, eW2, nW, tW, le5, decide_true]
    have a2 := rq8 R sm mv rv l h2 hl3 (qm1.keep k2) (qr1.keep k2)
    rw [hv, hs] at a2
    refine okr_call a2 ?_
    rintro _ h3 ⟨rfl, k3⟩
    have hl4 : l ≤ h3.length := by have := k3.1; omega
    have eW3 := k3.get eW2 (lt_of_get eW2)
    have ss2 : decide (B s = B s) = true := by simp
    simp (dsimp := false) (disch := first | exact dI | fail) only [XOB, ↓XXs, ↓XD, ↓YX, ZB, Nat.reduceAdd, Nat.reducePow, ↓reduceIte, eq_self, Int.reduceEq, Nat.reduceEqDiff, Nat.reduceMul, Nat.reduceLeDiff, Int.reduceBEq, Int.reduceLT, Tryz.f5, ↓XH2, XRN, ZC, ZE, ZH, eq_self, Nat.reduceLeDiff, Nat.reduceBEq, slV_new, reduceIte, ↓op_extract, tupAt_mk, lenV_sl, Bool.not_true, Bool.not_false, ss2, eW3, nW, tW, le5, decide_true]
    have a3 := rq17 R sm mv rv l h3 hl4 ((qm1.keep k2).keep k3) ((qr1.keep k2).keep k3)
    rw [hv] at a3
    refine okr_call a3 ?_
    rintro _ h4 ⟨rfl, k4⟩
    have hl5 : l ≤ h4.length := by have := k4.1; omega
    have eW4 := k4.get eW3 (lt_of_get eW3)
    have bb : (true == false) = false := rfl
    have bb2 : (false == true) = false := rfl
    cases hok : R.ok with
    | false =>
      rw [hok] at hs
      simp only [Bool.false_eq_true, if_false] at hs
      subst hs
      have e0 : decide (B ([] : Bs) = B []) = true := by simp
      simp (dsimp := false) (disch := first | exact dI | fail) only [XOB, ↓XXs, ↓XD, ↓YX, ZB, Nat.reduceAdd, Nat.reducePow, ↓reduceIte, eq_self, Int.reduceEq, Nat.reduceEqDiff, Nat.reduceMul, Nat.reduceLeDiff, Int.reduceBEq, Int.reduceLT, Tryz.f5, ↓XH2, XRN, ZC, ZE, ZH, eq_self, Nat.reduceLeDiff, Nat.reduceBEq, slV_new, reduceIte, ↓op_extract, tupAt_mk, lenV_sl, Bool.not_true, Bool.not_false, e0, bb]
      refine okr_call (rq13 [] (by simp) l h4 hl5) ?_
      rintro v1 h5 q1
      obtain ⟨mv1, rv1, rfl, m1, r1, k1⟩ := get_v (get_same []) q1
      have om2 := m1.one
      have or2 := r1.one
      have hl6 : l ≤ h5.length := by have := k1.1; omega
      simp (dsimp := false) (disch := first | exact dI | fail) only [XOB, ↓XXs, ↓XD, ↓YX, ZB, Nat.reduceAdd, Nat.reducePow, ↓reduceIte, eq_self, Int.reduceEq, Nat.reduceEqDiff, Nat.reduceMul, Nat.reduceLeDiff, Int.reduceBEq, Int.reduceLT, Tryz.f5, ↓XH2, XRN, ZC, ZE, ZH, eq_self, Nat.reduceLeDiff, Nat.reduceBEq, slV_new, reduceIte, ↓op_extract, tupAt_mk, lenV_sl, Bool.not_true, Bool.not_false, e0, unc, nilL, aggOf, Option.bind_some, hl6, om2, or2, Bool.and_true, and_self, if_true, cc, n5]
      exact Okr.ret rfl
    | true =>
      rw [hok] at hs
      simp only [if_true] at hs
      have hne := rmput_ne hok
      rw [hs] at hne
      have hs20 : s.length ≤ 2 ^ 20 := by have := rput_len hok; rw [hs] at this; omega
      have e0 : decide (B s = B []) = false := by
        rw [decide_eq_false_iff_not]
        intro q
        apply hne
        simpa [B] using q
      have hg : getS s = some R := (getS_iff s R).2 ⟨hok, hs⟩
      have hRm : rmOf s = R := by unfold rmOf; rw [hg]; rfl
      simp (dsimp := false) (disch := first | exact dI | fail) only [XOB, ↓XXs, ↓XD, ↓YX, ZB, Nat.reduceAdd, Nat.reducePow, ↓reduceIte, eq_self, Int.reduceEq, Nat.reduceEqDiff, Nat.reduceMul, Nat.reduceLeDiff, Int.reduceBEq, Int.reduceLT, Tryz.f5, ↓XH2, XRN, ZC, ZE, ZH, eq_self, Nat.reduceLeDiff, Nat.reduceBEq, slV_new, reduceIte, ↓op_extract, tupAt_mk, lenV_sl, Bool.not_true, Bool.not_false, e0, bb2]
      refine okr_call (rq13 s hs20 l h4 hl5) ?_
      rintro v1 h5 q1
      obtain ⟨mv1, rv1, rfl, m1, r1, k1⟩ := get_v (get_same s) q1
      rw [hRm] at m1 r1
      rw [hRm, hg]
      have om2 := m1.one
      have or2 := r1.one
      have hl6 : l ≤ h5.length := by have := k1.1; omega
      have eW5 := k1.get eW4 (lt_of_get eW4)
      have eW6 : ∀ X, (h5 ++ [X])[h1.length]? = some (.row 0 5 W) := fun X => by rw [List.getElem?_append_left (lt_of_get eW5)]; exact eW5
      simp (dsimp := false) (disch := first | exact dI | fail) only [XOB, ↓XXs, ↓XD, ↓YX, ZB, Nat.reduceAdd, Nat.reducePow, ↓reduceIte, eq_self, Int.reduceEq, Nat.reduceEqDiff, Nat.reduceMul, Nat.reduceLeDiff, Int.reduceBEq, Int.reduceLT, Tryz.f5, ↓XH2, XRN, ZC, ZE, ZH, eq_self, Nat.reduceLeDiff, Nat.reduceBEq, slV_new, reduceIte, ↓op_extract, tupAt_mk, lenV_sl, Bool.not_true, Bool.not_false, e0, Option.isSome_some, unc, nilL, aggOf, Option.bind_some, hl6, om2, or2, Bool.and_true, and_self, if_true, cc, n5, eW6, nW, tW, le5, tk, decide_true]
      have v1 : RmV (h5 ++ [AObj.row 0 5 [sV R.name, iV R.next, mv1, rv1, sV R.sub]]) R (.agg ⟨[sV R.name, iV R.next, mv1, rv1, sV R.sub]⟩) :=
        ⟨mv1, rv1, rfl, (m1.keep (Keep.app _ _ (Nat.le_refl _))).rd, (r1.keep (Keep.app _ _ (Nat.le_refl _))).rd, om2, or2⟩
      have k5 : Keep h5.length h5 (h5 ++ [AObj.row 0 5 [sV R.name, iV R.next, mv1, rv1, sV R.sub]]) := Keep.app _ _ (Nat.le_refl _)
      have v2 : RmV (h5 ++ [AObj.row 0 5 [sV R.name, iV R.next, mv1, rv1, sV R.sub]]) R (.agg ⟨W⟩) :=
        ⟨mv, rv, by rw [← hWd], ((((qm1.keep k2).keep k3).keep k4).keep k1).keep k5, ((((qr1.keep k2).keep k3).keep k4).keep k1).keep k5, om1, or1⟩
      refine okr_call (rq18 R sm (.agg ⟨[sV R.name, iV R.next, mv1, rv1, sV R.sub]⟩) (.agg ⟨W⟩) _ _ (by simp; omega) v1 v2) ?_
      rintro _ h6 ⟨rfl, k6⟩
      simp (dsimp := false) (disch := first | exact dI | fail) only [XOB, ↓XXs, ↓XD, ↓YX, ZB, Nat.reduceAdd, Nat.reducePow, ↓reduceIte, eq_self, Int.reduceEq, Nat.reduceEqDiff, Nat.reduceMul, Nat.reduceLeDiff, Int.reduceBEq, Int.reduceLT, Tryz.f5, ↓XH2, XRN, ZC, ZE, ZH, eq_self, Nat.reduceLeDiff, Nat.reduceBEq, slV_new, reduceIte, ↓op_extract, tupAt_mk, lenV_sl, Bool.not_true, Bool.not_false]
      exact Okr.ret rfl
theorem rz5 (va : Value) (n l : Nat) (h : AH) (r : Cd h va n) (hl : l ≤ h.length) : ∃ h', run V0 (.fn 5) l [S va] h = some (.ret (.bool true) h') := by
  obtain ⟨v, h', e, rfl⟩ := rq5 va n l h r hl
  exact ⟨h', e⟩
end Go.Abs
