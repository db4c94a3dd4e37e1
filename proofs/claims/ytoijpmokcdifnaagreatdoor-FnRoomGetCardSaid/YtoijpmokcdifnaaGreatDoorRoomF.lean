/- That the law FnRoomGet answers true. For every code; no condition. -/
import Derived.Test.YtoijpmokcdifnaaGreatDoorRoomE
import Derived.Test.YtoijpmokcdifnaaGreatDoorRoomD
import Derived.Test.YtoijpmokcdifnaaGreatDoorLogB
namespace Go.Abs
open Go.Proofs
set_option maxRecDepth 100000
set_option linter.unusedSimpArgs false
set_option linter.unusedVariables false
set_option pp.maxSteps 20000
set_option pp.deepTerms true
/-- the room of a text, or an empty one -/
def rmOf (s : Bs) : Rm := (getS s).getD ⟨[], 0, [], [], []⟩
theorem rmOf_sm (s : Bs) : (rmOf s).Sm := by
  unfold rmOf
  cases hq : getS s with
  | none => exact ⟨by simp, by simp, by simp, by simp, fun x hx => by simp at hx, fun x hx => by simp at hx⟩
  | some R =>
    have b := Rm.ok_bd ((getS_iff s R).1 hq).1
    have b1 := b.nm; have b2 := b.sb; have b3 := b.m; have b4 := b.k
    exact ⟨by simp; omega, by simp; omega, by simp; omega, by simp; omega, fun x hx => by have := b.ms x (by simpa using hx); omega, fun x hx => by have := b.rs x (by simpa using hx); omega⟩
theorem get_v {s : Bs} {o : Option Rm} {H0 h : AH} {v : Value} (ho : sealL s o = getS s) (q : GetQ s o H0 v h) : ∃ mv rv, v = .tuple ⟨[.agg ⟨[sV (rmOf s).name, iV (rmOf s).next, mv, rv, sV (rmOf s).sub]⟩, .bool (getS s).isSome]⟩ ∧ Me.OwL H0.length h mv (rmOf s).ms ∧ Rk.OwL H0.length h rv (rmOf s).rs ∧ Keep H0.length H0 h := by
  obtain ⟨q, k⟩ := q
  rw [ho] at q
  unfold rmOf
  cases hq : getS s with
  | none =>
    rw [hq] at q
    exact ⟨.slice none 0 0, .slice none 0 0, q, .inl ⟨rfl, rfl⟩, .inl ⟨rfl, rfl⟩, k⟩
  | some R =>
    rw [hq] at q
    obtain ⟨mv, rv, rfl, m, r⟩ := q
    exact ⟨mv, rv, rfl, m, r, k⟩
end Go.Abs
namespace Go.Abs
open Go.Proofs
set_option maxRecDepth 100000
set_option linter.unusedSimpArgs false
set_option linter.unusedVariables false
set_option pp.maxSteps 20000
set_option pp.deepTerms true
theorem binK_neqA {P : Program} {t : TypeId} {a b : Array Value} {act : Option Bool} {K : Value → R} : binK P .neq t (.agg a) (.agg b) act K = chk (eqOk P t (.agg a)) (oE act (eqA P 50 t (.agg a) (.agg b)) false fun q => K (.bool (!q))) := rfl
theorem eqA_Me (x : Me) : eqA V0.P 50 52 (.agg (Me.C x).toArray) (.agg (Me.C x).toArray) = some true := by
  have : eqA V0.P 50 52 (.agg (Me.C x).toArray) (.agg (Me.C x).toArray) = some (decide (B x.user = B x.user) && (decide (B x.nick = B x.nick) && ((x.role == x.role) && true))) := by kernel_rfl
  rw [this]; simp
theorem eqOk_Me (x : Me) : eqOk V0.P 52 (.agg (Me.C x).toArray) = true := by kernel_rfl
theorem eqA_Rk (x : Rk) : eqA V0.P 50 54 (.agg (Rk.C x).toArray) (.agg (Rk.C x).toArray) = some true := by
  have : eqA V0.P 50 54 (.agg (Rk.C x).toArray) (.agg (Rk.C x).toArray) = some (decide (B x.user = B x.user) && ((x.num == x.num) && true)) := by kernel_rfl
  rw [this]; simp
theorem eqOk_Rk (x : Rk) : eqOk V0.P 54 (.agg (Rk.C x).toArray) = true := by kernel_rfl
set_option maxHeartbeats 4000000 in
theorem L118 (R : Rm) (sm : R.Sm) (l ia ib : Nat) (mv rv mv' rv' : Value) (h : AH) (ea : h[ia]? = some (.row 0 5 [sV R.name, iV R.next, mv, rv, sV R.sub])) (eb : h[ib]? = some (.row 0 5 [sV R.name, iV R.next, mv', rv', sV R.sub])) (qm : Me.Rd h mv R.ms) (qr : Rk.Rd h rv R.rs) (qm' : Me.Rd h mv' R.ms) (qr' : Rk.Rd h rv' R.rs) :
    ∀ (r d : List Rk), d ++ r = R.rs → Okr (VQ (.bool true) h) (L18_1 l (pV ia 0 0) (pV ib 0 0) (iV d.length) h) := by
  have hmb := sm.k
  have n5 : ∀ a b c d e : Value, [a, b, c, d, e].length = 5 := fun _ _ _ _ _ => rfl
  have c2 : ∀ a b c d e : Value, [a, b, c, d, e][2]? = some c := fun _ _ _ _ _ => rfl
  have c3 : ∀ a b c d e : Value, [a, b, c, d, e][3]? = some d := fun _ _ _ _ _ => rfl
  have la := qr.len
  have lb := qr'.len
  intro r
  induction r with
  | nil =>
    intro d hd
    rw [List.append_nil] at hd
    have hlt : decide ((d.length : Int) < (R.rs.length : Int)) = false := by rw [decide_eq_false_iff_not, hd]; omega
    refine okr_code Tryz.func18 rfl rfl ?_
    simp (dsimp := false) (disch := first | exact dI | fail) only [XOB, ↓XXs, ↓XD, ↓YX, ZB, Nat.reduceAdd, Nat.reducePow, ↓reduceIte, eq_self, Int.reduceEq, Nat.reduceEqDiff, Nat.reduceMul, Nat.reduceLeDiff, Int.reduceBEq, Int.reduceLT, Tryz.f18, ↓XH2, XRN, ZC, ZE, ZH, eq_self, Nat.reduceLeDiff, Nat.reduceBEq, slV_new, reduceIte, ↓op_extract, tupAt_mk, lenV_sl, Bool.not_true, Bool.not_false, ea, eb, c2, c3, la, lb, hlt]
    exact Okr.ret ⟨rfl, Keep.refl _ _⟩
  | cons x r ih =>
    intro d hd
    have hll := congrArg List.length hd
    simp only [List.length_append, List.length_cons] at hll
    have hlt : decide ((d.length : Int) < (R.rs.length : Int)) = true := decide_eq_true (by omega)
    have hw : IntKind.i64.wrap ((d.length : Int) + 1) = ((d.length + 1 : Nat) : Int) := natCast_succ_wrap (by omega) rfl
    rw [← hd] at qr qr'
    rcases qr with ⟨_, q⟩ | ⟨i1, g1, k1, hv1, e1⟩
    · simp at q
    rcases qr' with ⟨_, q⟩ | ⟨i2, g2, k2, hv2, e2⟩
    · simp at q
    have hix : ixAddr rv (d.length : Int) 2 = some (pV i1 (d.length * 2) g1) := by rw [hv1, ixAddr_sl (by simp)]; simp
    have hix2 : ixAddr rv' (d.length : Int) 2 = some (pV i2 (d.length * 2) g2) := by rw [hv2, ixAddr_sl (by simp)]; simp
    have cc := Rk.get d x r
    have l1 : d.length * 2 + 2 ≤ (Rk.R (d ++ x :: r)).length := by rw [Rk.R_len]; simp; omega
    refine okr_code Tryz.func18 rfl rfl ?_
    simp (dsimp := false) (disch := first | exact dI | fail) only [XOB, ↓XXs, ↓XD, ↓YX, ZB, Nat.reduceAdd, Nat.reducePow, ↓reduceIte, eq_self, Int.reduceEq, Nat.reduceEqDiff, Nat.reduceMul, Nat.reduceLeDiff, Int.reduceBEq, Int.reduceLT, Tryz.f18, ↓XH2, XRN, ZC, ZE, ZH, eq_self, Nat.reduceLeDiff, Nat.reduceBEq, slV_new, reduceIte, ↓op_extract, tupAt_mk, lenV_sl, Bool.not_true, Bool.not_false, ea, eb, c2, c3, la, lb, hlt, hix, hix2, e1, e2, cc, l1, binK_neqA, eqA_Rk, eqOk_Rk, Bool.not_true, hw, decide_true]
    have := ih (d ++ [x]) (by rw [← hd]; simp)
    rw [show (d ++ [x]).length = d.length + 1 by simp] at this
    exact this
set_option maxHeartbeats 4000000 in
theorem L018 (R : Rm) (sm : R.Sm) (l ia ib : Nat) (mv rv mv' rv' : Value) (h : AH) (ea : h[ia]? = some (.row 0 5 [sV R.name, iV R.next, mv, rv, sV R.sub])) (eb : h[ib]? = some (.row 0 5 [sV R.name, iV R.next, mv', rv', sV R.sub])) (qm : Me.Rd h mv R.ms) (qr : Rk.Rd h rv R.rs) (qm' : Me.Rd h mv' R.ms) (qr' : Rk.Rd h rv' R.rs) :
    ∀ (r d : List Me), d ++ r = R.ms → Okr (VQ (.bool true) h) (L18_0 l (pV ia 0 0) (pV ib 0 0) (iV d.length) h) := by
  have hmb := sm.m
  have n5 : ∀ a b c d e : Value, [a, b, c, d, e].length = 5 := fun _ _ _ _ _ => rfl
  have c2 : ∀ a b c d e : Value, [a, b, c, d, e][2]? = some c := fun _ _ _ _ _ => rfl
  have c3 : ∀ a b c d e : Value, [a, b, c, d, e][3]? = some d := fun _ _ _ _ _ => rfl
  have la := qm.len
  have lb := qm'.len
  intro r
  induction r with
  | nil =>
    intro d hd
    rw [List.append_nil] at hd
    have hlt : decide ((d.length : Int) < (R.ms.length : Int)) = false := by rw [decide_eq_false_iff_not, hd]; omega
    refine okr_code Tryz.func18 rfl rfl ?_
    simp (dsimp := false) (disch := first | exact dI | fail) only [XOB, ↓XXs, ↓XD, ↓YX, ZB, Nat.reduceAdd, Nat.reducePow, ↓reduceIte, eq_self, Int.reduceEq, Nat.reduceEqDiff, Nat.reduceMul, Nat.reduceLeDiff, Int.reduceBEq, Int.reduceLT, Tryz.f18, ↓XH2, XRN, ZC, ZE, ZH, eq_self, Nat.reduceLeDiff, Nat.reduceBEq, slV_new, reduceIte, ↓op_extract, tupAt_mk, lenV_sl, Bool.not_true, Bool.not_false, ea, eb, c2, c3, la, lb, hlt]
    exact L118 R sm l ia ib mv rv mv' rv' h ea eb qm qr qm' qr' R.rs [] rfl
  | cons x r ih =>
    intro d hd
    have hll := congrArg List.length hd
    simp only [List.length_append, List.length_cons] at hll
    have hlt : decide ((d.length : Int) < (R.ms.length : Int)) = true := decide_eq_true (by omega)
    have hw : IntKind.i64.wrap ((d.length : Int) + 1) = ((d.length + 1 : Nat) : Int) := natCast_succ_wrap (by omega) rfl
    rw [← hd] at qm qm'
    rcases qm with ⟨_, q⟩ | ⟨i1, g1, k1, hv1, e1⟩
    · simp at q
    rcases qm' with ⟨_, q⟩ | ⟨i2, g2, k2, hv2, e2⟩
    · simp at q
    have hix : ixAddr mv (d.length : Int) 3 = some (pV i1 (d.length * 3) g1) := by rw [hv1, ixAddr_sl (by simp)]; simp
    have hix2 : ixAddr mv' (d.length : Int) 3 = some (pV i2 (d.length * 3) g2) := by rw [hv2, ixAddr_sl (by simp)]; simp
    have cc := Me.get d x r
    have l1 : d.length * 3 + 3 ≤ (Me.R (d ++ x :: r)).length := by rw [Me.R_len]; simp; omega
    refine okr_code Tryz.func18 rfl rfl ?_
    simp (dsimp := false) (disch := first | exact dI | fail) only [XOB, ↓XXs, ↓XD, ↓YX, ZB, Nat.reduceAdd, Nat.reducePow, ↓reduceIte, eq_self, Int.reduceEq, Nat.reduceEqDiff, Nat.reduceMul, Nat.reduceLeDiff, Int.reduceBEq, Int.reduceLT, Tryz.f18, ↓XH2, XRN, ZC, ZE, ZH, eq_self, Nat.reduceLeDiff, Nat.reduceBEq, slV_new, reduceIte, ↓op_extract, tupAt_mk, lenV_sl, Bool.not_true, Bool.not_false, ea, eb, c2, c3, la, lb, hlt, hix, hix2, e1, e2, cc, l1, binK_neqA, eqA_Me, eqOk_Me, Bool.not_true, hw, decide_true]
    have := ih (d ++ [x]) (by rw [← hd]; simp)
    rw [show (d ++ [x]).length = d.length + 1 by simp] at this
    exact this

set_option maxHeartbeats 4000000 in
theorem rq18 (R : Rm) (sm : R.Sm) (va vb : Value) (l : Nat) (h : AH) (hl : l ≤ h.length) (qa : RmV h R va) (qb : RmV h R vb) :
    Okr (VQ (.bool true) h) (run V0 (.fn 18) l [S va, S vb] h) := by
  obtain ⟨mv, rv, rfl, qm, qr, om, oq⟩ := qa.ex
  obtain ⟨mv', rv', rfl, qm', qr', om', oq'⟩ := qb.ex
  have la := qm.len
  have lb := qm'.len
  have lc := qr.len
  have ld := qr'.len
  have kx : Keep h.length h (h ++ [AObj.row 0 5 [sV R.name, iV R.next, mv, rv, sV R.sub], AObj.row 0 5 [sV R.name, iV R.next, mv', rv', sV R.sub]]) := Keep.app _ _ (Nat.le_refl _)
  have ni : ∀ a : Int, (a != a) = false := fun a => by simp
  refine okr_fn Tryz.func18 rfl rfl rfl rfl ?_
  simp (dsimp := false) (disch := first | exact dI | fail) only [XOB, ↓XXs, ↓XD, ↓YX, ZB, Nat.reduceAdd, Nat.reducePow, ↓reduceIte, eq_self, Int.reduceEq, Nat.reduceEqDiff, Nat.reduceMul, Nat.reduceLeDiff, Int.reduceBEq, Int.reduceLT, Tryz.f18, ↓XH2, XRN, ZC, ZE, ZH, eq_self, Nat.reduceLeDiff, Nat.reduceBEq, slV_new, reduceIte, ↓op_extract, tupAt_mk, lenV_sl, Bool.not_true, Bool.not_false, la, lb, lc, ld, ni]
  refine (L018 R sm l h.length (h.length + 1) mv rv mv' rv' _ (by simp) (by simp) (qm.keep kx) (qr.keep kx) (qm'.keep kx) (qr'.keep kx) R.ms [] rfl).mono ?_
  rintro v h' ⟨e, k⟩
  exact ⟨e, kx.trans (k.le kx.1)⟩
end Go.Abs
namespace Go.Abs
open Go.Proofs
set_option maxRecDepth 100000
set_option linter.unusedSimpArgs false
set_option linter.unusedVariables false
set_option pp.maxSteps 20000
set_option pp.deepTerms true
theorem cut_to' (s : Bs) (n : Nat) (hn : n ≤ s.length) : strCut (B s) 0 (n : Int) = some (B (s.take n)) := by
  have := strCut_B s 0 n (by omega) hn
  simpa using this
theorem cut_from' (s : Bs) (n : Nat) (hn : n ≤ s.length) : strCut (B s) (n : Int) ((B s).size : Int) = some (B (s.drop n)) := by
  have := strCut_B s n s.length hn (Nat.le_refl _)
  rw [size_B]
  simpa using this
theorem small_of {x : Bs} {xs : List Bs} (h : x ∈ xs) (a : xs.all (fun s => decide (s.length ≤ 8)) = true) : x.length ≤ 8 := of_decide_eq_true (List.all_eq_true.1 a x h)
theorem cat_ofB {a b c : Bs} (e : a ++ b = c) (h : c.length ≤ 2 ^ 62) : catA (B a) (B b) = some (B c) := by subst e; exact catA_B a b (by simpa using h)
structure DrawT (H : AH) (v : Value) (h' : AH) : Prop where
  ex : ∃ s, v = sV s ∧ s.length ≤ 2 ^ 20
  k : Keep H.length H h'
theorem Kset {H h : AH} {id : Nat} (k : Keep H.length H h) (hi : H.length ≤ id) (o : AObj) : Keep H.length H (h.set id o) := k.trans (Keep.set h id o hi)
theorem rq50 {H0 H : AH} {id : Nat} {va : Value} {n l p : Nat} (s : Bs) (r : Rd H id va n p) (k0 : Keep H0.length H0 H) (hi : H0.length ≤ id) (hl : l ≤ id) (hs : s.length ≤ 2 ^ 18) (hn : n ≤ 2 ^ 62) (hp : p ≤ 2 ^ 39) :
    Okr (DrawT H0) (run V0 (.fn 50) l [S (pV id 0 0), S (sV s)] H) := by
  have hsz := size_B s
  have hid := lt_of_get r.1
  have hk0 := k0.1
  have hw : IntKind.i64.wrap (((B s).size : Int) + 1) = ((s.length + 1 : Nat) : Int) := by rw [hsz]; exact natCast_succ_wrap (by omega) rfl
  refine okr_fn Tryz.func50 rfl rfl rfl rfl ?_
  simp (dsimp := false) (disch := first | exact dI | fail) only [XOB, ↓XXs, ↓XD, ↓YX, ZB, Nat.reduceAdd, Nat.reducePow, ↓reduceIte, eq_self, Int.reduceEq, Nat.reduceEqDiff, Nat.reduceMul, Nat.reduceLeDiff, Int.reduceBEq, Int.reduceLT, Tryz.f50, ↓XH2, XRN, ZC, ZE, ZH, eq_self, Nat.reduceLeDiff, Nat.reduceBEq, slV_new, reduceIte, ↓op_extract, tupAt_mk, lenV_sl, Bool.not_true, Bool.not_false, hw]
  refine okr_call (okr_pick (s.length + 1) r hl rfl (by omega) (by omega) (by omega) (by omega)) ?_
  rintro _ _ ⟨⟨k, rfl, hk⟩, rfl⟩
  try simp (dsimp := false) (disch := first | exact dI | fail) only [XOB, ↓XXs, ↓XD, ↓YX, ZB, Nat.reduceAdd, Nat.reducePow, ↓reduceIte, eq_self, Int.reduceEq, Nat.reduceEqDiff, Nat.reduceMul, Nat.reduceLeDiff, Int.reduceBEq, Int.reduceLT, Tryz.f50, ↓XH2, XRN, ZC, ZE, ZH, eq_self, Nat.reduceLeDiff, Nat.reduceBEq, slV_new, reduceIte, ↓op_extract, tupAt_mk, lenV_sl, Bool.not_true, Bool.not_false, hw]
  have r1 : Rd (H.set id (rdO va (p + 1))) id va n (p + 1) := r.step (p + 1)
  refine okr_call (okr_pick 6 r1 hl rfl (by simp) (by simp) (by omega) (by omega)) ?_
  rintro _ _ ⟨⟨q, rfl, hq⟩, rfl⟩
  rw [List.set_set]
  have r2 : Rd (H.set id (rdO va (p + 2))) id va n (p + 2) := r.step (p + 2)
  have K2 : ∀ o : AObj, Keep H0.length H0 (H.set id o) := fun o => Kset k0 hi o
  have hct := cut_to' s k (by omega)
  have hcf := cut_from' s k (by omega)
  try simp (dsimp := false) (disch := first | exact dI | fail) only [XOB, ↓XXs, ↓XD, ↓YX, ZB, Nat.reduceAdd, Nat.reducePow, ↓reduceIte, eq_self, Int.reduceEq, Nat.reduceEqDiff, Nat.reduceMul, Nat.reduceLeDiff, Int.reduceBEq, Int.reduceLT, Tryz.f50, ↓XH2, XRN, ZC, ZE, ZH, eq_self, Nat.reduceLeDiff, Nat.reduceBEq, slV_new, reduceIte, ↓op_extract, tupAt_mk, lenV_sl, Bool.not_true, Bool.not_false, hw]
  have fin : ∀ (t : Bs) (os : AH) (o : AObj), t.length ≤ 2 ^ 20 → Okr (DrawT H0) (some (.ret (sV t) (H.set id o ++ os))) := fun t os o ht => Okr.ret ⟨⟨t, rfl, ht⟩, (K2 o).trans (Keep.app _ _ (by simp; omega))⟩
  have fin0 : ∀ (t : Bs) (o : AObj), t.length ≤ 2 ^ 20 → Okr (DrawT H0) (some (.ret (sV t) (H.set id o))) := fun t o ht => Okr.ret ⟨⟨t, rfl, ht⟩, K2 o⟩
  have lt : ∀ j, (s.take j).length ≤ s.length := fun j => by rw [List.length_take]; omega
  have ld : ∀ j, (s.drop j).length ≤ s.length := fun j => by rw [List.length_drop]; omega
  refine okr_if (fun t0 => ?_) (fun t0 => ?_)
  · cases q0 : decide ((k : Int) < ((B s).size : Int)) with
    | false =>
      try simp (dsimp := false) (disch := first | exact dI | fail) only [XOB, ↓XXs, ↓XD, ↓YX, ZB, Nat.reduceAdd, Nat.reducePow, ↓reduceIte, eq_self, Int.reduceEq, Nat.reduceEqDiff, Nat.reduceMul, Nat.reduceLeDiff, Int.reduceBEq, Int.reduceLT, Tryz.f50, ↓XH2, XRN, ZC, ZE, ZH, eq_self, Nat.reduceLeDiff, Nat.reduceBEq, slV_new, reduceIte, ↓op_extract, tupAt_mk, lenV_sl, Bool.not_true, Bool.not_false, hw, t0, q0]
      exact fin0 s _ (by omega)
    | true =>
      have hks := of_decide_eq_true q0
      have hw1 : IntKind.i64.wrap ((k : Int) + 1) = ((k + 1 : Nat) : Int) := natCast_succ_wrap (by omega) rfl
      have hcf1 := cut_from' s (k + 1) (by omega)
      try simp (dsimp := false) (disch := first | exact dI | fail) only [XOB, ↓XXs, ↓XD, ↓YX, ZB, Nat.reduceAdd, Nat.reducePow, ↓reduceIte, eq_self, Int.reduceEq, Nat.reduceEqDiff, Nat.reduceMul, Nat.reduceLeDiff, Int.reduceBEq, Int.reduceLT, Tryz.f50, ↓XH2, XRN, ZC, ZE, ZH, eq_self, Nat.reduceLeDiff, Nat.reduceBEq, slV_new, reduceIte, ↓op_extract, tupAt_mk, lenV_sl, Bool.not_true, Bool.not_false, hw, t0, q0, hct, hcf1, hw1]
      refine okr_call (okr_of [_, _, _, _, _, _, _, _, _, _, _, _] r2.ap hl (by simp (disch := first | exact dI | fail) only [↓XH2, XRN, ZC, ZE, ZH, eq_self, Nat.reduceLeDiff, Nat.reduceBEq] <;> rfl) rfl rfl (by simp; omega) (by simp) (by simp) (by omega) (by omega)) ?_
      rintro _ _ ⟨⟨x, rfl, hx⟩, rfl⟩
      have fx := small_of hx rfl
      have l1 := lt k
      have l2 := ld (k + 1)
      have c1 : catA (B (s.take k)) (B x) = some (B (s.take k ++ x)) := cat_ofB rfl (by rw [List.length_append]; omega)
      have c2 : catA (B (s.take k ++ x)) (B (s.drop (k + 1))) = some (B (s.take k ++ x ++ s.drop (k + 1))) := cat_ofB rfl (by rw [List.length_append, List.length_append]; omega)
      try simp (dsimp := false) (disch := first | exact dI | fail) only [XOB, ↓XXs, ↓XD, ↓YX, ZB, Nat.reduceAdd, Nat.reducePow, ↓reduceIte, eq_self, Int.reduceEq, Nat.reduceEqDiff, Nat.reduceMul, Nat.reduceLeDiff, Int.reduceBEq, Int.reduceLT, Tryz.f50, ↓XH2, XRN, ZC, ZE, ZH, eq_self, Nat.reduceLeDiff, Nat.reduceBEq, slV_new, reduceIte, ↓op_extract, tupAt_mk, lenV_sl, Bool.not_true, Bool.not_false, hw, t0, q0, hct, hcf1, hw1, c1, c2]
      exact fin _ _ _ (by rw [List.length_append, List.length_append]; omega)
  · try simp (dsimp := false) (disch := first | exact dI | fail) only [XOB, ↓XXs, ↓XD, ↓YX, ZB, Nat.reduceAdd, Nat.reducePow, ↓reduceIte, eq_self, Int.reduceEq, Nat.reduceEqDiff, Nat.reduceMul, Nat.reduceLeDiff, Int.reduceBEq, Int.reduceLT, Tryz.f50, ↓XH2, XRN, ZC, ZE, ZH, eq_self, Nat.reduceLeDiff, Nat.reduceBEq, slV_new, reduceIte, ↓op_extract, tupAt_mk, lenV_sl, Bool.not_true, Bool.not_false, hw, t0, hct]
    refine okr_if (fun t1 => ?_) (fun t1 => ?_)
    · try simp (dsimp := false) (disch := first | exact dI | fail) only [XOB, ↓XXs, ↓XD, ↓YX, ZB, Nat.reduceAdd, Nat.reducePow, ↓reduceIte, eq_self, Int.reduceEq, Nat.reduceEqDiff, Nat.reduceMul, Nat.reduceLeDiff, Int.reduceBEq, Int.reduceLT, Tryz.f50, ↓XH2, XRN, ZC, ZE, ZH, eq_self, Nat.reduceLeDiff, Nat.reduceBEq, slV_new, reduceIte, ↓op_extract, tupAt_mk, lenV_sl, Bool.not_true, Bool.not_false, hw, t0, t1, hct]
      exact fin0 _ _ (by have := lt k; omega)
    · try simp (dsimp := false) (disch := first | exact dI | fail) only [XOB, ↓XXs, ↓XD, ↓YX, ZB, Nat.reduceAdd, Nat.reducePow, ↓reduceIte, eq_self, Int.reduceEq, Nat.reduceEqDiff, Nat.reduceMul, Nat.reduceLeDiff, Int.reduceBEq, Int.reduceLT, Tryz.f50, ↓XH2, XRN, ZC, ZE, ZH, eq_self, Nat.reduceLeDiff, Nat.reduceBEq, slV_new, reduceIte, ↓op_extract, tupAt_mk, lenV_sl, Bool.not_true, Bool.not_false, hw, t0, t1, hct]
      refine okr_if (fun t2 => ?_) (fun t2 => ?_)
      · try simp (dsimp := false) (disch := first | exact dI | fail) only [XOB, ↓XXs, ↓XD, ↓YX, ZB, Nat.reduceAdd, Nat.reducePow, ↓reduceIte, eq_self, Int.reduceEq, Nat.reduceEqDiff, Nat.reduceMul, Nat.reduceLeDiff, Int.reduceBEq, Int.reduceLT, Tryz.f50, ↓XH2, XRN, ZC, ZE, ZH, eq_self, Nat.reduceLeDiff, Nat.reduceBEq, slV_new, reduceIte, ↓op_extract, tupAt_mk, lenV_sl, Bool.not_true, Bool.not_false, hw, t0, t1, t2, hct]
        refine okr_call (okr_of [_, _, _, _, _] r2.ap hl (by simp (disch := first | exact dI | fail) only [↓XH2, XRN, ZC, ZE, ZH, eq_self, Nat.reduceLeDiff, Nat.reduceBEq] <;> rfl) rfl rfl (by simp; omega) (by simp) (by simp) (by omega) (by omega)) ?_
        rintro _ _ ⟨⟨x, rfl, hx⟩, rfl⟩
        have fx := small_of hx rfl
        have c1 : catA (B s) (B x) = some (B (s ++ x)) := cat_ofB rfl (by rw [List.length_append]; omega)
        try simp (dsimp := false) (disch := first | exact dI | fail) only [XOB, ↓XXs, ↓XD, ↓YX, ZB, Nat.reduceAdd, Nat.reducePow, ↓reduceIte, eq_self, Int.reduceEq, Nat.reduceEqDiff, Nat.reduceMul, Nat.reduceLeDiff, Int.reduceBEq, Int.reduceLT, Tryz.f50, ↓XH2, XRN, ZC, ZE, ZH, eq_self, Nat.reduceLeDiff, Nat.reduceBEq, slV_new, reduceIte, ↓op_extract, tupAt_mk, lenV_sl, Bool.not_true, Bool.not_false, hw, t0, t1, t2, hct, c1]
        exact fin _ _ _ (by rw [List.length_append]; omega)
      · try simp (dsimp := false) (disch := first | exact dI | fail) only [XOB, ↓XXs, ↓XD, ↓YX, ZB, Nat.reduceAdd, Nat.reducePow, ↓reduceIte, eq_self, Int.reduceEq, Nat.reduceEqDiff, Nat.reduceMul, Nat.reduceLeDiff, Int.reduceBEq, Int.reduceLT, Tryz.f50, ↓XH2, XRN, ZC, ZE, ZH, eq_self, Nat.reduceLeDiff, Nat.reduceBEq, slV_new, reduceIte, ↓op_extract, tupAt_mk, lenV_sl, Bool.not_true, Bool.not_false, hw, t0, t1, t2, hct]
        refine okr_if (fun t3 => ?_) (fun t3 => ?_)
        · try simp (dsimp := false) (disch := first | exact dI | fail) only [XOB, ↓XXs, ↓XD, ↓YX, ZB, Nat.reduceAdd, Nat.reducePow, ↓reduceIte, eq_self, Int.reduceEq, Nat.reduceEqDiff, Nat.reduceMul, Nat.reduceLeDiff, Int.reduceBEq, Int.reduceLT, Tryz.f50, ↓XH2, XRN, ZC, ZE, ZH, eq_self, Nat.reduceLeDiff, Nat.reduceBEq, slV_new, reduceIte, ↓op_extract, tupAt_mk, lenV_sl, Bool.not_true, Bool.not_false, hw, t0, t1, t2, t3, hct, hcf]
          refine okr_call (okr_of [_, _, _, _, _, _, _] r2.ap hl (by simp (disch := first | exact dI | fail) only [↓XH2, XRN, ZC, ZE, ZH, eq_self, Nat.reduceLeDiff, Nat.reduceBEq] <;> rfl) rfl rfl (by simp; omega) (by simp) (by simp) (by omega) (by omega)) ?_
          rintro _ _ ⟨⟨x, rfl, hx⟩, rfl⟩
          have fx := small_of hx rfl
          have l1 := lt k
          have l2 := ld k
          have c1 : catA (B (s.take k)) (B x) = some (B (s.take k ++ x)) := cat_ofB rfl (by rw [List.length_append]; omega)
          have c2 : catA (B (s.take k ++ x)) (B (s.drop k)) = some (B (s.take k ++ x ++ s.drop k)) := cat_ofB rfl (by rw [List.length_append, List.length_append]; omega)
          try simp (dsimp := false) (disch := first | exact dI | fail) only [XOB, ↓XXs, ↓XD, ↓YX, ZB, Nat.reduceAdd, Nat.reducePow, ↓reduceIte, eq_self, Int.reduceEq, Nat.reduceEqDiff, Nat.reduceMul, Nat.reduceLeDiff, Int.reduceBEq, Int.reduceLT, Tryz.f50, ↓XH2, XRN, ZC, ZE, ZH, eq_self, Nat.reduceLeDiff, Nat.reduceBEq, slV_new, reduceIte, ↓op_extract, tupAt_mk, lenV_sl, Bool.not_true, Bool.not_false, hw, t0, t1, t2, t3, hct, hcf, c1, c2]
          exact fin _ _ _ (by rw [List.length_append, List.length_append]; omega)
        · try simp (dsimp := false) (disch := first | exact dI | fail) only [XOB, ↓XXs, ↓XD, ↓YX, ZB, Nat.reduceAdd, Nat.reducePow, ↓reduceIte, eq_self, Int.reduceEq, Nat.reduceEqDiff, Nat.reduceMul, Nat.reduceLeDiff, Int.reduceBEq, Int.reduceLT, Tryz.f50, ↓XH2, XRN, ZC, ZE, ZH, eq_self, Nat.reduceLeDiff, Nat.reduceBEq, slV_new, reduceIte, ↓op_extract, tupAt_mk, lenV_sl, Bool.not_true, Bool.not_false, hw, t0, t1, t2, t3, hct, hcf]
          exact fin0 s _ (by omega)

theorem den_len : ([100, 101, 110] : Bs).length ≤ 64 := by decide
theorem flat_le {α : Type} (f : α → Bs) (c : Nat) : ∀ (xs : List α), (∀ x ∈ xs, (f x).length ≤ c) → (xs.flatMap f).length ≤ xs.length * c
  | [], _ => by simp
  | x :: xs, h => by
    have h1 := h x (by simp)
    have h2 := flat_le f c xs (fun y hy => h y (by simp [hy]))
    simp only [List.flatMap_cons, List.length_append, List.length_cons, Nat.succ_mul]
    omega
theorem rput_len {R : Rm} (h : R.ok = true) : R.put.length ≤ 2 ^ 12 := by
  have b := Rm.ok_bd h
  have b1 := b.n; have b2 := b.nm; have b3 := b.sb; have b4 := b.m; have b5 := b.k
  have d1 := decI_len b1.1 b1.2
  have d2 := decI_len (n := (R.ms.length : Int)) (by omega) (by omega)
  have f1 := flat_le (fun m : Me => 124 :: m.user ++ 124 :: fieldL m.nick ++ 124 :: decI m.role) 64 R.ms (fun m hm => by
    obtain ⟨c1, c2, c3, c4, c5⟩ := b.ms m hm
    have := decI_len c4 c5
    simp only [List.length_append, List.length_cons]
    omega)
  have f2 := flat_le (fun x : Rk => 124 :: x.user ++ 124 :: decI x.num) 64 R.rs (fun x hx => by
    obtain ⟨c1, c4, c5⟩ := b.rs x hx
    have := decI_len c4 c5
    simp only [List.length_append, List.length_cons]
    omega)
  rw [put_eq h]
  simp only [List.length_append, List.length_cons]
  have g1 : R.ms.length * 64 ≤ 5 * 64 := Nat.mul_le_mul_right _ b4
  have g2 : R.rs.length * 64 ≤ 6 * 64 := Nat.mul_le_mul_right _ b5
  omega
/-- the room of a record in memory -/
abbrev rmR (ro : Ro) (ms : List Me) (rs : List Rk) : Rm := ⟨ro.name, ro.next, ms, rs, ro.subj⟩
theorem rmR_sm {h : AH} {ro : Ro} {ms : List Me} {rs : List Rk} (q : RoomAt h ro ms rs) (hm : ms.length ≤ 60) (hr : rs.length ≤ 60) : (rmR ro ms rs).Sm :=
  ⟨by have := q.nm; show ro.name.length ≤ _; omega, by have := q.sj; show ro.subj.length ≤ _; omega, by show ms.length ≤ _; omega, by show rs.length ≤ _; omega, fun x hx => by have := q.fm x hx; unfold Me.F at this; omega, fun x hx => by have := q.fr x hx; unfold Rk.F at this; omega⟩
set_option maxHeartbeats 4000000 in
theorem rq19 (va : Value) (n l : Nat) (h : AH) (r : Cd h va n) (hl : l ≤ h.length) (hn : n ≤ 2 ^ 62) :
    Okr (DrawT h) (run V0 (.fn 19) l [S va] h) := by
  refine okr_fn Tryz.func19 rfl rfl rfl rfl ?_
  obtain ⟨vb, m, h1, a1, r1, hm, k1⟩ := rq41 va n l h r hn
  have hid1 := lt_of_get r1.1
  simp (dsimp := false) (disch := first | exact dI | fail) only [XOB, ↓XXs, ↓XD, ↓YX, ZB, Nat.reduceAdd, Nat.reducePow, ↓reduceIte, eq_self, Int.reduceEq, Nat.reduceEqDiff, Nat.reduceMul, Nat.reduceLeDiff, Int.reduceBEq, Int.reduceLT, Tryz.f19, ↓XH2, XRN, ZC, ZE, ZH, eq_self, Nat.reduceLeDiff, Nat.reduceBEq, slV_new, reduceIte, ↓op_extract, tupAt_mk, lenV_sl, Bool.not_true, Bool.not_false, a1]
  refine okr_call (rq52 r1 (by omega) (by omega) (by omega)) ?_
  rintro _ h3 ⟨⟨i2, g2, log, rfl, e2, hi2, hinc, h60⟩, ⟨p3, hp3, r3⟩, k3⟩
  have hk3 := k3.1
  try simp (dsimp := false) (disch := first | exact dI | fail) only [XOB, ↓XXs, ↓XD, ↓YX, ZB, Nat.reduceAdd, Nat.reducePow, ↓reduceIte, eq_self, Int.reduceEq, Nat.reduceEqDiff, Nat.reduceMul, Nat.reduceLeDiff, Int.reduceBEq, Int.reduceLT, Tryz.f19, ↓XH2, XRN, ZC, ZE, ZH, eq_self, Nat.reduceLeDiff, Nat.reduceBEq, slV_new, reduceIte, ↓op_extract, tupAt_mk, lenV_sl, Bool.not_true, Bool.not_false, a1]
  refine okr_call (rq51 l [100, 101, 110] (slV i2 g2 log.length log.length) h3 log (by omega) (En.Rd.own e2) hinc.2 (by omega) den_len) ?_
  rintro _ h4 ⟨⟨ro, ms, rs, rfl, qr, _, _, hms, hrs⟩, k4⟩
  have hk4 := k4.1
  have hid3 := lt_of_get r3.1
  have sm := rmR_sm qr (by omega) (by omega)
  try simp (dsimp := false) (disch := first | exact dI | fail) only [XOB, ↓XXs, ↓XD, ↓YX, ZB, Nat.reduceAdd, Nat.reducePow, ↓reduceIte, eq_self, Int.reduceEq, Nat.reduceEqDiff, Nat.reduceMul, Nat.reduceLeDiff, Int.reduceBEq, Int.reduceLT, Tryz.f19, ↓XH2, XRN, ZC, ZE, ZH, eq_self, Nat.reduceLeDiff, Nat.reduceBEq, slV_new, reduceIte, ↓op_extract, tupAt_mk, lenV_sl, Bool.not_true, Bool.not_false, a1]
  refine okr_call (rq8 (rmR ro ms rs) sm ro.ms ro.rs l _ (by omega) qr.qm.rd qr.qr.rd) ?_
  rintro _ h5 ⟨rfl, k5⟩
  have hk5 := k5.1
  have hsl : (if (rmR ro ms rs).ok = true then (rmR ro ms rs).put else []).length ≤ 2 ^ 18 := by
    split
    · rename_i hok
      have := rput_len hok
      omega
    · simp
  generalize (if (rmR ro ms rs).ok = true then (rmR ro ms rs).put else []) = t at hsl ⊢
  try simp (dsimp := false) (disch := first | exact dI | fail) only [XOB, ↓XXs, ↓XD, ↓YX, ZB, Nat.reduceAdd, Nat.reducePow, ↓reduceIte, eq_self, Int.reduceEq, Nat.reduceEqDiff, Nat.reduceMul, Nat.reduceLeDiff, Int.reduceBEq, Int.reduceLT, Tryz.f19, ↓XH2, XRN, ZC, ZE, ZH, eq_self, Nat.reduceLeDiff, Nat.reduceBEq, slV_new, reduceIte, ↓op_extract, tupAt_mk, lenV_sl, Bool.not_true, Bool.not_false, a1]
  have r5 := (r3.keep (k4.le (by omega))).keep (k5.le (by omega))
  have K : Keep h.length h h5 := k1.trans ((Keep.ofKX k3 (by omega) (by omega)).trans ((k4.le (by omega)).trans (k5.le (by omega))))
  refine okr_call (rq50 t r5 K (by omega) (by omega) hsl (by omega) (by omega)) ?_
  rintro _ h6 ⟨⟨s, rfl, hs⟩, k6⟩
  simp (dsimp := false) (disch := first | exact dI | fail) only [XOB, ↓XXs, ↓XD, ↓YX, ZB, Nat.reduceAdd, Nat.reducePow, ↓reduceIte, eq_self, Int.reduceEq, Nat.reduceEqDiff, Nat.reduceMul, Nat.reduceLeDiff, Int.reduceBEq, Int.reduceLT, Tryz.f19, ↓XH2, XRN, ZC, ZE, ZH, eq_self, Nat.reduceLeDiff, Nat.reduceBEq, slV_new, reduceIte, ↓op_extract, tupAt_mk, lenV_sl, Bool.not_true, Bool.not_false]
  exact Okr.ret ⟨⟨s, rfl, hs⟩, k6⟩
end Go.Abs
namespace Go.Abs
open Go.Proofs
set_option maxRecDepth 100000
set_option linter.unusedSimpArgs false
set_option linter.unusedVariables false
set_option pp.maxSteps 20000
set_option pp.deepTerms true
set_option maxHeartbeats 8000000 in
theorem rq6 (va : Value) (n l : Nat) (h : AH) (r : Cd h va n) (hl : l ≤ h.length) : Okr (fun v _ => v = .bool true) (run V0 (.fn 6) l [S va] h) := by
  have n5 : ∀ a b c d e : Value, [a, b, c, d, e].length = 5 := fun _ _ _ _ _ => rfl
  have le5 : (5 ≤ 5) = True := by simp
  have tk : ∀ a b c d e : Value, List.take 5 [a, b, c, d, e] = [a, b, c, d, e] := fun _ _ _ _ _ => rfl
  have cc : ∀ (H : AH) (x : AObj), (H ++ [x])[H.length]? = some x := fun H x => List.getElem?_concat_length ..
  have lv := r.len
  refine okr_fn Tryz.func6 rfl rfl rfl rfl ?_
  simp (dsimp := false) (disch := first | exact dI | fail) only [XOB, ↓XXs, ↓XD, ↓YX, ZB, Nat.reduceAdd, Nat.reducePow, ↓reduceIte, eq_self, Int.reduceEq, Nat.reduceEqDiff, Nat.reduceMul, Nat.reduceLeDiff, Int.reduceBEq, Int.reduceLT, Tryz.f6, ↓XH2, XRN, ZC, ZE, ZH, eq_self, Nat.reduceLeDiff, Nat.reduceBEq, slV_new, reduceIte, ↓op_extract, tupAt_mk, lenV_sl, Bool.not_true, Bool.not_false, lv]
  with_reducible refine okr_if (fun q0 => ?_) (fun q0 => ?_)
  · simp (dsimp := false) (disch := first | exact dI | fail) only [XOB, ↓XXs, ↓XD, ↓YX, ZB, Nat.reduceAdd, Nat.reducePow, ↓reduceIte, eq_self, Int.reduceEq, Nat.reduceEqDiff, Nat.reduceMul, Nat.reduceLeDiff, Int.reduceBEq, Int.reduceLT, Tryz.f6, ↓XH2, XRN, ZC, ZE, ZH, eq_self, Nat.reduceLeDiff, Nat.reduceBEq, slV_new, reduceIte, ↓op_extract, tupAt_mk, lenV_sl, Bool.not_true, Bool.not_false]
    exact Okr.ret rfl
  · simp only [decide_eq_false_iff_not] at q0
    simp (dsimp := false) (disch := first | exact dI | fail) only [XOB, ↓XXs, ↓XD, ↓YX, ZB, Nat.reduceAdd, Nat.reducePow, ↓reduceIte, eq_self, Int.reduceEq, Nat.reduceEqDiff, Nat.reduceMul, Nat.reduceLeDiff, Int.reduceBEq, Int.reduceLT, Tryz.f6, ↓XH2, XRN, ZC, ZE, ZH, eq_self, Nat.reduceLeDiff, Nat.reduceBEq, slV_new, reduceIte, ↓op_extract, tupAt_mk, lenV_sl, Bool.not_true, Bool.not_false, lv]
    refine okr_call (rq19 va n l h r hl (by omega)) ?_
    rintro _ h0 ⟨⟨s, rfl, hs⟩, k0⟩
    have sm := rmOf_sm s
    have hl0 : l ≤ h0.length := by have := k0.1; omega
    simp (dsimp := false) (disch := first | exact dI | fail) only [XOB, ↓XXs, ↓XD, ↓YX, ZB, Nat.reduceAdd, Nat.reducePow, ↓reduceIte, eq_self, Int.reduceEq, Nat.reduceEqDiff, Nat.reduceMul, Nat.reduceLeDiff, Int.reduceBEq, Int.reduceLT, Tryz.f6, ↓XH2, XRN, ZC, ZE, ZH, eq_self, Nat.reduceLeDiff, Nat.reduceBEq, slV_new, reduceIte, ↓op_extract, tupAt_mk, lenV_sl, Bool.not_true, Bool.not_false]
    refine okr_call (rq13 s hs l h0 hl0) ?_
    rintro v1 h1 q1
    obtain ⟨mv1, rv1, rfl, m1, r1, k1⟩ := get_v (get_same s) q1
    have hl1 : l ≤ h1.length := by have := k1.1; omega
    have om1 := m1.one
    have or1 := r1.one
    simp (dsimp := false) (disch := first | exact dI | fail) only [XOB, ↓XXs, ↓XD, ↓YX, ZB, Nat.reduceAdd, Nat.reducePow, ↓reduceIte, eq_self, Int.reduceEq, Nat.reduceEqDiff, Nat.reduceMul, Nat.reduceLeDiff, Int.reduceBEq, Int.reduceLT, Tryz.f6, ↓XH2, XRN, ZC, ZE, ZH, eq_self, Nat.reduceLeDiff, Nat.reduceBEq, slV_new, reduceIte, ↓op_extract, tupAt_mk, lenV_sl, Bool.not_true, Bool.not_false, unc, nilL, aggOf, Option.bind_some, hl1, om1, or1, Bool.and_true, and_self, if_true, cc, n5]
    generalize hWd : [sV (rmOf s).name, iV (rmOf s).next, mv1, rv1, sV (rmOf s).sub] = W
    obtain ⟨H1, hH1⟩ : ∃ H1 : AH, H1 = h1 ++ [AObj.row 0 5 W] := ⟨_, rfl⟩
    rw [← hH1]
    have kH1 : Keep h1.length h1 H1 := by rw [hH1]; exact Keep.app _ _ (Nat.le_refl _)
    have eW : H1[h1.length]? = some (.row 0 5 W) := by rw [hH1]; exact cc _ _
    have hl2 : l ≤ H1.length := by have := kH1.1; omega
    refine okr_call (rq12 s hs l _ hl2) ?_
    rintro v2 h2 q2
    obtain ⟨mv2, rv2, rfl, m2, r2, k2⟩ := get_v rfl q2
    have hl3 : l ≤ h2.length := by have := k2.1; omega
    have om2 := m2.one
    have or2 := r2.one
    have eW2 := k2.get eW (lt_of_get eW)
    have eW3 : ∀ X, (h2 ++ [X])[h1.length]? = some (.row 0 5 W) := fun X => by rw [List.getElem?_append_left (lt_of_get eW2)]; exact eW2
    have nW : W.length = 5 := by rw [← hWd]; rfl
    have tW : List.take 5 W = W := by rw [← hWd]; rfl
    simp (dsimp := false) (disch := first | exact dI | fail) only [XOB, ↓XXs, ↓XD, ↓YX, ZB, Nat.reduceAdd, Nat.reducePow, ↓reduceIte, eq_self, Int.reduceEq, Nat.reduceEqDiff, Nat.reduceMul, Nat.reduceLeDiff, Int.reduceBEq, Int.reduceLT, Tryz.f6, ↓XH2, XRN, ZC, ZE, ZH, eq_self, Nat.reduceLeDiff, Nat.reduceBEq, slV_new, reduceIte, ↓op_extract, tupAt_mk, lenV_sl, Bool.not_true, Bool.not_false, boolNe, unc, nilL, aggOf, Option.bind_some, hl3, om2, or2, Bool.and_true, and_self, if_true, cc, n5, eW3, nW, le5, tk, tW, decide_true]
    generalize hGd : [sV (rmOf s).name, iV (rmOf s).next, mv2, rv2, sV (rmOf s).sub] = G
    obtain ⟨H2, hH2⟩ : ∃ H2 : AH, H2 = h2 ++ [AObj.row 0 5 G] := ⟨_, rfl⟩
    rw [← hH2]
    have kH2 : Keep h2.length h2 H2 := by rw [hH2]; exact Keep.app _ _ (Nat.le_refl _)
    have eG : H2[h2.length]? = some (.row 0 5 G) := by rw [hH2]; exact cc _ _
    have nG : G.length = 5 := by rw [← hGd]; rfl
    have tG : List.take 5 G = G := by rw [← hGd]; rfl
    have K12 : Keep H1.length H1 H2 := k2.trans (kH2.le k2.1)
    have m1' := (m1.keep kH1).keep K12
    have r1' := (r1.keep kH1).keep K12
    have m2' := m2.keep kH2
    have r2' := r2.keep kH2
    have vW : RmV H2 (rmOf s) (.agg ⟨W⟩) := ⟨mv1, rv1, by rw [← hWd], m1'.rd, r1'.rd, om1, or1⟩
    have vG : RmV H2 (rmOf s) (.agg ⟨G⟩) := ⟨mv2, rv2, by rw [← hGd], m2'.rd, r2'.rd, om2, or2⟩
    have eW4 := K12.get eW (lt_of_get eW)
    refine okr_call (rq18 (rmOf s) sm (.agg ⟨W⟩) (.agg ⟨G⟩) _ _ (by first | exact Nat.le_refl _ | (have := k2.1; have := kH2.1; omega)) vW vG) ?_
    rintro _ h3 ⟨rfl, k3⟩
    have eG3 := k3.get eG (lt_of_get eG)
    have eW5 := k3.get eW4 (lt_of_get eW4)
    have hl4 : l ≤ h3.length := by have := k3.1; have := kH2.1; omega
    simp (dsimp := false) (disch := first | exact dI | fail) only [XOB, ↓XXs, ↓XD, ↓YX, ZB, Nat.reduceAdd, Nat.reducePow, ↓reduceIte, eq_self, Int.reduceEq, Nat.reduceEqDiff, Nat.reduceMul, Nat.reduceLeDiff, Int.reduceBEq, Int.reduceLT, Tryz.f6, ↓XH2, XRN, ZC, ZE, ZH, eq_self, Nat.reduceLeDiff, Nat.reduceBEq, slV_new, reduceIte, ↓op_extract, tupAt_mk, lenV_sl, Bool.not_true, Bool.not_false, Bool.not_true, Bool.not_false]
    cases hb : (getS s).isSome with
    | false =>
      have bb : (false == false) = true := rfl
      simp (dsimp := false) (disch := first | exact dI | fail) only [XOB, ↓XXs, ↓XD, ↓YX, ZB, Nat.reduceAdd, Nat.reducePow, ↓reduceIte, eq_self, Int.reduceEq, Nat.reduceEqDiff, Nat.reduceMul, Nat.reduceLeDiff, Int.reduceBEq, Int.reduceLT, Tryz.f6, ↓XH2, XRN, ZC, ZE, ZH, eq_self, Nat.reduceLeDiff, Nat.reduceBEq, slV_new, reduceIte, ↓op_extract, tupAt_mk, lenV_sl, Bool.not_true, Bool.not_false, Bool.not_false, eG3, eW5, nG, nW, le5, tG, tW, decide_true, bb]
      refine okr_call (rq18 (rmOf s) sm (.agg ⟨W⟩) (.agg ⟨G⟩) _ _ (by first | exact Nat.le_refl _ | omega) (vW.keep k3) (vG.keep k3)) ?_
      rintro _ h4 ⟨rfl, k4⟩
      simp (dsimp := false) (disch := first | exact dI | fail) only [XOB, ↓XXs, ↓XD, ↓YX, ZB, Nat.reduceAdd, Nat.reducePow, ↓reduceIte, eq_self, Int.reduceEq, Nat.reduceEqDiff, Nat.reduceMul, Nat.reduceLeDiff, Int.reduceBEq, Int.reduceLT, Tryz.f6, ↓XH2, XRN, ZC, ZE, ZH, eq_self, Nat.reduceLeDiff, Nat.reduceBEq, slV_new, reduceIte, ↓op_extract, tupAt_mk, lenV_sl, Bool.not_true, Bool.not_false]
      exact Okr.ret rfl
    | true =>
      obtain ⟨R, hR⟩ := Option.isSome_iff_exists.1 hb
      have hRm : rmOf s = R := by unfold rmOf; rw [hR]; rfl
      obtain ⟨g1, g2⟩ := (getS_iff s R).1 hR
      rw [← hRm] at g1 g2
      simp (dsimp := false) (disch := first | exact dI | fail) only [XOB, ↓XXs, ↓XD, ↓YX, ZB, Nat.reduceAdd, Nat.reducePow, ↓reduceIte, eq_self, Int.reduceEq, Nat.reduceEqDiff, Nat.reduceMul, Nat.reduceLeDiff, Int.reduceBEq, Int.reduceLT, Tryz.f6, ↓XH2, XRN, ZC, ZE, ZH, eq_self, Nat.reduceLeDiff, Nat.reduceBEq, slV_new, reduceIte, ↓op_extract, tupAt_mk, lenV_sl, Bool.not_true, Bool.not_false, Bool.not_true, eG3, eW5, nG, nW, le5, tG, tW, decide_true]
      have a10 := rq10 (rmOf s) sm mv1 rv1 l h3 hl4 (m1'.keep k3).rd (r1'.keep k3).rd
      rw [if_pos g1, g2] at a10
      have hv : ((rmOf s).ro mv1 rv1).V = .agg ⟨W⟩ := by rw [← hWd]
      rw [hv] at a10
      refine okr_call a10 ?_
      rintro _ h4 ⟨rfl, k4⟩
      have eW6 := k4.get eW5 (lt_of_get eW5)
      have ss : decide (B s = B s) = true := by simp
      simp (dsimp := false) (disch := first | exact dI | fail) only [XOB, ↓XXs, ↓XD, ↓YX, ZB, Nat.reduceAdd, Nat.reducePow, ↓reduceIte, eq_self, Int.reduceEq, Nat.reduceEqDiff, Nat.reduceMul, Nat.reduceLeDiff, Int.reduceBEq, Int.reduceLT, Tryz.f6, ↓XH2, XRN, ZC, ZE, ZH, eq_self, Nat.reduceLeDiff, Nat.reduceBEq, slV_new, reduceIte, ↓op_extract, tupAt_mk, lenV_sl, Bool.not_true, Bool.not_false, ss, eW6, nW, le5, tW, decide_true]
      have a17 := rq17 (rmOf s) sm mv1 rv1 l h4 (by have := k4.1; omega) ((m1'.keep k3).keep k4).rd ((r1'.keep k3).keep k4).rd
      rw [hv, g1] at a17
      refine okr_call a17 ?_
      rintro _ h5 ⟨rfl, k5⟩
      simp (dsimp := false) (disch := first | exact dI | fail) only [XOB, ↓XXs, ↓XD, ↓YX, ZB, Nat.reduceAdd, Nat.reducePow, ↓reduceIte, eq_self, Int.reduceEq, Nat.reduceEqDiff, Nat.reduceMul, Nat.reduceLeDiff, Int.reduceBEq, Int.reduceLT, Tryz.f6, ↓XH2, XRN, ZC, ZE, ZH, eq_self, Nat.reduceLeDiff, Nat.reduceBEq, slV_new, reduceIte, ↓op_extract, tupAt_mk, lenV_sl, Bool.not_true, Bool.not_false]
      exact Okr.ret rfl
theorem rz6 (va : Value) (n l : Nat) (h : AH) (r : Cd h va n) (hl : l ≤ h.length) : ∃ h', run V0 (.fn 6) l [S va] h = some (.ret (.bool true) h') := by
  obtain ⟨v, h', e, rfl⟩ := rq6 va n l h r hl
  exact ⟨h', e⟩
end Go.Abs
