/- How a room is put into a text, in the program and in the reference. For every room that is small enough; no condition. -/
import Derived.Test.YtoijpmokcdifnaaGreatDoorRoomB
namespace Go.Abs
open Go.Proofs
set_option maxRecDepth 100000
set_option linter.unusedSimpArgs false
set_option linter.unusedVariables false
set_option pp.maxSteps 20000
set_option pp.deepTerms true
theorem dig_int (k : Nat) : IntKind.u8.wrap (IntKind.i64.wrap (48 + (k : Int).tmod 10)) = ((UInt8.ofNat (48 + k % 10)).toNat : Int) := by
  have h1 : (k : Int).tmod 10 = ((k % 10 : Nat) : Int) := by rw [Int.tmod_eq_emod_of_nonneg (by omega)]; omega
  have h2 : k % 10 < 10 := Nat.mod_lt _ (by omega)
  rw [h1, wrap64 (by omega), wrap8 (by omega)]
  simp only [UInt8.toNat_ofNat']
  omega
theorem dig_one (k : Nat) (hk : k < 10) : IntKind.u8.wrap (IntKind.i64.wrap (48 + (k : Int))) = ((UInt8.ofNat (48 + k)).toNat : Int) := by
  rw [wrap64 (by omega), wrap8 (by omega)]
  simp only [UInt8.toNat_ofNat']
  omega
theorem div_int (k : Nat) (hk : k ≤ 2 ^ 40) : IntKind.i64.wrap ((k : Int).tdiv 10) = ((k / 10 : Nat) : Int) := by
  have h1 : (k : Int).tdiv 10 = ((k / 10 : Nat) : Int) := by rw [Int.tdiv_eq_ediv_of_nonneg (by omega)]; omega
  rw [h1, wrap64 (by omega)]
theorem baseOf_b2s {d : Option Nat} {t : TypeId} {ps : String} {af : Array Edge} {g : Option (Nat × Bool)} (fr : Frm) (x : Operand) : baseOf V0.P fr { dst := d, op := .convert 39 9 x, type := t, pos := ps, after := af, guard := g } = baseId (slot fr x).v := by
  unfold baseOf isL
  dsimp only
  rw [show V0.P.underlying 39 = some (.slice 5) by kernel_rfl, show V0.P.underlying 9 = some .string by kernel_rfl]
  rfl
theorem sel_nil (l : List Did) : sel [] l = [] := by simp [sel]
theorem L_dec : ∀ (k n l : Nat) (h : AH), n < 10 ^ k → 0 < k → k ≤ 4 → l ≤ h.length → Okr (VQ (sV (decF k n)) h) (run V0 (.fn 61) l [S (iV n)] h) := by
  intro k
  induction k with
  | zero => intro n l h _ h0; omega
  | succ k ih =>
    intro n l h hn _ hk hl
    have hn4 : n < 10 ^ 4 := Nat.lt_of_lt_of_le hn (Nat.pow_le_pow_right (by decide) hk)
    have hn5 : n < 10000 := hn4
    have d1 : decide ((n : Int) < -9223372036854775807) = false := decide_eq_false (by omega)
    have d2 : decide ((n : Int) < 0) = false := decide_eq_false (by omega)
    refine okr_fn Tryz.func61 rfl rfl rfl rfl ?_
    rw [decF]
    by_cases h10 : n < 10
    · have d3 : decide ((n : Int) < 10) = true := decide_eq_true (by omega)
      have hb2 : b2s (h ++ [AObj.row 0 25769803777 [.int .u8 ((UInt8.ofNat (48 + n)).toNat : Int)]]) (newS h 1 1) = some (B [UInt8.ofNat (48 + n)]) := b2s_of (s := [UInt8.ofNat (48 + n)]) (g := 0) (sz := 25769803777) (by simp [u8c]) rfl
      rw [if_pos h10]
      simp (disch := first | exact dI | fail) only [↓XX, ↓XD, ↓YX, ZB, Nat.reduceAdd, Nat.reducePow, ↓reduceIte, eq_self, Int.reduceEq, Nat.reduceEqDiff, Nat.reduceMul, Nat.reduceLeDiff, Tryz.f61, d1, d2, d3, dig_one n h10, hb2]
      exact Okr.ret ⟨rfl, Keep.app _ _ (Nat.le_refl _)⟩
    · have d3 : decide ((n : Int) < 10) = false := decide_eq_false (by omega)
      rw [if_neg h10]
      have hk0 : 0 < k := by
        rcases Nat.eq_zero_or_pos k with q | q
        · subst q; simp at hn; omega
        · exact q
      have hlt : n / 10 < 10 ^ k := by rw [Nat.pow_succ] at hn; omega
      have c10 : (if (10 : Int) = 0 then none else some ((n : Int).tmod 10)) = some ((n : Int).tmod 10) := rfl
      have q10 : (if (10 : Int) = 0 then none else some (IntKind.i64.wrap ((n : Int).tdiv 10))) = some ((n / 10 : Nat) : Int) := by rw [if_neg (by decide), div_int n (by omega)]
      simp (disch := first | exact dI | fail) only [↓XX, ↓XD, ↓YX, ZB, Nat.reduceAdd, Nat.reducePow, ↓reduceIte, eq_self, Int.reduceEq, Nat.reduceEqDiff, Nat.reduceMul, Nat.reduceLeDiff, Tryz.f61, d1, d2, d3, q10, c10, div_int n (by omega)]
      refine okr_call (ih (n / 10) l h hlt hk0 (by omega) hl) ?_
      rintro _ h2 ⟨rfl, k2⟩
      have hle := k2.1
      have hb2 : b2s (h2 ++ [AObj.row 0 25769803777 [.int .u8 ((UInt8.ofNat (48 + n % 10)).toNat : Int)]]) (newS h2 1 1) = some (B [UInt8.ofNat (48 + n % 10)]) := b2s_of (s := [UInt8.ofNat (48 + n % 10)]) (g := 0) (sz := 25769803777) (by simp [u8c]) rfl
      have hl4 := decF_len k (n / 10)
      have hc := catA_B (decF k (n / 10)) [UInt8.ofNat (48 + n % 10)] (by simp only [List.length_cons, List.length_nil]; omega)
      simp (disch := first | exact dI | fail) only [↓XX, ↓XD, ↓YX, ZB, Nat.reduceAdd, Nat.reducePow, ↓reduceIte, eq_self, Int.reduceEq, Nat.reduceEqDiff, Nat.reduceMul, Nat.reduceLeDiff, Tryz.f61, dig_int, hb2, hc, baseOf_b2s, sel_nil, otherAt]
      simp only [baseId, newS, sel, List.append_assoc, List.nil_append, List.cons_append, List.filter, List.contains_cons, List.contains_nil, Nat.reduceBEq, Bool.or_false, freshAt]
      refine (show Okr _ (if h2.length ≤ h2.length then some (.ret _ _) else none) from ?_)
      rw [if_pos (Nat.le_refl _)]
      exact Okr.ret ⟨rfl, k2.trans (Keep.app _ _ hle)⟩
theorem r_dec (n : Int) (l : Nat) (h : AH) (h0 : 0 ≤ n) (h1 : n < 10000) (hl : l ≤ h.length) : Okr (VQ (sV (decI n)) h) (run V0 (.fn 61) l [S (iV n)] h) := by
  have := L_dec 4 n.toNat l h (by omega) (by omega) (by omega) hl
  rw [decI_of h0 h1]
  rw [show n = ((n.toNat : Nat) : Int) by omega]
  exact this
theorem r_itoa (n : Int) (l : Nat) (h : AH) (h0 : 0 ≤ n) (h1 : n < 10000) : run V0 (.fn 26) l [S (iV n)] h = some (.ret (sV (decI n)) h) := by
  refine run_prim (vs := [iV n]) (p := pPure fItoa) rfl ?_
  simp only [pPure, fItoa]
  rw [if_pos ⟨by omega, by omega⟩, itoa_decI h0]
  rfl
/-- spec.l8Field: its loop -/
theorem L62 (s : Bs) (hs : s.length ≤ 2 ^ 40) (l : Nat) (h : AH) : ∀ (r d acc : Bs), s = d ++ r → acc.length ≤ 2 * d.length →
    L62_0 l (sV s) (sV acc) (iV d.length) h = some (.ret (sV (acc ++ fieldL r)) h) := by
  have hsz := size_B s
  intro r
  induction r with
  | nil =>
    intro d acc hk ha
    rw [List.append_nil] at hk
    have hlt : decide ((d.length : Int) < (s.length : Int)) = false := by rw [decide_eq_false_iff_not, hk]; omega
    refine run_code Tryz.func62 rfl rfl ?_
    simp (disch := first | exact dI | fail) only [↓XX, ↓XD, ↓YX, ZB, Nat.reduceAdd, Nat.reducePow, ↓reduceIte, eq_self, Int.reduceEq, Nat.reduceEqDiff, Nat.reduceMul, Nat.reduceLeDiff, Tryz.f62, hsz, hlt, fieldL_nil, List.append_nil]
  | cons b r ih =>
    intro d acc hk ha
    have hdl := congrArg List.length hk
    simp only [List.length_append, List.length_cons] at hdl
    have hlt : decide ((d.length : Int) < (s.length : Int)) = true := by rw [decide_eq_true_iff]; omega
    have hat : strAt (B s) (d.length : Int) = some (b.toNat : Int) := by rw [hk]; exact strAt_mid d b r
    have hw : IntKind.i64.wrap ((d.length : Int) + 1) = ((d.length + 1 : Nat) : Int) := natCast_succ_wrap (by omega) rfl
    have hcut : strCut (B s) (d.length : Int) ((d.length + 1 : Nat) : Int) = some (B [b]) := by
      rw [strCut_B _ _ _ (by omega) (by omega), hk]
      congr 2
      rw [show d ++ b :: r = (d ++ [b]) ++ r by simp, List.take_left' (by simp), List.drop_left' rfl]
    have hc1 := catA_B acc [92] (by simp only [List.length_cons, List.length_nil]; omega)
    have hc2 := catA_B (acc ++ [92]) [b] (by simp only [List.length_append, List.length_cons, List.length_nil]; omega)
    have hc3 := catA_B acc [b] (by simp only [List.length_cons, List.length_nil]; omega)
    refine run_code Tryz.func62 rfl rfl ?_
    rw [fieldL_cons]
    have e1 : ((b.toNat : Int) == 124) = decide (b = 124) := by
      rw [Bool.eq_iff_iff]; simp only [beq_iff_eq, decide_eq_true_eq]
      exact ⟨fun e => UInt8.toNat_inj.1 (by show b.toNat = 124; omega), fun e => by subst e; rfl⟩
    have e2 : ((b.toNat : Int) == 92) = decide (b = 92) := by
      rw [Bool.eq_iff_iff]; simp only [beq_iff_eq, decide_eq_true_eq]
      exact ⟨fun e => UInt8.toNat_inj.1 (by show b.toNat = 92; omega), fun e => by subst e; rfl⟩
    have i1 := ih (d ++ [b]) (acc ++ [92] ++ [b]) (by rw [hk]; simp) (by simp only [List.length_append, List.length_cons, List.length_nil]; omega)
    have i2 := ih (d ++ [b]) (acc ++ [b]) (by rw [hk]; simp) (by simp only [List.length_append, List.length_cons, List.length_nil]; omega)
    rw [show (d ++ [b]).length = d.length + 1 by simp] at i1 i2
    by_cases h1 : b = 124
    · have q1 : decide (b = 124) = true := decide_eq_true h1
      rw [if_pos (.inl h1)]
      simp (disch := first | exact dI | fail) only [↓XX, ↓XD, ↓YX, ZB, Nat.reduceAdd, Nat.reducePow, ↓reduceIte, eq_self, Int.reduceEq, Nat.reduceEqDiff, Nat.reduceMul, Nat.reduceLeDiff, Tryz.f62, hsz, hlt, hat, e1, q1, hc1, hw, hcut, hc2]
      rw [i1]; simp
    · have q1 : decide (b = 124) = false := decide_eq_false h1
      by_cases h2 : b = 92
      · have q2 : decide (b = 92) = true := decide_eq_true h2
        rw [if_pos (.inr h2)]
        simp (disch := first | exact dI | fail) only [↓XX, ↓XD, ↓YX, ZB, Nat.reduceAdd, Nat.reducePow, ↓reduceIte, eq_self, Int.reduceEq, Nat.reduceEqDiff, Nat.reduceMul, Nat.reduceLeDiff, Tryz.f62, hsz, hlt, hat, e1, q1, e2, q2, hc1, hw, hcut, hc2]
        rw [i1]; simp
      · have q2 : decide (b = 92) = false := decide_eq_false h2
        rw [if_neg (fun q => q.elim h1 h2)]
        simp (disch := first | exact dI | fail) only [↓XX, ↓XD, ↓YX, ZB, Nat.reduceAdd, Nat.reducePow, ↓reduceIte, eq_self, Int.reduceEq, Nat.reduceEqDiff, Nat.reduceMul, Nat.reduceLeDiff, Tryz.f62, hsz, hlt, hat, e1, q1, e2, q2, hw, hcut, hc3]
        rw [i2]; simp
theorem rq62 (s : Bs) (hs : s.length ≤ 2 ^ 40) (l : Nat) (h : AH) : run V0 (.fn 62) l [S (sV s)] h = some (.ret (sV (fieldL s)) h) := by
  refine run_fn Tryz.func62 rfl rfl rfl rfl ?_
  simp (disch := first | exact dI | fail) only [↓XX, ↓XD, ↓YX, ZB, Nat.reduceAdd, Nat.reducePow, ↓reduceIte, eq_self, Int.reduceEq, Nat.reduceEqDiff, Nat.reduceMul, Nat.reduceLeDiff, Tryz.f62]
  exact L62 s hs l h s [] [] rfl (by simp)
end Go.Abs
namespace Go.Abs
open Go.Proofs
set_option maxRecDepth 100000
set_option linter.unusedSimpArgs false
set_option linter.unusedVariables false
set_option pp.maxSteps 20000
set_option pp.deepTerms true
/-- the text of members; of ranks -/
def memT (r : List Me) : Bs := r.flatMap fun m => 124 :: m.user ++ 124 :: fieldL m.nick ++ 124 :: decI m.role
def rkT (r : List Rk) : Bs := r.flatMap fun x => 124 :: x.user ++ 124 :: decI x.num
theorem memT_cons (m : Me) (r : List Me) : memT (m :: r) = 124 :: m.user ++ 124 :: fieldL m.nick ++ 124 :: decI m.role ++ memT r := by simp [memT]
theorem rkT_cons (m : Rk) (r : List Rk) : rkT (m :: r) = 124 :: m.user ++ 124 :: decI m.num ++ rkT r := by simp [rkT]
/-- the sizes in a room that is ok -/
structure Rm.Bd (R : Rm) : Prop where
  n : 0 ≤ R.next ∧ R.next < 10000
  nm : R.name.length ≤ 8
  sb : (fieldL R.sub).length ≤ 120 ∧ R.sub.length ≤ 60
  m : R.ms.length ≤ 5
  k : R.rs.length ≤ 6
  ms : ∀ m ∈ R.ms, m.user.length ≤ 8 ∧ m.nick.length ≤ 10 ∧ (fieldL m.nick).length ≤ 20 ∧ 0 ≤ m.role ∧ m.role < 10000
  rs : ∀ x ∈ R.rs, x.user.length ≤ 8 ∧ 0 ≤ x.num ∧ x.num < 10000
theorem usr_len {s : Bs} (h : userOkL s = true) : s.length ≤ 8 := by
  unfold userOkL at h
  simp only [Bool.and_eq_true] at h
  have := inI_of h.2; omega
theorem Rm.ok_bd {R : Rm} (h : R.ok = true) : R.Bd := by
  have q := Rm.ok_nums h
  simp only [Rm.ok, Bool.and_eq_true, decide_eq_true_eq] at h
  obtain ⟨⟨⟨⟨⟨⟨⟨h1, h2⟩, h3⟩, h4⟩, h5⟩, h6⟩, h7⟩, h8⟩ := h
  have hs : R.sub.length ≤ 60 := by
    simp only [subOk, bodyOkL, Bool.or_eq_true, decide_eq_true_eq, Bool.and_eq_true] at h3
    rcases h3 with h3 | h3
    · rw [h3]; simp
    · have := inI_of h3.2; omega
  refine ⟨⟨q.n.1, by have := q.n.2; omega⟩, usr_len h1, ⟨by have := fieldL_len R.sub; omega, hs⟩, q.m, q.k, fun m hm => ?_, fun x hx => ?_⟩
  · obtain ⟨g1, g2, g3⟩ := memsOk_all h6 m hm
    simp only [nickOkL, Bool.and_eq_true] at g2
    have := inI_of g2.1.1.2
    have := fieldL_len m.nick
    have := q.ms m hm
    exact ⟨usr_len g1, by omega, by omega, this.1, this.2⟩
  · obtain ⟨g1, g2⟩ := ranksOk_all h7 x hx
    have := q.rs x hx
    exact ⟨usr_len g1, this.1, this.2⟩
set_option maxHeartbeats 4000000 in
theorem L123 (R : Rm) (sm : R.Bd) (mv rv : Value) (l ir : Nat) (H0 : AH) (hl : l ≤ H0.length) (hir : ir < H0.length) (er0 : H0[ir]? = some (.row 0 5 (R.ro mv rv).C)) (qr0 : Rk.Rd H0 rv R.rs) :
    ∀ (r d : List Rk) (acc : Bs) (h : AH), Keep H0.length H0 h → d ++ r = R.rs → acc.length ≤ 2 ^ 22 + d.length * 2 ^ 10 →
      Okr (VQ (sV (acc ++ rkT r)) H0) (L23_1 l (pV ir 0 0) (sV acc) (iV d.length) h) := by
  have hk6 := sm.k
  intro r
  induction r with
  | nil =>
    intro d acc h k hd ha
    have er := k.get er0 hir
    have qr := qr0.keep k
    rw [List.append_nil] at hd
    have hlr := qr.len
    have hlt : decide ((d.length : Int) < (R.rs.length : Int)) = false := decide_eq_false (by rw [hd]; omega)
    refine okr_code Tryz.func23 rfl rfl ?_
    simp (dsimp := false) (disch := first | exact dI | fail) only [XOB, ↓XXs, ↓XD, ↓YX, ZB, Nat.reduceAdd, Nat.reducePow, ↓reduceIte, eq_self, Int.reduceEq, Nat.reduceEqDiff, Nat.reduceMul, Nat.reduceLeDiff, Int.reduceBEq, Int.reduceLT, Tryz.f23, ↓XH2, XRN, ZC, ZE, ZH, eq_self, Nat.reduceLeDiff, Nat.reduceBEq, slV_new, reduceIte, ↓op_extract, tupAt_mk, lenV_sl, Bool.not_true, Bool.not_false, er, hlr, hlt]
    exact Okr.ret ⟨by simp [rkT], k⟩
  | cons x r ih =>
    intro d acc h k hd ha
    have er := k.get er0 hir
    have qr := qr0.keep k
    obtain ⟨hb1, hb2, hb3⟩ := sm.rs x (by rw [← hd]; simp)
    have hdl := congrArg List.length hd
    simp only [List.length_append, List.length_cons] at hdl
    have hlr := qr.len
    have hlt : decide ((d.length : Int) < (R.rs.length : Int)) = true := decide_eq_true (by omega)
    rw [← hd] at qr
    rcases qr with ⟨_, q⟩ | ⟨iy, gy, cy, hrv, ey⟩
    · simp at q
    have hix : ixAddr rv (d.length : Int) 2 = some (pV iy (d.length * 2) gy) := by rw [hrv, ixAddr_sl (by simp)]; simp
    have c0 : (Rk.R (d ++ x :: r))[d.length * 2 + 0]? = some (sV x.user) := Rk.cell d x r 0 (by decide)
    have c1 : (Rk.R (d ++ x :: r))[d.length * 2 + 1]? = some (iV x.num) := Rk.cell d x r 1 (by decide)
    have hw : IntKind.i64.wrap ((d.length : Int) + 1) = ((d.length + 1 : Nat) : Int) := natCast_succ_wrap (by omega) rfl
    refine okr_code Tryz.func23 rfl rfl ?_
    simp (dsimp := false) (disch := first | exact dI | fail) only [XOB, ↓XXs, ↓XD, ↓YX, ZB, Nat.reduceAdd, Nat.reducePow, ↓reduceIte, eq_self, Int.reduceEq, Nat.reduceEqDiff, Nat.reduceMul, Nat.reduceLeDiff, Int.reduceBEq, Int.reduceLT, Tryz.f23, ↓XH2, XRN, ZC, ZE, ZH, eq_self, Nat.reduceLeDiff, Nat.reduceBEq, slV_new, reduceIte, ↓op_extract, tupAt_mk, lenV_sl, Bool.not_true, Bool.not_false, er, hlr, hlt, hix, ey, c0, c1, catA_B, hw]
    refine okr_call (r_dec x.num _ h hb2 hb3 (by first | exact Nat.le_refl _ | (have := k.1; omega))) ?_
    rintro _ h2 ⟨rfl, k2⟩
    have hdc := decI_len hb2 hb3
    simp (dsimp := false) (disch := first | exact dI | fail) only [XOB, ↓XXs, ↓XD, ↓YX, ZB, Nat.reduceAdd, Nat.reducePow, ↓reduceIte, eq_self, Int.reduceEq, Nat.reduceEqDiff, Nat.reduceMul, Nat.reduceLeDiff, Int.reduceBEq, Int.reduceLT, Tryz.f23, ↓XH2, XRN, ZC, ZE, ZH, eq_self, Nat.reduceLeDiff, Nat.reduceBEq, slV_new, reduceIte, ↓op_extract, tupAt_mk, lenV_sl, Bool.not_true, Bool.not_false, catA_B, hw]
    have := ih (d ++ [x]) (acc ++ [124] ++ x.user ++ [124] ++ decI x.num) h2 (k.trans (k2.le k.1)) (by rw [← hd]; simp) (by simp only [List.length_append, List.length_cons, List.length_nil]; omega)
    rw [List.length_append] at this
    rw [rkT_cons]
    simp only [List.append_assoc, List.cons_append, List.nil_append] at this ⊢
    exact this
set_option maxHeartbeats 4000000 in
theorem L023 (R : Rm) (sm : R.Bd) (mv rv : Value) (l ir : Nat) (H0 : AH) (hl : l ≤ H0.length) (hir : ir < H0.length) (er0 : H0[ir]? = some (.row 0 5 (R.ro mv rv).C)) (qm0 : Me.Rd H0 mv R.ms) (qr0 : Rk.Rd H0 rv R.rs) :
    ∀ (r d : List Me) (acc : Bs) (h : AH), Keep H0.length H0 h → d ++ r = R.ms → acc.length ≤ 2 ^ 21 + d.length * 2 ^ 10 →
      Okr (VQ (sV (acc ++ memT r ++ rkT R.rs)) H0) (L23_0 l (pV ir 0 0) (sV acc) (iV d.length) h) := by
  have hk5 := sm.m
  intro r
  induction r with
  | nil =>
    intro d acc h k hd ha
    have er := k.get er0 hir
    have qm := qm0.keep k
    rw [List.append_nil] at hd
    have hlm := qm.len
    have hlt : decide ((d.length : Int) < (R.ms.length : Int)) = false := decide_eq_false (by rw [hd]; omega)
    refine okr_code Tryz.func23 rfl rfl ?_
    simp (dsimp := false) (disch := first | exact dI | fail) only [XOB, ↓XXs, ↓XD, ↓YX, ZB, Nat.reduceAdd, Nat.reducePow, ↓reduceIte, eq_self, Int.reduceEq, Nat.reduceEqDiff, Nat.reduceMul, Nat.reduceLeDiff, Int.reduceBEq, Int.reduceLT, Tryz.f23, ↓XH2, XRN, ZC, ZE, ZH, eq_self, Nat.reduceLeDiff, Nat.reduceBEq, slV_new, reduceIte, ↓op_extract, tupAt_mk, lenV_sl, Bool.not_true, Bool.not_false, er, hlm, hlt]
    have hd5 : d.length ≤ 5 := by rw [hd]; exact hk5
    have := L123 R sm mv rv l ir H0 hl hir er0 qr0 R.rs [] acc h k rfl (by simp; omega)
    rw [show memT [] = [] from rfl]
    exact this
  | cons x r ih =>
    intro d acc h k hd ha
    have er := k.get er0 hir
    have qm := qm0.keep k
    obtain ⟨hb1, hb2, hb3, hb4, hb5⟩ := sm.ms x (by rw [← hd]; simp)
    have hdl := congrArg List.length hd
    simp only [List.length_append, List.length_cons] at hdl
    have hlm := qm.len
    have hlt : decide ((d.length : Int) < (R.ms.length : Int)) = true := decide_eq_true (by omega)
    rw [← hd] at qm
    rcases qm with ⟨_, q⟩ | ⟨iy, gy, cy, hmv, ey⟩
    · simp at q
    have hix : ixAddr mv (d.length : Int) 3 = some (pV iy (d.length * 3) gy) := by rw [hmv, ixAddr_sl (by simp)]; simp
    have c0 : (Me.R (d ++ x :: r))[d.length * 3 + 0]? = some (sV x.user) := Me.cell d x r 0 (by decide)
    have c1 : (Me.R (d ++ x :: r))[d.length * 3 + 1]? = some (sV x.nick) := Me.cell d x r 1 (by decide)
    have c2 : (Me.R (d ++ x :: r))[d.length * 3 + 2]? = some (iV x.role) := Me.cell d x r 2 (by decide)
    have hw : IntKind.i64.wrap ((d.length : Int) + 1) = ((d.length + 1 : Nat) : Int) := natCast_succ_wrap (by omega) rfl
    have a1 : ∀ l h, run V0 (.fn 62) l [S (sV x.nick)] h = some (.ret (sV (fieldL x.nick)) h) := fun l h => rq62 x.nick (by omega) l h
    refine okr_code Tryz.func23 rfl rfl ?_
    simp (dsimp := false) (disch := first | exact dI | fail) only [XOB, ↓XXs, ↓XD, ↓YX, ZB, Nat.reduceAdd, Nat.reducePow, ↓reduceIte, eq_self, Int.reduceEq, Nat.reduceEqDiff, Nat.reduceMul, Nat.reduceLeDiff, Int.reduceBEq, Int.reduceLT, Tryz.f23, ↓XH2, XRN, ZC, ZE, ZH, eq_self, Nat.reduceLeDiff, Nat.reduceBEq, slV_new, reduceIte, ↓op_extract, tupAt_mk, lenV_sl, Bool.not_true, Bool.not_false, er, hlm, hlt, hix, ey, c0, c1, c2, catA_B, hw, a1]
    refine okr_call (r_dec x.role _ h hb4 hb5 (by first | exact Nat.le_refl _ | (have := k.1; omega))) ?_
    rintro _ h2 ⟨rfl, k2⟩
    have hdc := decI_len hb4 hb5
    simp (dsimp := false) (disch := first | exact dI | fail) only [XOB, ↓XXs, ↓XD, ↓YX, ZB, Nat.reduceAdd, Nat.reducePow, ↓reduceIte, eq_self, Int.reduceEq, Nat.reduceEqDiff, Nat.reduceMul, Nat.reduceLeDiff, Int.reduceBEq, Int.reduceLT, Tryz.f23, ↓XH2, XRN, ZC, ZE, ZH, eq_self, Nat.reduceLeDiff, Nat.reduceBEq, slV_new, reduceIte, ↓op_extract, tupAt_mk, lenV_sl, Bool.not_true, Bool.not_false, catA_B, hw, a1]
    have := ih (d ++ [x]) (acc ++ [124] ++ x.user ++ [124] ++ fieldL x.nick ++ [124] ++ decI x.role) h2 (k.trans (k2.le k.1)) (by rw [← hd]; simp) (by simp only [List.length_append, List.length_cons, List.length_nil]; omega)
    rw [List.length_append] at this
    rw [memT_cons]
    simp only [List.append_assoc, List.cons_append, List.nil_append] at this ⊢
    exact this
set_option maxHeartbeats 4000000 in
theorem rq23 (R : Rm) (ok : R.ok = true) (mv rv : Value) (l : Nat) (h : AH) (hl : l ≤ h.length) (qm : Me.Rd h mv R.ms) (qr : Rk.Rd h rv R.rs) :
    Okr (VQ (sV R.put) h) (run V0 (.fn 23) l [S (R.ro mv rv).V] h) := by
  have sm := Rm.ok_bd ok
  obtain ⟨hn0, hn1⟩ := sm.n
  have hnm := sm.nm
  obtain ⟨hs1, hs2⟩ := sm.sb
  have hk5 := sm.m
  have kx : Keep h.length h (h ++ [AObj.row 0 5 [sV R.name, iV R.next, mv, rv, sV R.sub]]) := Keep.app _ _ (Nat.le_refl _)
  have a1 : ∀ l h, run V0 (.fn 62) l [S (sV R.sub)] h = some (.ret (sV (fieldL R.sub)) h) := fun l h => rq62 R.sub (by omega) l h
  have hd1 := decI_len hn0 hn1
  have hm0 : 0 ≤ (R.ms.length : Int) ∧ (R.ms.length : Int) < 10000 := by omega
  have hd2 := decI_len hm0.1 hm0.2
  refine okr_fn Tryz.func23 rfl rfl rfl rfl ?_
  simp (dsimp := false) (disch := first | exact dI | fail) only [XOB, ↓XXs, ↓XD, ↓YX, ZB, Nat.reduceAdd, Nat.reducePow, ↓reduceIte, eq_self, Int.reduceEq, Nat.reduceEqDiff, Nat.reduceMul, Nat.reduceLeDiff, Int.reduceBEq, Int.reduceLT, Tryz.f23, ↓XH2, XRN, ZC, ZE, ZH, eq_self, Nat.reduceLeDiff, Nat.reduceBEq, slV_new, reduceIte, ↓op_extract, tupAt_mk, lenV_sl, Bool.not_true, Bool.not_false, catA_B, a1]
  refine okr_call (r_dec R.next _ _ hn0 hn1 (by first | exact Nat.le_refl _ | (simp <;> omega))) ?_
  rintro _ h2 ⟨rfl, k2⟩
  have er2 : h2[h.length]? = some (.row 0 5 [sV R.name, iV R.next, mv, rv, sV R.sub]) := k2.get (by simp) (by simp)
  have K2 := kx.trans (k2.le kx.1)
  have qm2 := qm.keep K2
  have hlm := qm2.len
  simp (dsimp := false) (disch := first | exact dI | fail) only [XOB, ↓XXs, ↓XD, ↓YX, ZB, Nat.reduceAdd, Nat.reducePow, ↓reduceIte, eq_self, Int.reduceEq, Nat.reduceEqDiff, Nat.reduceMul, Nat.reduceLeDiff, Int.reduceBEq, Int.reduceLT, Tryz.f23, ↓XH2, XRN, ZC, ZE, ZH, eq_self, Nat.reduceLeDiff, Nat.reduceBEq, slV_new, reduceIte, ↓op_extract, tupAt_mk, lenV_sl, Bool.not_true, Bool.not_false, catA_B, a1, er2, hlm]
  refine okr_call (r_dec R.ms.length _ _ hm0.1 hm0.2 (by first | exact Nat.le_refl _ | (have := K2.1; omega))) ?_
  rintro _ h3 ⟨rfl, k3⟩
  have er3 := k3.get er2 (lt_of_get er2)
  have K3 := K2.trans (k3.le K2.1)
  simp (dsimp := false) (disch := first | exact dI | fail) only [XOB, ↓XXs, ↓XD, ↓YX, ZB, Nat.reduceAdd, Nat.reducePow, ↓reduceIte, eq_self, Int.reduceEq, Nat.reduceEqDiff, Nat.reduceMul, Nat.reduceLeDiff, Int.reduceBEq, Int.reduceLT, Tryz.f23, ↓XH2, XRN, ZC, ZE, ZH, eq_self, Nat.reduceLeDiff, Nat.reduceBEq, slV_new, reduceIte, ↓op_extract, tupAt_mk, lenV_sl, Bool.not_true, Bool.not_false, catA_B, a1, er3, hlm]
  have := L023 R sm mv rv l h.length h3 (by have := K3.1; omega) (by have := K3.1; have := lt_of_get er3; omega) er3 (qm.keep K3) (qr.keep K3) R.ms [] (R.name ++ [124] ++ decI R.next ++ [124] ++ fieldL R.sub ++ [124] ++ decI R.ms.length) h3 (Keep.refl _ _) rfl (by simp only [List.length_append, List.length_cons, List.length_nil]; omega)
  simp only [List.append_assoc, List.cons_append, List.nil_append] at this
  refine Okr.mono this ?_
  rintro v h' ⟨rfl, k4⟩
  refine ⟨?_, K3.trans (k4.le K3.1)⟩
  rw [put_eq ok]
  simp [memT, rkT]
theorem rq8 (R : Rm) (sm : R.Sm) (mv rv : Value) (l : Nat) (h : AH) (hl : l ≤ h.length) (qm : Me.Rd h mv R.ms) (qr : Rk.Rd h rv R.rs) :
    Okr (VQ (sV (if R.ok = true then R.put else [])) h) (run V0 (.fn 8) l [S (R.ro mv rv).V] h) := by
  have kx : Keep h.length h (h ++ [AObj.row 0 5 [sV R.name, iV R.next, mv, rv, sV R.sub]]) := Keep.app _ _ (Nat.le_refl _)
  refine okr_fn Tryz.func8 rfl rfl rfl rfl ?_
  simp (dsimp := false) (disch := first | exact dI | fail) only [XOB, ↓XXs, ↓XD, ↓YX, ZB, Nat.reduceAdd, Nat.reducePow, ↓reduceIte, eq_self, Int.reduceEq, Nat.reduceEqDiff, Nat.reduceMul, Nat.reduceLeDiff, Int.reduceBEq, Int.reduceLT, Tryz.f8, ↓XH2, XRN, ZC, ZE, ZH, eq_self, Nat.reduceLeDiff, Nat.reduceBEq, slV_new, reduceIte, ↓op_extract, tupAt_mk, lenV_sl, Bool.not_true, Bool.not_false]
  refine okr_call (rq22 R sm mv rv l _ (by simp; omega) (qm.keep kx) (qr.keep kx)) ?_
  rintro _ h2 ⟨rfl, k2⟩
  have er2 : h2[h.length]? = some (.row 0 5 [sV R.name, iV R.next, mv, rv, sV R.sub]) := k2.get (by simp) (by simp)
  have K2 := kx.trans (k2.le kx.1)
  cases hq : R.ok with
  | false =>
    simp (dsimp := false) (disch := first | exact dI | fail) only [XOB, ↓XXs, ↓XD, ↓YX, ZB, Nat.reduceAdd, Nat.reducePow, ↓reduceIte, eq_self, Int.reduceEq, Nat.reduceEqDiff, Nat.reduceMul, Nat.reduceLeDiff, Int.reduceBEq, Int.reduceLT, Tryz.f8, ↓XH2, XRN, ZC, ZE, ZH, eq_self, Nat.reduceLeDiff, Nat.reduceBEq, slV_new, reduceIte, ↓op_extract, tupAt_mk, lenV_sl, Bool.not_true, Bool.not_false, hq, er2]
    simp only [hq, Bool.false_eq_true, if_false]
    exact Okr.ret ⟨rfl, K2⟩
  | true =>
    simp (dsimp := false) (disch := first | exact dI | fail) only [XOB, ↓XXs, ↓XD, ↓YX, ZB, Nat.reduceAdd, Nat.reducePow, ↓reduceIte, eq_self, Int.reduceEq, Nat.reduceEqDiff, Nat.reduceMul, Nat.reduceLeDiff, Int.reduceBEq, Int.reduceLT, Tryz.f8, ↓XH2, XRN, ZC, ZE, ZH, eq_self, Nat.reduceLeDiff, Nat.reduceBEq, slV_new, reduceIte, ↓op_extract, tupAt_mk, lenV_sl, Bool.not_true, Bool.not_false, hq, er2]
    refine okr_call (rq23 R hq mv rv l h2 (by have := K2.1; omega) (qm.keep K2) (qr.keep K2)) ?_
    rintro _ h3 ⟨rfl, k3⟩
    simp (dsimp := false) (disch := first | exact dI | fail) only [XOB, ↓XXs, ↓XD, ↓YX, ZB, Nat.reduceAdd, Nat.reducePow, ↓reduceIte, eq_self, Int.reduceEq, Nat.reduceEqDiff, Nat.reduceMul, Nat.reduceLeDiff, Int.reduceBEq, Int.reduceLT, Tryz.f8, ↓XH2, XRN, ZC, ZE, ZH, eq_self, Nat.reduceLeDiff, Nat.reduceBEq, slV_new, reduceIte, ↓op_extract, tupAt_mk, lenV_sl, Bool.not_true, Bool.not_false]
    exact Okr.ret ⟨rfl, K2.trans (k3.le K2.1)⟩
end Go.Abs
namespace Go.Abs
open Go.Proofs
set_option maxRecDepth 100000
set_option linter.unusedSimpArgs false
set_option linter.unusedVariables false
set_option pp.maxSteps 20000
set_option pp.deepTerms true
theorem app_nilS {lim : Nat} {h : AH} {io g n c sz tg tg0 by' : Nat} {ds : List Value} (e : h[io]? = some (.row g tg0 ds)) (hn : n * sz = ds.length) (h0 : 0 < n) (hb : n * by' ≤ 2 ^ 47) :
    app lim h (.slice none 0 0) (slV io g n c) sz tg by' = some (newS h n n, h ++ [.row 0 tg ds]) := by
  obtain ⟨a1, a2⟩ := src_new (h := h) (i := io) (g := g) (n := n) (c := c) (sz := sz) (tg := tg0) (ds := ds) e hn
  unfold app
  rw [a1, Option.bind_some]
  show (if n = 0 then some (.slice none 0 0, h) else (srcCells h (slV io g n c) n sz).bind fun cs => if n * by' ≤ 2 ^ 47 then some (newS h n n, h ++ [.row 0 tg cs]) else none) = _
  rw [if_neg (by omega), a2, Option.bind_some, if_pos hb]
theorem rq66 (l io : Nat) (cs : List Bs) (n : Nat) (h : AH) (hl : l ≤ h.length) (e : h[io]? = some (.row 0 1 (sL cs))) (hn : n = cs.length) (h0 : 0 < n) (h2 : (((n : Nat) : Int).tmod 2 == 1) = false) (hb : n ≤ 2 ^ 20) :
    run V0 (.fn 66) l [S (slV io 0 n n)] h = some (.ret (pV (h.length + 1) 0 0) (h ++ [.row 0 1 (sL cs)] ++ [.row 0 5 [.int .u32 0, .int .i32 0, .int .u32 0, .nilIface, slV h.length 0 n n]])) := by
  have ha := app_nilS (lim := l) (sz := 1) (tg := 1) (by' := 16) (c := n) e (by rw [sL_len]; omega) h0 (by omega)
  have u1 : ∀ X : R, noTup (newS h n n) X = X := fun _ => rfl
  have u2 : (cellsL (newS h n n)).length = 1 := rfl
  have u3 : setMany [.int .u32 0, .int .i32 0, .int .u32 0, .nilIface, .slice none 0 0] 4 (cellsL (newS h n n)) = [.int .u32 0, .int .i32 0, .int .u32 0, .nilIface, newS h n n] := rfl
  refine run_fn Tryz.func66 rfl rfl rfl rfl ?_
  simp (disch := first | exact dI | fail) only [↓XX, ↓XD, ↓YX, ZB, Nat.reduceAdd, Nat.reducePow, ↓reduceIte, eq_self, Int.reduceEq, Nat.reduceEqDiff, Nat.reduceMul, Nat.reduceLeDiff, Tryz.f66, h2, ha, lenV_sl, u1, u2, u3, if_true]
  simp [newP, newS]
  rfl
/-- a replacer's table: what each byte becomes, and which are told -/
def RT (f : Nat → Value) (t : Value) : List Value := (List.range 256).map f ++ [t]
theorem RT_len (f : Nat → Value) (t : Value) : (RT f t).length = 257 := by simp [RT]
theorem RT_at (f : Nat → Value) (t : Value) (i : Nat) (h : i < 256) : (RT f t)[i]? = some (f i) := by
  unfold RT
  rw [List.getElem?_append_left (by simpa using h), List.getElem?_map, List.getElem?_range h]; rfl
theorem RT_end (f : Nat → Value) (t : Value) : (RT f t)[256]? = some t := by
  unfold RT
  rw [List.getElem?_append_right (by simp)]; simp
theorem RT_set (f : Nat → Value) (t v : Value) (i : Nat) (h : i < 256) : (RT f t).set i v = RT (fun j => if j = i then v else f j) t := by
  unfold RT
  rw [List.set_append_left _ _ (by simpa using h)]
  congr 1
  apply List.ext_getElem?
  intro j
  by_cases hj : j = i
  · subst hj
    rw [List.getElem?_set_self (by simpa using h), List.getElem?_map, List.getElem?_range h]; simp
  · rw [List.getElem?_set_ne (fun e => hj e.symm), List.getElem?_map, List.getElem?_map]
    cases hq : (List.range 256)[j]? with
    | none => rfl
    | some k =>
      have : k = j := by
        have := List.getElem?_eq_some_iff.1 hq
        obtain ⟨_, q⟩ := this; simpa using q.symm
      subst this
      simp [hj]
theorem RT_setE (f : Nat → Value) (t v : Value) : (RT f t).set 256 v = RT f v := by
  unfold RT
  rw [List.set_append_right _ _ (by simp)]; simp
theorem RT_nil : List.replicate 257 (.slice none 0 0) = RT (fun _ => .slice none 0 0) (.slice none 0 0) := by
  unfold RT
  rw [show (257 : Nat) = 256 + 1 from rfl, List.replicate_succ', List.map_const', List.length_range]
theorem RT_one {f : Nat → Value} {t : Value} (hf : ∀ i, oneCell (f i) = true) (ht : oneCell t = true) : (RT f t).all oneCell = true := by
  unfold RT
  rw [List.all_append, List.all_map, Bool.and_eq_true]
  exact ⟨List.all_eq_true.2 fun i _ => hf i, by simp [ht]⟩
theorem setMany_full : ∀ (vs pre xs : List Value), xs.length = vs.length → setMany (pre ++ xs) pre.length vs = pre ++ vs
  | [], pre, xs, h => by
    have : xs = [] := List.eq_nil_of_length_eq_zero h
    subst this; rfl
  | v :: vs, pre, [], h => by simp at h
  | v :: vs, pre, x :: xs, h => by
    show setMany ((pre ++ x :: xs).set pre.length v) (pre.length + 1) vs = _
    have := setMany_full vs (pre ++ [v]) xs (by simpa using h)
    rw [List.set_append_right _ _ (Nat.le_refl _), Nat.sub_self, List.set_cons_zero]
    simpa using this
/-- how far a replacer is built: the texts that are told (iA), the table (ib) -/
structure BSt (H : AH) (iA ib : Nat) (ts : List Bs) (f : Nat → Value) (h : AH) : Prop where
  ex : ∃ gA, h[iA]? = some (.row gA 1 (sL ts)) ∧ h[ib]? = some (.row 0 257 (RT f (slV iA gA ts.length ts.length)))
  k : Keep H.length H h
theorem r_bstep (l io n iA ib : Nat) (cs : List Bs) (H : AH) (hl : l ≤ H.length) (hio : io < H.length) (eo : H[io]? = some (.row 0 1 (sL cs))) (hn : n = cs.length) (hnb : n ≤ 2 ^ 20) (hA : iA = H.length) (hb : ib = H.length + 1)
    (i : Nat) (c : UInt8) (w : Bs) (h1 : cs[i]? = some [c]) (h2 : cs[i + 1]? = some w) (hw : w.length ≤ 2 ^ 20) (ts : List Bs) (hts : ts.length ≤ 2 ^ 20) (f : Nat → Value) (hf : f c.toNat = .slice none 0 0) (h : AH) (st : BSt H iA ib ts f h) :
    ∀ {Q : Value → AH → Prop}, (∀ h' k, BSt H iA ib (ts ++ [[c]]) (fun j => if j = c.toNat then slV k 0 w.length w.length else f j) h' → h'[k]? = some (.row 0 25769803777 (u8c w)) → H.length + 2 ≤ k → k < h'.length → h.length ≤ h'.length →
      (∀ j, j < h.length → j ≠ iA → j ≠ ib → h'[j]? = h[j]?) → Okr Q (L126_3 l (slV io 0 n n) (pV ib 0 0) (iV ((i : Int) - 2)) h')) →
      Okr Q (L126_3 l (slV io 0 n n) (pV ib 0 0) (iV i) h) := by
  intro Q next
  obtain ⟨⟨gA, eA, eb⟩, kp⟩ := st
  have hc := u8_lt c
  have hil : i + 1 < cs.length := by
    rcases Nat.lt_or_ge (i + 1) cs.length with q | q
    · exact q
    · rw [List.getElem?_eq_none q] at h2; cases h2
  have eo' := kp.get eo hio
  have hAl := lt_of_get eA
  have hbl := lt_of_get eb
  have x0 : ixAddr (slV io 0 n n) (i : Int) 1 = some (pV io i 0) := by rw [ixAddr_sl (by omega)]; simp
  have x1 : ixAddr (slV io 0 n n) ((i + 1 : Nat) : Int) 1 = some (pV io (i + 1) 0) := by rw [ixAddr_sl (by omega)]; simp
  have wi : IntKind.i64.wrap ((i : Int) + 1) = ((i + 1 : Nat) : Int) := natCast_succ_wrap (by omega) rfl
  have w2 : IntKind.i64.wrap ((i : Int) - 2) = (i : Int) - 2 := wrap64 (by omega)
  have d0 : decide ((0 : Int) ≤ (i : Int)) = true := decide_eq_true (by omega)
  have r0 : (sL cs)[i]? = some (sV [c]) := by rw [sL, List.getElem?_map, h1]; rfl
  have r1 : (sL cs)[i + 1]? = some (sV w) := by rw [sL, List.getElem?_map, h2]; rfl
  have at0 : strAt (B [c]) 0 = some (c.toNat : Int) := strAt_mid [] c []
  have ixa : ixArr (pV ib 0 0) (c.toNat : Int) 256 1 = some (pV ib c.toNat 0) := by
    unfold ixArr
    rw [if_pos (by omega)]
    simp [addOff]
  have rt0 : ∀ t, (RT f t)[c.toNat]? = some (.slice none 0 0) := fun t => by rw [RT_at _ _ _ hc, hf]
  refine okr_code Tryz.func126 rfl rfl ?_
  simp (dsimp := false) (disch := first | exact dI | fail) only [XOB, ↓XXs, ↓XD, ↓YX, ZB, Nat.reduceAdd, Nat.reducePow, ↓reduceIte, eq_self, Int.reduceEq, Nat.reduceEqDiff, Nat.reduceMul, Nat.reduceLeDiff, Int.reduceBEq, Int.reduceLT, Tryz.f126, ↓XH2, XRN, ZC, ZE, ZH, eq_self, Nat.reduceLeDiff, Nat.reduceBEq, slV_new, reduceIte, ↓op_extract, tupAt_mk, lenV_sl, Bool.not_true, Bool.not_false, d0, eo', eA, eb, x0, x1, wi, w2, r0, r1, at0, ixa, rt0, RT_end, Option.bind_none, Option.isNone_none]
  have hA2 : (h ++ [AObj.row 0 25769803777 [.int .u8 (c.toNat : Int)], AObj.row 0 1 [sV [c]]])[iA]? = some (.row gA 1 (sL ts)) := by rw [List.getElem?_append_left hAl, eA]
  have hN : (h ++ [AObj.row 0 25769803777 [.int .u8 (c.toNat : Int)], AObj.row 0 1 [sV [c]]])[h.length + 1]? = some (.row 0 1 [sV [c]]) := by simp
  have hb2 : b2s (h ++ [AObj.row 0 25769803777 [.int .u8 (c.toNat : Int)]]) (slV h.length 0 1 1) = some (B [c]) := b2s_of (s := [c]) (g := 0) (sz := 25769803777) (by simp [u8c]) rfl
  obtain ⟨z, e1, g', rfl⟩ := okr_app (lim := l) (n := ts.length) (sz := 1) (by' := 16) (x := slV (h.length + 1) 0 1 1) (src_new (n := 1) (c := 1) (sz := 1) hN rfl) hA2 (by rw [sL_len]; omega) (by omega) (by omega)
  have hne : iA ≠ ib := by omega
  have eb3 : ((h ++ [AObj.row 0 25769803777 [.int .u8 (c.toNat : Int)], AObj.row 0 1 [sV [c]]]).set iA (.row g' 1 (sL ts ++ [sV [c]])))[ib]? = some (.row 0 257 (RT f (slV iA gA ts.length ts.length))) := by
    rw [List.getElem?_set_ne hne, List.getElem?_append_left hbl, eb]
  have o1 : oneCell (slV iA g' (ts.length + 1) (ts.length + 1)) = true := rfl
  have hs8 : (B w).size = w.length := size_B w
  have hu : (B w).data.toList.map (fun b => Value.int .u8 (b.toNat : Int)) = u8c w := rfl
  have eb4 : ∀ (X Y : AObj), ((((h ++ [AObj.row 0 25769803777 [.int .u8 (c.toNat : Int)], AObj.row 0 1 [sV [c]]]).set iA (.row g' 1 (sL ts ++ [sV [c]]))).set ib X) ++ [Y])[ib]? = some X := fun X Y => by
    rw [List.getElem?_append_left (by simp; omega), List.getElem?_set_self (by simp; omega)]
  have hc1 : c.toNat + 1 ≤ 257 := by omega
  simp only [hb2, e1, eb3, decide_true, RT_len, Nat.le_refl, o1, and_self, if_true, RT_setE, eb4, hc1, RT_set _ _ _ _ hc, hs8, hu]
  refine next _ (h.length + 2) ⟨⟨g', ?_, ?_⟩, ?_⟩ ?_ (by have := kp.1; omega) (by simp) (by simp; omega) ?_
  · rw [List.getElem?_set_ne hne.symm, List.getElem?_append_left (by simp; omega), List.getElem?_set_ne hne.symm, List.getElem?_set_self (by simp; omega)]
    simp [sL]
  · rw [List.getElem?_set_self (by simp; omega)]
    simp
  · refine ⟨by have := kp.1; simp; omega, fun j hj => ?_⟩
    rw [List.getElem?_set_ne (by omega), List.getElem?_append_left (by simp; omega), List.getElem?_set_ne (by omega), List.getElem?_set_ne (by omega), List.getElem?_append_left (by have := kp.1; omega)]
    exact kp.2 j hj
  · rw [List.getElem?_set_ne (by omega), List.getElem?_append_right (by simp)]
    simp
  · intro j hj j1 j2
    rw [List.getElem?_set_ne (fun e => j2 e.symm), List.getElem?_append_left (by simp; omega), List.getElem?_set_ne (fun e => j2 e.symm), List.getElem?_set_ne (fun e => j1 e.symm), List.getElem?_append_left hj]
/-- what a replacer does with each byte -/
def RpAt (H h : AH) (f : Nat → Value) (rep : UInt8 → Option Bs) : Prop :=
  ∀ c : UInt8, match rep c with
    | none => f c.toNat = .slice none 0 0
    | some w => ∃ k, H.length + 2 ≤ k ∧ k < h.length ∧ f c.toNat = slV k 0 w.length w.length ∧ h[k]? = some (.row 0 25769803777 (u8c w))
def upd (rep : UInt8 → Option Bs) (c : UInt8) (w : Bs) : UInt8 → Option Bs := fun x => if x = c then some w else rep x
theorem RpAt.step {H h h' : AH} {f : Nat → Value} {rep : UInt8 → Option Bs} {c : UInt8} {w : Bs} {k : Nat} (r : RpAt H h f rep) (hk : h'[k]? = some (.row 0 25769803777 (u8c w))) (hk2 : H.length + 2 ≤ k) (hk3 : k < h'.length) (hlen : h.length ≤ h'.length)
    (hj : ∀ j, j < h.length → H.length + 2 ≤ j → h'[j]? = h[j]?) : RpAt H h' (fun j => if j = c.toNat then slV k 0 w.length w.length else f j) (upd rep c w) := by
  intro x
  unfold upd
  by_cases hx : x = c
  · subst hx
    rw [if_pos rfl]
    exact ⟨k, hk2, hk3, by simp, hk⟩
  · rw [if_neg hx]
    have hn : x.toNat ≠ c.toNat := fun e => hx (UInt8.toNat_inj.1 e)
    have := r x
    cases hq : rep x with
    | none => rw [hq] at this; simp only [if_neg hn]; exact this
    | some y =>
      rw [hq] at this
      obtain ⟨k0, a1, a2, a3, a4⟩ := this
      exact ⟨k0, a1, by omega, by simp only [if_neg hn]; exact a3, by rw [hj k0 a2 a1]; exact a4⟩
/-- a replacer that is built -/
structure Rpl (H h : AH) (ib : Nat) (rep : UInt8 → Option Bs) (ts : List Bs) : Prop where
  ex : ∃ f iA gA, h[ib]? = some (.row 0 257 (RT f (slV iA gA ts.length ts.length))) ∧ h[iA]? = some (.row gA 1 (sL ts)) ∧ RpAt H h f rep ∧ H.length ≤ iA ∧ H.length ≤ ib
/-- guarded's bytes -/
def grep1 : UInt8 → Option Bs := upd (upd (fun _ => none) 124 [92, 124]) 92 [92, 92]
def GBuilt (H : AH) (v : Value) (h' : AH) : Prop := ∃ ib, v = .iface 188 (pV ib 0 0) ∧ Rpl H h' ib grep1 [[124], [92]] ∧ Keep H.length H h'
set_option maxHeartbeats 4000000 in
theorem r_buildG (l ir io : Nat) (H : AH) (hl : l ≤ H.length) (er : H[ir]? = some (.row 0 5 [.int .u32 0, .int .i32 1, .int .u32 0, .nilIface, slV io 0 4 4])) (eo : H[io]? = some (.row 0 1 [sV [92], sV [92, 92], sV [124], sV [92, 124]])) :
    Okr (GBuilt H) (run V0 (.fn 126) l [S (pV ir 0 0)] H) := by
  have hio := lt_of_get eo
  have n0 : ∀ a b c d : Value, [a, b, c, d][0]? = some a := fun _ _ _ _ => rfl
  have n1 : ∀ a b c d : Value, [a, b, c, d][1]? = some b := fun _ _ _ _ => rfl
  have n2 : ∀ a b c d : Value, [a, b, c, d][2]? = some c := fun _ _ _ _ => rfl
  have n3 : ∀ a b c d : Value, [a, b, c, d][3]? = some d := fun _ _ _ _ => rfl
  have n4 : ∀ a b c d e : Value, [a, b, c, d, e][4]? = some e := fun _ _ _ _ _ => rfl
  have x0 : ixAddr (slV io 0 4 4) 0 1 = some (pV io 0 0) := rfl
  have x1 : ixAddr (slV io 0 4 4) 1 1 = some (pV io 1 0) := rfl
  have x2 : ixAddr (slV io 0 4 4) 2 1 = some (pV io 2 0) := rfl
  have x3 : ixAddr (slV io 0 4 4) 3 1 = some (pV io 3 0) := rfl
  have s1 : ((B [92]).size : Int) = 1 := rfl
  have s2 : ((B [92, 92]).size : Int) = 2 := rfl
  have s3 : ((B [124]).size : Int) = 1 := rfl
  have s4 : ((B [92, 124]).size : Int) = 2 := rfl
  have w1 : IntKind.i64.wrap (0 + 1) = 1 := rfl
  have w2 : IntKind.i64.wrap (0 + 2) = 2 := rfl
  have w3 : IntKind.i64.wrap (2 + 1) = 3 := rfl
  have w4 : IntKind.i64.wrap (2 + 2) = 4 := rfl
  have w5 : IntKind.i64.wrap (4 - 2) = 2 := rfl
  have w6 : IntKind.i64.wrap (2 - 2) = 0 := rfl
  have w7 : IntKind.i64.wrap (0 - 2) = -2 := rfl
  have four : ((4 : Nat) : Int) = 4 := rfl
  refine okr_fn Tryz.func126 rfl rfl rfl rfl ?_
  simp (dsimp := false) (disch := first | exact dI | fail) only [XOB, ↓XXs, ↓XD, ↓YX, ZB, Nat.reduceAdd, Nat.reducePow, ↓reduceIte, eq_self, Int.reduceEq, Nat.reduceEqDiff, Nat.reduceMul, Nat.reduceLeDiff, Int.reduceBEq, Int.reduceLT, Tryz.f126, ↓XH2, XRN, ZC, ZE, ZH, eq_self, Nat.reduceLeDiff, Nat.reduceBEq, slV_new, reduceIte, ↓op_extract, tupAt_mk, lenV_sl, Bool.not_true, Bool.not_false, er, eo, n0, n1, n2, n3, n4, x0, s1, four, Int.reduceEq, Int.reduceLT, decide_true, decide_false, Int.reduceNe]
  refine okr_code Tryz.func126 rfl rfl ?_
  simp (dsimp := false) (disch := first | exact dI | fail) only [XOB, ↓XXs, ↓XD, ↓YX, ZB, Nat.reduceAdd, Nat.reducePow, ↓reduceIte, eq_self, Int.reduceEq, Nat.reduceEqDiff, Nat.reduceMul, Nat.reduceLeDiff, Int.reduceBEq, Int.reduceLT, Tryz.f126, ↓XH2, XRN, ZC, ZE, ZH, eq_self, Nat.reduceLeDiff, Nat.reduceBEq, slV_new, reduceIte, ↓op_extract, tupAt_mk, lenV_sl, Bool.not_true, Bool.not_false, eo, n0, n1, n2, n3, n4, x0, x1, x2, x3, s1, s2, s3, s4, w1, w2, w3, w4, w5, w6, w7, four, bne, Bool.not_true, Bool.not_false, Int.reduceEq, Int.reduceLT, Int.reduceLE, decide_true, decide_false, Int.reduceNe]
  refine okr_code Tryz.func126 rfl rfl ?_
  simp (dsimp := false) (disch := first | exact dI | fail) only [XOB, ↓XXs, ↓XD, ↓YX, ZB, Nat.reduceAdd, Nat.reducePow, ↓reduceIte, eq_self, Int.reduceEq, Nat.reduceEqDiff, Nat.reduceMul, Nat.reduceLeDiff, Int.reduceBEq, Int.reduceLT, Tryz.f126, ↓XH2, XRN, ZC, ZE, ZH, eq_self, Nat.reduceLeDiff, Nat.reduceBEq, slV_new, reduceIte, ↓op_extract, tupAt_mk, lenV_sl, Bool.not_true, Bool.not_false, eo, n0, n1, n2, n3, n4, x0, x1, x2, x3, s1, s2, s3, s4, w1, w2, w3, w4, w5, w6, w7, four, bne, Bool.not_true, Bool.not_false, Int.reduceEq, Int.reduceLT, Int.reduceLE, decide_true, decide_false, Int.reduceNe]
  refine okr_code Tryz.func126 rfl rfl ?_
  simp (dsimp := false) (disch := first | exact dI | fail) only [XOB, ↓XXs, ↓XD, ↓YX, ZB, Nat.reduceAdd, Nat.reducePow, ↓reduceIte, eq_self, Int.reduceEq, Nat.reduceEqDiff, Nat.reduceMul, Nat.reduceLeDiff, Int.reduceBEq, Int.reduceLT, Tryz.f126, ↓XH2, XRN, ZC, ZE, ZH, eq_self, Nat.reduceLeDiff, Nat.reduceBEq, slV_new, reduceIte, ↓op_extract, tupAt_mk, lenV_sl, Bool.not_true, Bool.not_false, eo, n0, n1, n2, n3, n4, x0, x1, x2, x3, s1, s2, s3, s4, w1, w2, w3, w4, w5, w6, w7, four, bne, Bool.not_true, Bool.not_false, Int.reduceEq, Int.reduceLT, Int.reduceLE, decide_true, decide_false, Int.reduceNe]
  rw [if_pos (by decide), RT_nil, RT_len, if_pos (Nat.le_refl _), RT_setE]
  dsimp only
  rw [RT_len, if_pos rfl, if_pos ⟨Nat.le_refl _, RT_one (fun _ => rfl) rfl⟩]
  have hsm : setMany (RT (fun _ => .slice none 0 0) (.slice none 0 0)) 0 (RT (fun _ => .slice none 0 0) (.slice (some ⟨H.length, 0, some 0⟩) (Int.toNat 0) (Int.toNat 0))) = RT (fun _ => .slice none 0 0) (.slice (some ⟨H.length, 0, some 0⟩) 0 0) :=
    setMany_full (RT (fun _ => .slice none 0 0) (.slice (some ⟨H.length, 0, some 0⟩) 0 0)) [] (RT (fun _ => .slice none 0 0) (.slice none 0 0)) (by rw [RT_len, RT_len])
  rw [hsm]
  dsimp only
  have el : ∀ j, j < H.length → (H ++ [AObj.row 0 1 (repL (Int.toNat 0) [Value.string (B [])]), AObj.row 0 257 (RT (fun _ => Value.slice none 0 0) (slV H.length 0 0 0))])[j]? = H[j]? := fun j hj => List.getElem?_append_left hj
  have st0 : BSt H H.length (H.length + 1) [] (fun _ => .slice none 0 0) (H ++ [AObj.row 0 1 (repL (Int.toNat 0) [Value.string (B [])]), AObj.row 0 257 (RT (fun _ => Value.slice none 0 0) (slV H.length 0 0 0))]) := by
    refine ⟨⟨0, ?_, ?_⟩, Keep.app _ _ (Nat.le_refl _)⟩
    · simp [repL, sL]
    · simp
  have rp0 : RpAt H (H ++ [AObj.row 0 1 (repL (Int.toNat 0) [Value.string (B [])]), AObj.row 0 257 (RT (fun _ => Value.slice none 0 0) (slV H.length 0 0 0))]) (fun _ => .slice none 0 0) (fun _ => none) := fun c => rfl
  refine r_bstep l io 4 H.length (H.length + 1) [[92], [92, 92], [124], [92, 124]] H hl hio eo rfl (by omega) rfl rfl 2 124 [92, 124] rfl rfl (by simp) [] (by simp) (fun _ => .slice none 0 0) rfl _ st0 ?_
  intro h1 k1 st1 q1 q2 q3 q4 q5
  have rp1 := rp0.step (c := 124) q1 q2 q3 q4 (fun j j1 j2 => q5 j j1 (by omega) (by omega))
  refine r_bstep l io 4 H.length (H.length + 1) [[92], [92, 92], [124], [92, 124]] H hl hio eo rfl (by omega) rfl rfl 0 92 [92, 92] rfl rfl (by simp) _ (by simp) _ rfl _ st1 ?_
  intro h2 k2 st2 p1 p2 p3 p4 p5
  have rp2 := rp1.step (c := 92) p1 p2 p3 p4 (fun j j1 j2 => p5 j j1 (by omega) (by omega))
  refine okr_code Tryz.func126 rfl rfl ?_
  have dm : decide ((0 : Int) ≤ ((0 : Nat) : Int) - 2) = false := rfl
  simp (dsimp := false) (disch := first | exact dI | fail) only [XOB, ↓XXs, ↓XD, ↓YX, ZB, Nat.reduceAdd, Nat.reducePow, ↓reduceIte, eq_self, Int.reduceEq, Nat.reduceEqDiff, Nat.reduceMul, Nat.reduceLeDiff, Int.reduceBEq, Int.reduceLT, Tryz.f126, ↓XH2, XRN, ZC, ZE, ZH, eq_self, Nat.reduceLeDiff, Nat.reduceBEq, slV_new, reduceIte, ↓op_extract, tupAt_mk, lenV_sl, Bool.not_true, Bool.not_false, dm]
  obtain ⟨⟨gA, u1, u2⟩, u3⟩ := st2
  exact Okr.ret ⟨H.length + 1, rfl, ⟨_, H.length, gA, u2, u1, rp2, Nat.le_refl _, by omega⟩, u3⟩
end Go.Abs
namespace Go.Abs
open Go.Proofs
set_option maxRecDepth 100000
set_option linter.unusedSimpArgs false
set_option linter.unusedVariables false
set_option pp.maxSteps 20000
set_option pp.deepTerms true
theorem XR_9 {C lim ret pan p n x fr h} {ops : Array Oper} (hd : drawS V0.P ops = some [(0, false), (1, false), (2, false), (3, false), (4, false), (5, false), (6, false), (7, false), (8, false), (9, false), (10, false), (11, false), (12, false), (13, false)]) : exec V0 C 215 lim ret pan (.region 9 ops true) p ⟨n, x⟩ fr h = regP V0 C lim ops [(0, false), (1, false), (2, false), (3, false), (4, false), (5, false), (6, false), (7, false), (8, false), (9, false), (10, false), (11, false), (12, false), (13, false)] fr h n := draw_rule rfl hd
theorem XR_28 {C lim ret pan p n x fr h} {ops : Array Oper} (hd : drawS V0.P ops = some [(0, false), (1, false), (2, false), (3, false), (4, false), (5, false), (6, false), (7, false), (8, false), (9, false), (10, false), (11, false), (12, false)]) : exec V0 C 215 lim ret pan (.region 28 ops true) p ⟨n, x⟩ fr h = regP V0 C lim ops [(0, false), (1, false), (2, false), (3, false), (4, false), (5, false), (6, false), (7, false), (8, false), (9, false), (10, false), (11, false), (12, false)] fr h n := draw_rule rfl hd
/-- what a replacer makes of a text -/
def escL (rep : UInt8 → Option Bs) (s : Bs) : Bs := s.flatMap fun b => (rep b).getD [b]
theorem escL_nil (rep : UInt8 → Option Bs) : escL rep [] = [] := rfl
theorem escL_cons (rep : UInt8 → Option Bs) (b : UInt8) (r : Bs) : escL rep (b :: r) = (rep b).getD [b] ++ escL rep r := by simp [escL]
theorem escL_app (rep : UInt8 → Option Bs) (a b : Bs) : escL rep (a ++ b) = escL rep a ++ escL rep b := by simp [escL]
/-- bytes are told by texts of at most eight bytes -/
def Rep8 (rep : UInt8 → Option Bs) : Prop := ∀ c w, rep c = some w → 1 ≤ w.length ∧ w.length ≤ 8
theorem escL_len {rep : UInt8 → Option Bs} (h8 : Rep8 rep) : ∀ (s : Bs), (escL rep s).length ≤ 8 * s.length ∧ s.length ≤ (escL rep s).length
  | [] => by simp [escL]
  | b :: r => by
    have := escL_len h8 r
    rw [escL_cons, List.length_append, List.length_cons]
    cases hq : rep b with
    | none => simp only [Option.getD_none, List.length_cons, List.length_nil]; omega
    | some w => have := h8 b w hq; simp only [Option.getD_some]; omega
theorem RpAt.get {H h : AH} {f : Nat → Value} {rep : UInt8 → Option Bs} (r : RpAt H h f rep) (c : UInt8) :
    (rep c = none ∧ f c.toNat = .slice none 0 0) ∨ ∃ w k, rep c = some w ∧ H.length + 2 ≤ k ∧ k < h.length ∧ f c.toNat = slV k 0 w.length w.length ∧ h[k]? = some (.row 0 25769803777 (u8c w)) := by
  have := r c
  cases hq : rep c with
  | none => rw [hq] at this; exact .inl ⟨rfl, this⟩
  | some w => rw [hq] at this; obtain ⟨k, a, b, d, e⟩ := this; exact .inr ⟨w, k, rfl, a, b, d, e⟩
theorem ixArr_u8 (ib : Nat) (c : UInt8) : ixArr (pV ib 0 0) (c.toNat : Int) 256 1 = some (pV ib c.toNat 0) := by
  have hc := u8_lt c
  unfold ixArr
  rw [if_pos (by omega)]
  simp [addOff]
theorem u8c_setX (X : Bs) (j : Nat) (b : UInt8) : (u8c X).set j (.int .u8 (b.toNat : Int)) = u8c (X.set j b) := by
  unfold u8c; rw [List.map_set]
theorem set_mid (a z : Bs) (b : UInt8) (hz : 1 ≤ z.length) : (a ++ z).set a.length b = (a ++ [b]) ++ z.tail := by
  cases z with
  | nil => simp at hz
  | cons x z => rw [List.set_append_right _ _ (Nat.le_refl _), Nat.sub_self, List.set_cons_zero]; simp
theorem setMany_mid2 : ∀ (w a z : List Value), w.length ≤ z.length → setMany (a ++ z) a.length w = a ++ w ++ z.drop w.length
  | [], a, z, _ => by simp [setMany]
  | v :: w, a, [], h => by simp at h
  | v :: w, a, x :: z, h => by
    show setMany ((a ++ x :: z).set a.length v) (a.length + 1) w = _
    have := setMany_mid2 w (a ++ [v]) z (by simpa using h)
    rw [List.set_append_right _ _ (Nat.le_refl _), Nat.sub_self, List.set_cons_zero]
    simpa using this
theorem u8c_appX (a b : Bs) : u8c (a ++ b) = u8c a ++ u8c b := by simp [u8c]
theorem slCut_hiX {h : AH} {id g n k sz tg : Nat} {cs : List Value} (e : h[id]? = some (.row g tg cs)) (ht : wd tg = sz) (hk : k ≤ n) :
    slCut h (slV id g n n) (some (k : Int)) none none sz = some (.slice (some ⟨id, k * sz, some g⟩) (n - k) (n - k)) := by
  simp only [slCut, rowAt_of e, Option.bind_some, Option.getD_none, Option.getD_some]
  rw [if_pos (by refine ⟨?_, ?_, ht, ?_, ?_⟩ <;> omega)]
  simp only [Int.toNat_natCast, Nat.zero_add]
  congr 2 <;> omega
theorem RpAt.set {H h : AH} {f : Nat → Value} {rep : UInt8 → Option Bs} {ibuf : Nat} {o : AObj} (r : RpAt H h f rep) (rk : ∀ c w k, rep c = some w → f c.toNat = slV k 0 w.length w.length → k ≠ ibuf) : RpAt H (h.set ibuf o) f rep := by
  intro c
  have := r c
  cases hq : rep c with
  | none => rw [hq] at this; exact this
  | some w =>
    rw [hq] at this
    obtain ⟨k, a, b, d, e⟩ := this
    exact ⟨k, a, by simpa using b, d, by rw [List.getElem?_set_ne (fun q => rk c w k hq d q.symm)]; exact e⟩
/-- the third loop: the text is made -/
theorem L2_repl (H : AH) (ib : Nat) (rep : UInt8 → Option Bs) (h8 : Rep8 rep) (f : Nat → Value) (t : Value) (s : Bs) (hs : s.length ≤ 2 ^ 30) (l ibuf n0 : Nat) (hl : l ≤ ibuf) (hn0 : n0 ≤ ibuf) (hne : ib ≠ ibuf) (H0 : AH) :
    ∀ (r d Z : Bs) (h : AH), d ++ r = s → Z.length = (escL rep r).length → Keep n0 H0 h → h[ib]? = some (.row 0 257 (RT f t)) → RpAt H h f rep → (∀ c w k, rep c = some w → f c.toNat = slV k 0 w.length w.length → k ≠ ibuf) → h[ibuf]? = some (.row 0 25769803777 (u8c (escL rep d ++ Z))) →
      Okr (fun v h' => v = sV (escL rep s) ∧ Keep n0 H0 h') (L215_2 l (pV ib 0 0) (sV s) (slV ibuf 0 (escL rep s).length (escL rep s).length) (iV (escL rep d).length) (iV d.length) h) := by
  have hsz := size_B s
  have hle := escL_len h8 s
  intro r
  induction r with
  | nil =>
    intro d Z h hd hZ k eb ra rk eu
    rw [List.append_nil] at hd
    have hlt : decide ((d.length : Int) < (s.length : Int)) = false := decide_eq_false (by rw [hd]; omega)
    have : Z = [] := List.eq_nil_of_length_eq_zero (by rw [hZ]; rfl)
    subst this
    rw [List.append_nil] at eu
    have hb2 : b2s h (slV ibuf 0 (escL rep s).length (escL rep s).length) = some (B (escL rep s)) := b2s_of (by rw [← hd]; exact eu) rfl
    refine okr_code Tryz.func215 rfl rfl ?_
    simp (dsimp := false) (disch := first | exact dI | fail) only [XOB, ↓XXs, ↓XD, ↓YX, ZB, Nat.reduceAdd, Nat.reducePow, ↓reduceIte, eq_self, Int.reduceEq, Nat.reduceEqDiff, Nat.reduceMul, Nat.reduceLeDiff, Int.reduceBEq, Int.reduceLT, Tryz.f215, ↓XH2, XRN, ZC, ZE, ZH, eq_self, Nat.reduceLeDiff, Nat.reduceBEq, slV_new, reduceIte, ↓op_extract, tupAt_mk, lenV_sl, Bool.not_true, Bool.not_false, ↓XR_9, ↓XR_28, Option.bind_none, bne, Bool.not_true, Bool.not_false, hsz, hlt, hb2]
    exact Okr.ret ⟨rfl, k⟩
  | cons b r ih =>
    intro d Z h hd hZ k eb ra rk eu
    have hdl := congrArg List.length hd
    simp only [List.length_append, List.length_cons] at hdl
    have hbb := u8_lt b
    have hlt : decide ((d.length : Int) < (s.length : Int)) = true := decide_eq_true (by omega)
    have hat : strAt (B s) (d.length : Int) = some (b.toNat : Int) := by rw [← hd]; exact strAt_mid d b r
    have hw : IntKind.i64.wrap ((d.length : Int) + 1) = ((d.length + 1 : Nat) : Int) := natCast_succ_wrap (by omega) rfl
    have hes : escL rep s = escL rep d ++ ((rep b).getD [b] ++ escL rep r) := by rw [← hd, escL_app, escL_cons]
    have hel := congrArg List.length hes
    simp only [List.length_append] at hel
    have hZ2 : Z.length = ((rep b).getD [b]).length + (escL rep r).length := by rw [hZ, escL_cons, List.length_append]
    have ixa := ixArr_u8 ib b
    have rta := RT_at f t b.toNat hbb
    have nxt := ih (d ++ [b])
    rcases ra.get b with ⟨q1, q2⟩ | ⟨w, kk, q1, q2, q3, q4, q5⟩
    · rw [q1, Option.getD_none, List.length_singleton] at hZ2 hel
      rw [q2] at rta
      have hix : ixAddr (slV ibuf 0 (escL rep s).length (escL rep s).length) ((escL rep d).length : Int) 1 = some (pV ibuf (escL rep d).length 0) := by rw [ixAddr_sl (by omega)]; simp
      have le1 : (escL rep d).length + 1 ≤ (u8c (escL rep d ++ Z)).length := by rw [u8c_len, List.length_append]; omega
      have hset : (u8c (escL rep d ++ Z)).set (escL rep d).length (.int .u8 (b.toNat : Int)) = u8c (escL rep (d ++ [b]) ++ Z.tail) := by
        rw [u8c_setX, set_mid _ _ _ (by omega), escL_app, escL_cons, q1]; rfl
      have hw2 : IntKind.i64.wrap (((escL rep d).length : Int) + 1) = ((escL rep (d ++ [b])).length : Int) := by
        rw [escL_app, escL_cons, q1]; exact natCast_succ_wrap (by omega) (by simp [escL])
      refine okr_code Tryz.func215 rfl rfl ?_
      simp (dsimp := false) (disch := first | exact dI | fail) only [XOB, ↓XXs, ↓XD, ↓YX, ZB, Nat.reduceAdd, Nat.reducePow, ↓reduceIte, eq_self, Int.reduceEq, Nat.reduceEqDiff, Nat.reduceMul, Nat.reduceLeDiff, Int.reduceBEq, Int.reduceLT, Tryz.f215, ↓XH2, XRN, ZC, ZE, ZH, eq_self, Nat.reduceLeDiff, Nat.reduceBEq, slV_new, reduceIte, ↓op_extract, tupAt_mk, lenV_sl, Bool.not_true, Bool.not_false, ↓XR_9, ↓XR_28, Option.bind_none, bne, Bool.not_true, Bool.not_false, hsz, hlt, hat, eb, ixa, rta, Option.isNone_none, hix, eu, le1, hset, decide_true, hw2, hw, hl]
      have := nxt Z.tail _ (by rw [← hd]; simp) (by rw [List.length_tail]; omega) (Keep.st hn0 k) (by rw [List.getElem?_set_ne hne.symm]; exact eb) (ra.set rk) rk (List.getElem?_set_self (lt_of_get eu))
      rw [List.length_append] at this
      exact this
    · have h9 := h8 b w q1
      rw [q1, Option.getD_some] at hZ2 hel
      rw [q4] at rta
      refine okr_code Tryz.func215 rfl rfl ?_
      simp (dsimp := false) (disch := first | exact dI | fail) only [XOB, ↓XXs, ↓XD, ↓YX, ZB, Nat.reduceAdd, Nat.reducePow, ↓reduceIte, eq_self, Int.reduceEq, Nat.reduceEqDiff, Nat.reduceMul, Nat.reduceLeDiff, Int.reduceBEq, Int.reduceLT, Tryz.f215, ↓XH2, XRN, ZC, ZE, ZH, eq_self, Nat.reduceLeDiff, Nat.reduceBEq, slV_new, reduceIte, ↓op_extract, tupAt_mk, lenV_sl, Bool.not_true, Bool.not_false, ↓XR_9, ↓XR_28, Option.bind_none, bne, Bool.not_true, Bool.not_false, hsz, hlt, hat, eb, ixa, rta, hw, hl]
      have hcut : slCut h (slV ibuf 0 (escL rep s).length (escL rep s).length) (some ((escL rep d).length : Int)) none none 1 = some (.slice (some ⟨ibuf, (escL rep d).length, some 0⟩) ((escL rep s).length - (escL rep d).length) ((escL rep s).length - (escL rep d).length)) := by
        have := slCut_hiX (h := h) (id := ibuf) (g := 0) (n := (escL rep s).length) (k := (escL rep d).length) (sz := 1) (tg := 25769803777) eu rfl (by omega)
        simpa using this
      have hcp : copyA l h (.slice (some ⟨ibuf, (escL rep d).length, some 0⟩) ((escL rep s).length - (escL rep d).length) ((escL rep s).length - (escL rep d).length)) (slV kk 0 w.length w.length) 1 = some ((w.length : Int), h.set ibuf (.row 0 25769803777 (u8c (escL rep (d ++ [b]) ++ Z.drop w.length)))) := by
        obtain ⟨x1, x2⟩ := src_new (h := h) (i := kk) (g := 0) (n := w.length) (c := w.length) (sz := 1) q5 (by rw [u8c_len]; omega)
        have hmin : Nat.min w.length ((escL rep s).length - (escL rep d).length) = w.length := Nat.min_eq_left (by omega)
        have hst : stN l h (pV ibuf (escL rep d).length 0) (u8c w) = some (h.set ibuf (.row 0 25769803777 (u8c (escL rep (d ++ [b]) ++ Z.drop w.length)))) := by
          rw [stN_of hl eu (by rw [u8c_len, u8c_len, List.length_append]; omega) (by simp [u8c, oneCell])]
          congr 4
          rw [u8c_appX, show (escL rep d).length = (u8c (escL rep d)).length by rw [u8c_len], setMany_mid2 _ _ _ (by rw [u8c_len, u8c_len]; omega), u8c_len, escL_app, escL_cons, q1, Option.getD_some, escL_nil, List.append_nil, u8c_appX, u8c_appX]
          congr 1
          simp [u8c]
        unfold copyA
        rw [x1, Option.bind_some]
        show (srcCells h (slV kk 0 w.length w.length) (Nat.min w.length ((escL rep s).length - (escL rep d).length)) 1).bind _ = _
        rw [hmin, x2, Option.bind_some, hst]
        rfl
      have hw2 : IntKind.i64.wrap (((escL rep d).length : Int) + (w.length : Int)) = ((escL rep (d ++ [b])).length : Int) := by
        rw [wrap64 (by omega), escL_app, escL_cons, q1, Option.getD_some, escL_nil, List.append_nil, List.length_append]; omega
      simp (dsimp := false) (disch := first | exact dI | fail) only [XOB, ↓XXs, ↓XD, ↓YX, ZB, Nat.reduceAdd, Nat.reducePow, ↓reduceIte, eq_self, Int.reduceEq, Nat.reduceEqDiff, Nat.reduceMul, Nat.reduceLeDiff, Int.reduceBEq, Int.reduceLT, Tryz.f215, ↓XH2, XRN, ZC, ZE, ZH, eq_self, Nat.reduceLeDiff, Nat.reduceBEq, slV_new, reduceIte, ↓op_extract, tupAt_mk, lenV_sl, Bool.not_true, Bool.not_false, ↓XR_9, ↓XR_28, Option.bind_none, bne, Bool.not_true, Bool.not_false, hcut, hcp, hw2]
      have := nxt (Z.drop w.length) _ (by rw [← hd]; simp) (by rw [List.length_drop]; omega) (Keep.st hn0 k) (by rw [List.getElem?_set_ne hne.symm]; exact eb) (ra.set rk) rk (List.getElem?_set_self (lt_of_get eu))
      rw [List.length_append] at this
      exact this
/-- what is there when the third loop begins -/
structure RS (H h : AH) (ib iA gA : Nat) (ts : List Bs) (f : Nat → Value) (rep : UInt8 → Option Bs) : Prop where
  eb : h[ib]? = some (.row 0 257 (RT f (slV iA gA ts.length ts.length)))
  eA : h[iA]? = some (.row gA 1 (sL ts))
  ra : RpAt H h f rep
/-- behind the loops that count -/
theorem tail_repl (H : AH) (ib iA gA : Nat) (ts : List Bs) (rep : UInt8 → Option Bs) (h8 : Rep8 rep) (f : Nat → Value) (s : Bs) (hs : s.length ≤ 2 ^ 30) (l : Nat) (h : AH) (hl : l ≤ h.length) (q : RS H h ib iA gA ts f rep) :
    Okr (fun v h' => v = sV (escL rep s) ∧ Keep h.length h h') (L215_2 l (pV ib 0 0) (sV s) (slV h.length 0 (escL rep s).length (escL rep s).length) (iV 0) (iV 0) (h ++ [AObj.row 0 25769803777 (repL (escL rep s).length [.int .u8 0])])) := by
  have hib := lt_of_get q.eb
  have hz : repL (escL rep s).length [.int .u8 0] = u8c (List.replicate (escL rep s).length 0) := by
    unfold repL u8c
    rw [List.map_replicate]
    generalize (escL rep s).length = n
    induction n with
    | zero => rfl
    | succ n ih => rw [List.replicate_succ, List.flatten_cons, ih, List.replicate_succ]; rfl
  rw [hz]
  have kk : Keep h.length h (h ++ [AObj.row 0 25769803777 (u8c (List.replicate (escL rep s).length 0))]) := Keep.app _ _ (Nat.le_refl _)
  have ra2 : RpAt H (h ++ [AObj.row 0 25769803777 (u8c (List.replicate (escL rep s).length 0))]) f rep := by
    intro c
    have := q.ra c
    cases hq : rep c with
    | none => rw [hq] at this; exact this
    | some w =>
      rw [hq] at this
      obtain ⟨k, a, b, d, e⟩ := this
      exact ⟨k, a, by simp; omega, d, kk.get e b⟩
  exact L2_repl H ib rep h8 f _ s hs l h.length h.length hl (Nat.le_refl _) (by omega) h s [] (List.replicate (escL rep s).length 0) _ rfl (by simp) kk (kk.get q.eb hib) ra2 (fun c w k e1 e2 => by
    have := q.ra c
    rw [e1] at this
    obtain ⟨k0, a, b, d, e⟩ := this
    rw [d] at e2
    injection e2 with e2; injection e2 with e2; injection e2 with e2
    omega) (by rw [List.getElem?_append_right (Nat.le_refl _)]; simp [escL_nil])
def anyB (rep : UInt8 → Option Bs) (s : Bs) : Bool := s.any fun b => (rep b).isSome
theorem escL_same {rep : UInt8 → Option Bs} : ∀ (s : Bs), anyB rep s = false → escL rep s = s
  | [], _ => rfl
  | b :: r, h => by
    simp only [anyB, List.any_cons, Bool.or_eq_false_iff, Option.isSome_eq_false_iff, Option.isNone_iff_eq_none] at h
    rw [escL_cons, h.1, escL_same r h.2]; rfl
/-- the second loop: byte by byte -/
theorem L1_repl (H : AH) (ib iA gA : Nat) (ts : List Bs) (rep : UInt8 → Option Bs) (h8 : Rep8 rep) (f : Nat → Value) (s : Bs) (hs : s.length ≤ 2 ^ 30) (l : Nat) (h : AH) (hl : l ≤ h.length) (q : RS H h ib iA gA ts f rep) :
    ∀ (r d : Bs) (ns : Int) (a : Bool), d ++ r = s → ns = (((escL rep d).length + r.length : Nat) : Int) → a = anyB rep d →
      Okr (fun v h' => v = sV (escL rep s) ∧ Keep h.length h h') (L215_1 l (pV ib 0 0) (sV s) (iV ns) (.bool a) (iV d.length) h) := by
  have hsz := size_B s
  have hle := escL_len h8 s
  have eb := q.eb
  intro r
  induction r with
  | nil =>
    rintro d ns a hd rfl rfl
    rw [List.append_nil] at hd
    have hlt : decide ((d.length : Int) < (s.length : Int)) = false := decide_eq_false (by rw [hd]; omega)
    subst hd
    refine okr_code Tryz.func215 rfl rfl ?_
    cases ha : anyB rep d with
    | false =>
      simp (dsimp := false) (disch := first | exact dI | fail) only [XOB, ↓XXs, ↓XD, ↓YX, ZB, Nat.reduceAdd, Nat.reducePow, ↓reduceIte, eq_self, Int.reduceEq, Nat.reduceEqDiff, Nat.reduceMul, Nat.reduceLeDiff, Int.reduceBEq, Int.reduceLT, Tryz.f215, ↓XH2, XRN, ZC, ZE, ZH, eq_self, Nat.reduceLeDiff, Nat.reduceBEq, slV_new, reduceIte, ↓op_extract, tupAt_mk, lenV_sl, Bool.not_true, Bool.not_false, ↓XR_9, ↓XR_28, Option.bind_none, bne, Bool.not_true, Bool.not_false, hsz, hlt, ha]
      rw [escL_same d ha]
      exact Okr.ret ⟨rfl, Keep.refl _ _⟩
    | true =>
      simp (dsimp := false) (disch := first | exact dI | fail) only [XOB, ↓XXs, ↓XD, ↓YX, ZB, Nat.reduceAdd, Nat.reducePow, ↓reduceIte, eq_self, Int.reduceEq, Nat.reduceEqDiff, Nat.reduceMul, Nat.reduceLeDiff, Int.reduceBEq, Int.reduceLT, Tryz.f215, ↓XH2, XRN, ZC, ZE, ZH, eq_self, Nat.reduceLeDiff, Nat.reduceBEq, slV_new, reduceIte, ↓op_extract, tupAt_mk, lenV_sl, Bool.not_true, Bool.not_false, ↓XR_9, ↓XR_28, Option.bind_none, bne, Bool.not_true, Bool.not_false, hsz, hlt, ha]
      rw [if_pos (by omega), Nat.add_zero, Int.toNat_natCast]
      exact tail_repl H ib iA gA ts rep h8 f d hs l h hl q
  | cons b r ih =>
    rintro d ns a hd rfl rfl
    have hdl := congrArg List.length hd
    simp only [List.length_append, List.length_cons] at hdl
    have hbb := u8_lt b
    have hlt : decide ((d.length : Int) < (s.length : Int)) = true := decide_eq_true (by omega)
    have hat : strAt (B s) (d.length : Int) = some (b.toNat : Int) := by rw [← hd]; exact strAt_mid d b r
    have hw : IntKind.i64.wrap ((d.length : Int) + 1) = ((d.length + 1 : Nat) : Int) := natCast_succ_wrap (by omega) rfl
    have ixa := ixArr_u8 ib b
    have rta := RT_at f (slV iA gA ts.length ts.length) b.toNat hbb
    have hed := escL_len h8 d
    have hx : escL rep (d ++ [b]) = escL rep d ++ (rep b).getD [b] := by rw [escL_app, escL_cons, escL_nil, List.append_nil]
    have hy : anyB rep (d ++ [b]) = (anyB rep d || (rep b).isSome) := by simp [anyB]
    have nxt := ih (d ++ [b]) _ _ (by rw [← hd]; simp) rfl rfl
    rw [List.length_append, List.length_singleton, hx, hy, List.length_append] at nxt
    rcases q.ra.get b with ⟨q1, q2⟩ | ⟨w, kk, q1, q2, q3, q4, q5⟩
    · rw [q2] at rta
      rw [q1, Option.getD_none, Option.isSome_none, Bool.or_false, List.length_singleton] at nxt
      refine okr_code Tryz.func215 rfl rfl ?_
      simp (dsimp := false) (disch := first | exact dI | fail) only [XOB, ↓XXs, ↓XD, ↓YX, ZB, Nat.reduceAdd, Nat.reducePow, ↓reduceIte, eq_self, Int.reduceEq, Nat.reduceEqDiff, Nat.reduceMul, Nat.reduceLeDiff, Int.reduceBEq, Int.reduceLT, Tryz.f215, ↓XH2, XRN, ZC, ZE, ZH, eq_self, Nat.reduceLeDiff, Nat.reduceBEq, slV_new, reduceIte, ↓op_extract, tupAt_mk, lenV_sl, Bool.not_true, Bool.not_false, ↓XR_9, ↓XR_28, Option.bind_none, bne, Bool.not_true, Bool.not_false, hsz, hlt, hat, eb, ixa, rta, Option.isNone_none, hw]
      rw [show (escL rep d).length + (r.length + 1) = (escL rep d).length + 1 + r.length by omega]
      exact nxt
    · have h9 := h8 b w q1
      rw [q4] at rta
      rw [q1, Option.getD_some, Option.isSome_some, Bool.or_true, Nat.add_assoc] at nxt
      have hw1 : IntKind.i64.wrap ((w.length : Int) - 1) = (w.length : Int) - 1 := wrap64 (by omega)
      have hw3 : IntKind.i64.wrap ((((escL rep d).length + (r.length + 1) : Nat) : Int) + ((w.length : Int) - 1)) = (((escL rep d).length + (w.length + r.length) : Nat) : Int) := by
        rw [wrap64 (by omega)]; omega
      refine okr_code Tryz.func215 rfl rfl ?_
      simp (dsimp := false) (disch := first | exact dI | fail) only [XOB, ↓XXs, ↓XD, ↓YX, ZB, Nat.reduceAdd, Nat.reducePow, ↓reduceIte, eq_self, Int.reduceEq, Nat.reduceEqDiff, Nat.reduceMul, Nat.reduceLeDiff, Int.reduceBEq, Int.reduceLT, Tryz.f215, ↓XH2, XRN, ZC, ZE, ZH, eq_self, Nat.reduceLeDiff, Nat.reduceBEq, slV_new, reduceIte, ↓op_extract, tupAt_mk, lenV_sl, Bool.not_true, Bool.not_false, ↓XR_9, ↓XR_28, Option.bind_none, bne, Bool.not_true, Bool.not_false, hsz, hlt, hat, eb, ixa, rta, hw, hw1, hw3]
      exact nxt
/-! ### the first loop: how often each byte that is told stands there -/
def totN (rep : UInt8 → Option Bs) (s : Bs) : List UInt8 → Nat
  | [] => 0
  | c :: r => s.count c * (((rep c).getD [c]).length - 1) + totN rep s r
theorem totN_cons (rep : UInt8 → Option Bs) (b : UInt8) (s : Bs) : ∀ (l : List UInt8), l.Nodup → totN rep (b :: s) l = totN rep s l + (if b ∈ l then ((rep b).getD [b]).length - 1 else 0)
  | [], _ => rfl
  | c :: l, hn => by
    obtain ⟨h1, h2⟩ := List.nodup_cons.1 hn
    rw [totN, totN, totN_cons rep b s l h2, List.count_cons]
    by_cases hb : b = c
    · subst hb
      rw [if_neg h1, if_pos (show b ∈ b :: l by simp)]
      simp only [beq_self_eq_true, if_true, Nat.add_mul, Nat.one_mul]
      omega
    · have hb2 : (b == c) = false := by simpa using hb
      rw [hb2]
      simp only [Bool.false_eq_true, if_false, Nat.add_zero, List.mem_cons, hb, false_or]
      omega
theorem escL_tot {rep : UInt8 → Option Bs} (h8 : Rep8 rep) {tcs : List UInt8} (hn : tcs.Nodup) (hm : ∀ c, c ∈ tcs ↔ (rep c).isSome = true) : ∀ (s : Bs), (escL rep s).length = s.length + totN rep s tcs
  | [] => by
    have : ∀ l, totN rep [] l = 0 := fun l => by induction l with | nil => rfl | cons c l ih => rw [totN, ih]; simp
    rw [this]; rfl
  | b :: s => by
    rw [escL_cons, List.length_append, escL_tot h8 hn hm s, totN_cons rep b s tcs hn, List.length_cons]
    cases hq : rep b with
    | none =>
      rw [if_neg (by rw [hm, hq]; simp)]
      simp only [Option.getD_none, List.length_singleton]; omega
    | some w =>
      have := h8 b w hq
      rw [if_pos (by rw [hm, hq]; rfl)]
      simp only [Option.getD_some]; omega
theorem any_tot {rep : UInt8 → Option Bs} {tcs : List UInt8} (hm : ∀ c, c ∈ tcs ↔ (rep c).isSome = true) (s : Bs) : (tcs.any fun c => !decide (s.count c = 0)) = anyB rep s := by
  rw [Bool.eq_iff_iff]
  simp only [List.any_eq_true, anyB, Bool.not_eq_true', decide_eq_false_iff_not]
  constructor
  · rintro ⟨c, h1, h2⟩
    exact ⟨c, List.count_pos_iff.1 (by omega), (hm c).1 h1⟩
  · rintro ⟨c, h1, h2⟩
    exact ⟨c, (hm c).2 h2, by have := List.count_pos_iff.2 h1; omega⟩
theorem totN_app (rep : UInt8 → Option Bs) (s : Bs) : ∀ (a b : List UInt8), totN rep s (a ++ b) = totN rep s a + totN rep s b
  | [], b => by simp [totN]
  | c :: a, b => by rw [List.cons_append, totN, totN, totN_app rep s a b]; omega
theorem totN_le {rep : UInt8 → Option Bs} (h8 : Rep8 rep) (s : Bs) : ∀ (l : List UInt8), (∀ c ∈ l, (rep c).isSome = true) → totN rep s l ≤ l.length * (s.length * 8)
  | [], _ => by simp [totN]
  | c :: l, h => by
    have ih := totN_le h8 s l (fun x hx => h x (by simp [hx]))
    obtain ⟨w, hw⟩ := Option.isSome_iff_exists.1 (h c (by simp))
    have h9 := h8 c w hw
    have hc : s.count c ≤ s.length := List.count_le_length
    rw [totN, hw, Option.getD_some, List.length_cons, Nat.add_mul, Nat.one_mul]
    have : s.count c * (w.length - 1) ≤ s.length * 8 := Nat.mul_le_mul hc (by omega)
    omega
theorem r_count (s : Bs) (c : UInt8) (l : Nat) (h : AH) : run V0 (.fn 217) l [S (sV s), S (sV [c])] h = some (.ret (iV (s.count c)) h) := by
  refine run_prim (vs := [sV s, sV [c]]) (p := pPure fCount) rfl ?_
  rfl
theorem L0_repl (H : AH) (ib iA gA : Nat) (tcs : List UInt8) (rep : UInt8 → Option Bs) (h8 : Rep8 rep) (hn : tcs.Nodup) (hm : ∀ c, c ∈ tcs ↔ (rep c).isSome = true) (ht : tcs.length ≤ 256) (f : Nat → Value) (s : Bs) (hs : s.length ≤ 2 ^ 30) (l : Nat) (h : AH) (hl : l ≤ h.length) (q : RS H h ib iA gA (tcs.map fun c => [c]) f rep) :
    ∀ (r d : List UInt8) (ns : Int) (a : Bool), d ++ r = tcs → ns = ((s.length + totN rep s d : Nat) : Int) → a = (d.any fun c => !decide (s.count c = 0)) →
      Okr (fun v h' => v = sV (escL rep s) ∧ Keep h.length h h') (L215_0 l (pV ib 0 0) (sV s) (iV ns) (.bool a) (slV iA gA tcs.length tcs.length) (iV tcs.length) (iV d.length) h) := by
  have hsz := size_B s
  have hle := escL_len h8 s
  have eb := q.eb
  have eA := q.eA
  intro r
  induction r with
  | nil =>
    rintro d ns a hd rfl rfl
    rw [List.append_nil] at hd
    subst hd
    have hlt : decide ((d.length : Int) < (d.length : Int)) = false := decide_eq_false (by omega)
    rw [← escL_tot h8 hn hm s, any_tot hm s]
    refine okr_code Tryz.func215 rfl rfl ?_
    cases ha : anyB rep s with
    | false =>
      simp (dsimp := false) (disch := first | exact dI | fail) only [XOB, ↓XXs, ↓XD, ↓YX, ZB, Nat.reduceAdd, Nat.reducePow, ↓reduceIte, eq_self, Int.reduceEq, Nat.reduceEqDiff, Nat.reduceMul, Nat.reduceLeDiff, Int.reduceBEq, Int.reduceLT, Tryz.f215, ↓XH2, XRN, ZC, ZE, ZH, eq_self, Nat.reduceLeDiff, Nat.reduceBEq, slV_new, reduceIte, ↓op_extract, tupAt_mk, lenV_sl, Bool.not_true, Bool.not_false, ↓XR_9, ↓XR_28, Option.bind_none, bne, Bool.not_true, Bool.not_false, hsz, hlt, ha]
      rw [escL_same s ha]
      exact Okr.ret ⟨rfl, Keep.refl _ _⟩
    | true =>
      simp (dsimp := false) (disch := first | exact dI | fail) only [XOB, ↓XXs, ↓XD, ↓YX, ZB, Nat.reduceAdd, Nat.reducePow, ↓reduceIte, eq_self, Int.reduceEq, Nat.reduceEqDiff, Nat.reduceMul, Nat.reduceLeDiff, Int.reduceBEq, Int.reduceLT, Tryz.f215, ↓XH2, XRN, ZC, ZE, ZH, eq_self, Nat.reduceLeDiff, Nat.reduceBEq, slV_new, reduceIte, ↓op_extract, tupAt_mk, lenV_sl, Bool.not_true, Bool.not_false, ↓XR_9, ↓XR_28, Option.bind_none, bne, Bool.not_true, Bool.not_false, hsz, hlt, ha]
      rw [if_pos (by omega), Int.toNat_natCast]
      exact tail_repl H ib iA gA _ rep h8 f s hs l h hl q
  | cons c r ih =>
    rintro d ns a hd rfl rfl
    have hdl := congrArg List.length hd
    simp only [List.length_append, List.length_cons] at hdl
    have hbb := u8_lt c
    have hlt : decide ((d.length : Int) < (tcs.length : Int)) = true := decide_eq_true (by omega)
    have hw : IntKind.i64.wrap ((d.length : Int) + 1) = ((d.length + 1 : Nat) : Int) := natCast_succ_wrap (by omega) rfl
    have hix : ixAddr (slV iA gA tcs.length tcs.length) (d.length : Int) 1 = some (pV iA d.length gA) := by rw [ixAddr_sl (by omega)]; simp
    have c0 : (sL (tcs.map fun c => [c]))[d.length]? = some (sV [c]) := by
      rw [sL, List.getElem?_map, List.getElem?_map, ← hd, List.getElem?_append_right (Nat.le_refl _), Nat.sub_self]; rfl
    have hcm : c ∈ tcs := by rw [← hd]; simp
    obtain ⟨w, hwc⟩ := Option.isSome_iff_exists.1 ((hm c).1 hcm)
    have h9 := h8 c w hwc
    have at0 : strAt (B [c]) 0 = some (c.toNat : Int) := strAt_mid [] c []
    have ixa := ixArr_u8 ib c
    have rta := RT_at f (slV iA gA (tcs.map fun c => [c]).length (tcs.map fun c => [c]).length) c.toNat hbb
    have a1 := r_count s c
    have hct : s.count c ≤ s.length := List.count_le_length
    have htd := totN_le h8 s d (fun x hx => (hm x).1 (by rw [← hd]; simp [hx]))
    have htd2 : d.length * (s.length * 8) ≤ 256 * (2 ^ 30 * 8) := Nat.mul_le_mul (by omega) (Nat.mul_le_mul hs (Nat.le_refl _))
    have nxt := ih (d ++ [c]) _ _ (by rw [← hd]; simp) rfl rfl
    rw [List.length_append, List.length_singleton, totN_app] at nxt
    have ht1 : totN rep s [c] = s.count c * (w.length - 1) := by rw [totN, totN, hwc, Option.getD_some, Nat.add_zero]
    rcases q.ra.get c with ⟨q1, q2⟩ | ⟨w', kk, q1, q2, q3, q4, q5⟩
    · rw [q1] at hwc; cases hwc
    · rw [hwc] at q1; injection q1 with q1; subst q1
      rw [q4] at rta
      rw [ht1] at nxt
      have hmul : s.count c * (w.length - 1) ≤ 2 ^ 30 * 8 := Nat.mul_le_mul (by omega) (by omega)
      have hw1 : IntKind.i64.wrap ((w.length : Int) - 1) = ((w.length - 1 : Nat) : Int) := by rw [wrap64 (by omega)]; omega
      have hw2 : IntKind.i64.wrap ((s.count c : Int) * ((w.length - 1 : Nat) : Int)) = ((s.count c * (w.length - 1) : Nat) : Int) := by rw [← Int.natCast_mul, wrap64 (by omega)]
      have hw3 : IntKind.i64.wrap (((s.length + totN rep s d : Nat) : Int) + ((s.count c * (w.length - 1) : Nat) : Int)) = ((s.length + (totN rep s d + s.count c * (w.length - 1)) : Nat) : Int) := by
        rw [wrap64 (by omega)]; omega
      refine okr_code Tryz.func215 rfl rfl ?_
      by_cases hz : s.count c = 0
      · have z0 : ((s.count c : Int) == 0) = true := by simp [hz]
        rw [hz, Nat.zero_mul, Nat.add_zero] at nxt
        have ha : ((d ++ [c]).any fun c => !decide (s.count c = 0)) = d.any fun c => !decide (s.count c = 0) := by simp [hz]
        rw [ha] at nxt
        simp (dsimp := false) (disch := first | exact dI | fail) only [XOB, ↓XXs, ↓XD, ↓YX, ZB, Nat.reduceAdd, Nat.reducePow, ↓reduceIte, eq_self, Int.reduceEq, Nat.reduceEqDiff, Nat.reduceMul, Nat.reduceLeDiff, Int.reduceBEq, Int.reduceLT, Tryz.f215, ↓XH2, XRN, ZC, ZE, ZH, eq_self, Nat.reduceLeDiff, Nat.reduceBEq, slV_new, reduceIte, ↓op_extract, tupAt_mk, lenV_sl, Bool.not_true, Bool.not_false, ↓XR_9, ↓XR_28, Option.bind_none, bne, Bool.not_true, Bool.not_false, hsz, hlt, hw, hix, eA, c0, a1, z0]
        exact nxt
      · have z0 : ((s.count c : Int) == 0) = false := by simp; omega
        have ha : ((d ++ [c]).any fun c => !decide (s.count c = 0)) = true := by
          rw [List.any_append, Bool.or_eq_true]; right; simp [hz]
        rw [ha] at nxt
        simp (dsimp := false) (disch := first | exact dI | fail) only [XOB, ↓XXs, ↓XD, ↓YX, ZB, Nat.reduceAdd, Nat.reducePow, ↓reduceIte, eq_self, Int.reduceEq, Nat.reduceEqDiff, Nat.reduceMul, Nat.reduceLeDiff, Int.reduceBEq, Int.reduceLT, Tryz.f215, ↓XH2, XRN, ZC, ZE, ZH, eq_self, Nat.reduceLeDiff, Nat.reduceBEq, slV_new, reduceIte, ↓op_extract, tupAt_mk, lenV_sl, Bool.not_true, Bool.not_false, ↓XR_9, ↓XR_28, Option.bind_none, bne, Bool.not_true, Bool.not_false, hsz, hlt, hw, hix, eA, c0, a1, z0, at0, eb, ixa, rta, hw1, hw2, hw3]
        exact nxt
/-- what is built replaces -/
theorem r_replace (H : AH) (ib : Nat) (tcs : List UInt8) (rep : UInt8 → Option Bs) (h8 : Rep8 rep) (hn : tcs.Nodup) (hm : ∀ c, c ∈ tcs ↔ (rep c).isSome = true) (ht : tcs.length ≤ 256) (s : Bs) (hs : s.length ≤ 2 ^ 30) (l : Nat) (h : AH) (hl : l ≤ h.length) (q : Rpl H h ib rep (tcs.map fun c => [c])) :
    Okr (VQ (sV (escL rep s)) h) (run V0 (.fn 215) l [S (pV ib 0 0), S (sV s)] h) := by
  obtain ⟨f, iA, gA, eb, eA, ra, -, -⟩ := q.ex
  have hsz := size_B s
  have q' : RS H h ib iA gA (tcs.map fun c => [c]) f rep := ⟨eb, eA, ra⟩
  have hml : (tcs.map fun c => [c]).length = tcs.length := List.length_map _
  rw [hml] at eb
  have h88 : IntKind.i64.wrap ((tcs.length : Int) * 8) = ((tcs.length * 8 : Nat) : Int) := by rw [wrap64 (by omega)]; omega
  refine okr_fn Tryz.func215 rfl rfl rfl rfl ?_
  cases hq : decide (((tcs.length * 8 : Nat) : Int) ≤ (s.length : Int)) with
  | true =>
    simp (dsimp := false) (disch := first | exact dI | fail) only [XOB, ↓XXs, ↓XD, ↓YX, ZB, Nat.reduceAdd, Nat.reducePow, ↓reduceIte, eq_self, Int.reduceEq, Nat.reduceEqDiff, Nat.reduceMul, Nat.reduceLeDiff, Int.reduceBEq, Int.reduceLT, Tryz.f215, ↓XH2, XRN, ZC, ZE, ZH, eq_self, Nat.reduceLeDiff, Nat.reduceBEq, slV_new, reduceIte, ↓op_extract, tupAt_mk, lenV_sl, Bool.not_true, Bool.not_false, ↓XR_9, ↓XR_28, Option.bind_none, bne, Bool.not_true, Bool.not_false, hsz, eb, RT_end, h88, hq]
    exact L0_repl H ib iA gA tcs rep h8 hn hm ht f s hs l h hl q' tcs [] _ _ rfl (by simp [totN]) rfl
  | false =>
    simp (dsimp := false) (disch := first | exact dI | fail) only [XOB, ↓XXs, ↓XD, ↓YX, ZB, Nat.reduceAdd, Nat.reducePow, ↓reduceIte, eq_self, Int.reduceEq, Nat.reduceEqDiff, Nat.reduceMul, Nat.reduceLeDiff, Int.reduceBEq, Int.reduceLT, Tryz.f215, ↓XH2, XRN, ZC, ZE, ZH, eq_self, Nat.reduceLeDiff, Nat.reduceBEq, slV_new, reduceIte, ↓op_extract, tupAt_mk, lenV_sl, Bool.not_true, Bool.not_false, ↓XR_9, ↓XR_28, Option.bind_none, bne, Bool.not_true, Bool.not_false, hsz, eb, RT_end, h88, hq]
    exact L1_repl H ib iA gA _ rep h8 f s hs l h hl q' s [] _ _ rfl (by simp [escL_nil]) rfl
end Go.Abs
namespace Go.Abs
open Go.Proofs
set_option maxRecDepth 100000
set_option linter.unusedSimpArgs false
set_option linter.unusedVariables false
set_option pp.maxSteps 20000
set_option pp.deepTerms true
def OnceQ (H : AH) (ir : Nat) (v : Value) (h' : AH) : Prop := v = .tuple #[] ∧ ∃ ib, h'[ir]? = some (.row 0 5 [.int .u32 0, .int .i32 1, .int .u32 0, .iface 188 (pV ib 0 0), .slice none 0 0]) ∧ Rpl H h' ib grep1 [[124], [92]] ∧
  H.length ≤ h'.length ∧ ∀ j, j < H.length → j ≠ ir → h'[j]? = H[j]?
theorem Rpl.set {H h : AH} {ib : Nat} {rep : UInt8 → Option Bs} {ts : List Bs} {i : Nat} {o : AObj} (q : Rpl H h ib rep ts) (hi : i < H.length) : Rpl H (h.set i o) ib rep ts := by
  obtain ⟨f, iA, gA, a, b, c, d, e⟩ := q.ex
  refine ⟨f, iA, gA, ?_, ?_, fun x => ?_, d, e⟩
  · rw [List.getElem?_set_ne (by omega)]; exact a
  · rw [List.getElem?_set_ne (by omega)]; exact b
  · have := c x
    cases hq : rep x with
    | none => rw [hq] at this; exact this
    | some w =>
      rw [hq] at this
      obtain ⟨k, a1, a2, a3, a4⟩ := this
      exact ⟨k, a1, by simpa using a2, a3, by rw [List.getElem?_set_ne (by omega)]; exact a4⟩
theorem r_buildOnce (l ir io : Nat) (H : AH) (hl : l ≤ H.length) (hl2 : l ≤ ir) (er : H[ir]? = some (.row 0 5 [.int .u32 0, .int .i32 1, .int .u32 0, .nilIface, slV io 0 4 4])) (eo : H[io]? = some (.row 0 1 [sV [92], sV [92, 92], sV [124], sV [92, 124]])) :
    Okr (OnceQ H ir) (run V0 (.fn 106) l [S (pV ir 0 0)] H) := by
  have hir := lt_of_get er
  refine okr_fn Tryz.func106 rfl rfl rfl rfl ?_
  have a3 : addOff (pV ir 0 0) 3 = some (pV ir 3 0) := rfl
  have a4 : addOff (pV ir 0 0) 4 = some (pV ir 4 0) := rfl
  have nn : nonNil (pV ir 0 0) = some (pV ir 0 0) := rfl
  simp (dsimp := false) (disch := first | exact dI | fail) only [XOB, ↓XXs, ↓XD, ↓YX, ZB, Nat.reduceAdd, Nat.reducePow, ↓reduceIte, eq_self, Int.reduceEq, Nat.reduceEqDiff, Nat.reduceMul, Nat.reduceLeDiff, Tryz.f106, a3, a4, nn]
  refine okr_call (r_buildG l ir io H hl er eo) ?_
  rintro _ h2 ⟨ib, rfl, q, k⟩
  have er2 := k.get er hir
  have o1 : oneCell (.iface 188 (pV ib 0 0)) = true := rfl
  have o2 : oneCell (.slice none 0 0) = true := rfl
  have st1 : stN l h2 (pV ir 3 0) [.iface 188 (pV ib 0 0)] = some (h2.set ir (.row 0 5 [.int .u32 0, .int .i32 1, .int .u32 0, .iface 188 (pV ib 0 0), slV io 0 4 4])) := st1_of hl2 er2 (by simp) o1
  have er3 : (h2.set ir (.row 0 5 [.int .u32 0, .int .i32 1, .int .u32 0, .iface 188 (pV ib 0 0), slV io 0 4 4]))[ir]? = some (.row 0 5 [.int .u32 0, .int .i32 1, .int .u32 0, .iface 188 (pV ib 0 0), slV io 0 4 4]) := get_set _ er2
  have st2 : stN l (h2.set ir (.row 0 5 [.int .u32 0, .int .i32 1, .int .u32 0, .iface 188 (pV ib 0 0), slV io 0 4 4])) (pV ir 4 0) [.slice none 0 0] = some (h2.set ir (.row 0 5 [.int .u32 0, .int .i32 1, .int .u32 0, .iface 188 (pV ib 0 0), .slice none 0 0])) := by
    rw [st1_of hl2 er3 (by simp) o2, List.set_set]; rfl
  simp (dsimp := false) (disch := first | exact dI | fail) only [XOB, ↓XXs, ↓XD, ↓YX, ZB, Nat.reduceAdd, Nat.reducePow, ↓reduceIte, eq_self, Int.reduceEq, Nat.reduceEqDiff, Nat.reduceMul, Nat.reduceLeDiff, Tryz.f106, a3, a4, nn, st1, st2]
  exact Okr.ret ⟨rfl, ib, get_set _ er2, q.set hir, by have := k.1; simpa using this, fun j hj hne => by rw [List.getElem?_set_ne (fun e => hne e.symm)]; exact k.2 j hj⟩
theorem grep1_rep8 : Rep8 grep1 := by
  intro c w h
  unfold grep1 upd at h
  split at h
  · injection h with h; subst h; simp
  · split at h
    · injection h with h; subst h; simp
    · cases h
theorem grep1_mem (c : UInt8) : c ∈ ([124, 92] : List UInt8) ↔ (grep1 c).isSome = true := by
  unfold grep1 upd
  by_cases h1 : c = 92
  · simp [h1]
  · by_cases h2 : c = 124
    · simp [h2]
    · simp [h1, h2]
theorem esc_field : ∀ (s : Bs), escL grep1 s = fieldL s
  | [] => rfl
  | b :: r => by
    rw [escL_cons, fieldL_cons, esc_field r]
    congr 1
    unfold grep1 upd
    by_cases h1 : b = 92
    · subst h1; rfl
    · by_cases h2 : b = 124
      · subst h2; rfl
      · simp [h1, h2]
def ReplQ (h : AH) (ir : Nat) (s : Bs) (v : Value) (h' : AH) : Prop := v = sV (fieldL s) ∧ h.length ≤ h'.length ∧ ∀ j, j < h.length → j ≠ ir → h'[j]? = h[j]?
theorem r_Repl (l ir io : Nat) (h : AH) (hl : l ≤ h.length) (hl2 : l ≤ ir) (hne : io ≠ ir) (s : Bs) (hs : s.length ≤ 2 ^ 30) (er : h[ir]? = some (.row 0 5 [.int .u32 0, .int .i32 0, .int .u32 0, .nilIface, slV io 0 4 4])) (eo : h[io]? = some (.row 0 1 [sV [92], sV [92, 92], sV [124], sV [92, 124]])) :
    Okr (ReplQ h ir s) (run V0 (.fn 67) l [S (pV ir 0 0), S (sV s)] h) := by
  have hir := lt_of_get er
  have er1 : (h.set ir (.row 0 5 [.int .u32 0, .int .i32 1, .int .u32 0, .nilIface, slV io 0 4 4]))[ir]? = some (.row 0 5 [.int .u32 0, .int .i32 1, .int .u32 0, .nilIface, slV io 0 4 4]) := get_set _ er
  have eo1 : (h.set ir (.row 0 5 [.int .u32 0, .int .i32 1, .int .u32 0, .nilIface, slV io 0 4 4]))[io]? = some (.row 0 1 [sV [92], sV [92, 92], sV [124], sV [92, 124]]) := by rw [List.getElem?_set_ne hne.symm]; exact eo
  obtain ⟨v, h2, e1, rfl, ib, e2, q, k1, k2⟩ := r_buildOnce l ir io _ (by simpa using hl) hl2 er1 eo1
  have q2 := q.set (i := ir) (o := .row 0 5 [.int .u32 1, .int .i32 0, .int .u32 0, .iface 188 (pV ib 0 0), .slice none 0 0]) (by simpa using hir)
  obtain ⟨v3, h3, e3, rfl, k3⟩ := r_replace _ ib [124, 92] grep1 grep1_rep8 (by decide) grep1_mem (by simp) s hs l _ (by simp at k1 ⊢; omega) q2
  refine ⟨sV (fieldL s), h3, ?_, rfl, ?_, ?_⟩
  · refine run_prim (vs := [pV ir 0 0, sV s]) (p := pRepl 106 215 188) rfl ?_
    simp only [pRepl, rowAt_of er]
    rw [if_pos ⟨trivial, hl2⟩, e1]
    simp only [onRet, rowAt_of e2]
    rw [if_pos ⟨trivial, rfl⟩, e3]
    rw [esc_field]
  · have := k3.1; simp at this k1; omega
  · intro j hj hj2
    rw [k3.2 j (by simp at k1 ⊢; omega), List.getElem?_set_ne (fun e => hj2 e.symm), k2 j (by simpa using hj) hj2, List.getElem?_set_ne (fun e => hj2 e.symm)]
theorem rq27 (s : Bs) (hs : s.length ≤ 2 ^ 30) (l : Nat) (h : AH) (hl : l ≤ h.length) : Okr (VQ (sV (fieldL s)) h) (run V0 (.fn 27) l [S (sV s)] h) := by
  have kx : Keep h.length h (h ++ [AObj.row 0 1 [sV [92], sV [92, 92], sV [124], sV [92, 124]]]) := Keep.app _ _ (Nat.le_refl _)
  have en := rq66 l h.length [[92], [92, 92], [124], [92, 124]] 4 (h ++ [AObj.row 0 1 [sV [92], sV [92, 92], sV [124], sV [92, 124]]]) (by simp; omega) (by simp [sL]) rfl (by omega) rfl (by omega)
  simp only [List.length_append, List.length_cons, List.length_nil, Nat.zero_add] at en
  refine okr_fn Tryz.func27 rfl rfl rfl rfl ?_
  simp (dsimp := false) (disch := first | exact dI | fail) only [XOB, ↓XXs, ↓XD, ↓YX, ZB, Nat.reduceAdd, Nat.reducePow, ↓reduceIte, eq_self, Int.reduceEq, Nat.reduceEqDiff, Nat.reduceMul, Nat.reduceLeDiff, Tryz.f27, newS, en]
  have e4 : sL [[92], [92, 92], [124], [92, 124]] = [sV [92], sV [92, 92], sV [124], sV [92, 124]] := rfl
  rw [e4]
  refine okr_call (r_Repl l (h.length + 1 + 1) (h.length + 1) _ (by simp; omega) (by omega) (by omega) s hs (by
    rw [List.append_assoc, List.append_assoc, List.getElem?_append_right (by omega), show h.length + 1 + 1 - h.length = 2 by omega]; rfl) (by
    rw [List.append_assoc, List.append_assoc, List.getElem?_append_right (by omega), show h.length + 1 - h.length = 1 by omega]; rfl)) ?_
  rintro _ h2 ⟨rfl, k1, k2⟩
  simp (dsimp := false) (disch := first | exact dI | fail) only [XOB, ↓XXs, ↓XD, ↓YX, ZB, Nat.reduceAdd, Nat.reducePow, ↓reduceIte, eq_self, Int.reduceEq, Nat.reduceEqDiff, Nat.reduceMul, Nat.reduceLeDiff, Tryz.f27]
  simp only [List.length_append, List.length_cons, List.length_nil, Nat.zero_add] at k1 k2
  refine Okr.ret ⟨rfl, by omega, fun j hj => ?_⟩
  rw [k2 j (by omega) (by omega), List.append_assoc, List.append_assoc, List.getElem?_append_left hj]
end Go.Abs
namespace Go.Abs
open Go.Proofs
set_option maxRecDepth 100000
set_option linter.unusedSimpArgs false
set_option linter.unusedVariables false
set_option pp.maxSteps 20000
set_option pp.deepTerms true
/-- the texts that are joined -/
def mPart (m : Me) : List Bs := [m.user, fieldL m.nick, decI m.role]
def rPart (x : Rk) : List Bs := [x.user, decI x.num]
def hPart (R : Rm) : List Bs := [R.name, decI R.next, fieldL R.sub, decI R.ms.length]
theorem joinTail_flat (r : List Bs) : Lib.joinTail [124] r = r.flatMap fun p => 124 :: p := by
  unfold Lib.joinTail
  rw [← List.flatMap_def]; rfl
theorem join_parts {R : Rm} (ok : R.ok = true) : Lib.join (hPart R ++ R.ms.flatMap mPart ++ R.rs.flatMap rPart) [124] = R.put := by
  rw [put_eq ok]
  unfold hPart
  rw [List.cons_append, List.cons_append, Lib.join_cons, joinTail_flat]
  have e1 : ∀ l : List Me, (l.flatMap mPart).flatMap (fun p => 124 :: p) = l.flatMap fun m => 124 :: m.user ++ 124 :: fieldL m.nick ++ 124 :: decI m.role := fun l => by
    induction l with
    | nil => rfl
    | cons m l ih => simp only [List.flatMap_cons, List.flatMap_append, ih, mPart, List.flatMap_nil]; simp
  have e2 : ∀ l : List Rk, (l.flatMap rPart).flatMap (fun p => 124 :: p) = l.flatMap fun x => 124 :: x.user ++ 124 :: decI x.num := fun l => by
    induction l with
    | nil => rfl
    | cons m l ih => simp only [List.flatMap_cons, List.flatMap_append, ih, rPart, List.flatMap_nil]; simp
  simp only [List.cons_append, List.flatMap_cons, List.flatMap_append, List.nil_append, List.flatMap_nil, e1, e2]
  simp
theorem memT_len : ∀ (r : List Me), (∀ m ∈ r, m.user.length ≤ 8 ∧ (fieldL m.nick).length ≤ 20 ∧ 0 ≤ m.role ∧ m.role < 10000) → (memT r).length ≤ 40 * r.length
  | [], _ => by simp [memT]
  | m :: r, h => by
    obtain ⟨a, b, c, d⟩ := h m (by simp)
    have := decI_len c d
    have ih := memT_len r (fun x hx => h x (by simp [hx]))
    rw [memT_cons]
    simp only [List.length_append, List.length_cons]; omega
theorem rkT_len : ∀ (r : List Rk), (∀ m ∈ r, m.user.length ≤ 8 ∧ 0 ≤ m.num ∧ m.num < 10000) → (rkT r).length ≤ 40 * r.length
  | [], _ => by simp [rkT]
  | m :: r, h => by
    obtain ⟨a, c, d⟩ := h m (by simp)
    have := decI_len c d
    have ih := rkT_len r (fun x hx => h x (by simp [hx]))
    rw [rkT_cons]
    simp only [List.length_append, List.length_cons]; omega
theorem rmput_len {R : Rm} (ok : R.ok = true) : R.put.length ≤ 2 ^ 10 := by
  have bd := Rm.ok_bd ok
  have h1 := memT_len R.ms (fun m hm => by obtain ⟨a, b, c, d, e⟩ := bd.ms m hm; exact ⟨a, c, d, e⟩)
  have h2 := rkT_len R.rs (fun x hx => bd.rs x hx)
  have h3 := decI_len bd.n.1 bd.n.2
  have h4 := decI_len (n := (R.ms.length : Int)) (by omega) (by have := bd.m; omega)
  have := bd.nm; have := bd.sb; have := bd.m; have := bd.k
  rw [put_eq ok]
  unfold memT at h1
  unfold rkT at h2
  simp only [List.length_append, List.length_cons] at h1 h2 ⊢
  omega
theorem strsOf_sL : ∀ (ps : List Bs), strsOf (sL ps) = some (ps.map B)
  | [] => rfl
  | p :: ps => by
    show (strsOf (sL ps)).map (B p :: ·) = _
    rw [strsOf_sL ps]; rfl
theorem r_join (l iP gP : Nat) (ps : List Bs) (h : AH) (n : Nat) (hn : n = ps.length) (e : h[iP]? = some (.row gP 1 (sL ps))) (hb : n ≤ 2 ^ 20) (hj : (Lib.join ps [124]).length ≤ 2 ^ 40) :
    run V0 (.fn 28) l [S (slV iP gP n n), S (sV [124])] h = some (.ret (sV (Lib.join ps [124])) h) := by
  have hx : (ps.map B).map (·.data.toList) = ps := by rw [List.map_map]; exact (List.map_congr_left (fun x _ => rfl)).trans (List.map_id' ps)
  refine run_prim (vs := [slV iP gP n n, sV [124]]) (p := pJoin) rfl ?_
  simp only [pJoin, rowAt_of e, Option.bind_some, cut]
  rw [if_pos (by rw [sL_len]; omega), List.drop_zero, List.take_of_length_le (by rw [sL_len]; omega), Option.bind_some, strsOf_sL, Option.bind_some, hx]
  have hs : (B [124]).data.toList = [124] := rfl
  rw [hs, if_pos ⟨by omega, by omega⟩]
  rfl
/-- the ranks' texts -/
theorem L110 (R : Rm) (ok : R.ok = true) (rv : Value) (l : Nat) (H0 : AH) (hl : l ≤ H0.length) (qr0 : Rk.Rd H0 rv R.rs) :
    ∀ (r d : List Rk) (iP gP : Nat) (ps : List Bs) (n : Nat) (h : AH), Keep H0.length H0 h → d ++ r = R.rs → H0.length ≤ iP → h[iP]? = some (.row gP 1 (sL ps)) → n = ps.length → ps = hPart R ++ R.ms.flatMap mPart ++ d.flatMap rPart → n ≤ 100 + 2 * d.length →
      Okr (VQ (sV R.put) H0) (L10_1 l (slV iP gP n n) rv (iV R.rs.length) (iV d.length) h) := by
  have bd := Rm.ok_bd ok
  have hk6 := bd.k
  intro r
  induction r with
  | nil =>
    rintro d iP gP ps n h k hd hi e rfl hps hn
    rw [List.append_nil] at hd
    have hlt : decide ((d.length : Int) < (R.rs.length : Int)) = false := decide_eq_false (by rw [hd]; omega)
    have hj : Lib.join ps [124] = R.put := by rw [hps, hd]; exact join_parts ok
    have a1 := r_join l iP gP ps h ps.length rfl e (by rw [hd] at hn; omega) (by rw [hj]; have := rmput_len ok; omega)
    rw [hj] at a1
    refine okr_code Tryz.func10 rfl rfl ?_
    simp (dsimp := false) (disch := first | exact dI | fail) only [XOB, ↓XXs, ↓XD, ↓YX, ZB, Nat.reduceAdd, Nat.reducePow, ↓reduceIte, eq_self, Int.reduceEq, Nat.reduceEqDiff, Nat.reduceMul, Nat.reduceLeDiff, Int.reduceBEq, Int.reduceLT, Tryz.f10, ↓XH2, XRN, ZC, ZE, ZH, eq_self, Nat.reduceLeDiff, Nat.reduceBEq, slV_new, reduceIte, ↓op_extract, tupAt_mk, lenV_sl, Bool.not_true, Bool.not_false, hlt, a1]
    exact Okr.ret ⟨rfl, k⟩
  | cons x r ih =>
    rintro d iP gP ps n h k hd hi e rfl hps hn
    have qr := qr0.keep k
    obtain ⟨hb1, hb2, hb3⟩ := bd.rs x (by rw [← hd]; simp)
    have hdl := congrArg List.length hd
    simp only [List.length_append, List.length_cons] at hdl
    have hlt : decide ((d.length : Int) < (R.rs.length : Int)) = true := decide_eq_true (by omega)
    obtain ⟨pp, hix, hld⟩ := Rk.Rd.get (d := d) (x := x) (r := r) (by rw [hd]; exact qr)
    have hw : IntKind.i64.wrap ((d.length : Int) + 1) = ((d.length + 1 : Nat) : Int) := natCast_succ_wrap (by omega) rfl
    have hlh : l ≤ h.length := by have := k.1; omega
    have hih := lt_of_get e
    have a1 : ∀ l h, run V0 (.fn 26) l [S (iV x.num)] h = some (.ret (sV (decI x.num)) h) := fun l h => r_itoa x.num l h hb2 hb3
    refine okr_code Tryz.func10 rfl rfl ?_
    simp (dsimp := false) (disch := first | exact dI | fail) only [XOB, ↓XXs, ↓XD, ↓YX, ZB, Nat.reduceAdd, Nat.reducePow, ↓reduceIte, eq_self, Int.reduceEq, Nat.reduceEqDiff, Nat.reduceMul, Nat.reduceLeDiff, Int.reduceBEq, Int.reduceLT, Tryz.f10, ↓XH2, XRN, ZC, ZE, ZH, eq_self, Nat.reduceLeDiff, Nat.reduceBEq, slV_new, reduceIte, ↓op_extract, tupAt_mk, lenV_sl, Bool.not_true, Bool.not_false, hlt, hix, hld, hlh, hw, a1]
    have e2 : (h ++ [AObj.row 0 2 [sV x.user, iV x.num], AObj.row 0 1 [sV x.user, sV (decI x.num)]])[iP]? = some (.row gP 1 (sL ps)) := by rw [List.getElem?_append_left hih, e]
    have eN : (h ++ [AObj.row 0 2 [sV x.user, iV x.num], AObj.row 0 1 [sV x.user, sV (decI x.num)]])[h.length + 1]? = some (.row 0 1 (sL (rPart x))) := by simp [sL, rPart]
    obtain ⟨z, z1, g', rfl⟩ := okr_app (lim := l) (n := ps.length) (sz := 1) (by' := 16) (x := slV (h.length + 1) 0 2 2) (src_new (n := 2) (c := 2) (sz := 1) eN rfl) e2 (by rw [sL_len]; omega) (by omega) (by omega)
    simp (dsimp := false) (disch := first | exact dI | fail) only [XOB, ↓XXs, ↓XD, ↓YX, ZB, Nat.reduceAdd, Nat.reducePow, ↓reduceIte, eq_self, Int.reduceEq, Nat.reduceEqDiff, Nat.reduceMul, Nat.reduceLeDiff, Int.reduceBEq, Int.reduceLT, Tryz.f10, ↓XH2, XRN, ZC, ZE, ZH, eq_self, Nat.reduceLeDiff, Nat.reduceBEq, slV_new, reduceIte, ↓op_extract, tupAt_mk, lenV_sl, Bool.not_true, Bool.not_false, hlt, hix, hld, hlh, hw, a1, z1]
    have K2 : Keep H0.length H0 ((h ++ [AObj.row 0 2 [sV x.user, iV x.num], AObj.row 0 1 [sV x.user, sV (decI x.num)]]).set iP (.row g' 1 (sL ps ++ sL (rPart x)))) := (k.trans (Keep.app _ _ k.1)).trans (Keep.set _ _ _ hi)
    have := ih (d ++ [x]) iP g' (ps ++ rPart x) (ps.length + 2) _ K2 (by rw [← hd]; simp) hi (by rw [get_set _ e2, sL_app]) (by simp [rPart]) (by rw [hps]; simp [rPart]) (by simp; omega)
    rw [List.length_append, List.set_append_left _ _ hih] at this
    exact this
/-- the members' texts -/
theorem L010 (R : Rm) (ok : R.ok = true) (mv rv : Value) (l ir : Nat) (H0 : AH) (hl : l ≤ H0.length) (hir : ir < H0.length) (er0 : H0[ir]? = some (.row 0 5 (R.ro mv rv).C)) (qm0 : Me.Rd H0 mv R.ms) (qr0 : Rk.Rd H0 rv R.rs) :
    ∀ (r d : List Me) (iP gP : Nat) (ps : List Bs) (n : Nat) (h : AH), Keep H0.length H0 h → d ++ r = R.ms → H0.length ≤ iP → h[iP]? = some (.row gP 1 (sL ps)) → n = ps.length → ps = hPart R ++ d.flatMap mPart → n = 4 + 3 * d.length →
      Okr (VQ (sV R.put) H0) (L10_0 l (pV ir 0 0) (slV iP gP n n) mv (iV R.ms.length) (iV d.length) h) := by
  have bd := Rm.ok_bd ok
  have hk5 := bd.m
  intro r
  induction r with
  | nil =>
    rintro d iP gP ps n h k hd hi e rfl hps hn
    have er := k.get er0 hir
    have qr := qr0.keep k
    have hlr := qr.len
    rw [List.append_nil] at hd
    have hlt : decide ((d.length : Int) < (R.ms.length : Int)) = false := decide_eq_false (by rw [hd]; omega)
    refine okr_code Tryz.func10 rfl rfl ?_
    simp (dsimp := false) (disch := first | exact dI | fail) only [XOB, ↓XXs, ↓XD, ↓YX, ZB, Nat.reduceAdd, Nat.reducePow, ↓reduceIte, eq_self, Int.reduceEq, Nat.reduceEqDiff, Nat.reduceMul, Nat.reduceLeDiff, Int.reduceBEq, Int.reduceLT, Tryz.f10, ↓XH2, XRN, ZC, ZE, ZH, eq_self, Nat.reduceLeDiff, Nat.reduceBEq, slV_new, reduceIte, ↓op_extract, tupAt_mk, lenV_sl, Bool.not_true, Bool.not_false, hlt, er, hlr]
    exact L110 R ok rv l H0 hl qr0 R.rs [] iP gP ps ps.length h k rfl hi e rfl (by rw [hps, hd]; simp) (by rw [hd] at hn; simp; omega)
  | cons x r ih =>
    rintro d iP gP ps n h k hd hi e rfl hps hn
    have er := k.get er0 hir
    have qm := qm0.keep k
    obtain ⟨hb1, hb2, hb3, hb4, hb5⟩ := bd.ms x (by rw [← hd]; simp)
    have hdl := congrArg List.length hd
    simp only [List.length_append, List.length_cons] at hdl
    have hlt : decide ((d.length : Int) < (R.ms.length : Int)) = true := decide_eq_true (by omega)
    obtain ⟨pp, hix, hld⟩ := Me.Rd.get (d := d) (x := x) (r := r) (by rw [hd]; exact qm)
    have hw : IntKind.i64.wrap ((d.length : Int) + 1) = ((d.length + 1 : Nat) : Int) := natCast_succ_wrap (by omega) rfl
    have hlh : l ≤ h.length := by have := k.1; omega
    have hih := lt_of_get e
    have a1 : ∀ l h, run V0 (.fn 26) l [S (iV x.role)] h = some (.ret (sV (decI x.role)) h) := fun l h => r_itoa x.role l h hb4 hb5
    have kx : Keep h.length h (h ++ [AObj.row 0 3 [sV x.user, sV x.nick, iV x.role]]) := Keep.app _ _ (Nat.le_refl _)
    refine okr_code Tryz.func10 rfl rfl ?_
    simp (dsimp := false) (disch := first | exact dI | fail) only [XOB, ↓XXs, ↓XD, ↓YX, ZB, Nat.reduceAdd, Nat.reducePow, ↓reduceIte, eq_self, Int.reduceEq, Nat.reduceEqDiff, Nat.reduceMul, Nat.reduceLeDiff, Int.reduceBEq, Int.reduceLT, Tryz.f10, ↓XH2, XRN, ZC, ZE, ZH, eq_self, Nat.reduceLeDiff, Nat.reduceBEq, slV_new, reduceIte, ↓op_extract, tupAt_mk, lenV_sl, Bool.not_true, Bool.not_false, hlt, hix, hld, hlh, hw, a1]
    refine okr_call (rq27 x.nick (by omega) _ _ (by first | exact Nat.le_refl _ | (simp <;> omega))) ?_
    rintro _ h2 ⟨rfl, k2⟩
    have K1 := k.trans (kx.le k.1)
    have K2 := K1.trans (k2.le K1.1)
    have hl2 := K2.1
    have e1 : h2[iP]? = some (.row gP 1 (sL ps)) := k2.get (kx.get e hih) (by have := kx.1; omega)
    have hih2 := lt_of_get e1
    have ex2 : h2[h.length]? = some (.row 0 3 [sV x.user, sV x.nick, iV x.role]) := k2.get (by simp) (by simp)
    have n2 : ∀ a b c : Value, [a, b, c][2]? = some c := fun _ _ _ => rfl
    have e2 : (h2 ++ [AObj.row 0 1 [sV x.user, sV (fieldL x.nick), sV (decI x.role)]])[iP]? = some (.row gP 1 (sL ps)) := by rw [List.getElem?_append_left hih2, e1]
    have eN : (h2 ++ [AObj.row 0 1 [sV x.user, sV (fieldL x.nick), sV (decI x.role)]])[h2.length]? = some (.row 0 1 (sL (mPart x))) := by simp [sL, mPart]
    obtain ⟨z, z1, g', rfl⟩ := okr_app (lim := l) (n := ps.length) (sz := 1) (by' := 16) (x := slV h2.length 0 3 3) (src_new (n := 3) (c := 3) (sz := 1) eN rfl) e2 (by rw [sL_len]; omega) (by omega) (by omega)
    simp (dsimp := false) (disch := first | exact dI | fail) only [XOB, ↓XXs, ↓XD, ↓YX, ZB, Nat.reduceAdd, Nat.reducePow, ↓reduceIte, eq_self, Int.reduceEq, Nat.reduceEqDiff, Nat.reduceMul, Nat.reduceLeDiff, Int.reduceBEq, Int.reduceLT, Tryz.f10, ↓XH2, XRN, ZC, ZE, ZH, eq_self, Nat.reduceLeDiff, Nat.reduceBEq, slV_new, reduceIte, ↓op_extract, tupAt_mk, lenV_sl, Bool.not_true, Bool.not_false, hlh, hw, a1, z1, ex2, n2]
    have K3 : Keep H0.length H0 ((h2 ++ [AObj.row 0 1 [sV x.user, sV (fieldL x.nick), sV (decI x.role)]]).set iP (.row g' 1 (sL ps ++ sL (mPart x)))) := (K2.trans (Keep.app _ _ K2.1)).trans (Keep.set _ _ _ hi)
    have := ih (d ++ [x]) iP g' (ps ++ mPart x) (ps.length + 3) _ K3 (by rw [← hd]; simp) hi (by rw [get_set _ e2, sL_app]) (by simp [mPart]) (by rw [hps]; simp [mPart]) (by simp; omega)
    rw [List.length_append, List.set_append_left _ _ hih2] at this
    exact this
set_option maxHeartbeats 4000000 in
theorem rq10 (R : Rm) (sm : R.Sm) (mv rv : Value) (l : Nat) (h : AH) (hl : l ≤ h.length) (qm : Me.Rd h mv R.ms) (qr : Rk.Rd h rv R.rs) :
    Okr (VQ (sV (if R.ok = true then R.put else [])) h) (run V0 (.fn 10) l [S (R.ro mv rv).V] h) := by
  have kx : Keep h.length h (h ++ [AObj.row 0 5 [sV R.name, iV R.next, mv, rv, sV R.sub]]) := Keep.app _ _ (Nat.le_refl _)
  refine okr_fn Tryz.func10 rfl rfl rfl rfl ?_
  simp (dsimp := false) (disch := first | exact dI | fail) only [XOB, ↓XXs, ↓XD, ↓YX, ZB, Nat.reduceAdd, Nat.reducePow, ↓reduceIte, eq_self, Int.reduceEq, Nat.reduceEqDiff, Nat.reduceMul, Nat.reduceLeDiff, Int.reduceBEq, Int.reduceLT, Tryz.f10, ↓XH2, XRN, ZC, ZE, ZH, eq_self, Nat.reduceLeDiff, Nat.reduceBEq, slV_new, reduceIte, ↓op_extract, tupAt_mk, lenV_sl, Bool.not_true, Bool.not_false]
  refine okr_call (rq17 R sm mv rv l _ (by simp; omega) (qm.keep kx) (qr.keep kx)) ?_
  rintro _ h2 ⟨rfl, k2⟩
  have er2 : h2[h.length]? = some (.row 0 5 [sV R.name, iV R.next, mv, rv, sV R.sub]) := k2.get (by simp) (by simp)
  have K2 := kx.trans (k2.le kx.1)
  cases hq : R.ok with
  | false =>
    simp (dsimp := false) (disch := first | exact dI | fail) only [XOB, ↓XXs, ↓XD, ↓YX, ZB, Nat.reduceAdd, Nat.reducePow, ↓reduceIte, eq_self, Int.reduceEq, Nat.reduceEqDiff, Nat.reduceMul, Nat.reduceLeDiff, Int.reduceBEq, Int.reduceLT, Tryz.f10, ↓XH2, XRN, ZC, ZE, ZH, eq_self, Nat.reduceLeDiff, Nat.reduceBEq, slV_new, reduceIte, ↓op_extract, tupAt_mk, lenV_sl, Bool.not_true, Bool.not_false, hq, er2]
    exact Okr.ret ⟨rfl, K2⟩
  | true =>
    have bd := Rm.ok_bd hq
    have a2 := fun l h => r_itoa R.next l h bd.n.1 bd.n.2
    have a3 : ∀ l h, run V0 (.fn 26) l [S (iV R.ms.length)] h = some (.ret (sV (decI R.ms.length)) h) := fun l h => r_itoa R.ms.length l h (by omega) (by have := bd.m; omega)
    have qm2 := qm.keep K2
    have hlm := qm2.len
    simp (dsimp := false) (disch := first | exact dI | fail) only [XOB, ↓XXs, ↓XD, ↓YX, ZB, Nat.reduceAdd, Nat.reducePow, ↓reduceIte, eq_self, Int.reduceEq, Nat.reduceEqDiff, Nat.reduceMul, Nat.reduceLeDiff, Int.reduceBEq, Int.reduceLT, Tryz.f10, ↓XH2, XRN, ZC, ZE, ZH, eq_self, Nat.reduceLeDiff, Nat.reduceBEq, slV_new, reduceIte, ↓op_extract, tupAt_mk, lenV_sl, Bool.not_true, Bool.not_false, hq, er2, a2, a3, hlm]
    refine okr_call (rq27 R.sub (by have := sm.sb; omega) _ _ (by first | exact Nat.le_refl _ | (have := K2.1; omega))) ?_
    rintro _ h3 ⟨rfl, k3⟩
    have er3 : (h3 ++ [AObj.row 0 1 [sV R.name, sV (decI R.next), sV (fieldL R.sub), sV (decI R.ms.length)]])[h.length]? = some (.row 0 5 [sV R.name, iV R.next, mv, rv, sV R.sub]) := by
      have := k3.get er2 (lt_of_get er2)
      rw [List.getElem?_append_left (lt_of_get this), this]
    have K3 := K2.trans (k3.le K2.1)
    simp (dsimp := false) (disch := first | exact dI | fail) only [XOB, ↓XXs, ↓XD, ↓YX, ZB, Nat.reduceAdd, Nat.reducePow, ↓reduceIte, eq_self, Int.reduceEq, Nat.reduceEqDiff, Nat.reduceMul, Nat.reduceLeDiff, Int.reduceBEq, Int.reduceLT, Tryz.f10, ↓XH2, XRN, ZC, ZE, ZH, eq_self, Nat.reduceLeDiff, Nat.reduceBEq, slV_new, reduceIte, ↓op_extract, tupAt_mk, lenV_sl, Bool.not_true, Bool.not_false, hq, er2, a2, a3, hlm, er3]
    have K4 : Keep h.length h (h3 ++ [AObj.row 0 1 [sV R.name, sV (decI R.next), sV (fieldL R.sub), sV (decI R.ms.length)]]) := K3.trans (Keep.app _ _ K3.1)
    have hi3 := lt_of_get (k3.get er2 (lt_of_get er2))
    have := L010 R hq mv rv l h.length h3 (by have := K3.1; omega) hi3 (k3.get er2 (lt_of_get er2)) (qm.keep K3) (qr.keep K3) R.ms [] h3.length 0 (hPart R) 4 _ (Keep.app _ [AObj.row 0 1 [sV R.name, sV (decI R.next), sV (fieldL R.sub), sV (decI R.ms.length)]] (Nat.le_refl _)) rfl (Nat.le_refl _) (by simp [sL, hPart]) rfl (by simp) rfl
    refine Okr.mono this ?_
    rintro v h' ⟨rfl, k4⟩
    exact ⟨rfl, K3.trans (k4.le K3.1)⟩
end Go.Abs
