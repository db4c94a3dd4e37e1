/- What the functions on rules compute, in the program and in the reference. For every list of rules; no condition. -/
import Derived.Test.YtbolgneigidmdaaLogA
import Derived.Lib.Join
namespace Go.Abs
open Go.Proofs
set_option maxRecDepth 100000
set_option linter.unusedSimpArgs false
set_option pp.maxSteps 20000
/-! ### Ru: a struct of plain cells -/
structure Ru where
  mk ::
  (quiet : Bool)
  (room : Bs)
  (user : Bs)
  (kind : Int)
  deriving DecidableEq
abbrev Ru.C (x : Ru) : List Value := [.bool x.quiet, sV x.room, sV x.user, iV x.kind]
abbrev Ru.V (x : Ru) : Value := .agg ⟨[.bool x.quiet, sV x.room, sV x.user, iV x.kind]⟩
def Ru.R (xs : List Ru) : List Value := xs.flatMap Ru.C
theorem Ru.R_len (xs : List Ru) : (Ru.R xs).length = 4 * xs.length := by
  induction xs with
  | nil => rfl
  | cons x xs ih => simp only [Ru.R, List.flatMap_cons, List.length_append, List.length_cons, List.length_nil] at ih ⊢; omega
theorem Ru.R_app (a b : List Ru) : Ru.R (a ++ b) = Ru.R a ++ Ru.R b := by simp [Ru.R]
theorem Ru.R_cons (x : Ru) (r : List Ru) : Ru.R (x :: r) = Ru.C x ++ Ru.R r := by simp [Ru.R]
theorem Ru.get (d : List Ru) (x : Ru) (r : List Ru) : ((Ru.R (d ++ x :: r)).drop (d.length * 4)).take 4 = Ru.C x := by
  rw [Ru.R_app, Ru.R_cons, List.drop_left' (by rw [Ru.R_len]; omega)]
  rfl
theorem Ru.ldN {h : AH} {id g : Nat} {d r : List Ru} {x : Ru} (e : h[id]? = some (.row g 4 (Ru.R (d ++ x :: r)))) : ldN h (pV id (d.length * 4) g) 4 = some (Ru.C x) := by
  rw [ldN_of e (by rw [Ru.R_len]; simp; omega), Ru.get]
/-- a slice that is read -/
def Ru.Rd (h : AH) (v : Value) (xs : List Ru) : Prop :=
  (v = .slice none 0 0 ∧ xs = []) ∨ ∃ id g c, v = slV id g xs.length c ∧ h[id]? = some (.row g 4 (Ru.R xs))
theorem Ru.Rd.len {h : AH} {v : Value} {xs : List Ru} (r : Ru.Rd h v xs) : lenV v = some (xs.length : Int) := by
  rcases r with ⟨rfl, rfl⟩ | ⟨id, g, c, rfl, _⟩ <;> rfl
theorem Ru.Rd.get {h : AH} {v : Value} {d r : List Ru} {x : Ru} (q : Ru.Rd h v (d ++ x :: r)) : ∃ p, ixAddr v (d.length : Int) 4 = some p ∧ Abs.ldN h p 4 = some (Ru.C x) := by
  rcases q with ⟨_, q⟩ | ⟨id, g, c, rfl, e⟩
  · simp at q
  · exact ⟨pV id (d.length * 4) g, by rw [ixAddr_sl (by simp)]; simp, Ru.ldN e⟩
theorem Ru.Rd.keep {h h' : AH} {v : Value} {xs : List Ru} (q : Ru.Rd h v xs) (k : Keep h.length h h') : Ru.Rd h' v xs := by
  rcases q with q | ⟨id, g, c, rfl, e⟩
  · exact .inl q
  · exact .inr ⟨id, g, c, rfl, k.get e (lt_of_get e)⟩
theorem Ru.Rd.own {h : AH} {id g c : Nat} {xs : List Ru} (e : h[id]? = some (.row g 4 (Ru.R xs))) : Ru.Rd h (slV id g xs.length c) xs := .inr ⟨id, g, c, rfl, e⟩
theorem r42 (x y : Ru) (l : Nat) (h : AH) : run V0 (.fn 42) l [S x.V, S y.V] h = some (.ret (.bool (decide (x = y))) (h ++ [.row 0 4 x.C] ++ [.row 0 4 y.C])) := by
  refine run_fn Try.func42 rfl rfl rfl rfl ?_
  obtain ⟨a0, a1, a2, a3⟩ := x
  obtain ⟨b0, b1, b2, b3⟩ := y
  simp only [↓XX, ↓XD, ↓YX, ZB, Nat.reduceAdd, Nat.reducePow, ↓reduceIte, eq_self, Int.reduceEq, Nat.reduceEqDiff, Nat.reduceMul, Nat.reduceLeDiff, Try.f42, ↓XH1, ↓XH2, ZC, eq_self, Nat.reduceLeDiff, neB]
  by_cases h0 : a0 = b0
  · skip
    by_cases h1 : a1 = b1
    · skip
      by_cases h2 : a2 = b2
      · skip
        by_cases h3 : a3 = b3
        · simp [h0, h1, h2, h3]
        · have e3 : (a3 != b3) = true := by simp [h3]
          simp [h0, h1, h2, h3, e3]
      · simp [h0, h1, h2]
    · simp [h0, h1]
  · have e0 : (a0 == b0) = false := by cases a0 <;> cases b0 <;> simp_all
    simp [h0, e0]
theorem L17 (ia ga ca ib gb cb n l : Nat) (hn : n ≤ 2 ^ 40) : ∀ (r r' d d' : List Ru) (h : AH), d.length = d'.length → d.length + r.length = n → r.length = r'.length → h[ia]? = some (.row ga 4 (Ru.R (d ++ r))) → h[ib]? = some (.row gb 4 (Ru.R (d' ++ r'))) →
    ∃ h', L17_0 l (slV ia ga n ca) (slV ib gb n cb) (iV d.length) h = some (.ret (.bool (decide (r = r'))) h') ∧ Keep h.length h h' := by
  intro r
  induction r with
  | nil =>
    intro r' d d' h hd hk hr ea eb
    obtain rfl : r' = [] := by cases r' with | nil => rfl | cons _ _ => simp at hr
    simp only [List.length_nil, Nat.add_zero] at hk
    refine ⟨h, run_code Try.func17 rfl rfl ?_, Keep.refl _ _⟩
    have hlt : decide ((d.length : Int) < (n : Int)) = false := by rw [decide_eq_false_iff_not]; omega
    simp only [↓XX, ↓XD, ↓YX, ZB, Nat.reduceAdd, Nat.reducePow, ↓reduceIte, eq_self, Int.reduceEq, Nat.reduceEqDiff, Nat.reduceMul, Nat.reduceLeDiff, Try.f17, lenV, hlt, decide_true]
  | cons x r ih =>
    intro r' d d' h hd hk hr ea eb
    cases r' with
    | nil => simp at hr
    | cons y r' =>
      simp only [List.length_cons] at hk hr
      have hlt : decide ((d.length : Int) < (n : Int)) = true := by rw [decide_eq_true_iff]; omega
      have hia : ixAddr (slV ia ga n ca) (d.length : Int) 4 = some (pV ia (d.length * 4) ga) := by rw [ixAddr_sl (by omega)]; simp
      have hib : ixAddr (slV ib gb n cb) (d.length : Int) 4 = some (pV ib (d.length * 4) gb) := by rw [ixAddr_sl (by omega)]; simp
      have hla : ldN h (pV ia (d.length * 4) ga) 4 = some x.C := Ru.ldN ea
      have hlb : ldN h (pV ib (d.length * 4) gb) 4 = some y.C := by rw [hd]; exact Ru.ldN eb
      have hw : IntKind.i64.wrap ((d.length : Int) + 1) = (((d ++ [x]).length : Nat) : Int) := natCast_succ_wrap (by omega) (by simp)
      have h62 := r42 x y l h
      have kp : Keep h.length h (h ++ [.row 0 4 x.C] ++ [.row 0 4 y.C]) := (Keep.app _ _ (Nat.le_refl _)).trans (Keep.app _ _ (by simp))
      by_cases hq : x = y
      · rw [decide_eq_true hq] at h62
        obtain ⟨h', i1, i2⟩ := ih r' (d ++ [x]) (d' ++ [y]) (h ++ [.row 0 4 x.C] ++ [.row 0 4 y.C]) (by simp [hd]) (by simp; omega) (by omega) (by rw [kp.get ea (lt_of_get ea)]; simp) (by rw [kp.get eb (lt_of_get eb)]; simp)
        refine ⟨h', run_code Try.func17 rfl rfl ?_, kp.trans (i2.le kp.1)⟩
        simp (disch := (refine _root_.id ?_; kernel_rfl)) only [↓XX, ↓XD, ↓YX, ZB, Nat.reduceAdd, Nat.reducePow, ↓reduceIte, eq_self, Int.reduceEq, Nat.reduceEqDiff, Nat.reduceMul, Nat.reduceLeDiff, Try.f17, lenV, hlt, hia, hib, hla, hlb, h62, hw, Bool.not_true]
        rw [i1]; simp [hq]
      · rw [decide_eq_false hq] at h62
        refine ⟨_, run_code Try.func17 rfl rfl ?_, kp⟩
        simp (disch := (refine _root_.id ?_; kernel_rfl)) only [↓XX, ↓XD, ↓YX, ZB, Nat.reduceAdd, Nat.reducePow, ↓reduceIte, eq_self, Int.reduceEq, Nat.reduceEqDiff, Nat.reduceMul, Nat.reduceLeDiff, Try.f17, lenV, hlt, hia, hib, hla, hlb, h62, hw, Bool.not_false]
        simp [hq]
theorem r17 (ia ga ca ib gb cb l : Nat) (xs ys : List Ru) (h : AH) (hn : xs.length ≤ 2 ^ 40) (ea : h[ia]? = some (.row ga 4 (Ru.R xs))) (eb : h[ib]? = some (.row gb 4 (Ru.R ys))) :
    ∃ h', run V0 (.fn 17) l [S (slV ia ga xs.length ca), S (slV ib gb ys.length cb)] h = some (.ret (.bool (decide (xs = ys))) h') ∧ Keep h.length h h' := by
  by_cases hy : xs.length = ys.length
  · obtain ⟨h', i1, i2⟩ := L17 ia ga ca ib gb cb xs.length l hn xs ys [] [] h rfl (by simp) hy (by simpa using ea) (by simpa using eb)
    refine ⟨h', run_fn Try.func17 rfl rfl rfl rfl ?_, i2⟩
    have hb : ((xs.length : Int) != (ys.length : Int)) = false := by simp [hy]
    simp only [↓XX, ↓XD, ↓YX, ZB, Nat.reduceAdd, Nat.reducePow, ↓reduceIte, eq_self, Int.reduceEq, Nat.reduceEqDiff, Nat.reduceMul, Nat.reduceLeDiff, Try.f17, lenV, hb]
    rw [← hy]
    exact i1
  · refine ⟨h, run_fn Try.func17 rfl rfl rfl rfl ?_, Keep.refl _ _⟩
    have hb : ((xs.length : Int) != (ys.length : Int)) = true := by simp; omega
    have : xs ≠ ys := fun e => hy (by rw [e])
    simp only [↓XX, ↓XD, ↓YX, ZB, Nat.reduceAdd, Nat.reducePow, ↓reduceIte, eq_self, Int.reduceEq, Nat.reduceEqDiff, Nat.reduceMul, Nat.reduceLeDiff, Try.f17, lenV, hb]
    simp [this]
def Ru.sz (x : Ru) (k : Int) : Int :=
  if k - x.room.length < 0 then -1 else if k - x.room.length - x.user.length < 0 then -1 else k - x.room.length - x.user.length
def Ru.Fit (x : Ru) : Prop := x.room.length ≤ 2 ^ 60 ∧ x.user.length ≤ 2 ^ 60
def Ru.Fit63 (x : Ru) : Prop := x.room.length ≤ 9223372036854775807 ∧ x.user.length ≤ 9223372036854775807
theorem r36 (x : Ru) (hx : x.Fit63) (k : Int) (hk : 0 ≤ k ∧ k ≤ 2 ^ 40) (l : Nat) (h : AH) : run V0 (.fn 36) l [S x.V, S (iV k)] h = some (.ret (iV (x.sz k)) (h ++ [.row 0 4 x.C])) := by
  obtain ⟨x0, x1⟩ := hx
  obtain ⟨quiet, room, user, kind⟩ := x
  refine run_fn Try.func36 rfl rfl rfl rfl ?_
  simp only at x0 x1
  unfold Ru.sz
  simp only
  have w0 : IntKind.i64.wrap (k - ((B room).size : Int)) = k - (room.length : Int) := by rw [size_B, wrap64 (by omega)]
  by_cases h0 : k - (room.length : Int) < 0
  · have d0 : decide (k - (room.length : Int) < 0) = true := decide_eq_true h0
    simp only [↓XX, ↓XD, ↓YX, ZB, Nat.reduceAdd, Nat.reducePow, ↓reduceIte, eq_self, Int.reduceEq, Nat.reduceEqDiff, Nat.reduceMul, Nat.reduceLeDiff, Try.f36, ↓XH1, ↓XH2, ZC, eq_self, Nat.reduceLeDiff, w0, d0]
    simp [h0]
  · have d0 : decide (k - (room.length : Int) < 0) = false := decide_eq_false h0
    have w1 : IntKind.i64.wrap (k - (room.length : Int) - ((B user).size : Int)) = k - (room.length : Int) - (user.length : Int) := by rw [size_B, wrap64 (by omega)]
    by_cases h1 : k - (room.length : Int) - (user.length : Int) < 0
    · have d1 : decide (k - (room.length : Int) - (user.length : Int) < 0) = true := decide_eq_true h1
      simp only [↓XX, ↓XD, ↓YX, ZB, Nat.reduceAdd, Nat.reducePow, ↓reduceIte, eq_self, Int.reduceEq, Nat.reduceEqDiff, Nat.reduceMul, Nat.reduceLeDiff, Try.f36, ↓XH1, ↓XH2, ZC, eq_self, Nat.reduceLeDiff, w0, w1, d0, d1]
      simp [h0, h1]
    · have d1 : decide (k - (room.length : Int) - (user.length : Int) < 0) = false := decide_eq_false h1
      simp only [↓XX, ↓XD, ↓YX, ZB, Nat.reduceAdd, Nat.reducePow, ↓reduceIte, eq_self, Int.reduceEq, Nat.reduceEqDiff, Nat.reduceMul, Nat.reduceLeDiff, Try.f36, ↓XH1, ↓XH2, ZC, eq_self, Nat.reduceLeDiff, w0, w1, d0, d1]
      simp [h0, h1]
theorem Ru.sz_fit (x : Ru) (k : Int) (hk : 0 ≤ x.sz k) : (x.room.length : Int) + (x.user.length : Int) + x.sz k = k := by
  unfold Ru.sz at hk ⊢
  split at hk
  · omega
  split at hk
  · omega
  rw [if_neg ‹_›, if_neg ‹_›]; omega
theorem Ru.sz_le (x : Ru) (k : Int) (hk : 0 ≤ k) : x.sz k ≤ k ∧ -1 ≤ x.sz k := by
  unfold Ru.sz
  split
  · omega
  split
  · omega
  omega
def Ru.szL : List Ru → Int → Int
  | [], k => k
  | x :: r, k => if x.sz k < 0 then -1 else Ru.szL r (x.sz k)
theorem Ru.szL_fit : ∀ (xs : List Ru) (k : Int), 0 ≤ Ru.szL xs k → ∀ x ∈ xs, (x.room.length : Int) ≤ k ∧ (x.user.length : Int) ≤ k
  | [], _, _ => by simp
  | y :: xs, k, h => by
    simp only [Ru.szL] at h
    split at h
    · omega
    · rename_i q
      have e := Ru.sz_fit y k (by omega)
      intro x hx
      rcases List.mem_cons.1 hx with rfl | hx
      · omega
      · have := Ru.szL_fit xs _ h x hx; omega
theorem Ru.szL_le : ∀ (xs : List Ru) (k : Int), 0 ≤ k → Ru.szL xs k ≤ k
  | [], k, _ => Int.le_refl _
  | y :: xs, k, h => by
    simp only [Ru.szL]
    have e := Ru.sz_le y k h
    split
    · omega
    · have := Ru.szL_le xs (y.sz k) (by omega); omega
/-- .. its loop -/
theorem L11 (v : Value) (l : Nat) : ∀ (r d : List Ru) (k : Int) (h : AH), Ru.Rd h v (d ++ r) → (∀ x ∈ r, x.Fit63) → 0 ≤ k ∧ k ≤ 2 ^ 40 → d.length + r.length ≤ 2 ^ 60 →
    ∃ h', L11_0 l v (iV k) (iV d.length) h = some (.ret (iV (Ru.szL r k)) h') ∧ Keep h.length h h' := by
  intro r
  induction r with
  | nil =>
    intro d k h q hf hk hn
    have hlen := q.len
    have hlt : decide ((d.length : Int) < ((d ++ []).length : Int)) = false := by rw [decide_eq_false_iff_not, List.append_nil]; omega
    refine ⟨h, run_code Try.func11 rfl rfl ?_, Keep.refl _ _⟩
    simp only [↓XX, ↓XD, ↓YX, ZB, Nat.reduceAdd, Nat.reducePow, ↓reduceIte, eq_self, Int.reduceEq, Nat.reduceEqDiff, Nat.reduceMul, Nat.reduceLeDiff, Try.f11, hlen, hlt, Ru.szL]
  | cons x r ih =>
    intro d k h q hf hk hn
    have hlen := q.len
    obtain ⟨p, hp, hl⟩ := q.get
    simp only [List.length_cons] at hn
    have hlt : decide ((d.length : Int) < ((d ++ x :: r).length : Int)) = true := by rw [decide_eq_true_iff]; simp; omega
    have h55 := r36 x (hf x (by simp)) k (by omega) l h
    have hw : IntKind.i64.wrap ((d.length : Int) + 1) = (((d ++ [x]).length : Nat) : Int) := natCast_succ_wrap (by omega) (by simp)
    have kp : Keep h.length h (h ++ [.row 0 4 x.C]) := Keep.app _ _ (Nat.le_refl _)
    have hsz := Ru.sz_le x k hk.1
    by_cases hq : x.sz k < 0
    · refine ⟨_, run_code Try.func11 rfl rfl ?_, kp⟩
      have hd : decide (x.sz k < 0) = true := decide_eq_true hq
      simp only [↓XX, ↓XD, ↓YX, ZB, Nat.reduceAdd, Nat.reducePow, ↓reduceIte, eq_self, Int.reduceEq, Nat.reduceEqDiff, Nat.reduceMul, Nat.reduceLeDiff, Try.f11, hlen, hlt, hp, hl, h55, hd, Ru.szL]
      simp [hq]
    · obtain ⟨h', i1, i2⟩ := ih (d ++ [x]) (x.sz k) _ (by simpa using q.keep kp) (fun y hy => hf y (by simp [hy])) (by omega) (by simp; omega)
      refine ⟨h', run_code Try.func11 rfl rfl ?_, kp.trans (i2.le kp.1)⟩
      have hd : decide (x.sz k < 0) = false := decide_eq_false hq
      simp only [↓XX, ↓XD, ↓YX, ZB, Nat.reduceAdd, Nat.reducePow, ↓reduceIte, eq_self, Int.reduceEq, Nat.reduceEqDiff, Nat.reduceMul, Nat.reduceLeDiff, Try.f11, hlen, hlt, hp, hl, h55, hd, Ru.szL, hw]
      rw [i1, if_neg hq]
theorem r11 (v : Value) (l : Nat) (xs : List Ru) (h : AH) (q : Ru.Rd h v xs) (hf : ∀ x ∈ xs, x.Fit63) (hn : xs.length ≤ 9223372036854775807) (k : Int) (hk : 0 ≤ k ∧ k ≤ 2 ^ 40) :
    ∃ h' n, run V0 (.fn 11) l [S v, S (iV k)] h = some (.ret (iV n) h') ∧ Keep h.length h h' ∧ n ≤ k ∧ (0 ≤ n → (xs.length : Int) ≤ k ∧ 0 ≤ Ru.szL xs (k - xs.length)) := by
  have hlen := q.len
  have w1 : IntKind.i64.wrap (k - (xs.length : Int)) = k - xs.length := wrap64 (by omega)
  by_cases h0 : k - xs.length < 0
  · refine ⟨h, -1, run_fn Try.func11 rfl rfl rfl rfl ?_, Keep.refl _ _, by omega, by omega⟩
    have hd : decide (k - (xs.length : Int) < 0) = true := decide_eq_true h0
    simp only [↓XX, ↓XD, ↓YX, ZB, Nat.reduceAdd, Nat.reducePow, ↓reduceIte, eq_self, Int.reduceEq, Nat.reduceEqDiff, Nat.reduceMul, Nat.reduceLeDiff, Try.f11, hlen, w1, hd]
  · obtain ⟨h', i1, i2⟩ := L11 v l xs [] (k - xs.length) h (by simpa using q) hf (by omega) (by simp; omega)
    have hle := Ru.szL_le xs (k - xs.length) (by omega)
    refine ⟨h', _, run_fn Try.func11 rfl rfl rfl rfl ?_, i2, by omega, fun hz => ⟨by omega, hz⟩⟩
    have hd : decide (k - (xs.length : Int) < 0) = false := decide_eq_false h0
    simp only [↓XX, ↓XD, ↓YX, ZB, Nat.reduceAdd, Nat.reducePow, ↓reduceIte, eq_self, Int.reduceEq, Nat.reduceEqDiff, Nat.reduceMul, Nat.reduceLeDiff, Try.f11, hlen, w1, hd]
    exact i1
theorem r39 (x : Ru) (l : Nat) (h : AH) (hl : l ≤ h.length) : run V0 (.fn 39) l [S x.V] h = some (.ret x.V (h ++ [.row 0 4 x.C] ++ [.row 0 4 x.C] ++ [.row 0 4 x.C])) := by
  obtain ⟨x0, x1, x2, x3⟩ := x
  refine run_fn Try.func39 rfl rfl rfl rfl ?_
  have l1 : (l ≤ (h ++ [AObj.row 0 4 [Value.bool x0, sV x1, sV x2, iV x3]]).length) = True := by simp; omega
  have l2 : ∀ cs, (l ≤ (h ++ [AObj.row 0 4 [Value.bool x0, sV x1, sV x2, iV x3]] ++ [AObj.row 0 4 cs]).length) = True := by intro cs; simp; omega
  simp only [↓XX, ↓XD, ↓YX, ZB, Nat.reduceAdd, Nat.reducePow, ↓reduceIte, eq_self, Int.reduceEq, Nat.reduceEqDiff, Nat.reduceMul, Nat.reduceLeDiff, Try.f39, ↓XH1, ↓XH2, ZC, eq_self, Nat.reduceLeDiff, l1, l2]
/-- the copies: the loop -/
theorem L14 (v : Value) (l id n : Nat) (n0 : Nat) (hl : l ≤ id) (h0 : n0 ≤ id) (hn : n ≤ 2 ^ 40) : ∀ (r d : List Ru) (h : AH), d.length + r.length = n → Ru.Rd h v (d ++ r) → n0 ≤ h.length → (∀ i g c, v = .slice (some ⟨i, 0, some g⟩) n c → i < n0) → l ≤ h.length →
    h[id]? = some (.row 0 4 (Ru.R d ++ repL r.length [.bool false, sV [], sV [], iV 0])) →
    ∃ h', L14_0 l v (slV id 0 n n) (iV d.length) h = some (.ret (slV id 0 n n) h') ∧ h'[id]? = some (.row 0 4 (Ru.R (d ++ r))) ∧ Keep n0 h h' := by
  intro r
  induction r with
  | nil =>
    intro d h hk q hh hv hlh e
    have hlen := q.len
    have hlt : decide ((d.length : Int) < ((d ++ []).length : Int)) = false := by rw [decide_eq_false_iff_not, List.append_nil]; omega
    refine ⟨h, run_code Try.func14 rfl rfl ?_, by rw [e]; simp [repL], Keep.refl _ _⟩
    simp only [↓XX, ↓XD, ↓YX, ZB, Nat.reduceAdd, Nat.reducePow, ↓reduceIte, eq_self, Int.reduceEq, Nat.reduceEqDiff, Nat.reduceMul, Nat.reduceLeDiff, Try.f14, hlen, hlt]
  | cons x r ih =>
    intro d h hk q hh hv hlh e
    simp only [List.length_cons] at hk
    have hlen := q.len
    obtain ⟨p, hp, hld⟩ := q.get
    have hlt : decide ((d.length : Int) < ((d ++ x :: r).length : Int)) = true := by rw [decide_eq_true_iff]; simp; omega
    have h57 := r39 x l h hlh
    have hid := lt_of_get e
    have kp : Keep h.length h (h ++ [AObj.row 0 4 x.C] ++ [AObj.row 0 4 x.C] ++ [AObj.row 0 4 x.C]) := by
      rw [List.append_assoc, List.append_assoc]; exact Keep.app _ _ (Nat.le_refl _)
    have hix : ixAddr (slV id 0 n n) (d.length : Int) 4 = some (pV id (d.length * 4) 0) := by rw [ixAddr_sl (by omega)]; simp
    have hw : IntKind.i64.wrap ((d.length : Int) + 1) = (((d ++ [x]).length : Nat) : Int) := natCast_succ_wrap (by omega) (by simp)
    generalize hh1 : h ++ [AObj.row 0 4 x.C] ++ [AObj.row 0 4 x.C] ++ [AObj.row 0 4 x.C] = h1 at *
    have e1 := kp.get e hid
    have hst : stN l h1 (pV id (d.length * 4) 0) x.C = some (h1.set id (.row 0 4 (Ru.R (d ++ [x]) ++ repL r.length [.bool false, sV [], sV [], iV 0]))) := by
      rw [stN_of hl e1 (by rw [List.length_append, Ru.R_len]; simp [repL]; omega) rfl]
      have hrep : repL (r.length + 1) [.bool false, sV [], sV [], iV 0] = [.bool false, sV [], sV [], iV 0] ++ repL r.length [.bool false, sV [], sV [], iV 0] := by simp [repL, List.replicate_succ]
      have := setMany_mid (Ru.R d) [.bool false, sV [], sV [], iV 0] (repL r.length [.bool false, sV [], sV [], iV 0]) x.C rfl
      rw [Ru.R_len] at this
      simp only [List.length_cons]
      rw [hrep, Nat.mul_comm, this, Ru.R_app, Ru.R_cons]
      simp [Ru.R]
    have kp2 : Keep n0 h (h1.set id (.row 0 4 (Ru.R (d ++ [x]) ++ repL r.length [.bool false, sV [], sV [], iV 0]))) := (kp.le hh).trans (Keep.set _ _ _ h0)
    have q2 : Ru.Rd (h1.set id (.row 0 4 (Ru.R (d ++ [x]) ++ repL r.length [.bool false, sV [], sV [], iV 0]))) v ((d ++ [x]) ++ r) := by
      have hxs : (d ++ [x]) ++ r = d ++ x :: r := by simp
      rw [hxs]
      rcases q with q | ⟨i, g, c, hv', e'⟩
      · exact .inl q
      · refine .inr ⟨i, g, c, hv', kp2.get e' (hv i g c ?_)⟩
        rw [hv']
        have : (d ++ x :: r).length = n := by simp; omega
        rw [this]
    obtain ⟨h', i1, i2, i3⟩ := ih (d ++ [x]) _ (by simp; omega) q2 (by have := kp2.1; omega) hv (by have := kp2.1; omega) (get_set _ e1)
    refine ⟨h', run_code Try.func14 rfl rfl ?_, by rw [i2]; simp, kp2.trans i3⟩
    have hag : aggOf x.V = some x.C := rfl
    simp only [↓XX, ↓XD, ↓YX, ZB, Nat.reduceAdd, Nat.reducePow, ↓reduceIte, eq_self, Int.reduceEq, Nat.reduceEqDiff, Nat.reduceMul, Nat.reduceLeDiff, Try.f14, hlen, hlt, hp, hld, h57, hix, hag, hst, hw]
    exact i1
theorem r14 (v : Value) (l : Nat) (xs : List Ru) (h : AH) (q : Ru.Rd h v xs) (hn : xs.length ≤ 2 ^ 30) (hl : l ≤ h.length) :
    ∃ id h', run V0 (.fn 14) l [S v] h = some (.ret (slV id 0 xs.length xs.length) h') ∧ h'[id]? = some (.row 0 4 (Ru.R xs)) ∧ h.length ≤ id ∧ Keep h.length h h' := by
  have hlen := q.len
  have kp : Keep h.length h (h ++ [AObj.row 0 4 (repL xs.length [.bool false, sV [], sV [], iV 0])]) := Keep.app _ _ (Nat.le_refl _)
  obtain ⟨h', i1, i2, i3⟩ := L14 v l h.length xs.length h.length hl (Nat.le_refl _) (by omega) xs [] (h ++ [AObj.row 0 4 (repL xs.length [.bool false, sV [], sV [], iV 0])]) (by simp) (q.keep kp) (by simp)
    (fun i g c hv => by
      rcases q with ⟨q, _⟩ | ⟨i', g', c', q, e⟩
      · rw [q] at hv; cases hv
      · rw [q] at hv; cases hv; exact lt_of_get e) (by simp; omega) (by simp [Ru.R])
  refine ⟨h.length, h', run_fn Try.func14 rfl rfl rfl rfl ?_, i2, Nat.le_refl _, kp.trans i3⟩
  have hm : (0 ≤ (xs.length : Int) ∧ (xs.length : Int) ≤ (xs.length : Int) ∧ (xs.length : Int) ≤ 9223372036854775807 ∧ ((48 : Nat) : Int) * (xs.length : Int) ≤ 2 ^ 47) = True := eq_true (by omega)
  simp only [↓XX, ↓XD, ↓YX, ZB, Nat.reduceAdd, Nat.reducePow, ↓reduceIte, eq_self, Int.reduceEq, Nat.reduceEqDiff, Nat.reduceMul, Nat.reduceLeDiff, Try.f14, hlen, hm, if_true, Int.toNat_natCast, newS]
  exact i1
/-! ### En: a struct of plain cells -/
def En.sz (x : En) (k : Int) : Int :=
  if k - x.room.length < 0 then -1 else if k - x.room.length - x.user.length < 0 then -1 else if k - x.room.length - x.user.length - x.nick.length < 0 then -1 else if k - x.room.length - x.user.length - x.nick.length - x.text.length < 0 then -1 else if k - x.room.length - x.user.length - x.nick.length - x.text.length - x.id.length < 0 then -1 else if k - x.room.length - x.user.length - x.nick.length - x.text.length - x.id.length - x.ref.length < 0 then -1 else k - x.room.length - x.user.length - x.nick.length - x.text.length - x.id.length - x.ref.length
def En.Fit (x : En) : Prop := x.room.length ≤ 2 ^ 60 ∧ x.user.length ≤ 2 ^ 60 ∧ x.nick.length ≤ 2 ^ 60 ∧ x.text.length ≤ 2 ^ 60 ∧ x.id.length ≤ 2 ^ 60 ∧ x.ref.length ≤ 2 ^ 60
def En.Fit63 (x : En) : Prop := x.room.length ≤ 9223372036854775807 ∧ x.user.length ≤ 9223372036854775807 ∧ x.nick.length ≤ 9223372036854775807 ∧ x.text.length ≤ 9223372036854775807 ∧ x.id.length ≤ 9223372036854775807 ∧ x.ref.length ≤ 9223372036854775807
theorem r12 (x : En) (hx : x.Fit63) (k : Int) (hk : 0 ≤ k ∧ k ≤ 2 ^ 40) (l : Nat) (h : AH) : run V0 (.fn 12) l [S x.V, S (iV k)] h = some (.ret (iV (x.sz k)) (h ++ [.row 0 9 x.C])) := by
  obtain ⟨x0, x1, x2, x3, x4, x5⟩ := hx
  obtain ⟨room, seq, kind, user, nick, text, id, ref, num⟩ := x
  refine run_fn Try.func12 rfl rfl rfl rfl ?_
  simp only at x0 x1 x2 x3 x4 x5
  unfold En.sz
  simp only
  have w0 : IntKind.i64.wrap (k - ((B room).size : Int)) = k - (room.length : Int) := by rw [size_B, wrap64 (by omega)]
  by_cases h0 : k - (room.length : Int) < 0
  · have d0 : decide (k - (room.length : Int) < 0) = true := decide_eq_true h0
    simp only [↓XX, ↓XD, ↓YX, ZB, Nat.reduceAdd, Nat.reducePow, ↓reduceIte, eq_self, Int.reduceEq, Nat.reduceEqDiff, Nat.reduceMul, Nat.reduceLeDiff, Try.f12, ↓XH1, ↓XH2, ZC, eq_self, Nat.reduceLeDiff, w0, d0]
    simp [h0]
  · have d0 : decide (k - (room.length : Int) < 0) = false := decide_eq_false h0
    have w1 : IntKind.i64.wrap (k - (room.length : Int) - ((B user).size : Int)) = k - (room.length : Int) - (user.length : Int) := by rw [size_B, wrap64 (by omega)]
    by_cases h1 : k - (room.length : Int) - (user.length : Int) < 0
    · have d1 : decide (k - (room.length : Int) - (user.length : Int) < 0) = true := decide_eq_true h1
      simp only [↓XX, ↓XD, ↓YX, ZB, Nat.reduceAdd, Nat.reducePow, ↓reduceIte, eq_self, Int.reduceEq, Nat.reduceEqDiff, Nat.reduceMul, Nat.reduceLeDiff, Try.f12, ↓XH1, ↓XH2, ZC, eq_self, Nat.reduceLeDiff, w0, w1, d0, d1]
      simp [h0, h1]
    · have d1 : decide (k - (room.length : Int) - (user.length : Int) < 0) = false := decide_eq_false h1
      have w2 : IntKind.i64.wrap (k - (room.length : Int) - (user.length : Int) - ((B nick).size : Int)) = k - (room.length : Int) - (user.length : Int) - (nick.length : Int) := by rw [size_B, wrap64 (by omega)]
      by_cases h2 : k - (room.length : Int) - (user.length : Int) - (nick.length : Int) < 0
      · have d2 : decide (k - (room.length : Int) - (user.length : Int) - (nick.length : Int) < 0) = true := decide_eq_true h2
        simp only [↓XX, ↓XD, ↓YX, ZB, Nat.reduceAdd, Nat.reducePow, ↓reduceIte, eq_self, Int.reduceEq, Nat.reduceEqDiff, Nat.reduceMul, Nat.reduceLeDiff, Try.f12, ↓XH1, ↓XH2, ZC, eq_self, Nat.reduceLeDiff, w0, w1, w2, d0, d1, d2]
        simp [h0, h1, h2]
      · have d2 : decide (k - (room.length : Int) - (user.length : Int) - (nick.length : Int) < 0) = false := decide_eq_false h2
        have w3 : IntKind.i64.wrap (k - (room.length : Int) - (user.length : Int) - (nick.length : Int) - ((B text).size : Int)) = k - (room.length : Int) - (user.length : Int) - (nick.length : Int) - (text.length : Int) := by rw [size_B, wrap64 (by omega)]
        by_cases h3 : k - (room.length : Int) - (user.length : Int) - (nick.length : Int) - (text.length : Int) < 0
        · have d3 : decide (k - (room.length : Int) - (user.length : Int) - (nick.length : Int) - (text.length : Int) < 0) = true := decide_eq_true h3
          simp only [↓XX, ↓XD, ↓YX, ZB, Nat.reduceAdd, Nat.reducePow, ↓reduceIte, eq_self, Int.reduceEq, Nat.reduceEqDiff, Nat.reduceMul, Nat.reduceLeDiff, Try.f12, ↓XH1, ↓XH2, ZC, eq_self, Nat.reduceLeDiff, w0, w1, w2, w3, d0, d1, d2, d3]
          simp [h0, h1, h2, h3]
        · have d3 : decide (k - (room.length : Int) - (user.length : Int) - (nick.length : Int) - (text.length : Int) < 0) = false := decide_eq_false h3
          have w4 : IntKind.i64.wrap (k - (room.length : Int) - (user.length : Int) - (nick.length : Int) - (text.length : Int) - ((B id).size : Int)) = k - (room.length : Int) - (user.length : Int) - (nick.length : Int) - (text.length : Int) - (id.length : Int) := by rw [size_B, wrap64 (by omega)]
          by_cases h4 : k - (room.length : Int) - (user.length : Int) - (nick.length : Int) - (text.length : Int) - (id.length : Int) < 0
          · have d4 : decide (k - (room.length : Int) - (user.length : Int) - (nick.length : Int) - (text.length : Int) - (id.length : Int) < 0) = true := decide_eq_true h4
            simp only [↓XX, ↓XD, ↓YX, ZB, Nat.reduceAdd, Nat.reducePow, ↓reduceIte, eq_self, Int.reduceEq, Nat.reduceEqDiff, Nat.reduceMul, Nat.reduceLeDiff, Try.f12, ↓XH1, ↓XH2, ZC, eq_self, Nat.reduceLeDiff, w0, w1, w2, w3, w4, d0, d1, d2, d3, d4]
            simp [h0, h1, h2, h3, h4]
          · have d4 : decide (k - (room.length : Int) - (user.length : Int) - (nick.length : Int) - (text.length : Int) - (id.length : Int) < 0) = false := decide_eq_false h4
            have w5 : IntKind.i64.wrap (k - (room.length : Int) - (user.length : Int) - (nick.length : Int) - (text.length : Int) - (id.length : Int) - ((B ref).size : Int)) = k - (room.length : Int) - (user.length : Int) - (nick.length : Int) - (text.length : Int) - (id.length : Int) - (ref.length : Int) := by rw [size_B, wrap64 (by omega)]
            by_cases h5 : k - (room.length : Int) - (user.length : Int) - (nick.length : Int) - (text.length : Int) - (id.length : Int) - (ref.length : Int) < 0
            · have d5 : decide (k - (room.length : Int) - (user.length : Int) - (nick.length : Int) - (text.length : Int) - (id.length : Int) - (ref.length : Int) < 0) = true := decide_eq_true h5
              simp only [↓XX, ↓XD, ↓YX, ZB, Nat.reduceAdd, Nat.reducePow, ↓reduceIte, eq_self, Int.reduceEq, Nat.reduceEqDiff, Nat.reduceMul, Nat.reduceLeDiff, Try.f12, ↓XH1, ↓XH2, ZC, eq_self, Nat.reduceLeDiff, w0, w1, w2, w3, w4, w5, d0, d1, d2, d3, d4, d5]
              simp [h0, h1, h2, h3, h4, h5]
            · have d5 : decide (k - (room.length : Int) - (user.length : Int) - (nick.length : Int) - (text.length : Int) - (id.length : Int) - (ref.length : Int) < 0) = false := decide_eq_false h5
              simp only [↓XX, ↓XD, ↓YX, ZB, Nat.reduceAdd, Nat.reducePow, ↓reduceIte, eq_self, Int.reduceEq, Nat.reduceEqDiff, Nat.reduceMul, Nat.reduceLeDiff, Try.f12, ↓XH1, ↓XH2, ZC, eq_self, Nat.reduceLeDiff, w0, w1, w2, w3, w4, w5, d0, d1, d2, d3, d4, d5]
              simp [h0, h1, h2, h3, h4, h5]
theorem En.sz_fit (x : En) (k : Int) (hk : 0 ≤ x.sz k) : (x.room.length : Int) + (x.user.length : Int) + (x.nick.length : Int) + (x.text.length : Int) + (x.id.length : Int) + (x.ref.length : Int) + x.sz k = k := by
  unfold En.sz at hk ⊢
  split at hk
  · omega
  split at hk
  · omega
  split at hk
  · omega
  split at hk
  · omega
  split at hk
  · omega
  split at hk
  · omega
  rw [if_neg ‹_›, if_neg ‹_›, if_neg ‹_›, if_neg ‹_›, if_neg ‹_›, if_neg ‹_›]; omega
theorem En.sz_le (x : En) (k : Int) (hk : 0 ≤ k) : x.sz k ≤ k ∧ -1 ≤ x.sz k := by
  unfold En.sz
  split
  · omega
  split
  · omega
  split
  · omega
  split
  · omega
  split
  · omega
  split
  · omega
  omega
theorem r15 (x : En) (l : Nat) (h : AH) (hl : l ≤ h.length) : run V0 (.fn 15) l [S x.V] h = some (.ret x.V (h ++ [.row 0 9 x.C] ++ [.row 0 9 x.C] ++ [.row 0 9 x.C])) := by
  obtain ⟨x0, x1, x2, x3, x4, x5, x6, x7, x8⟩ := x
  refine run_fn Try.func15 rfl rfl rfl rfl ?_
  have l1 : (l ≤ (h ++ [AObj.row 0 9 [sV x0, iV x1, iV x2, sV x3, sV x4, sV x5, sV x6, sV x7, iV x8]]).length) = True := by simp; omega
  have l2 : ∀ cs, (l ≤ (h ++ [AObj.row 0 9 [sV x0, iV x1, iV x2, sV x3, sV x4, sV x5, sV x6, sV x7, iV x8]] ++ [AObj.row 0 9 cs]).length) = True := by intro cs; simp; omega
  simp only [↓XX, ↓XD, ↓YX, ZB, Nat.reduceAdd, Nat.reducePow, ↓reduceIte, eq_self, Int.reduceEq, Nat.reduceEqDiff, Nat.reduceMul, Nat.reduceLeDiff, Try.f15, ↓XH1, ↓XH2, ZC, eq_self, Nat.reduceLeDiff, l1, l2]
end Go.Abs
namespace Go.Abs
open Go.Proofs
set_option maxRecDepth 100000
set_option linter.unusedSimpArgs false
set_option pp.maxSteps 20000

def smlI (n : Int) : Bool := decide (97 ≤ n) && decide (n ≤ 122) || decide (48 ≤ n) && decide (n ≤ 57)
theorem r108 (n : Int) (l : Nat) (h : AH) : run V0 (.fn 108) l [S (.int .u8 n)] h = some (.ret (.bool (inI n 48 57)) h) := by
  refine run_fn Try.func108 rfl rfl rfl rfl ?_
  simp only [↓XX, ↓XD, ↓YX, ZB, Nat.reduceAdd, Nat.reducePow, ↓reduceIte, eq_self, Int.reduceEq, Nat.reduceEqDiff, Nat.reduceMul, Nat.reduceLeDiff, Try.f108]
  unfold inI
  cases decide (48 ≤ n) <;> rfl
theorem r68 (n a b : Int) (l : Nat) (h : AH) : run V0 (.fn 68) l [S (iV n), S (iV a), S (iV b)] h = some (.ret (.bool (inI n a b)) h) := by
  refine run_fn Try.func68 rfl rfl rfl rfl ?_
  simp only [↓XX, ↓XD, ↓YX, ZB, Nat.reduceAdd, Nat.reducePow, ↓reduceIte, eq_self, Int.reduceEq, Nat.reduceEqDiff, Nat.reduceMul, Nat.reduceLeDiff, Try.f68]
  unfold inI
  cases decide (a ≤ n) <;> rfl
theorem r89 (n a b : Int) (l : Nat) (h : AH) : run V0 (.fn 89) l [S (iV n), S (iV a), S (iV b)] h = some (.ret (.bool (inI n a b)) h) := by
  refine run_fn Try.func89 rfl rfl rfl rfl ?_
  simp only [↓XX, ↓XD, ↓YX, ZB, Nat.reduceAdd, Nat.reducePow, ↓reduceIte, eq_self, Int.reduceEq, Nat.reduceEqDiff, Nat.reduceMul, Nat.reduceLeDiff, Try.f89]
  unfold inI
  cases decide (a ≤ n) <;> rfl
theorem r90 (n : Int) (l : Nat) (h : AH) : run V0 (.fn 90) l [S (.int .u8 n)] h = some (.ret (.bool (smlI n)) h) := by
  refine run_fn Try.func90 rfl rfl rfl rfl ?_
  simp only [↓XX, ↓XD, ↓YX, ZB, Nat.reduceAdd, Nat.reducePow, ↓reduceIte, eq_self, Int.reduceEq, Nat.reduceEqDiff, Nat.reduceMul, Nat.reduceLeDiff, Try.f90]
  unfold smlI
  cases decide (97 ≤ n) <;> cases decide (n ≤ 122) <;> cases decide (48 ≤ n) <;> rfl
theorem r99 (n : Int) (l : Nat) (h : AH) : run V0 (.fn 99) l [S (.int .u8 n)] h = some (.ret (.bool (smlI n)) h) := by
  refine run_fn Try.func99 rfl rfl rfl rfl ?_
  simp only [↓XX, ↓XD, ↓YX, ZB, Nat.reduceAdd, Nat.reducePow, ↓reduceIte, eq_self, Int.reduceEq, Nat.reduceEqDiff, Nat.reduceMul, Nat.reduceLeDiff, Try.f99, r108, inI]
  unfold smlI
  cases decide (97 ≤ n) <;> cases decide (n ≤ 122) <;> cases decide (48 ≤ n) <;> cases decide (n ≤ 57) <;> rfl
def usrI (n : Int) : Bool := smlI n || n == 45 || n == 46 || n == 95
def userOkL (s : Bs) : Bool := s.all (fun b => usrI b.toNat) && inI s.length 1 8
/-- impl.userOk: its loop -/
theorem L67 (s : Bs) (hs : s.length ≤ 2 ^ 60) (l id : Nat) (h : AH) (e : h[id]? = some (.row 0 25769803777 (u8c s))) : ∀ (r d : Bs), s = d ++ r →
    L67_0 l (sV s) (slV id 0 s.length s.length) (iV s.length) (iV d.length) h = some (.ret (.bool (r.all (fun b => usrI b.toNat) && inI s.length 1 8)) h) := by
  intro r
  induction r with
  | nil =>
    intro d hk
    rw [List.append_nil] at hk
    have hlt : decide ((d.length : Int) < (s.length : Int)) = false := by rw [decide_eq_false_iff_not, hk]; omega
    refine run_code Try.func67 rfl rfl ?_
    simp only [↓XX, ↓XD, ↓YX, ZB, Nat.reduceAdd, Nat.reducePow, ↓reduceIte, eq_self, Int.reduceEq, Nat.reduceEqDiff, Nat.reduceMul, Nat.reduceLeDiff, Try.f67, hlt, r68, size_B]
    rfl
  | cons b r ih =>
    intro d hk
    have hlen : d.length + 1 ≤ s.length := by rw [hk]; simp
    have hlt : decide ((d.length : Int) < (s.length : Int)) = true := by rw [decide_eq_true_iff]; omega
    have hix : ixAddr (slV id 0 s.length s.length) (d.length : Int) 1 = some (pV id d.length 0) := by rw [ixAddr_sl (by omega)]; simp
    have hld : ld h (pV id d.length 0) = some (.int .u8 b.toNat) := ld_of e (by rw [hk]; exact u8c_get d b r)
    have hw : IntKind.i64.wrap ((d.length : Int) + 1) = (((d ++ [b]).length : Nat) : Int) := natCast_succ_wrap (by omega) (by simp)
    have ih' := ih (d ++ [b]) (by rw [hk]; simp)
    refine run_code Try.func67 rfl rfl ?_
    simp only [↓XX, ↓XD, ↓YX, ZB, Nat.reduceAdd, Nat.reducePow, ↓reduceIte, eq_self, Int.reduceEq, Nat.reduceEqDiff, Nat.reduceMul, Nat.reduceLeDiff, Try.f67, hlt, hix, hld, r90, hw, bne]
    simp only [List.all_cons, usrI]
    cases smlI (b.toNat : Int) with
    | true => simp only [Bool.not_true, Bool.true_or, Bool.true_and]; exact ih'
    | false =>
      cases ((b.toNat : Int) == 45) with
      | true => simp only [Bool.not_true, Bool.not_false, Bool.true_or, Bool.or_true, Bool.false_or, Bool.true_and]; exact ih'
      | false =>
        cases ((b.toNat : Int) == 46) with
        | true => simp only [Bool.not_true, Bool.not_false, Bool.true_or, Bool.or_true, Bool.false_or, Bool.true_and]; exact ih'
        | false =>
          cases ((b.toNat : Int) == 95) with
          | true => simp only [Bool.not_true, Bool.not_false, Bool.true_or, Bool.or_true, Bool.false_or, Bool.true_and]; exact ih'
          | false => rfl
theorem r67 (s : Bs) (hs : s.length ≤ 2 ^ 60) (l : Nat) (h : AH) : ∃ h', run V0 (.fn 67) l [S (sV s)] h = some (.ret (.bool (userOkL s)) h') ∧ Keep h.length h h' := by
  refine ⟨h ++ [.row 0 25769803777 (u8c s)], run_fn Try.func67 rfl rfl rfl rfl ?_, Keep.app _ _ (Nat.le_refl _)⟩
  simp only [↓XX, ↓XD, ↓YX, ZB, Nat.reduceAdd, Nat.reducePow, ↓reduceIte, eq_self, Int.reduceEq, Nat.reduceEqDiff, Nat.reduceMul, Nat.reduceLeDiff, Try.f67, lenV, newS]
  exact L67 s hs l h.length _ (by rw [List.getElem?_append_right (Nat.le_refl _)]; simp [u8c, B]) s [] rfl
/-- spec.l4User: its loop -/
theorem L88 (s : Bs) (hs : s.length ≤ 2 ^ 60) (l : Nat) (h : AH) : ∀ (r d : Bs), s = d ++ r →
    L88_0 l (sV s) (iV d.length) h = some (.ret (.bool (r.all (fun b => usrI b.toNat) && inI s.length 1 8)) h) := by
  intro r
  induction r with
  | nil =>
    intro d hk
    rw [List.append_nil] at hk
    have hlt : decide ((d.length : Int) < ((B s).size : Int)) = false := by rw [decide_eq_false_iff_not, size_B, hk]; omega
    refine run_code Try.func88 rfl rfl ?_
    simp only [↓XX, ↓XD, ↓YX, ZB, Nat.reduceAdd, Nat.reducePow, ↓reduceIte, eq_self, Int.reduceEq, Nat.reduceEqDiff, Nat.reduceMul, Nat.reduceLeDiff, Try.f88, hlt, r89]
    rfl
  | cons b r ih =>
    intro d hk
    have hlen : d.length + 1 ≤ s.length := by rw [hk]; simp
    have hlt : decide ((d.length : Int) < ((B s).size : Int)) = true := by rw [decide_eq_true_iff, size_B]; omega
    have hat : strAt (B s) (d.length : Int) = some (b.toNat : Int) := by rw [hk]; exact strAt_mid d b r
    have hw : IntKind.i64.wrap ((d.length : Int) + 1) = (((d ++ [b]).length : Nat) : Int) := natCast_succ_wrap (by omega) (by simp)
    have ih' := ih (d ++ [b]) (by rw [hk]; simp)
    refine run_code Try.func88 rfl rfl ?_
    simp only [↓XX, ↓XD, ↓YX, ZB, Nat.reduceAdd, Nat.reducePow, ↓reduceIte, eq_self, Int.reduceEq, Nat.reduceEqDiff, Nat.reduceMul, Nat.reduceLeDiff, Try.f88, hlt, hat, r99, hw, bne]
    simp only [List.all_cons, usrI]
    cases smlI (b.toNat : Int) with
    | true => simp only [Bool.not_true, Bool.true_or, Bool.true_and]; exact ih'
    | false =>
      cases ((b.toNat : Int) == 45) with
      | true => simp only [Bool.not_true, Bool.not_false, Bool.true_or, Bool.or_true, Bool.false_or, Bool.true_and]; exact ih'
      | false =>
        cases ((b.toNat : Int) == 46) with
        | true => simp only [Bool.not_true, Bool.not_false, Bool.true_or, Bool.or_true, Bool.false_or, Bool.true_and]; exact ih'
        | false =>
          cases ((b.toNat : Int) == 95) with
          | true => simp only [Bool.not_true, Bool.not_false, Bool.true_or, Bool.or_true, Bool.false_or, Bool.true_and]; exact ih'
          | false => rfl
theorem r88 (s : Bs) (hs : s.length ≤ 2 ^ 60) (l : Nat) (h : AH) : run V0 (.fn 88) l [S (sV s)] h = some (.ret (.bool (userOkL s)) h) := by
  refine run_fn Try.func88 rfl rfl rfl rfl ?_
  simp only [↓XX, ↓XD, ↓YX, ZB, Nat.reduceAdd, Nat.reducePow, ↓reduceIte, eq_self, Int.reduceEq, Nat.reduceEqDiff, Nat.reduceMul, Nat.reduceLeDiff, Try.f88]
  exact L88 s hs l h s [] rfl
/-! ### rules -/
def orEm (s : Bs) : Bool := decide (s = []) || userOkL s
def ruOk (x : Ru) : Bool := orEm x.room && orEm x.user && inI x.kind 0 6
theorem r66 (s : Bs) (hs : s.length ≤ 2 ^ 60) (l : Nat) (h : AH) : ∃ h', run V0 (.fn 66) l [S (sV s), S (fnV 67)] h = some (.ret (.bool (orEm s)) h') ∧ Keep h.length h h' := by
  obtain ⟨h1, a1, k1⟩ := r67 s hs l h
  unfold orEm
  cases q : decide (s = []) with
  | true =>
    refine ⟨h, run_fn Try.func66 rfl rfl rfl rfl ?_, Keep.refl _ _⟩
    simp only [↓XX, ↓XD, ↓YX, ZB, Nat.reduceAdd, Nat.reducePow, ↓reduceIte, eq_self, Int.reduceEq, Nat.reduceEqDiff, Nat.reduceMul, Nat.reduceLeDiff, Try.f66, eqB, q]
  | false =>
    refine ⟨h1, run_fn Try.func66 rfl rfl rfl rfl ?_, k1⟩
    simp only [↓XX, ↓XD, ↓YX, ZB, Nat.reduceAdd, Nat.reducePow, ↓reduceIte, eq_self, Int.reduceEq, Nat.reduceEqDiff, Nat.reduceMul, Nat.reduceLeDiff, Try.f66, eqB, q, a1]
theorem r65 (x : Ru) (hx : x.Fit) (l : Nat) (h : AH) : ∃ h', run V0 (.fn 65) l [S x.V] h = some (.ret (.bool (!ruOk x)) h') ∧ Keep h.length h h' := by
  obtain ⟨x1, x2⟩ := hx
  have k0 : Keep h.length h (h ++ [.row 0 4 x.C]) := Keep.app _ _ (Nat.le_refl _)
  have e0 : (h ++ [AObj.row 0 4 x.C])[h.length]? = some (.row 0 4 x.C) := by simp
  obtain ⟨h1, a1, k1⟩ := r66 x.room x1 l (h ++ [.row 0 4 x.C])
  have e1 := k1.get e0 (lt_of_get e0)
  obtain ⟨h2, a2, k2⟩ := r66 x.user x2 l h1
  have e2 := k2.get e1 (lt_of_get e1)
  have kk1 := k0.trans (k1.le k0.1)
  have kk2 := kk1.trans (k2.le kk1.1)
  have m1 : ld h1 (pV h.length 2 0) = some (sV x.user) := ld_of e1 rfl
  have m3 : ld h1 (pV h.length 3 0) = some (iV x.kind) := ld_of e1 rfl
  have n3 : ld h2 (pV h.length 3 0) = some (iV x.kind) := ld_of e2 rfl
  have b1 : ld (h ++ [.row 0 4 x.C]) (pV h.length 1 0) = some (sV x.room) := ld_of e0 rfl
  have ha : ∀ k, addOff (pV h.length 0 0) k = some (pV h.length (0 + k) 0) := fun _ => rfl
  have hp : newP h = pV h.length 0 0 := rfl
  unfold ruOk
  cases q1 : orEm x.room with
  | false =>
    rw [q1] at a1
    refine ⟨h1, run_fn Try.func65 rfl rfl rfl rfl ?_, kk1⟩
    simp only [↓XX, ↓XD, ↓YX, ZB, Nat.reduceAdd, Nat.reducePow, ↓reduceIte, eq_self, Int.reduceEq, Nat.reduceEqDiff, Nat.reduceMul, Nat.reduceLeDiff, Try.f65, hp, ha, b1, a1, m1, m3, Bool.not_false, Bool.false_and]
  | true =>
    rw [q1] at a1
    cases q2 : orEm x.user with
    | false =>
      rw [q2] at a2
      refine ⟨h2, run_fn Try.func65 rfl rfl rfl rfl ?_, kk2⟩
      simp only [↓XX, ↓XD, ↓YX, ZB, Nat.reduceAdd, Nat.reducePow, ↓reduceIte, eq_self, Int.reduceEq, Nat.reduceEqDiff, Nat.reduceMul, Nat.reduceLeDiff, Try.f65, hp, ha, b1, a1, m1, a2, n3, Bool.not_false, Bool.not_true, Bool.false_and, Bool.and_false]
    | true =>
      rw [q2] at a2
      refine ⟨h2, run_fn Try.func65 rfl rfl rfl rfl ?_, kk2⟩
      simp only [↓XX, ↓XD, ↓YX, ZB, Nat.reduceAdd, Nat.reducePow, ↓reduceIte, eq_self, Int.reduceEq, Nat.reduceEqDiff, Nat.reduceMul, Nat.reduceLeDiff, Try.f65, hp, ha, b1, a1, m1, a2, n3, r68, Bool.not_true, Bool.and_self, Bool.true_and]
theorem r63 (x : Ru) (hx : x.Fit) (l : Nat) (h : AH) : run V0 (.fn 63) l [S x.V] h = some (.ret (.bool (ruOk x)) (h ++ [.row 0 4 x.C])) := by
  obtain ⟨x1, x2⟩ := hx
  obtain ⟨xq, xr, xu, xk⟩ := x
  simp only at x1 x2
  refine run_fn Try.func63 rfl rfl rfl rfl ?_
  have e1 := fun l h => r88 xr x1 l h
  have e2 := fun l h => r88 xu x2 l h
  simp only [↓XX, ↓XD, ↓YX, ZB, Nat.reduceAdd, Nat.reducePow, ↓reduceIte, eq_self, Int.reduceEq, Nat.reduceEqDiff, Nat.reduceMul, Nat.reduceLeDiff, Try.f63, ↓XH1, ↓XH2, ZC, eq_self, Nat.reduceLeDiff, eqB, e1, e2, r89]
  unfold ruOk orEm
  simp only
  cases decide (xr = []) <;> cases userOkL xr <;> cases decide (xu = []) <;> cases userOkL xu <;> rfl
end Go.Abs
namespace Go.Abs
open Go.Proofs
set_option maxRecDepth 100000
set_option linter.unusedSimpArgs false
set_option pp.maxSteps 20000

/-- spec.l17AllOk: its loop -/
theorem L37 (id g c n l : Nat) (hn : n ≤ 2 ^ 40) : ∀ (r d : List Ru) (h : AH), d.length + r.length = n → (∀ x ∈ r, x.Fit) → h[id]? = some (.row g 4 (Ru.R (d ++ r))) →
    ∃ h', L37_0 l (slV id g n c) (iV d.length) h = some (.ret (.bool (r.all ruOk && decide ((n : Int) ≤ 8))) h') ∧ Keep h.length h h' := by
  intro r
  induction r with
  | nil =>
    intro d h hk hf e
    simp only [List.length_nil, Nat.add_zero] at hk
    have hlt : decide ((d.length : Int) < (n : Int)) = false := by rw [decide_eq_false_iff_not]; omega
    refine ⟨h, run_code Try.func37 rfl rfl ?_, Keep.refl _ _⟩
    simp only [↓XX, ↓XD, ↓YX, ZB, Nat.reduceAdd, Nat.reducePow, ↓reduceIte, eq_self, Int.reduceEq, Nat.reduceEqDiff, Nat.reduceMul, Nat.reduceLeDiff, Try.f37, lenV, hlt, List.all_nil, Bool.true_and]
  | cons x r ih =>
    intro d h hk hf e
    simp only [List.length_cons] at hk
    have hlt : decide ((d.length : Int) < (n : Int)) = true := by rw [decide_eq_true_iff]; omega
    have hix : ixAddr (slV id g n c) (d.length : Int) 4 = some (pV id (d.length * 4) g) := by rw [ixAddr_sl (by omega)]; simp
    have hld : ldN h (pV id (d.length * 4) g) 4 = some x.C := Ru.ldN e
    have hw : IntKind.i64.wrap ((d.length : Int) + 1) = (((d ++ [x]).length : Nat) : Int) := natCast_succ_wrap (by omega) (by simp)
    have h88 := r63 x (hf x (by simp)) l h
    have kp : Keep h.length h (h ++ [.row 0 4 x.C]) := Keep.app _ _ (Nat.le_refl _)
    cases hq : ruOk x with
    | false =>
      rw [hq] at h88
      refine ⟨_, run_code Try.func37 rfl rfl ?_, kp⟩
      simp only [↓XX, ↓XD, ↓YX, ZB, Nat.reduceAdd, Nat.reducePow, ↓reduceIte, eq_self, Int.reduceEq, Nat.reduceEqDiff, Nat.reduceMul, Nat.reduceLeDiff, Try.f37, lenV, hlt, hix, hld, h88, Bool.not_false, List.all_cons, hq, Bool.false_and]
    | true =>
      rw [hq] at h88
      obtain ⟨h', i1, i2⟩ := ih (d ++ [x]) _ (by simp; omega) (fun y hy => hf y (by simp [hy])) (by rw [kp.get e (lt_of_get e)]; simp)
      refine ⟨h', run_code Try.func37 rfl rfl ?_, kp.trans (i2.le kp.1)⟩
      simp only [↓XX, ↓XD, ↓YX, ZB, Nat.reduceAdd, Nat.reducePow, ↓reduceIte, eq_self, Int.reduceEq, Nat.reduceEqDiff, Nat.reduceMul, Nat.reduceLeDiff, Try.f37, lenV, hlt, hix, hld, h88, Bool.not_true, List.all_cons, hq, Bool.true_and, hw]
      exact i1
theorem r37 (id g c l : Nat) (xs : List Ru) (h : AH) (hn : xs.length ≤ 2 ^ 40) (hf : ∀ x ∈ xs, x.Fit) (e : h[id]? = some (.row g 4 (Ru.R xs))) :
    ∃ h', run V0 (.fn 37) l [S (slV id g xs.length c)] h = some (.ret (.bool (xs.all ruOk && decide ((xs.length : Int) ≤ 8))) h') ∧ Keep h.length h h' := by
  obtain ⟨h', i1, i2⟩ := L37 id g c xs.length l hn xs [] h (by simp) hf (by simpa using e)
  refine ⟨h', run_fn Try.func37 rfl rfl rfl rfl ?_, i2⟩
  simp only [↓XX, ↓XD, ↓YX, ZB, Nat.reduceAdd, Nat.reducePow, ↓reduceIte, eq_self, Int.reduceEq, Nat.reduceEqDiff, Nat.reduceMul, Nat.reduceLeDiff, Try.f37]
  exact i1
def firstIx (p : Ru → Bool) : List Ru → Nat → Int
  | [], _ => -1
  | x :: r, k => if p x then k else firstIx p r (k + 1)
theorem firstIx_none (p : Ru → Bool) : ∀ (r : List Ru) (k : Nat), decide (0 ≤ firstIx p r k) = r.any p
  | [], k => rfl
  | x :: r, k => by
    by_cases hq : p x = true
    · have e1 : firstIx p (x :: r) k = (k : Int) := by simp only [firstIx, if_pos hq]
      rw [e1, List.any_cons, hq, Bool.true_or]
      exact decide_eq_true (by omega)
    · have e1 : firstIx p (x :: r) k = firstIx p r (k + 1) := by simp only [firstIx, if_neg hq]
      rw [e1, firstIx_none p r (k + 1), List.any_cons, Bool.eq_false_iff.2 hq, Bool.false_or]
/-- slices.IndexFunc over rules: its loop, by a function without captures -/
theorem L69 (id g c n l : Nat) (hn : n ≤ 2 ^ 40) {mr : List Ru} : ∀ (r d : List Ru) (h : AH), d.length + r.length = n → (∀ x ∈ r, x.Fit) → h[id]? = some (.row g 4 (Ru.R (d ++ (r ++ mr)))) →
    ∃ h', L69_0 l (slV id g n c) (fnV 65) (iV n) (iV d.length) h = some (.ret (iV (firstIx (fun x => !ruOk x) r d.length)) h') ∧ Keep h.length h h' := by
  intro r
  induction r with
  | nil =>
    intro d h hk hf e
    simp only [List.length_nil, Nat.add_zero] at hk
    have hlt : decide ((d.length : Int) < (n : Int)) = false := by rw [decide_eq_false_iff_not]; omega
    refine ⟨h, run_code Try.func69 rfl rfl ?_, Keep.refl _ _⟩
    simp only [↓XX, ↓XD, ↓YX, ZB, Nat.reduceAdd, Nat.reducePow, ↓reduceIte, eq_self, Int.reduceEq, Nat.reduceEqDiff, Nat.reduceMul, Nat.reduceLeDiff, Try.f69, hlt, firstIx]
  | cons x r ih =>
    intro d h hk hf e
    simp only [List.length_cons] at hk
    have hlt : decide ((d.length : Int) < (n : Int)) = true := by rw [decide_eq_true_iff]; omega
    have hix : ixAddr (slV id g n c) (d.length : Int) 4 = some (pV id (d.length * 4) g) := by rw [ixAddr_sl (by omega)]; simp
    have hld : ldN h (pV id (d.length * 4) g) 4 = some x.C := Ru.ldN e
    have hw : IntKind.i64.wrap ((d.length : Int) + 1) = (((d ++ [x]).length : Nat) : Int) := natCast_succ_wrap (by omega) (by simp)
    obtain ⟨h1, a1, k1⟩ := r65 x (hf x (by simp)) l h
    by_cases hq : ruOk x = true
    · rw [hq] at a1
      obtain ⟨h', i1, i2⟩ := ih (d ++ [x]) h1 (by simp; omega) (fun y hy => hf y (by simp [hy])) (by rw [k1.get e (lt_of_get e)]; simp)
      refine ⟨h', run_code Try.func69 rfl rfl ?_, k1.trans (i2.le k1.1)⟩
      simp only [↓XX, ↓XD, ↓YX, ZB, Nat.reduceAdd, Nat.reducePow, ↓reduceIte, eq_self, Int.reduceEq, Nat.reduceEqDiff, Nat.reduceMul, Nat.reduceLeDiff, Try.f69, hlt, hix, hld, a1, Bool.not_true, hw]
      rw [i1]; simp [firstIx, hq]
    · rw [Bool.eq_false_iff.2 hq] at a1
      refine ⟨h1, run_code Try.func69 rfl rfl ?_, k1⟩
      simp only [↓XX, ↓XD, ↓YX, ZB, Nat.reduceAdd, Nat.reducePow, ↓reduceIte, eq_self, Int.reduceEq, Nat.reduceEqDiff, Nat.reduceMul, Nat.reduceLeDiff, Try.f69, hlt, hix, hld, a1, Bool.not_false]
      simp [firstIx, hq]
theorem r40m {mr : List Ru} (id g c l : Nat) (xs : List Ru) (h : AH) (hn : xs.length ≤ 2 ^ 40) (hf : ∀ x ∈ xs, x.Fit) (e : h[id]? = some (.row g 4 (Ru.R (xs ++ mr)))) :
    ∃ h', run V0 (.fn 40) l [S (slV id g xs.length c)] h = some (.ret (.bool (xs.all ruOk && decide ((xs.length : Int) ≤ 8))) h') ∧ Keep h.length h h' := by
  obtain ⟨h', i1, i2⟩ := L69 (mr := mr) id g c xs.length l hn xs [] h (by simp) hf (by simpa using e)
  have e69 : run V0 (.fn 69) l [S (slV id g xs.length c), S (fnV 65)] h = some (.ret (iV (firstIx (fun x => !ruOk x) xs 0)) h') := by
    refine run_fn Try.func69 rfl rfl rfl rfl ?_
    simp only [↓XX, ↓XD, ↓YX, ZB, Nat.reduceAdd, Nat.reducePow, ↓reduceIte, eq_self, Int.reduceEq, Nat.reduceEqDiff, Nat.reduceMul, Nat.reduceLeDiff, Try.f69, lenV]
    exact i1
  have hnone := firstIx_none (fun x => !ruOk x) xs 0
  have e44 : run V0 (.fn 44) l [S (slV id g xs.length c), S (fnV 65)] h = some (.ret (.bool (xs.any fun x => !ruOk x)) h') := by
    refine run_fn Try.func44 rfl rfl rfl rfl ?_
    simp only [↓XX, ↓XD, ↓YX, ZB, Nat.reduceAdd, Nat.reducePow, ↓reduceIte, eq_self, Int.reduceEq, Nat.reduceEqDiff, Nat.reduceMul, Nat.reduceLeDiff, Try.f44, e69, hnone]
  have hall : (!xs.any fun x => !ruOk x) = xs.all ruOk := by rw [List.not_any_eq_all_not]; simp
  cases q : decide ((xs.length : Int) ≤ 8) with
  | true =>
    refine ⟨h', run_fn Try.func40 rfl rfl rfl rfl ?_, i2⟩
    simp only [↓XX, ↓XD, ↓YX, ZB, Nat.reduceAdd, Nat.reducePow, ↓reduceIte, eq_self, Int.reduceEq, Nat.reduceEqDiff, Nat.reduceMul, Nat.reduceLeDiff, Try.f40, lenV, q, e44, hall, Bool.and_true]
  | false =>
    refine ⟨h, run_fn Try.func40 rfl rfl rfl rfl ?_, Keep.refl _ _⟩
    simp only [↓XX, ↓XD, ↓YX, ZB, Nat.reduceAdd, Nat.reducePow, ↓reduceIte, eq_self, Int.reduceEq, Nat.reduceEqDiff, Nat.reduceMul, Nat.reduceLeDiff, Try.f40, lenV, q, Bool.and_false]
/-! ### what a rule means -/
theorem r40 (id g c l : Nat) (xs : List Ru) (h : AH) (hn : xs.length ≤ 2 ^ 40) (hf : ∀ x ∈ xs, x.Fit) (e : h[id]? = some (.row g 4 (Ru.R xs))) :
    ∃ h', run V0 (.fn 40) l [S (slV id g xs.length c)] h = some (.ret (.bool (xs.all ruOk && decide ((xs.length : Int) ≤ 8))) h') ∧ Keep h.length h h' := r40m (mr := []) id g c l xs h hn hf (by simpa using e)
def meansL (x : Ru) (e : En) : Bool := (decide (x.room = []) || decide (x.room = e.room)) && ((decide (x.user = []) || decide (x.user = e.user)) && (x.kind == 0 || x.kind == e.kind))
theorem r64 (x : Ru) (e : En) (l : Nat) (h : AH) : run V0 (.fn 64) l [S x.V, S e.V] h = some (.ret (.bool (meansL x e)) (h ++ [.row 0 4 x.C] ++ [.row 0 9 e.C])) := by
  obtain ⟨xq, xr, xu, xk⟩ := x
  obtain ⟨e0, e1, e2, e3, e4, e5, e6, e7, e8⟩ := e
  refine run_fn Try.func64 rfl rfl rfl rfl ?_
  simp only [↓XX, ↓XD, ↓YX, ZB, Nat.reduceAdd, Nat.reducePow, ↓reduceIte, eq_self, Int.reduceEq, Nat.reduceEqDiff, Nat.reduceMul, Nat.reduceLeDiff, Try.f64, ↓XH1, ↓XH2, ZC, eq_self, Nat.reduceLeDiff, eqB]
  unfold meansL
  simp only
  cases decide (xr = []) <;> cases decide (xr = e0) <;> cases decide (xu = []) <;> cases decide (xu = e3) <;> cases (xk == 0) <;> rfl
theorem r71 (x : Ru) (e : En) (l : Nat) (h : AH) : run V0 (.fn 71) l [S x.V, S e.V] h = some (.ret (.bool (meansL x e)) (h ++ [.row 0 4 x.C] ++ [.row 0 9 e.C])) := by
  obtain ⟨xq, xr, xu, xk⟩ := x
  obtain ⟨e0, e1, e2, e3, e4, e5, e6, e7, e8⟩ := e
  refine run_fn Try.func71 rfl rfl rfl rfl ?_
  simp only [↓XX, ↓XD, ↓YX, ZB, Nat.reduceAdd, Nat.reducePow, ↓reduceIte, eq_self, Int.reduceEq, Nat.reduceEqDiff, Nat.reduceMul, Nat.reduceLeDiff, Try.f71, ↓XH1, ↓XH2, ZC, eq_self, Nat.reduceLeDiff, eqB]
  unfold meansL
  simp only
  cases decide (xr = []) <;> cases decide (xr = e0) <;> cases decide (xu = []) <;> cases decide (xu = e3) <;> cases (xk == 0) <;> rfl
end Go.Abs
namespace Go.Abs
open Go.Proofs
set_option maxRecDepth 100000
set_option linter.unusedSimpArgs false
set_option pp.maxSteps 20000

theorem cell_of_take {L c : List Value} {a k i : Nat} (h : (L.drop a).take k = c) (hi : i < k) : L[a + i]? = c[i]? := by
  rw [← h, List.getElem?_take, if_pos hi, List.getElem?_drop]
abbrev clV (ie : Nat) : Value := .func (.func 70) ⟨[]⟩ ⟨[pV ie 0 0]⟩
theorem r70 (x : Ru) (e : En) (ie l : Nat) (h : AH) (he : h[ie]? = some (.row 0 9 e.C)) : ∃ h', run V0 (.fn 70) l [S x.V, S (pV ie 0 0)] h = some (.ret (.bool (meansL x e)) h') ∧ Keep h.length h h' := by
  have k0 : Keep h.length h (h ++ [.row 0 4 x.C]) := Keep.app _ _ (Nat.le_refl _)
  have e1 := k0.get he (lt_of_get he)
  have h71 := r71 x e l (h ++ [.row 0 4 x.C])
  refine ⟨h ++ [.row 0 4 x.C] ++ [.row 0 4 x.C] ++ [.row 0 9 e.C], run_fn Try.func70 rfl rfl rfl rfl ?_, k0.trans ((Keep.app _ _ (by simp)).trans (Keep.app _ _ (by simp)))⟩
  simp only [↓XX, ↓XD, ↓YX, ZB, Nat.reduceAdd, Nat.reducePow, ↓reduceIte, eq_self, Int.reduceEq, Nat.reduceEqDiff, Nat.reduceMul, Nat.reduceLeDiff, Try.f70, ↓XH1, ↓XH2, ZC, eq_self, Nat.reduceLeDiff, e1, h71]
theorem firstIx_spec (p : Ru → Bool) : ∀ (xs : List Ru) (k : Nat), (firstIx p xs k = -1 ∧ xs.find? p = none) ∨ ∃ d x r, xs = d ++ x :: r ∧ xs.find? p = some x ∧ firstIx p xs k = ((k + d.length : Nat) : Int)
  | [], k => .inl ⟨rfl, rfl⟩
  | x :: r, k => by
    by_cases hq : p x = true
    · exact .inr ⟨[], x, r, rfl, by simp [hq], by simp [firstIx, hq]⟩
    · rcases firstIx_spec p r (k + 1) with ⟨a, b⟩ | ⟨d, y, s, rfl, b, c⟩
      · exact .inl ⟨by simp [firstIx, hq, a], by simp [hq, b]⟩
      · refine .inr ⟨x :: d, y, s, rfl, ?_, ?_⟩
        · rw [List.find?_cons]; simp only [hq]; exact b
        · simp only [firstIx, if_neg hq, c, List.length_cons]; omega
/-- slices.IndexFunc over rules: its loop, by what a rule means -/
theorem L69c (id g c n l ie : Nat) (e : En) (hn : n ≤ 2 ^ 40) {mr : List Ru} : ∀ (r d : List Ru) (h : AH), d.length + r.length = n → h[ie]? = some (.row 0 9 e.C) → h[id]? = some (.row g 4 (Ru.R (d ++ (r ++ mr)))) →
    ∃ h', L69_0 l (slV id g n c) (clV ie) (iV n) (iV d.length) h = some (.ret (iV (firstIx (fun x => meansL x e) r d.length)) h') ∧ Keep h.length h h' := by
  intro r
  induction r with
  | nil =>
    intro d h hk he ei
    simp only [List.length_nil, Nat.add_zero] at hk
    have hlt : decide ((d.length : Int) < (n : Int)) = false := by rw [decide_eq_false_iff_not]; omega
    refine ⟨h, run_code Try.func69 rfl rfl ?_, Keep.refl _ _⟩
    simp only [↓XX, ↓XD, ↓YX, ZB, Nat.reduceAdd, Nat.reducePow, ↓reduceIte, eq_self, Int.reduceEq, Nat.reduceEqDiff, Nat.reduceMul, Nat.reduceLeDiff, Try.f69, hlt, firstIx]
  | cons x r ih =>
    intro d h hk he ei
    simp only [List.length_cons] at hk
    have hlt : decide ((d.length : Int) < (n : Int)) = true := by rw [decide_eq_true_iff]; omega
    have hix : ixAddr (slV id g n c) (d.length : Int) 4 = some (pV id (d.length * 4) g) := by rw [ixAddr_sl (by omega)]; simp
    have hld : ldN h (pV id (d.length * 4) g) 4 = some x.C := Ru.ldN ei
    have hw : IntKind.i64.wrap ((d.length : Int) + 1) = (((d ++ [x]).length : Nat) : Int) := natCast_succ_wrap (by omega) (by simp)
    obtain ⟨h1, a1, k1⟩ := r70 x e ie l h he
    by_cases hq : meansL x e = true
    · rw [hq] at a1
      refine ⟨h1, run_code Try.func69 rfl rfl ?_, k1⟩
      simp only [↓XX, ↓XD, ↓YX, ZB, Nat.reduceAdd, Nat.reducePow, ↓reduceIte, eq_self, Int.reduceEq, Nat.reduceEqDiff, Nat.reduceMul, Nat.reduceLeDiff, Try.f69, hlt, hix, hld, a1]
      simp [firstIx, hq]
    · rw [Bool.eq_false_iff.2 hq] at a1
      obtain ⟨h', i1, i2⟩ := ih (d ++ [x]) h1 (by simp; omega) (k1.get he (lt_of_get he)) (by rw [k1.get ei (lt_of_get ei)]; simp)
      refine ⟨h', run_code Try.func69 rfl rfl ?_, k1.trans (i2.le k1.1)⟩
      simp only [↓XX, ↓XD, ↓YX, ZB, Nat.reduceAdd, Nat.reducePow, ↓reduceIte, eq_self, Int.reduceEq, Nat.reduceEqDiff, Nat.reduceMul, Nat.reduceLeDiff, Try.f69, hlt, hix, hld, a1, hw]
      rw [i1]; simp [firstIx, hq]
def showL (xs : List Ru) (e : En) : Bool := match xs.find? fun x => meansL x e with | none => true | some x => !x.quiet
theorem r41m {mr : List Ru} (id g c l : Nat) (xs : List Ru) (e : En) (h : AH) (hn : xs.length ≤ 2 ^ 40) (ei : h[id]? = some (.row g 4 (Ru.R (xs ++ mr)))) :
    ∃ h', run V0 (.fn 41) l [S (slV id g xs.length c), S e.V] h = some (.ret (.bool (showL xs e)) h') ∧ Keep h.length h h' := by
  have k0 : Keep h.length h (h ++ [.row 0 9 e.C]) := Keep.app _ _ (Nat.le_refl _)
  have e1 := k0.get ei (lt_of_get ei)
  have e2 : (h ++ [AObj.row 0 9 e.C])[h.length]? = some (.row 0 9 e.C) := by simp
  obtain ⟨h', i1, i2⟩ := L69c (mr := mr) id g c xs.length l h.length e hn xs [] (h ++ [.row 0 9 e.C]) (by simp) e2 (by simpa using e1)
  have e69 : run V0 (.fn 69) l [S (slV id g xs.length c), S (clV h.length)] (h ++ [.row 0 9 e.C]) = some (.ret (iV (firstIx (fun x => meansL x e) xs 0)) h') := by
    refine run_fn Try.func69 rfl rfl rfl rfl ?_
    simp only [↓XX, ↓XD, ↓YX, ZB, Nat.reduceAdd, Nat.reducePow, ↓reduceIte, eq_self, Int.reduceEq, Nat.reduceEqDiff, Nat.reduceMul, Nat.reduceLeDiff, Try.f69, lenV]
    exact i1
  have ei' := i2.get e1 (lt_of_get e1)
  have hp : newP h = pV h.length 0 0 := rfl
  refine ⟨h', run_fn Try.func41 rfl rfl rfl rfl ?_, k0.trans (i2.le k0.1)⟩
  unfold showL
  rcases firstIx_spec (fun x => meansL x e) xs 0 with ⟨a, b⟩ | ⟨d, x, r, hx, b, a⟩
  · rw [a] at e69
    have hd : decide ((-1 : Int) < 0) = true := rfl
    have hix : ixAddr (slV id g xs.length c) (-1) 4 = none := by simp [ixAddr]
    have hao : addOff (slV id g xs.length c) 0 = none := rfl
    have hl0 : ld h' (slV id g xs.length c) = none := rfl
    simp only [↓XX, ↓XD, ↓YX, ZB, Nat.reduceAdd, Nat.reducePow, ↓reduceIte, eq_self, Int.reduceEq, Nat.reduceEqDiff, Nat.reduceMul, Nat.reduceLeDiff, Try.f41, hp, e69, hd, b, hix, hao, hl0]
  · have a' : firstIx (fun x => meansL x e) xs 0 = (d.length : Int) := by rw [a]; simp
    rw [a'] at e69
    have hd : decide (((d.length : Nat) : Int) < 0) = false := decide_eq_false (by omega)
    have hix : ixAddr (slV id g xs.length c) (d.length : Int) 4 = some (pV id (d.length * 4) g) := by rw [ixAddr_sl (by rw [hx]; simp)]; simp
    have ha : addOff (pV id (d.length * 4) g) 0 = some (pV id (d.length * 4) g) := rfl
    have hld : ld h' (pV id (d.length * 4) g) = some (.bool x.quiet) := ld_of ei' (by
      rw [hx]
      have := cell_of_take (i := 0) (Ru.get d x (r ++ mr)) (by omega)
      simpa using this)
    simp only [↓XX, ↓XD, ↓YX, ZB, Nat.reduceAdd, Nat.reducePow, ↓reduceIte, eq_self, Int.reduceEq, Nat.reduceEqDiff, Nat.reduceMul, Nat.reduceLeDiff, Try.f41, hp, e69, hd, hix, ha, hld, b]
theorem r41 (id g c l : Nat) (xs : List Ru) (e : En) (h : AH) (hn : xs.length ≤ 2 ^ 40) (ei : h[id]? = some (.row g 4 (Ru.R xs))) :
    ∃ h', run V0 (.fn 41) l [S (slV id g xs.length c), S e.V] h = some (.ret (.bool (showL xs e)) h') ∧ Keep h.length h h' := r41m (mr := []) id g c l xs e h hn (by simpa using ei)
/-- spec.l17Show: its loop -/
theorem L38 (id g c n l ie : Nat) (e : En) (hn : n ≤ 2 ^ 40) : ∀ (r d : List Ru) (h : AH), d.length + r.length = n → h[ie]? = some (.row 0 9 e.C) → h[id]? = some (.row g 4 (Ru.R (d ++ r))) →
    ∃ h', L38_0 l (slV id g n c) (pV ie 0 0) (iV d.length) h = some (.ret (.bool (showL r e)) h') ∧ Keep h.length h h' := by
  intro r
  induction r with
  | nil =>
    intro d h hk he ei
    simp only [List.length_nil, Nat.add_zero] at hk
    have hlt : decide ((d.length : Int) < (n : Int)) = false := by rw [decide_eq_false_iff_not]; omega
    refine ⟨h, run_code Try.func38 rfl rfl ?_, Keep.refl _ _⟩
    simp only [↓XX, ↓XD, ↓YX, ZB, Nat.reduceAdd, Nat.reducePow, ↓reduceIte, eq_self, Int.reduceEq, Nat.reduceEqDiff, Nat.reduceMul, Nat.reduceLeDiff, Try.f38, lenV, hlt]
    rfl
  | cons x r ih =>
    intro d h hk he ei
    simp only [List.length_cons] at hk
    have hlt : decide ((d.length : Int) < (n : Int)) = true := by rw [decide_eq_true_iff]; omega
    have hix : ixAddr (slV id g n c) (d.length : Int) 4 = some (pV id (d.length * 4) g) := by rw [ixAddr_sl (by omega)]; simp
    have hld : ldN h (pV id (d.length * 4) g) 4 = some x.C := Ru.ldN ei
    have hle : ldN h (pV ie 0 0) 9 = some e.C := by rw [ldN_of he (by simp)]; rfl
    have hw : IntKind.i64.wrap ((d.length : Int) + 1) = (((d ++ [x]).length : Nat) : Int) := natCast_succ_wrap (by omega) (by simp)
    have h64 := r64 x e l h
    have kp : Keep h.length h (h ++ [.row 0 4 x.C] ++ [.row 0 9 e.C]) := (Keep.app _ _ (Nat.le_refl _)).trans (Keep.app _ _ (by simp))
    generalize hh1 : h ++ [AObj.row 0 4 x.C] ++ [AObj.row 0 9 e.C] = h1 at *
    have he1 := kp.get he (lt_of_get he)
    have ei1 := kp.get ei (lt_of_get ei)
    have ha : addOff (pV id (d.length * 4) g) 0 = some (pV id (d.length * 4) g) := rfl
    have hlq : ld h1 (pV id (d.length * 4) g) = some (.bool x.quiet) := ld_of ei1 (by
      have := cell_of_take (i := 0) (Ru.get d x r) (by omega)
      simpa using this)
    by_cases hq : meansL x e = true
    · rw [hq] at h64
      refine ⟨h1, run_code Try.func38 rfl rfl ?_, kp⟩
      simp (disch := (refine _root_.id ?_; kernel_rfl)) only [↓XX, ↓XD, ↓YX, ZB, Nat.reduceAdd, Nat.reducePow, ↓reduceIte, eq_self, Int.reduceEq, Nat.reduceEqDiff, Nat.reduceMul, Nat.reduceLeDiff, Try.f38, lenV, hlt, hix, hld, hle, h64, ha, hlq]
      simp [showL, hq]
    · rw [Bool.eq_false_iff.2 hq] at h64
      obtain ⟨h', i1, i2⟩ := ih (d ++ [x]) h1 (by simp; omega) he1 (by rw [ei1]; simp)
      refine ⟨h', run_code Try.func38 rfl rfl ?_, kp.trans (i2.le kp.1)⟩
      simp (disch := (refine _root_.id ?_; kernel_rfl)) only [↓XX, ↓XD, ↓YX, ZB, Nat.reduceAdd, Nat.reducePow, ↓reduceIte, eq_self, Int.reduceEq, Nat.reduceEqDiff, Nat.reduceMul, Nat.reduceLeDiff, Try.f38, lenV, hlt, hix, hld, hle, h64, hw]
      rw [i1]; simp [showL, hq]
theorem r38 (id g c l : Nat) (xs : List Ru) (e : En) (h : AH) (hn : xs.length ≤ 2 ^ 40) (ei : h[id]? = some (.row g 4 (Ru.R xs))) :
    ∃ h', run V0 (.fn 38) l [S (slV id g xs.length c), S e.V] h = some (.ret (.bool (showL xs e)) h') ∧ Keep h.length h h' := by
  have k0 : Keep h.length h (h ++ [.row 0 9 e.C]) := Keep.app _ _ (Nat.le_refl _)
  have e1 := k0.get ei (lt_of_get ei)
  have e2 : (h ++ [AObj.row 0 9 e.C])[h.length]? = some (.row 0 9 e.C) := by simp
  obtain ⟨h', i1, i2⟩ := L38 id g c xs.length l h.length e hn xs [] (h ++ [.row 0 9 e.C]) (by simp) e2 (by simpa using e1)
  have hp : newP h = pV h.length 0 0 := rfl
  refine ⟨h', run_fn Try.func38 rfl rfl rfl rfl ?_, k0.trans (i2.le k0.1)⟩
  simp only [↓XX, ↓XD, ↓YX, ZB, Nat.reduceAdd, Nat.reducePow, ↓reduceIte, eq_self, Int.reduceEq, Nat.reduceEqDiff, Nat.reduceMul, Nat.reduceLeDiff, Try.f38, hp]
  exact i1
def rshow (xs : List Ru) (e : En) : Bool := (xs.all ruOk && decide ((xs.length : Int) ≤ 8)) && showL xs e
theorem r13 (id g c l : Nat) (xs : List Ru) (e : En) (h : AH) (hn : xs.length ≤ 2 ^ 40) (hf : ∀ x ∈ xs, x.Fit) (ei : h[id]? = some (.row g 4 (Ru.R xs))) :
    ∃ h', run V0 (.fn 13) l [S (slV id g xs.length c), S e.V] h = some (.ret (.bool (rshow xs e)) h') ∧ Keep h.length h h' := by
  have k0 : Keep h.length h (h ++ [.row 0 9 e.C]) := Keep.app _ _ (Nat.le_refl _)
  have e1 := k0.get ei (lt_of_get ei)
  have e2 : (h ++ [AObj.row 0 9 e.C])[h.length]? = some (.row 0 9 e.C) := by simp
  obtain ⟨h1, a1, k1⟩ := r37 id g c l xs (h ++ [.row 0 9 e.C]) hn hf e1
  have e1' := k1.get e1 (lt_of_get e1)
  have e2' := k1.get e2 (lt_of_get e2)
  obtain ⟨h2, a2, k2⟩ := r38 id g c l xs e h1 hn e1'
  have hle : ldN h1 (pV h.length 0 0) 9 = some e.C := by rw [ldN_of e2' (by simp)]; rfl
  have hp : newP h = pV h.length 0 0 := rfl
  have kk := k0.trans (k1.le k0.1)
  unfold rshow
  cases q : (xs.all ruOk && decide ((xs.length : Int) ≤ 8)) with
  | true =>
    rw [q] at a1
    refine ⟨h2, run_fn Try.func13 rfl rfl rfl rfl ?_, kk.trans (k2.le kk.1)⟩
    simp only [↓XX, ↓XD, ↓YX, ZB, Nat.reduceAdd, Nat.reducePow, ↓reduceIte, eq_self, Int.reduceEq, Nat.reduceEqDiff, Nat.reduceMul, Nat.reduceLeDiff, Try.f13, hp, a1, hle, a2, Bool.true_and]
  | false =>
    rw [q] at a1
    refine ⟨h1, run_fn Try.func13 rfl rfl rfl rfl ?_, kk⟩
    simp only [↓XX, ↓XD, ↓YX, ZB, Nat.reduceAdd, Nat.reducePow, ↓reduceIte, eq_self, Int.reduceEq, Nat.reduceEqDiff, Nat.reduceMul, Nat.reduceLeDiff, Try.f13, hp, a1, hle, Bool.false_and]
theorem r16 (id g c l : Nat) (xs : List Ru) (e : En) (h : AH) (hn : xs.length ≤ 2 ^ 40) (hf : ∀ x ∈ xs, x.Fit) (ei : h[id]? = some (.row g 4 (Ru.R xs))) :
    ∃ h', run V0 (.fn 16) l [S (slV id g xs.length c), S e.V] h = some (.ret (.bool (rshow xs e)) h') ∧ Keep h.length h h' := by
  have k0 : Keep h.length h (h ++ [.row 0 9 e.C]) := Keep.app _ _ (Nat.le_refl _)
  have e1 := k0.get ei (lt_of_get ei)
  have e2 : (h ++ [AObj.row 0 9 e.C])[h.length]? = some (.row 0 9 e.C) := by simp
  obtain ⟨h1, a1, k1⟩ := r40 id g c l xs (h ++ [.row 0 9 e.C]) hn hf e1
  have e1' := k1.get e1 (lt_of_get e1)
  have e2' := k1.get e2 (lt_of_get e2)
  obtain ⟨h2, a2, k2⟩ := r41 id g c l xs e h1 hn e1'
  have hle : ldN h1 (pV h.length 0 0) 9 = some e.C := by rw [ldN_of e2' (by simp)]; rfl
  have hp : newP h = pV h.length 0 0 := rfl
  have kk := k0.trans (k1.le k0.1)
  unfold rshow
  cases q : (xs.all ruOk && decide ((xs.length : Int) ≤ 8)) with
  | true =>
    rw [q] at a1
    refine ⟨h2, run_fn Try.func16 rfl rfl rfl rfl ?_, kk.trans (k2.le kk.1)⟩
    simp only [↓XX, ↓XD, ↓YX, ZB, Nat.reduceAdd, Nat.reducePow, ↓reduceIte, eq_self, Int.reduceEq, Nat.reduceEqDiff, Nat.reduceMul, Nat.reduceLeDiff, Try.f16, hp, a1, hle, a2, Bool.true_and]
  | false =>
    rw [q] at a1
    refine ⟨h1, run_fn Try.func16 rfl rfl rfl rfl ?_, kk⟩
    simp only [↓XX, ↓XD, ↓YX, ZB, Nat.reduceAdd, Nat.reducePow, ↓reduceIte, eq_self, Int.reduceEq, Nat.reduceEqDiff, Nat.reduceMul, Nat.reduceLeDiff, Try.f16, hp, a1, hle, Bool.false_and]
end Go.Abs
namespace Go.Abs
open Go.Proofs
set_option maxRecDepth 100000
set_option linter.unusedSimpArgs false
set_option pp.maxSteps 20000

/-! ### marks -/
def digF : Nat → Nat → Bs → Bs
  | 0, _, out => out
  | f + 1, k, out => if k = 0 then out else digF f (k / 10) (UInt8.ofNat (48 + k % 10) :: out)
def markT (k : Nat) : Bs := 109 :: digF k k []
theorem dig_int (k : Nat) : IntKind.u8.wrap (IntKind.i64.wrap (48 + (k : Int).tmod 10)) = ((UInt8.ofNat (48 + k % 10)).toNat : Int) := by
  have h1 : (k : Int).tmod 10 = ((k % 10 : Nat) : Int) := by rw [Int.tmod_eq_emod_of_nonneg (by omega)]; omega
  have h2 : k % 10 < 10 := Nat.mod_lt _ (by omega)
  rw [h1, wrap64 (by omega), wrap8 (by omega)]
  simp only [UInt8.toNat_ofNat']
  omega
theorem div_int (k : Nat) (hk : k ≤ 2 ^ 40) : IntKind.i64.wrap ((k : Int).tdiv 10) = ((k / 10 : Nat) : Int) := by
  have h1 : (k : Int).tdiv 10 = ((k / 10 : Nat) : Int) := by rw [Int.tdiv_eq_ediv_of_nonneg (by omega)]; omega
  rw [h1, wrap64 (by omega)]
theorem L48 (l n0 : Nat) : ∀ (f k : Nat) (out : Bs) (h : AH), k ≤ f → k + out.length ≤ 2 ^ 40 → n0 ≤ h.length →
    ∃ h', L48_0 l (iV k) (sV out) h = some (.ret (sV (109 :: digF f k out)) h') ∧ Keep n0 h h' := by
  intro f
  induction f with
  | zero =>
    intro k out h hk hb hh
    obtain rfl : k = 0 := by omega
    refine ⟨h, run_code Try.func48 rfl rfl ?_, Keep.refl _ _⟩
    have hc := catA_B [109] out (by simp; omega)
    have hlt : decide ((0 : Int) < ((0 : Nat) : Int)) = false := rfl
    simp only [↓XX, ↓XD, ↓YX, ZB, Nat.reduceAdd, Nat.reducePow, ↓reduceIte, eq_self, Int.reduceEq, Nat.reduceEqDiff, Nat.reduceMul, Nat.reduceLeDiff, Try.f48, hlt, hc, digF, List.singleton_append]
  | succ f ih =>
    intro k out h hk hb hh
    by_cases h0 : k = 0
    · subst h0
      refine ⟨h, run_code Try.func48 rfl rfl ?_, Keep.refl _ _⟩
      have hc := catA_B [109] out (by simp; omega)
      have hlt : decide ((0 : Int) < ((0 : Nat) : Int)) = false := rfl
      simp only [↓XX, ↓XD, ↓YX, ZB, Nat.reduceAdd, Nat.reducePow, ↓reduceIte, eq_self, Int.reduceEq, Nat.reduceEqDiff, Nat.reduceMul, Nat.reduceLeDiff, Try.f48, hlt, hc, digF, List.singleton_append]
    · have hlt : decide ((0 : Int) < (k : Int)) = true := by rw [decide_eq_true_iff]; omega
      obtain ⟨h', e, kp⟩ := ih (k / 10) (UInt8.ofNat (48 + k % 10) :: out) (h ++ [.row 0 25769803777 [.int .u8 ((UInt8.ofNat (48 + k % 10)).toNat : Int)]]) (by omega) (by simp only [List.length_cons]; omega) (by simp; omega)
      refine ⟨h', run_code Try.func48 rfl rfl ?_, (Keep.app _ _ hh).trans kp⟩
      have hb2 : b2s (h ++ [AObj.row 0 25769803777 [.int .u8 ((UInt8.ofNat (48 + k % 10)).toNat : Int)]]) (newS h 1 1) = some (B [UInt8.ofNat (48 + k % 10)]) :=
        b2s_of (sz := 25769803777) (s := [UInt8.ofNat (48 + k % 10)]) (by simp [u8c]) rfl
      have hc := catA_B [UInt8.ofNat (48 + k % 10)] out (by simp; omega)
      simp only [↓XX, ↓XD, ↓YX, ZB, Nat.reduceAdd, Nat.reducePow, ↓reduceIte, eq_self, Int.reduceEq, Nat.reduceEqDiff, Nat.reduceMul, Nat.reduceLeDiff, Try.f48, hlt, dig_int, div_int k (by omega), hb2, hc, digF, List.singleton_append, h0]
      exact e
theorem r48 (k : Nat) (h0 : 0 < k) (hk : k ≤ 2 ^ 40) (l : Nat) (h : AH) : ∃ h', run V0 (.fn 48) l [S (iV k)] h = some (.ret (sV (markT k)) h') ∧ Keep h.length h h' := by
  obtain ⟨h', e, kp⟩ := L48 l h.length k k [] h (Nat.le_refl _) (by simpa using hk) (Nat.le_refl _)
  refine ⟨h', run_fn Try.func48 rfl rfl rfl rfl ?_, kp⟩
  have hle : decide ((k : Int) ≤ 0) = false := by rw [decide_eq_false_iff_not]; omega
  simp only [↓XX, ↓XD, ↓YX, ZB, Nat.reduceAdd, Nat.reducePow, ↓reduceIte, eq_self, Int.reduceEq, Nat.reduceEqDiff, Nat.reduceMul, Nat.reduceLeDiff, Try.f48, hle]
  exact e

theorem Ru.set (d : List Ru) (x y : Ru) (r : List Ru) (j : Nat) (v : Value) (hj : j < 4) (hy : x.C.set j v = y.C) : (Ru.R (d ++ x :: r)).set (d.length * 4 + j) v = Ru.R (d ++ y :: r) := by
  rw [Ru.R_app, Ru.R_cons, Ru.R_app, Ru.R_cons]
  have := set_in (Ru.R d) x.C (Ru.R r) j v hj
  rw [Ru.R_len, Nat.mul_comm] at this
  rw [this, hy]
def markRu (k : Nat) : Ru := ⟨(k : Int).tmod 3 == 0, markT (k + 1), markT (k + 2), ((k + 3 : Nat) : Int)⟩
def marksR : Nat → Nat → List Ru
  | _, 0 => []
  | k, n + 1 => markRu k :: marksR (k + 4) n
theorem marksR_len : ∀ (n k : Nat), (marksR k n).length = n
  | 0, _ => rfl
  | n + 1, k => by simp [marksR, marksR_len n]
/-- markRuleS: its loop -/
theorem L20 (id g c n l : Nat) (ma : List Ru) (hl : l ≤ id) (n0 : Nat) (hn : n ≤ 2 ^ 30) : ∀ (r d : List Ru) (k : Nat) (h : AH), n0 ≤ h.length → d.length + r.length = n → 0 < k → k + 4 * r.length ≤ 2 ^ 39 → h[id]? = some (.row g 4 (Ru.R (d ++ (r ++ ma)))) →
    ∃ h', L20_0 l (slV id g n c) (iV k) (iV d.length) h = some (.ret (iV (k + 4 * r.length : Nat)) h') ∧ h'[id]? = some (.row g 4 (Ru.R (d ++ (marksR k r.length ++ ma)))) ∧ KX n0 id h h' := by
  intro r
  induction r with
  | nil =>
    intro d k h h0 hk h1 hb e
    simp only [List.length_nil, Nat.add_zero] at hk
    refine ⟨h, run_code Try.func20 rfl rfl ?_, by simpa [marksR] using e, KX.refl _ _ _⟩
    have hlt : decide ((d.length : Int) < (n : Int)) = false := by rw [decide_eq_false_iff_not]; omega
    simp only [↓XX, ↓XD, ↓YX, ZB, Nat.reduceAdd, Nat.reducePow, ↓reduceIte, eq_self, Int.reduceEq, Nat.reduceEqDiff, Nat.reduceMul, Nat.reduceLeDiff, Try.f20, lenV, hlt, Nat.mul_zero, Nat.add_zero]
  | cons x r ih =>
    intro d k h h0 hk h1 hb e
    simp only [List.length_cons] at hk hb
    have hlt : decide ((d.length : Int) < (n : Int)) = true := by rw [decide_eq_true_iff]; omega
    have hix : ixAddr (slV id g n c) (d.length : Int) 4 = some (pV id (d.length * 4) g) := by rw [ixAddr_sl (by omega)]; simp
    have ha : ∀ j, addOff (pV id (d.length * 4) g) j = some (pV id (d.length * 4 + j) g) := fun _ => rfl
    have hw : IntKind.i64.wrap ((d.length : Int) + 1) = (((d ++ [markRu k]).length : Nat) : Int) := natCast_succ_wrap (by omega) (by simp)
    have w1 : IntKind.i64.wrap ((k : Int) + 1) = ((k + 1 : Nat) : Int) := natCast_succ_wrap (by omega) rfl
    have w2 : IntKind.i64.wrap (((k + 1 : Nat) : Int) + 1) = ((k + 2 : Nat) : Int) := natCast_succ_wrap (by omega) rfl
    have w3 : IntKind.i64.wrap (((k + 2 : Nat) : Int) + 1) = ((k + 3 : Nat) : Int) := natCast_succ_wrap (by omega) rfl
    have w4 : IntKind.i64.wrap (((k + 3 : Nat) : Int) + 1) = ((k + 4 : Nat) : Int) := natCast_succ_wrap (by omega) rfl
    obtain ⟨xq, xr, xu, xk⟩ := x
    have hlen : ∀ (y : Ru) (j : Nat), j < 4 → d.length * 4 + j < (Ru.R (d ++ y :: (r ++ ma))).length := fun y j hj => by rw [Ru.R_len]; simp; omega
    have s0 := st1_of (v := .bool ((k : Int).tmod 3 == 0)) hl e (hlen _ 0 (by omega)) rfl
    rw [List.cons_append, Ru.set d ⟨xq, xr, xu, xk⟩ ⟨(k : Int).tmod 3 == 0, xr, xu, xk⟩ (r ++ ma) 0 _ (by omega) rfl] at s0
    have e0 := get_set (.row g 4 (Ru.R (d ++ ⟨(k : Int).tmod 3 == 0, xr, xu, xk⟩ :: (r ++ ma)))) e
    generalize hA : h.set id (.row g 4 (Ru.R (d ++ ⟨(k : Int).tmod 3 == 0, xr, xu, xk⟩ :: (r ++ ma)))) = A at *
    have kA : KX n0 id h A := by rw [← hA]; exact KX.set _ _ _ _
    obtain ⟨B1, a1, k1⟩ := r48 (k + 1) (by omega) (by omega) l A
    have e1 := k1.get e0 (lt_of_get e0)
    have s1 := st1_of (v := sV (markT (k + 1))) hl e1 (hlen _ 1 (by omega)) rfl
    rw [Ru.set d ⟨(k : Int).tmod 3 == 0, xr, xu, xk⟩ ⟨(k : Int).tmod 3 == 0, markT (k + 1), xu, xk⟩ (r ++ ma) 1 _ (by omega) rfl] at s1
    have e1' := get_set (.row g 4 (Ru.R (d ++ ⟨(k : Int).tmod 3 == 0, markT (k + 1), xu, xk⟩ :: (r ++ ma)))) e1
    have hAid := lt_of_get e0
    have kB : KX n0 id h (B1.set id (.row g 4 (Ru.R (d ++ ⟨(k : Int).tmod 3 == 0, markT (k + 1), xu, xk⟩ :: (r ++ ma))))) := (kA.trans (k1.kx (Nat.le_trans h0 kA.1))).trans (KX.set _ _ _ _)
    generalize hB : B1.set id (.row g 4 (Ru.R (d ++ ⟨(k : Int).tmod 3 == 0, markT (k + 1), xu, xk⟩ :: (r ++ ma)))) = B at *
    obtain ⟨C1, a2, k2⟩ := r48 (k + 2) (by omega) (by omega) l B
    have e2 := k2.get e1' (lt_of_get e1')
    have s2 := st1_of (v := sV (markT (k + 2))) hl e2 (hlen _ 2 (by omega)) rfl
    rw [Ru.set d ⟨(k : Int).tmod 3 == 0, markT (k + 1), xu, xk⟩ ⟨(k : Int).tmod 3 == 0, markT (k + 1), markT (k + 2), xk⟩ (r ++ ma) 2 _ (by omega) rfl] at s2
    have e2' := get_set (.row g 4 (Ru.R (d ++ ⟨(k : Int).tmod 3 == 0, markT (k + 1), markT (k + 2), xk⟩ :: (r ++ ma)))) e2
    have hBid := lt_of_get e1'
    have kC : KX n0 id h (C1.set id (.row g 4 (Ru.R (d ++ ⟨(k : Int).tmod 3 == 0, markT (k + 1), markT (k + 2), xk⟩ :: (r ++ ma))))) := (kB.trans (k2.kx (Nat.le_trans h0 kB.1))).trans (KX.set _ _ _ _)
    generalize hC : C1.set id (.row g 4 (Ru.R (d ++ ⟨(k : Int).tmod 3 == 0, markT (k + 1), markT (k + 2), xk⟩ :: (r ++ ma)))) = C at *
    have s3 := st1_of (v := iV ((k + 3 : Nat) : Int)) hl e2' (hlen _ 3 (by omega)) rfl
    rw [Ru.set d ⟨(k : Int).tmod 3 == 0, markT (k + 1), markT (k + 2), xk⟩ (markRu k) (r ++ ma) 3 (iV ((k + 3 : Nat) : Int)) (by omega) rfl] at s3
    have e3 := get_set (.row g 4 (Ru.R (d ++ markRu k :: (r ++ ma)))) e2'
    have kD : KX n0 id h (C.set id (.row g 4 (Ru.R (d ++ markRu k :: (r ++ ma))))) := kC.trans (KX.set _ _ _ _)
    obtain ⟨h', i1, i2, i3⟩ := ih (d ++ [markRu k]) (k + 4) _ (Nat.le_trans h0 kD.1) (by simp; omega) (by omega) (by omega) (by rw [e3]; simp)
    refine ⟨h', run_code Try.func20 rfl rfl ?_, by simpa only [marksR, List.length_cons, List.append_assoc, List.singleton_append, List.cons_append, List.nil_append] using i2, kD.trans i3⟩
    have hx0 : d.length * 4 + 0 = d.length * 4 := rfl
    simp only [hx0] at s0
    have ha0 : addOff (pV id (d.length * 4) g) 0 = some (pV id (d.length * 4) g) := rfl
    simp only [↓XX, ↓XD, ↓YX, ZB, Nat.reduceAdd, Nat.reducePow, ↓reduceIte, eq_self, Int.reduceEq, Nat.reduceEqDiff, Nat.reduceMul, Nat.reduceLeDiff, Try.f20, lenV, hlt, hix, ha0, ha, s0, w1, a1, s1, w2, a2, s2, w3, s3, w4, hw]
    rw [i1]
    congr 3; omega
/-- a slice of rules, with cells behind it -/
def Ru.Rt (h : AH) (l : Nat) (v : Value) (xs : List Ru) : Prop :=
  (v = .slice none 0 0 ∧ xs = []) ∨ ∃ id g c ma, v = slV id g xs.length c ∧ h[id]? = some (.row g 4 (Ru.R (xs ++ ma))) ∧ l ≤ id
theorem Ru.Rt.kx {h h' : AH} {l ix : Nat} {v : Value} {xs : List Ru} (q : Ru.Rt h l v xs) (k : KX h.length ix h h') (hi : ix < l) : Ru.Rt h' l v xs := by
  rcases q with q | ⟨id, g, c, ma, rfl, e, hl⟩
  · exact .inl q
  · exact .inr ⟨id, g, c, ma, rfl, k.get e (lt_of_get e) (by omega), hl⟩
theorem r20s (id g c l k : Nat) (xs ma : List Ru) (h : AH) (e : h[id]? = some (.row g 4 (Ru.R (xs ++ ma)))) (hl : l ≤ id) (hn : xs.length ≤ 2 ^ 30) (h1 : 0 < k) (hb : k ≤ 2 ^ 30) :
    ∃ h', run V0 (.fn 20) l [S (slV id g xs.length c), S (iV k)] h = some (.ret (iV (k + 4 * xs.length : Nat)) h') ∧ h'[id]? = some (.row g 4 (Ru.R (marksR k xs.length ++ ma))) ∧ KX h.length id h h' := by
  obtain ⟨h', i1, i2, i3⟩ := L20 id g c xs.length l ma hl h.length hn xs [] k h (Nat.le_refl _) (by simp) h1 (by omega) e
  refine ⟨h', run_fn Try.func20 rfl rfl rfl rfl ?_, i2, i3⟩
  simp only [↓XX, ↓XD, ↓YX, ZB, Nat.reduceAdd, Nat.reducePow, ↓reduceIte, eq_self, Int.reduceEq, Nat.reduceEqDiff, Nat.reduceMul, Nat.reduceLeDiff, Try.f20]
  exact i1
theorem r20 (v : Value) (l lo k : Nat) (xs : List Ru) (h : AH) (q : Ru.Rt h lo v xs) (hl : l ≤ lo) (hn : xs.length ≤ 2 ^ 30) (h1 : 0 < k) (hb : k ≤ 2 ^ 30) :
    ∃ h', run V0 (.fn 20) l [S v, S (iV k)] h = some (.ret (iV (k + 4 * xs.length : Nat)) h') ∧ Ru.Rt h' lo v (marksR k xs.length) ∧ ∃ ix, lo ≤ ix ∧ KX h.length ix h h' := by
  rcases q with ⟨rfl, rfl⟩ | ⟨id, g, c, ma, rfl, e, hl2⟩
  · refine ⟨h, run_fn Try.func20 rfl rfl rfl rfl ?_, .inl ⟨rfl, rfl⟩, lo, Nat.le_refl _, KX.refl _ _ _⟩
    have e0 : L20_0 l (.slice none 0 0) (iV k) (iV 0) h = some (.ret (iV k) h) := by
      refine run_code Try.func20 rfl rfl ?_
      have hlt : decide ((0 : Int) < 0) = false := rfl
      simp only [↓XX, ↓XD, ↓YX, ZB, Nat.reduceAdd, Nat.reducePow, ↓reduceIte, eq_self, Int.reduceEq, Nat.reduceEqDiff, Nat.reduceMul, Nat.reduceLeDiff, Try.f20, lenV, Int.natCast_zero, hlt]
    simp only [↓XX, ↓XD, ↓YX, ZB, Nat.reduceAdd, Nat.reducePow, ↓reduceIte, eq_self, Int.reduceEq, Nat.reduceEqDiff, Nat.reduceMul, Nat.reduceLeDiff, Try.f20]
    exact e0
  · obtain ⟨h', i1, i2, i3⟩ := r20s id g c l k xs ma h e (by omega) hn h1 hb
    exact ⟨h', i1, .inr ⟨id, g, c, ma, by rw [marksR_len], i2, hl2⟩, id, hl2, i3⟩
end Go.Abs
namespace Go.Abs
open Go.Proofs
set_option maxRecDepth 100000
set_option linter.unusedSimpArgs false
set_option pp.maxSteps 20000

/-- heldRuleS: its loop -/
theorem L21 (id g c n l : Nat) (ma : List Ru) (hn : n ≤ 2 ^ 30) : ∀ (m : Nat) (d : List Ru) (k : Nat) (h : AH), d.length + m = n → 0 < k → k + 4 * m ≤ 2 ^ 39 → h[id]? = some (.row g 4 (Ru.R (d ++ (marksR k m ++ ma)))) →
    ∃ h', L21_0 l (slV id g n c) (iV k) (iV d.length) h = some (.ret (iV (k + 4 * m : Nat)) h') ∧ Keep h.length h h' := by
  intro m
  induction m with
  | zero =>
    intro d k h hk h1 hb e
    refine ⟨h, run_code Try.func21 rfl rfl ?_, Keep.refl _ _⟩
    have hlt : decide ((d.length : Int) < (n : Int)) = false := by rw [decide_eq_false_iff_not]; omega
    simp only [↓XX, ↓XD, ↓YX, ZB, Nat.reduceAdd, Nat.reducePow, ↓reduceIte, eq_self, Int.reduceEq, Nat.reduceEqDiff, Nat.reduceMul, Nat.reduceLeDiff, Try.f21, lenV, hlt, Nat.mul_zero, Nat.add_zero]
  | succ m ih =>
    intro d k h hk h1 hb e
    have hlt : decide ((d.length : Int) < (n : Int)) = true := by rw [decide_eq_true_iff]; omega
    have hix : ixAddr (slV id g n c) (d.length : Int) 4 = some (pV id (d.length * 4) g) := by rw [ixAddr_sl (by omega)]; simp
    have ha : ∀ j, addOff (pV id (d.length * 4) g) j = some (pV id (d.length * 4 + j) g) := fun _ => rfl
    have ha0 : addOff (pV id (d.length * 4) g) 0 = some (pV id (d.length * 4) g) := rfl
    have hw : IntKind.i64.wrap ((d.length : Int) + 1) = (((d ++ [markRu k]).length : Nat) : Int) := natCast_succ_wrap (by omega) (by simp)
    have w1 : IntKind.i64.wrap ((k : Int) + 1) = ((k + 1 : Nat) : Int) := natCast_succ_wrap (by omega) rfl
    have w2 : IntKind.i64.wrap (((k + 1 : Nat) : Int) + 1) = ((k + 2 : Nat) : Int) := natCast_succ_wrap (by omega) rfl
    have w3 : IntKind.i64.wrap (((k + 2 : Nat) : Int) + 1) = ((k + 3 : Nat) : Int) := natCast_succ_wrap (by omega) rfl
    have w4 : IntKind.i64.wrap (((k + 3 : Nat) : Int) + 1) = ((k + 4 : Nat) : Int) := natCast_succ_wrap (by omega) rfl
    have cell : ∀ j, j < 4 → (Ru.R (d ++ (markRu k :: marksR (k + 4) m ++ ma)))[d.length * 4 + j]? = (markRu k).C[j]? := fun j hj => cell_of_take (Ru.get d (markRu k) _) hj
    obtain ⟨A1, a1, k1⟩ := r48 (k + 1) (by omega) (by omega) h.length h
    have e1 := k1.get e (lt_of_get e)
    obtain ⟨A2, a2, k2⟩ := r48 (k + 2) (by omega) (by omega) A1.length A1
    have e2 := k2.get e1 (lt_of_get e1)
    have ld0 : ld h (pV id (d.length * 4) g) = some (.bool ((k : Int).tmod 3 == 0)) := ld_of e (cell 0 (by omega))
    have ld1 : ld h (pV id (d.length * 4 + 1) g) = some (sV (markT (k + 1))) := ld_of e (cell 1 (by omega))
    have ld2 : ld A1 (pV id (d.length * 4 + 2) g) = some (sV (markT (k + 2))) := ld_of e1 (cell 2 (by omega))
    have ld3 : ld A2 (pV id (d.length * 4 + 3) g) = some (iV ((k + 3 : Nat) : Int)) := ld_of e2 (cell 3 (by omega))
    have hb0 : (!(((k : Int).tmod 3 == 0) == ((k : Int).tmod 3 == 0))) = false := by simp
    have hb3 : ((((k + 3 : Nat) : Int)) != (((k + 3 : Nat) : Int))) = false := by simp
    obtain ⟨h', i1, i2⟩ := ih (d ++ [markRu k]) (k + 4) A2 (by simp; omega) (by omega) (by omega) (by rw [e2]; simp [marksR])
    refine ⟨h', run_code Try.func21 rfl rfl ?_, k1.trans ((k2.trans (i2.le k2.1)).le k1.1)⟩
    simp (disch := (refine _root_.id ?_; kernel_rfl)) only [↓XX, ↓XD, ↓YX, ZB, Nat.reduceAdd, Nat.reducePow, ↓reduceIte, eq_self, Int.reduceEq, Nat.reduceEqDiff, Nat.reduceMul, Nat.reduceLeDiff, Try.f21, lenV, hlt, hix, ha0, ha, ld0, w1, ld1, a1, w2, ld2, a2, w3, ld3, w4, hw, hb0, hb3, decide_true, Bool.not_true]
    rw [i1]
    have hq : k + 4 + 4 * m = k + 4 * (m + 1) := by omega
    rw [hq]
theorem r21 (v : Value) (l lo k m : Nat) (h : AH) (q : Ru.Rt h lo v (marksR k m)) (hn : m ≤ 2 ^ 30) (h1 : 0 < k) (hb : k ≤ 2 ^ 30) :
    ∃ h', run V0 (.fn 21) l [S v, S (iV k)] h = some (.ret (iV (k + 4 * m : Nat)) h') ∧ Keep h.length h h' := by
  rcases q with ⟨rfl, q⟩ | ⟨id, g, c, ma, rfl, e, hl⟩
  · have hm : m = 0 := by have := marksR_len m k; rw [q] at this; simpa using this.symm
    subst hm
    refine ⟨h, run_fn Try.func21 rfl rfl rfl rfl ?_, Keep.refl _ _⟩
    have e0 : L21_0 l (.slice none 0 0) (iV k) (iV 0) h = some (.ret (iV k) h) := by
      refine run_code Try.func21 rfl rfl ?_
      have hlt : decide ((0 : Int) < 0) = false := rfl
      simp only [↓XX, ↓XD, ↓YX, ZB, Nat.reduceAdd, Nat.reducePow, ↓reduceIte, eq_self, Int.reduceEq, Nat.reduceEqDiff, Nat.reduceMul, Nat.reduceLeDiff, Try.f21, lenV, Int.natCast_zero, hlt]
    simp only [↓XX, ↓XD, ↓YX, ZB, Nat.reduceAdd, Nat.reducePow, ↓reduceIte, eq_self, Int.reduceEq, Nat.reduceEqDiff, Nat.reduceMul, Nat.reduceLeDiff, Try.f21]
    exact e0
  · rw [marksR_len]
    obtain ⟨h', i1, i2⟩ := L21 id g c m l ma hn m [] k h (by simp) h1 (by omega) e
    refine ⟨h', run_fn Try.func21 rfl rfl rfl rfl ?_, i2⟩
    simp only [↓XX, ↓XD, ↓YX, ZB, Nat.reduceAdd, Nat.reducePow, ↓reduceIte, eq_self, Int.reduceEq, Nat.reduceEqDiff, Nat.reduceMul, Nat.reduceLeDiff, Try.f21]
    exact i1
theorem Ru.Rt.len {h : AH} {l : Nat} {v : Value} {xs : List Ru} (r : Ru.Rt h l v xs) : lenV v = some (xs.length : Int) := by
  rcases r with ⟨rfl, rfl⟩ | ⟨id, g, c, _, rfl, _⟩ <;> rfl
theorem Ru.Rt.get {h : AH} {l : Nat} {v : Value} {d r : List Ru} {x : Ru} (q : Ru.Rt h l v (d ++ x :: r)) : ∃ p, ixAddr v (d.length : Int) 4 = some p ∧ Abs.ldN h p 4 = some (Ru.C x) := by
  rcases q with ⟨_, q⟩ | ⟨id, g, c, ma, rfl, e, _⟩
  · simp at q
  · refine ⟨pV id (d.length * 4) g, by rw [ixAddr_sl (by simp)]; simp, ?_⟩
    rw [List.append_assoc, List.cons_append] at e
    exact Ru.ldN e
theorem Ru.Rt.keep {h h' : AH} {l : Nat} {v : Value} {xs : List Ru} (q : Ru.Rt h l v xs) (k : Keep h.length h h') : Ru.Rt h' l v xs := by
  rcases q with q | ⟨id, g, c, ma, rfl, e, hl⟩
  · exact .inl q
  · exact .inr ⟨id, g, c, ma, rfl, k.get e (lt_of_get e), hl⟩
/-- eqRuleS: its loop, with cells behind -/
theorem L17t (va vb : Value) (n l : Nat) (hn : n ≤ 2 ^ 40) (la lb : Nat) : ∀ (r r' d d' : List Ru) (h : AH), d.length = d'.length → d.length + r.length = n → r.length = r'.length → Ru.Rt h la va (d ++ r) → Ru.Rt h lb vb (d' ++ r') →
    ∃ h', L17_0 l va vb (iV d.length) h = some (.ret (.bool (decide (r = r'))) h') ∧ Keep h.length h h' := by
  intro r
  induction r with
  | nil =>
    intro r' d d' h hd hk hr ea eb
    obtain rfl : r' = [] := by cases r' with | nil => rfl | cons _ _ => simp at hr
    simp only [List.length_nil, Nat.add_zero] at hk
    have lenA := ea.len
    refine ⟨h, run_code Try.func17 rfl rfl ?_, Keep.refl _ _⟩
    have hlt : decide ((d.length : Int) < ((d ++ []).length : Int)) = false := by rw [decide_eq_false_iff_not, List.append_nil]; omega
    simp only [↓XX, ↓XD, ↓YX, ZB, Nat.reduceAdd, Nat.reducePow, ↓reduceIte, eq_self, Int.reduceEq, Nat.reduceEqDiff, Nat.reduceMul, Nat.reduceLeDiff, Try.f17, lenA, hlt, decide_true]
  | cons x r ih =>
    intro r' d d' h hd hk hr ea eb
    cases r' with
    | nil => simp at hr
    | cons y r' =>
      simp only [List.length_cons] at hk hr
      have lenA := ea.len
      have hlt : decide ((d.length : Int) < ((d ++ x :: r).length : Int)) = true := by rw [decide_eq_true_iff]; simp; omega
      obtain ⟨pa, hia, hla⟩ := ea.get
      obtain ⟨pb, hib, hlb⟩ := eb.get
      rw [← hd] at hib
      have hw : IntKind.i64.wrap ((d.length : Int) + 1) = (((d ++ [x]).length : Nat) : Int) := natCast_succ_wrap (by omega) (by simp)
      have h62 := r42 x y l h
      have kp : Keep h.length h (h ++ [.row 0 4 x.C] ++ [.row 0 4 y.C]) := (Keep.app _ _ (Nat.le_refl _)).trans (Keep.app _ _ (by simp))
      by_cases hq : x = y
      · rw [decide_eq_true hq] at h62
        obtain ⟨h', i1, i2⟩ := ih r' (d ++ [x]) (d' ++ [y]) (h ++ [.row 0 4 x.C] ++ [.row 0 4 y.C]) (by simp [hd]) (by simp; omega) (by omega) (by simpa using ea.keep kp) (by simpa using eb.keep kp)
        refine ⟨h', run_code Try.func17 rfl rfl ?_, kp.trans (i2.le kp.1)⟩
        simp (disch := (refine _root_.id ?_; kernel_rfl)) only [↓XX, ↓XD, ↓YX, ZB, Nat.reduceAdd, Nat.reducePow, ↓reduceIte, eq_self, Int.reduceEq, Nat.reduceEqDiff, Nat.reduceMul, Nat.reduceLeDiff, Try.f17, lenA, hlt, hia, hib, hla, hlb, h62, hw, Bool.not_true]
        rw [i1]; simp [hq]
      · rw [decide_eq_false hq] at h62
        refine ⟨_, run_code Try.func17 rfl rfl ?_, kp⟩
        simp (disch := (refine _root_.id ?_; kernel_rfl)) only [↓XX, ↓XD, ↓YX, ZB, Nat.reduceAdd, Nat.reducePow, ↓reduceIte, eq_self, Int.reduceEq, Nat.reduceEqDiff, Nat.reduceMul, Nat.reduceLeDiff, Try.f17, lenA, hlt, hia, hib, hla, hlb, h62, hw, Bool.not_false]
        simp [hq]
theorem r17t (va vb : Value) (l la lb : Nat) (xs ys : List Ru) (h : AH) (hn : xs.length ≤ 2 ^ 40) (ea : Ru.Rt h la va xs) (eb : Ru.Rt h lb vb ys) :
    ∃ h', run V0 (.fn 17) l [S va, S vb] h = some (.ret (.bool (decide (xs = ys))) h') ∧ Keep h.length h h' := by
  have lenA := ea.len
  have lenB := eb.len
  by_cases hy : xs.length = ys.length
  · obtain ⟨h', i1, i2⟩ := L17t va vb xs.length l hn la lb xs ys [] [] h rfl (by simp) hy ea eb
    refine ⟨h', run_fn Try.func17 rfl rfl rfl rfl ?_, i2⟩
    have hb : ((xs.length : Int) != (ys.length : Int)) = false := by simp [hy]
    simp only [↓XX, ↓XD, ↓YX, ZB, Nat.reduceAdd, Nat.reducePow, ↓reduceIte, eq_self, Int.reduceEq, Nat.reduceEqDiff, Nat.reduceMul, Nat.reduceLeDiff, Try.f17, lenA, lenB, hb]
    exact i1
  · refine ⟨h, run_fn Try.func17 rfl rfl rfl rfl ?_, Keep.refl _ _⟩
    have hb : ((xs.length : Int) != (ys.length : Int)) = true := by simp; omega
    have : xs ≠ ys := fun e => hy (by rw [e])
    simp only [↓XX, ↓XD, ↓YX, ZB, Nat.reduceAdd, Nat.reducePow, ↓reduceIte, eq_self, Int.reduceEq, Nat.reduceEqDiff, Nat.reduceMul, Nat.reduceLeDiff, Try.f17, lenA, lenB, hb]
    simp [this]
/-! ### covers -/
def overL (x y : Ru) : Bool := (decide (x.room = []) || decide (x.room = y.room)) && ((decide (x.user = []) || decide (x.user = y.user)) && (x.kind == 0 || x.kind == y.kind))
theorem r43 (x y : Ru) (l : Nat) (h : AH) : run V0 (.fn 43) l [S x.V, S y.V] h = some (.ret (.bool (overL x y)) (h ++ [.row 0 4 x.C] ++ [.row 0 4 y.C])) := by
  obtain ⟨xq, xr, xu, xk⟩ := x
  obtain ⟨e0, e1, e2, e3⟩ := y
  refine run_fn Try.func43 rfl rfl rfl rfl ?_
  simp only [↓XX, ↓XD, ↓YX, ZB, Nat.reduceAdd, Nat.reducePow, ↓reduceIte, eq_self, Int.reduceEq, Nat.reduceEqDiff, Nat.reduceMul, Nat.reduceLeDiff, Try.f43, ↓XH1, ↓XH2, ZC, eq_self, Nat.reduceLeDiff, eqB]
  unfold overL
  simp only
  cases decide (xr = []) <;> cases decide (xr = e1) <;> cases decide (xu = []) <;> cases decide (xu = e2) <;> cases (xk == 0) <;> rfl
theorem r46 (x y : Ru) (l : Nat) (h : AH) : run V0 (.fn 46) l [S x.V, S y.V] h = some (.ret (.bool (overL x y)) (h ++ [.row 0 4 x.C] ++ [.row 0 4 y.C])) := by
  obtain ⟨xq, xr, xu, xk⟩ := x
  obtain ⟨e0, e1, e2, e3⟩ := y
  refine run_fn Try.func46 rfl rfl rfl rfl ?_
  simp only [↓XX, ↓XD, ↓YX, ZB, Nat.reduceAdd, Nat.reducePow, ↓reduceIte, eq_self, Int.reduceEq, Nat.reduceEqDiff, Nat.reduceMul, Nat.reduceLeDiff, Try.f46, ↓XH1, ↓XH2, ZC, eq_self, Nat.reduceLeDiff, eqB]
  unfold overL
  simp only
  cases decide (xr = []) <;> cases decide (xr = e1) <;> cases decide (xu = []) <;> cases decide (xu = e2) <;> cases (xk == 0) <;> rfl
abbrev ccV (ie : Nat) : Value := .func (.func 45) ⟨[]⟩ ⟨[pV ie 0 0]⟩
theorem r45 (x y : Ru) (ie l : Nat) (h : AH) (he : h[ie]? = some (.row 0 4 y.C)) : ∃ h', run V0 (.fn 45) l [S x.V, S (pV ie 0 0)] h = some (.ret (.bool (overL x y)) h') ∧ Keep h.length h h' := by
  have k0 : Keep h.length h (h ++ [.row 0 4 x.C]) := Keep.app _ _ (Nat.le_refl _)
  have e1 := k0.get he (lt_of_get he)
  have h71 := r46 x y l (h ++ [.row 0 4 x.C])
  refine ⟨h ++ [.row 0 4 x.C] ++ [.row 0 4 x.C] ++ [.row 0 4 y.C], run_fn Try.func45 rfl rfl rfl rfl ?_, k0.trans ((Keep.app _ _ (by simp)).trans (Keep.app _ _ (by simp)))⟩
  simp only [↓XX, ↓XD, ↓YX, ZB, Nat.reduceAdd, Nat.reducePow, ↓reduceIte, eq_self, Int.reduceEq, Nat.reduceEqDiff, Nat.reduceMul, Nat.reduceLeDiff, Try.f45, ↓XH1, ↓XH2, ZC, eq_self, Nat.reduceLeDiff, e1, h71]
/-- slices.IndexFunc over rules: its loop, by covers -/
theorem L69v (id g c n l ie : Nat) (y : Ru) (hn : n ≤ 2 ^ 40) : ∀ (r d : List Ru) (h : AH), d.length + r.length = n → h[ie]? = some (.row 0 4 y.C) → h[id]? = some (.row g 4 (Ru.R (d ++ r))) →
    ∃ h', L69_0 l (slV id g n c) (ccV ie) (iV n) (iV d.length) h = some (.ret (iV (firstIx (fun x => overL x y) r d.length)) h') ∧ Keep h.length h h' := by
  intro r
  induction r with
  | nil =>
    intro d h hk he ei
    simp only [List.length_nil, Nat.add_zero] at hk
    have hlt : decide ((d.length : Int) < (n : Int)) = false := by rw [decide_eq_false_iff_not]; omega
    refine ⟨h, run_code Try.func69 rfl rfl ?_, Keep.refl _ _⟩
    simp only [↓XX, ↓XD, ↓YX, ZB, Nat.reduceAdd, Nat.reducePow, ↓reduceIte, eq_self, Int.reduceEq, Nat.reduceEqDiff, Nat.reduceMul, Nat.reduceLeDiff, Try.f69, hlt, firstIx]
  | cons x r ih =>
    intro d h hk he ei
    simp only [List.length_cons] at hk
    have hlt : decide ((d.length : Int) < (n : Int)) = true := by rw [decide_eq_true_iff]; omega
    have hix : ixAddr (slV id g n c) (d.length : Int) 4 = some (pV id (d.length * 4) g) := by rw [ixAddr_sl (by omega)]; simp
    have hld : ldN h (pV id (d.length * 4) g) 4 = some x.C := Ru.ldN ei
    have hw : IntKind.i64.wrap ((d.length : Int) + 1) = (((d ++ [x]).length : Nat) : Int) := natCast_succ_wrap (by omega) (by simp)
    obtain ⟨h1, a1, k1⟩ := r45 x y ie l h he
    by_cases hq : overL x y = true
    · rw [hq] at a1
      refine ⟨h1, run_code Try.func69 rfl rfl ?_, k1⟩
      simp only [↓XX, ↓XD, ↓YX, ZB, Nat.reduceAdd, Nat.reducePow, ↓reduceIte, eq_self, Int.reduceEq, Nat.reduceEqDiff, Nat.reduceMul, Nat.reduceLeDiff, Try.f69, hlt, hix, hld, a1]
      simp [firstIx, hq]
    · rw [Bool.eq_false_iff.2 hq] at a1
      obtain ⟨h', i1, i2⟩ := ih (d ++ [x]) h1 (by simp; omega) (k1.get he (lt_of_get he)) (by rw [k1.get ei (lt_of_get ei)]; simp)
      refine ⟨h', run_code Try.func69 rfl rfl ?_, k1.trans (i2.le k1.1)⟩
      simp only [↓XX, ↓XD, ↓YX, ZB, Nat.reduceAdd, Nat.reducePow, ↓reduceIte, eq_self, Int.reduceEq, Nat.reduceEqDiff, Nat.reduceMul, Nat.reduceLeDiff, Try.f69, hlt, hix, hld, a1, hw]
      rw [i1]; simp [firstIx, hq]
theorem r44v (id g c l ie : Nat) (xs : List Ru) (y : Ru) (h : AH) (hn : xs.length ≤ 2 ^ 40) (he : h[ie]? = some (.row 0 4 y.C)) (e : h[id]? = some (.row g 4 (Ru.R xs))) :
    ∃ h', run V0 (.fn 44) l [S (slV id g xs.length c), S (ccV ie)] h = some (.ret (.bool (xs.any fun x => overL x y)) h') ∧ Keep h.length h h' := by
  obtain ⟨h', i1, i2⟩ := L69v id g c xs.length l ie y hn xs [] h (by simp) he (by simpa using e)
  have e69 : run V0 (.fn 69) l [S (slV id g xs.length c), S (ccV ie)] h = some (.ret (iV (firstIx (fun x => overL x y) xs 0)) h') := by
    refine run_fn Try.func69 rfl rfl rfl rfl ?_
    simp only [↓XX, ↓XD, ↓YX, ZB, Nat.reduceAdd, Nat.reducePow, ↓reduceIte, eq_self, Int.reduceEq, Nat.reduceEqDiff, Nat.reduceMul, Nat.reduceLeDiff, Try.f69, lenV]
    exact i1
  have hnone := firstIx_none (fun x => overL x y) xs 0
  refine ⟨h', run_fn Try.func44 rfl rfl rfl rfl ?_, i2⟩
  simp only [↓XX, ↓XD, ↓YX, ZB, Nat.reduceAdd, Nat.reducePow, ↓reduceIte, eq_self, Int.reduceEq, Nat.reduceEqDiff, Nat.reduceMul, Nat.reduceLeDiff, Try.f44, e69, hnone]
end Go.Abs
namespace Go.Abs
open Go.Proofs
set_option maxRecDepth 100000
set_option linter.unusedSimpArgs false
set_option pp.maxSteps 20000

theorem r57 (x y : En) (l : Nat) (h : AH) : run V0 (.fn 57) l [S x.V, S y.V] h = some (.ret (.bool (decide (x = y))) (h ++ [.row 0 9 x.C] ++ [.row 0 9 y.C])) := by
  refine run_fn Try.func57 rfl rfl rfl rfl ?_
  obtain ⟨a0, a1, a2, a3, a4, a5, a6, a7, a8⟩ := x
  obtain ⟨b0, b1, b2, b3, b4, b5, b6, b7, b8⟩ := y
  simp only [↓XX, ↓XD, ↓YX, ZB, Nat.reduceAdd, Nat.reducePow, ↓reduceIte, eq_self, Int.reduceEq, Nat.reduceEqDiff, Nat.reduceMul, Nat.reduceLeDiff, Try.f57, ↓XH1, ↓XH2, ZC, eq_self, Nat.reduceLeDiff, neB]
  by_cases h0 : a0 = b0
  · skip
    by_cases h1 : a1 = b1
    · skip
      by_cases h2 : a2 = b2
      · skip
        by_cases h3 : a3 = b3
        · skip
          by_cases h4 : a4 = b4
          · skip
            by_cases h5 : a5 = b5
            · skip
              by_cases h6 : a6 = b6
              · skip
                by_cases h7 : a7 = b7
                · skip
                  by_cases h8 : a8 = b8
                  · simp [h0, h1, h2, h3, h4, h5, h6, h7, h8]
                  · have e8 : (a8 != b8) = true := by simp [h8]
                    simp [h0, h1, h2, h3, h4, h5, h6, h7, h8, e8]
                · simp [h0, h1, h2, h3, h4, h5, h6, h7]
              · simp [h0, h1, h2, h3, h4, h5, h6]
            · simp [h0, h1, h2, h3, h4, h5]
          · simp [h0, h1, h2, h3, h4]
        · simp [h0, h1, h2, h3]
      · have e2 : (a2 != b2) = true := by simp [h2]
        simp [h0, h1, h2, e2]
    · have e1 : (a1 != b1) = true := by simp [h1]
      simp [h0, h1, e1]
  · simp [h0]
theorem L28 (ia ga ca ib gb cb n l : Nat) (hn : n ≤ 2 ^ 40) : ∀ (r r' d d' : List En) (h : AH), d.length = d'.length → d.length + r.length = n → r.length = r'.length → h[ia]? = some (.row ga 9 (En.R (d ++ r))) → h[ib]? = some (.row gb 9 (En.R (d' ++ r'))) →
    ∃ h', L28_0 l (slV ia ga n ca) (slV ib gb n cb) (iV d.length) h = some (.ret (.bool (decide (r = r'))) h') ∧ Keep h.length h h' := by
  intro r
  induction r with
  | nil =>
    intro r' d d' h hd hk hr ea eb
    obtain rfl : r' = [] := by cases r' with | nil => rfl | cons _ _ => simp at hr
    simp only [List.length_nil, Nat.add_zero] at hk
    refine ⟨h, run_code Try.func28 rfl rfl ?_, Keep.refl _ _⟩
    have hlt : decide ((d.length : Int) < (n : Int)) = false := by rw [decide_eq_false_iff_not]; omega
    simp only [↓XX, ↓XD, ↓YX, ZB, Nat.reduceAdd, Nat.reducePow, ↓reduceIte, eq_self, Int.reduceEq, Nat.reduceEqDiff, Nat.reduceMul, Nat.reduceLeDiff, Try.f28, lenV, hlt, decide_true]
  | cons x r ih =>
    intro r' d d' h hd hk hr ea eb
    cases r' with
    | nil => simp at hr
    | cons y r' =>
      simp only [List.length_cons] at hk hr
      have hlt : decide ((d.length : Int) < (n : Int)) = true := by rw [decide_eq_true_iff]; omega
      have hia : ixAddr (slV ia ga n ca) (d.length : Int) 9 = some (pV ia (d.length * 9) ga) := by rw [ixAddr_sl (by omega)]; simp
      have hib : ixAddr (slV ib gb n cb) (d.length : Int) 9 = some (pV ib (d.length * 9) gb) := by rw [ixAddr_sl (by omega)]; simp
      have hla : ldN h (pV ia (d.length * 9) ga) 9 = some x.C := En.ldN ea
      have hlb : ldN h (pV ib (d.length * 9) gb) 9 = some y.C := by rw [hd]; exact En.ldN eb
      have hw : IntKind.i64.wrap ((d.length : Int) + 1) = (((d ++ [x]).length : Nat) : Int) := natCast_succ_wrap (by omega) (by simp)
      have h62 := r57 x y l h
      have kp : Keep h.length h (h ++ [.row 0 9 x.C] ++ [.row 0 9 y.C]) := (Keep.app _ _ (Nat.le_refl _)).trans (Keep.app _ _ (by simp))
      by_cases hq : x = y
      · rw [decide_eq_true hq] at h62
        obtain ⟨h', i1, i2⟩ := ih r' (d ++ [x]) (d' ++ [y]) (h ++ [.row 0 9 x.C] ++ [.row 0 9 y.C]) (by simp [hd]) (by simp; omega) (by omega) (by rw [kp.get ea (lt_of_get ea)]; simp) (by rw [kp.get eb (lt_of_get eb)]; simp)
        refine ⟨h', run_code Try.func28 rfl rfl ?_, kp.trans (i2.le kp.1)⟩
        simp (disch := (refine _root_.id ?_; kernel_rfl)) only [↓XX, ↓XD, ↓YX, ZB, Nat.reduceAdd, Nat.reducePow, ↓reduceIte, eq_self, Int.reduceEq, Nat.reduceEqDiff, Nat.reduceMul, Nat.reduceLeDiff, Try.f28, lenV, hlt, hia, hib, hla, hlb, h62, hw, Bool.not_true]
        rw [i1]; simp [hq]
      · rw [decide_eq_false hq] at h62
        refine ⟨_, run_code Try.func28 rfl rfl ?_, kp⟩
        simp (disch := (refine _root_.id ?_; kernel_rfl)) only [↓XX, ↓XD, ↓YX, ZB, Nat.reduceAdd, Nat.reducePow, ↓reduceIte, eq_self, Int.reduceEq, Nat.reduceEqDiff, Nat.reduceMul, Nat.reduceLeDiff, Try.f28, lenV, hlt, hia, hib, hla, hlb, h62, hw, Bool.not_false]
        simp [hq]
theorem r28 (ia ga ca ib gb cb l : Nat) (xs ys : List En) (h : AH) (hn : xs.length ≤ 2 ^ 40) (ea : h[ia]? = some (.row ga 9 (En.R xs))) (eb : h[ib]? = some (.row gb 9 (En.R ys))) :
    ∃ h', run V0 (.fn 28) l [S (slV ia ga xs.length ca), S (slV ib gb ys.length cb)] h = some (.ret (.bool (decide (xs = ys))) h') ∧ Keep h.length h h' := by
  by_cases hy : xs.length = ys.length
  · obtain ⟨h', i1, i2⟩ := L28 ia ga ca ib gb cb xs.length l hn xs ys [] [] h rfl (by simp) hy (by simpa using ea) (by simpa using eb)
    refine ⟨h', run_fn Try.func28 rfl rfl rfl rfl ?_, i2⟩
    have hb : ((xs.length : Int) != (ys.length : Int)) = false := by simp [hy]
    simp only [↓XX, ↓XD, ↓YX, ZB, Nat.reduceAdd, Nat.reducePow, ↓reduceIte, eq_self, Int.reduceEq, Nat.reduceEqDiff, Nat.reduceMul, Nat.reduceLeDiff, Try.f28, lenV, hb]
    rw [← hy]
    exact i1
  · refine ⟨h, run_fn Try.func28 rfl rfl rfl rfl ?_, Keep.refl _ _⟩
    have hb : ((xs.length : Int) != (ys.length : Int)) = true := by simp; omega
    have : xs ≠ ys := fun e => hy (by rw [e])
    simp only [↓XX, ↓XD, ↓YX, ZB, Nat.reduceAdd, Nat.reducePow, ↓reduceIte, eq_self, Int.reduceEq, Nat.reduceEqDiff, Nat.reduceMul, Nat.reduceLeDiff, Try.f28, lenV, hb]
    simp [this]
def En.szL : List En → Int → Int
  | [], k => k
  | x :: r, k => if x.sz k < 0 then -1 else En.szL r (x.sz k)
theorem En.szL_fit : ∀ (xs : List En) (k : Int), 0 ≤ En.szL xs k → ∀ x ∈ xs, (x.room.length : Int) ≤ k ∧ (x.user.length : Int) ≤ k ∧ (x.nick.length : Int) ≤ k ∧ (x.text.length : Int) ≤ k ∧ (x.id.length : Int) ≤ k ∧ (x.ref.length : Int) ≤ k
  | [], _, _ => by simp
  | y :: xs, k, h => by
    simp only [En.szL] at h
    split at h
    · omega
    · rename_i q
      have e := En.sz_fit y k (by omega)
      intro x hx
      rcases List.mem_cons.1 hx with rfl | hx
      · omega
      · have := En.szL_fit xs _ h x hx; omega
theorem En.szL_le : ∀ (xs : List En) (k : Int), 0 ≤ k → En.szL xs k ≤ k
  | [], k, _ => Int.le_refl _
  | y :: xs, k, h => by
    simp only [En.szL]
    have e := En.sz_le y k h
    split
    · omega
    · have := En.szL_le xs (y.sz k) (by omega); omega
/-- .. its loop -/
theorem L24 (v : Value) (l : Nat) : ∀ (r d : List En) (k : Int) (h : AH), En.Rd h v (d ++ r) → (∀ x ∈ r, x.Fit63) → 0 ≤ k ∧ k ≤ 2 ^ 40 → d.length + r.length ≤ 2 ^ 60 →
    ∃ h', L24_0 l v (iV k) (iV d.length) h = some (.ret (iV (En.szL r k)) h') ∧ Keep h.length h h' := by
  intro r
  induction r with
  | nil =>
    intro d k h q hf hk hn
    have hlen := q.len
    have hlt : decide ((d.length : Int) < ((d ++ []).length : Int)) = false := by rw [decide_eq_false_iff_not, List.append_nil]; omega
    refine ⟨h, run_code Try.func24 rfl rfl ?_, Keep.refl _ _⟩
    simp only [↓XX, ↓XD, ↓YX, ZB, Nat.reduceAdd, Nat.reducePow, ↓reduceIte, eq_self, Int.reduceEq, Nat.reduceEqDiff, Nat.reduceMul, Nat.reduceLeDiff, Try.f24, hlen, hlt, En.szL]
  | cons x r ih =>
    intro d k h q hf hk hn
    have hlen := q.len
    obtain ⟨p, hp, hl⟩ := q.get
    simp only [List.length_cons] at hn
    have hlt : decide ((d.length : Int) < ((d ++ x :: r).length : Int)) = true := by rw [decide_eq_true_iff]; simp; omega
    have h55 := r12 x (hf x (by simp)) k (by omega) l h
    have hw : IntKind.i64.wrap ((d.length : Int) + 1) = (((d ++ [x]).length : Nat) : Int) := natCast_succ_wrap (by omega) (by simp)
    have kp : Keep h.length h (h ++ [.row 0 9 x.C]) := Keep.app _ _ (Nat.le_refl _)
    have hsz := En.sz_le x k hk.1
    by_cases hq : x.sz k < 0
    · refine ⟨_, run_code Try.func24 rfl rfl ?_, kp⟩
      have hd : decide (x.sz k < 0) = true := decide_eq_true hq
      simp only [↓XX, ↓XD, ↓YX, ZB, Nat.reduceAdd, Nat.reducePow, ↓reduceIte, eq_self, Int.reduceEq, Nat.reduceEqDiff, Nat.reduceMul, Nat.reduceLeDiff, Try.f24, hlen, hlt, hp, hl, h55, hd, En.szL]
      simp [hq]
    · obtain ⟨h', i1, i2⟩ := ih (d ++ [x]) (x.sz k) _ (by simpa using q.keep kp) (fun y hy => hf y (by simp [hy])) (by omega) (by simp; omega)
      refine ⟨h', run_code Try.func24 rfl rfl ?_, kp.trans (i2.le kp.1)⟩
      have hd : decide (x.sz k < 0) = false := decide_eq_false hq
      simp only [↓XX, ↓XD, ↓YX, ZB, Nat.reduceAdd, Nat.reducePow, ↓reduceIte, eq_self, Int.reduceEq, Nat.reduceEqDiff, Nat.reduceMul, Nat.reduceLeDiff, Try.f24, hlen, hlt, hp, hl, h55, hd, En.szL, hw]
      rw [i1, if_neg hq]
theorem r24 (v : Value) (l : Nat) (xs : List En) (h : AH) (q : En.Rd h v xs) (hf : ∀ x ∈ xs, x.Fit63) (hn : xs.length ≤ 9223372036854775807) (k : Int) (hk : 0 ≤ k ∧ k ≤ 2 ^ 40) :
    ∃ h' n, run V0 (.fn 24) l [S v, S (iV k)] h = some (.ret (iV n) h') ∧ Keep h.length h h' ∧ n ≤ k ∧ (0 ≤ n → (xs.length : Int) ≤ k ∧ 0 ≤ En.szL xs (k - xs.length)) := by
  have hlen := q.len
  have w1 : IntKind.i64.wrap (k - (xs.length : Int)) = k - xs.length := wrap64 (by omega)
  by_cases h0 : k - xs.length < 0
  · refine ⟨h, -1, run_fn Try.func24 rfl rfl rfl rfl ?_, Keep.refl _ _, by omega, by omega⟩
    have hd : decide (k - (xs.length : Int) < 0) = true := decide_eq_true h0
    simp only [↓XX, ↓XD, ↓YX, ZB, Nat.reduceAdd, Nat.reducePow, ↓reduceIte, eq_self, Int.reduceEq, Nat.reduceEqDiff, Nat.reduceMul, Nat.reduceLeDiff, Try.f24, hlen, w1, hd]
  · obtain ⟨h', i1, i2⟩ := L24 v l xs [] (k - xs.length) h (by simpa using q) hf (by omega) (by simp; omega)
    have hle := En.szL_le xs (k - xs.length) (by omega)
    refine ⟨h', _, run_fn Try.func24 rfl rfl rfl rfl ?_, i2, by omega, fun hz => ⟨by omega, hz⟩⟩
    have hd : decide (k - (xs.length : Int) < 0) = false := decide_eq_false h0
    simp only [↓XX, ↓XD, ↓YX, ZB, Nat.reduceAdd, Nat.reducePow, ↓reduceIte, eq_self, Int.reduceEq, Nat.reduceEqDiff, Nat.reduceMul, Nat.reduceLeDiff, Try.f24, hlen, w1, hd]
    exact i1
/-- the copies: the loop -/
theorem L26 (v : Value) (l id n : Nat) (n0 : Nat) (hl : l ≤ id) (h0 : n0 ≤ id) (hn : n ≤ 2 ^ 40) : ∀ (r d : List En) (h : AH), d.length + r.length = n → En.Rd h v (d ++ r) → n0 ≤ h.length → (∀ i g c, v = .slice (some ⟨i, 0, some g⟩) n c → i < n0) → l ≤ h.length →
    h[id]? = some (.row 0 9 (En.R d ++ repL r.length [sV [], iV 0, iV 0, sV [], sV [], sV [], sV [], sV [], iV 0])) →
    ∃ h', L26_0 l v (slV id 0 n n) (iV d.length) h = some (.ret (slV id 0 n n) h') ∧ h'[id]? = some (.row 0 9 (En.R (d ++ r))) ∧ Keep n0 h h' := by
  intro r
  induction r with
  | nil =>
    intro d h hk q hh hv hlh e
    have hlen := q.len
    have hlt : decide ((d.length : Int) < ((d ++ []).length : Int)) = false := by rw [decide_eq_false_iff_not, List.append_nil]; omega
    refine ⟨h, run_code Try.func26 rfl rfl ?_, by rw [e]; simp [repL], Keep.refl _ _⟩
    simp only [↓XX, ↓XD, ↓YX, ZB, Nat.reduceAdd, Nat.reducePow, ↓reduceIte, eq_self, Int.reduceEq, Nat.reduceEqDiff, Nat.reduceMul, Nat.reduceLeDiff, Try.f26, hlen, hlt]
  | cons x r ih =>
    intro d h hk q hh hv hlh e
    simp only [List.length_cons] at hk
    have hlen := q.len
    obtain ⟨p, hp, hld⟩ := q.get
    have hlt : decide ((d.length : Int) < ((d ++ x :: r).length : Int)) = true := by rw [decide_eq_true_iff]; simp; omega
    have h57 := r15 x l h hlh
    have hid := lt_of_get e
    have kp : Keep h.length h (h ++ [AObj.row 0 9 x.C] ++ [AObj.row 0 9 x.C] ++ [AObj.row 0 9 x.C]) := by
      rw [List.append_assoc, List.append_assoc]; exact Keep.app _ _ (Nat.le_refl _)
    have hix : ixAddr (slV id 0 n n) (d.length : Int) 9 = some (pV id (d.length * 9) 0) := by rw [ixAddr_sl (by omega)]; simp
    have hw : IntKind.i64.wrap ((d.length : Int) + 1) = (((d ++ [x]).length : Nat) : Int) := natCast_succ_wrap (by omega) (by simp)
    generalize hh1 : h ++ [AObj.row 0 9 x.C] ++ [AObj.row 0 9 x.C] ++ [AObj.row 0 9 x.C] = h1 at *
    have e1 := kp.get e hid
    have hst : stN l h1 (pV id (d.length * 9) 0) x.C = some (h1.set id (.row 0 9 (En.R (d ++ [x]) ++ repL r.length [sV [], iV 0, iV 0, sV [], sV [], sV [], sV [], sV [], iV 0]))) := by
      rw [stN_of hl e1 (by rw [List.length_append, En.R_len]; simp [repL]; omega) rfl]
      have hrep : repL (r.length + 1) [sV [], iV 0, iV 0, sV [], sV [], sV [], sV [], sV [], iV 0] = [sV [], iV 0, iV 0, sV [], sV [], sV [], sV [], sV [], iV 0] ++ repL r.length [sV [], iV 0, iV 0, sV [], sV [], sV [], sV [], sV [], iV 0] := by simp [repL, List.replicate_succ]
      have := setMany_mid (En.R d) [sV [], iV 0, iV 0, sV [], sV [], sV [], sV [], sV [], iV 0] (repL r.length [sV [], iV 0, iV 0, sV [], sV [], sV [], sV [], sV [], iV 0]) x.C rfl
      rw [En.R_len] at this
      simp only [List.length_cons]
      rw [hrep, Nat.mul_comm, this, En.R_app, En.R_cons]
      simp [En.R]
    have kp2 : Keep n0 h (h1.set id (.row 0 9 (En.R (d ++ [x]) ++ repL r.length [sV [], iV 0, iV 0, sV [], sV [], sV [], sV [], sV [], iV 0]))) := (kp.le hh).trans (Keep.set _ _ _ h0)
    have q2 : En.Rd (h1.set id (.row 0 9 (En.R (d ++ [x]) ++ repL r.length [sV [], iV 0, iV 0, sV [], sV [], sV [], sV [], sV [], iV 0]))) v ((d ++ [x]) ++ r) := by
      have hxs : (d ++ [x]) ++ r = d ++ x :: r := by simp
      rw [hxs]
      rcases q with q | ⟨i, g, c, hv', e'⟩
      · exact .inl q
      · refine .inr ⟨i, g, c, hv', kp2.get e' (hv i g c ?_)⟩
        rw [hv']
        have : (d ++ x :: r).length = n := by simp; omega
        rw [this]
    obtain ⟨h', i1, i2, i3⟩ := ih (d ++ [x]) _ (by simp; omega) q2 (by have := kp2.1; omega) hv (by have := kp2.1; omega) (get_set _ e1)
    refine ⟨h', run_code Try.func26 rfl rfl ?_, by rw [i2]; simp, kp2.trans i3⟩
    have hag : aggOf x.V = some x.C := rfl
    simp only [↓XX, ↓XD, ↓YX, ZB, Nat.reduceAdd, Nat.reducePow, ↓reduceIte, eq_self, Int.reduceEq, Nat.reduceEqDiff, Nat.reduceMul, Nat.reduceLeDiff, Try.f26, hlen, hlt, hp, hld, h57, hix, hag, hst, hw]
    exact i1
theorem r26 (v : Value) (l : Nat) (xs : List En) (h : AH) (q : En.Rd h v xs) (hn : xs.length ≤ 2 ^ 30) (hl : l ≤ h.length) :
    ∃ id h', run V0 (.fn 26) l [S v] h = some (.ret (slV id 0 xs.length xs.length) h') ∧ h'[id]? = some (.row 0 9 (En.R xs)) ∧ h.length ≤ id ∧ Keep h.length h h' := by
  have hlen := q.len
  have kp : Keep h.length h (h ++ [AObj.row 0 9 (repL xs.length [sV [], iV 0, iV 0, sV [], sV [], sV [], sV [], sV [], iV 0])]) := Keep.app _ _ (Nat.le_refl _)
  obtain ⟨h', i1, i2, i3⟩ := L26 v l h.length xs.length h.length hl (Nat.le_refl _) (by omega) xs [] (h ++ [AObj.row 0 9 (repL xs.length [sV [], iV 0, iV 0, sV [], sV [], sV [], sV [], sV [], iV 0])]) (by simp) (q.keep kp) (by simp)
    (fun i g c hv => by
      rcases q with ⟨q, _⟩ | ⟨i', g', c', q, e⟩
      · rw [q] at hv; cases hv
      · rw [q] at hv; cases hv; exact lt_of_get e) (by simp; omega) (by simp [En.R])
  refine ⟨h.length, h', run_fn Try.func26 rfl rfl rfl rfl ?_, i2, Nat.le_refl _, kp.trans i3⟩
  have hm : (0 ≤ (xs.length : Int) ∧ (xs.length : Int) ≤ (xs.length : Int) ∧ (xs.length : Int) ≤ 9223372036854775807 ∧ ((120 : Nat) : Int) * (xs.length : Int) ≤ 2 ^ 47) = True := eq_true (by omega)
  simp only [↓XX, ↓XD, ↓YX, ZB, Nat.reduceAdd, Nat.reducePow, ↓reduceIte, eq_self, Int.reduceEq, Nat.reduceEqDiff, Nat.reduceMul, Nat.reduceLeDiff, Try.f26, hlen, hm, if_true, Int.toNat_natCast, newS]
  exact i1
theorem En.set (d : List En) (x y : En) (r : List En) (j : Nat) (v : Value) (hj : j < 9) (hy : x.C.set j v = y.C) : (En.R (d ++ x :: r)).set (d.length * 9 + j) v = En.R (d ++ y :: r) := by
  rw [En.R_app, En.R_cons, En.R_app, En.R_cons]
  have := set_in (En.R d) x.C (En.R r) j v hj
  rw [En.R_len, Nat.mul_comm] at this
  rw [this, hy]
/-- a slice, with cells behind it -/
def En.Rt (h : AH) (l : Nat) (v : Value) (xs : List En) : Prop :=
  (v = .slice none 0 0 ∧ xs = []) ∨ ∃ id g c ma, v = slV id g xs.length c ∧ h[id]? = some (.row g 9 (En.R (xs ++ ma))) ∧ l ≤ id
theorem En.Rt.len {h : AH} {l : Nat} {v : Value} {xs : List En} (r : En.Rt h l v xs) : lenV v = some (xs.length : Int) := by
  rcases r with ⟨rfl, rfl⟩ | ⟨id, g, c, _, rfl, _⟩ <;> rfl
theorem En.Rt.get {h : AH} {l : Nat} {v : Value} {d r : List En} {x : En} (q : En.Rt h l v (d ++ x :: r)) : ∃ p, ixAddr v (d.length : Int) 9 = some p ∧ Abs.ldN h p 9 = some (En.C x) := by
  rcases q with ⟨_, q⟩ | ⟨id, g, c, ma, rfl, e, _⟩
  · simp at q
  · refine ⟨pV id (d.length * 9) g, by rw [ixAddr_sl (by simp)]; simp, ?_⟩
    rw [List.append_assoc, List.cons_append] at e
    exact En.ldN e
theorem En.Rt.keep {h h' : AH} {l : Nat} {v : Value} {xs : List En} (q : En.Rt h l v xs) (k : Keep h.length h h') : En.Rt h' l v xs := by
  rcases q with q | ⟨id, g, c, ma, rfl, e, hl⟩
  · exact .inl q
  · exact .inr ⟨id, g, c, ma, rfl, k.get e (lt_of_get e), hl⟩
theorem En.Rt.kx {h h' : AH} {l ix : Nat} {v : Value} {xs : List En} (q : En.Rt h l v xs) (k : KX h.length ix h h') (hi : ix < l) : En.Rt h' l v xs := by
  rcases q with q | ⟨id, g, c, ma, rfl, e, hl⟩
  · exact .inl q
  · exact .inr ⟨id, g, c, ma, rfl, k.get e (lt_of_get e) (by omega), hl⟩
theorem En.Rd.rt {h : AH} {v : Value} {xs : List En} (q : En.Rd h v xs) : En.Rt h 0 v xs := by
  rcases q with q | ⟨id, g, c, rfl, e⟩
  · exact .inl q
  · exact .inr ⟨id, g, c, [], rfl, by simpa using e, Nat.zero_le _⟩
def markEn (k : Nat) : En := ⟨markT k, ((k + 1 : Nat) : Int), ((k + 2 : Nat) : Int), markT (k + 3), markT (k + 4), markT (k + 5), markT (k + 6), markT (k + 7), ((k + 8 : Nat) : Int)⟩
def marksEn : Nat → Nat → List En
  | _, 0 => []
  | k, n + 1 => markEn k :: marksEn (k + 9) n
theorem marksEn_len : ∀ (n k : Nat), (marksEn k n).length = n
  | 0, _ => rfl
  | n + 1, k => by simp [marksEn, marksEn_len n]
theorem L29 (id g c n l : Nat) (ma : List En) (hl : l ≤ id) (n0 : Nat) (hn : n ≤ 2 ^ 30) : ∀ (r d : List En) (k : Nat) (h : AH), n0 ≤ h.length → d.length + r.length = n → 0 < k → k + 9 * r.length ≤ 2 ^ 39 → h[id]? = some (.row g 9 (En.R (d ++ (r ++ ma)))) →
    ∃ h', L29_0 l (slV id g n c) (iV k) (iV d.length) h = some (.ret (iV (k + 9 * r.length : Nat)) h') ∧ h'[id]? = some (.row g 9 (En.R (d ++ (marksEn k r.length ++ ma)))) ∧ KX n0 id h h' := by
  intro r
  induction r with
  | nil =>
    intro d k h h0 hk h1 hb e
    simp only [List.length_nil, Nat.add_zero] at hk
    refine ⟨h, run_code Try.func29 rfl rfl ?_, by simpa [marksEn] using e, KX.refl _ _ _⟩
    have hlt : decide ((d.length : Int) < (n : Int)) = false := by rw [decide_eq_false_iff_not]; omega
    simp only [↓XX, ↓XD, ↓YX, ZB, Nat.reduceAdd, Nat.reducePow, ↓reduceIte, eq_self, Int.reduceEq, Nat.reduceEqDiff, Nat.reduceMul, Nat.reduceLeDiff, Try.f29, lenV, hlt, Nat.mul_zero, Nat.add_zero]
  | cons x r ih =>
    intro d k h h0 hk h1 hb e
    simp only [List.length_cons] at hk hb
    have hlt : decide ((d.length : Int) < (n : Int)) = true := by rw [decide_eq_true_iff]; omega
    have hix : ixAddr (slV id g n c) (d.length : Int) 9 = some (pV id (d.length * 9) g) := by rw [ixAddr_sl (by omega)]; simp
    have ha : ∀ j, addOff (pV id (d.length * 9) g) j = some (pV id (d.length * 9 + j) g) := fun _ => rfl
    have ha0 : addOff (pV id (d.length * 9) g) 0 = some (pV id (d.length * 9) g) := rfl
    have hx0 : d.length * 9 + 0 = d.length * 9 := rfl
    have hw : IntKind.i64.wrap ((d.length : Int) + 1) = (((d ++ [markEn k]).length : Nat) : Int) := natCast_succ_wrap (by omega) (by simp)
    have w1 : IntKind.i64.wrap ((k : Int) + 1) = ((k + 1 : Nat) : Int) := natCast_succ_wrap (by omega) rfl
    have w2 : IntKind.i64.wrap (((k + 1 : Nat) : Int) + 1) = ((k + 2 : Nat) : Int) := natCast_succ_wrap (by omega) rfl
    have w3 : IntKind.i64.wrap (((k + 2 : Nat) : Int) + 1) = ((k + 3 : Nat) : Int) := natCast_succ_wrap (by omega) rfl
    have w4 : IntKind.i64.wrap (((k + 3 : Nat) : Int) + 1) = ((k + 4 : Nat) : Int) := natCast_succ_wrap (by omega) rfl
    have w5 : IntKind.i64.wrap (((k + 4 : Nat) : Int) + 1) = ((k + 5 : Nat) : Int) := natCast_succ_wrap (by omega) rfl
    have w6 : IntKind.i64.wrap (((k + 5 : Nat) : Int) + 1) = ((k + 6 : Nat) : Int) := natCast_succ_wrap (by omega) rfl
    have w7 : IntKind.i64.wrap (((k + 6 : Nat) : Int) + 1) = ((k + 7 : Nat) : Int) := natCast_succ_wrap (by omega) rfl
    have w8 : IntKind.i64.wrap (((k + 7 : Nat) : Int) + 1) = ((k + 8 : Nat) : Int) := natCast_succ_wrap (by omega) rfl
    have w9 : IntKind.i64.wrap (((k + 8 : Nat) : Int) + 1) = ((k + 9 : Nat) : Int) := natCast_succ_wrap (by omega) rfl
    obtain ⟨x0, x1, x2, x3, x4, x5, x6, x7, x8⟩ := x
    rw [List.cons_append] at e
    have hlen : ∀ (y : En) (j : Nat), j < 9 → d.length * 9 + j < (En.R (d ++ y :: (r ++ ma))).length := fun y j hj => by rw [En.R_len]; simp; omega
    obtain ⟨B0, a0, k0⟩ := r48 k (by omega) (by omega) l h
    have eb0 := k0.get e (lt_of_get e)
    have hid0 := lt_of_get e
    have s0 := st1_of (v := sV (markT k)) hl eb0 (hlen _ 0 (by omega)) rfl
    rw [En.set d ⟨x0, x1, x2, x3, x4, x5, x6, x7, x8⟩ ⟨markT k, x1, x2, x3, x4, x5, x6, x7, x8⟩ (r ++ ma) 0 (sV (markT k)) (by omega) rfl] at s0
    have e0 := get_set (AObj.row g 9 (En.R (d ++ ⟨markT k, x1, x2, x3, x4, x5, x6, x7, x8⟩ :: (r ++ ma)))) eb0
    have kA0 : KX n0 id h (B0.set id (AObj.row g 9 (En.R (d ++ ⟨markT k, x1, x2, x3, x4, x5, x6, x7, x8⟩ :: (r ++ ma))))) := ((k0.kx (h0))).trans (KX.set n0 id B0 (AObj.row g 9 (En.R (d ++ ⟨markT k, x1, x2, x3, x4, x5, x6, x7, x8⟩ :: (r ++ ma)))))
    generalize hH0 : B0.set id (AObj.row g 9 (En.R (d ++ ⟨markT k, x1, x2, x3, x4, x5, x6, x7, x8⟩ :: (r ++ ma)))) = H0 at *
    have s1 := st1_of (v := iV ((k + 1 : Nat) : Int)) hl e0 (hlen _ 1 (by omega)) rfl
    rw [En.set d ⟨markT k, x1, x2, x3, x4, x5, x6, x7, x8⟩ ⟨markT k, ((k + 1 : Nat) : Int), x2, x3, x4, x5, x6, x7, x8⟩ (r ++ ma) 1 (iV ((k + 1 : Nat) : Int)) (by omega) rfl] at s1
    have e1 := get_set (AObj.row g 9 (En.R (d ++ ⟨markT k, ((k + 1 : Nat) : Int), x2, x3, x4, x5, x6, x7, x8⟩ :: (r ++ ma)))) e0
    have kA1 : KX n0 id h (H0.set id (AObj.row g 9 (En.R (d ++ ⟨markT k, ((k + 1 : Nat) : Int), x2, x3, x4, x5, x6, x7, x8⟩ :: (r ++ ma))))) := (kA0).trans (KX.set n0 id H0 (AObj.row g 9 (En.R (d ++ ⟨markT k, ((k + 1 : Nat) : Int), x2, x3, x4, x5, x6, x7, x8⟩ :: (r ++ ma)))))
    generalize hH1 : H0.set id (AObj.row g 9 (En.R (d ++ ⟨markT k, ((k + 1 : Nat) : Int), x2, x3, x4, x5, x6, x7, x8⟩ :: (r ++ ma)))) = H1 at *
    have s2 := st1_of (v := iV ((k + 2 : Nat) : Int)) hl e1 (hlen _ 2 (by omega)) rfl
    rw [En.set d ⟨markT k, ((k + 1 : Nat) : Int), x2, x3, x4, x5, x6, x7, x8⟩ ⟨markT k, ((k + 1 : Nat) : Int), ((k + 2 : Nat) : Int), x3, x4, x5, x6, x7, x8⟩ (r ++ ma) 2 (iV ((k + 2 : Nat) : Int)) (by omega) rfl] at s2
    have e2 := get_set (AObj.row g 9 (En.R (d ++ ⟨markT k, ((k + 1 : Nat) : Int), ((k + 2 : Nat) : Int), x3, x4, x5, x6, x7, x8⟩ :: (r ++ ma)))) e1
    have kA2 : KX n0 id h (H1.set id (AObj.row g 9 (En.R (d ++ ⟨markT k, ((k + 1 : Nat) : Int), ((k + 2 : Nat) : Int), x3, x4, x5, x6, x7, x8⟩ :: (r ++ ma))))) := (kA1).trans (KX.set n0 id H1 (AObj.row g 9 (En.R (d ++ ⟨markT k, ((k + 1 : Nat) : Int), ((k + 2 : Nat) : Int), x3, x4, x5, x6, x7, x8⟩ :: (r ++ ma)))))
    generalize hH2 : H1.set id (AObj.row g 9 (En.R (d ++ ⟨markT k, ((k + 1 : Nat) : Int), ((k + 2 : Nat) : Int), x3, x4, x5, x6, x7, x8⟩ :: (r ++ ma)))) = H2 at *
    obtain ⟨B3, a3, k3⟩ := r48 (k + 3) (by omega) (by omega) l H2
    have eb3 := k3.get e2 (lt_of_get e2)
    have hid3 := lt_of_get e2
    have s3 := st1_of (v := sV (markT (k + 3))) hl eb3 (hlen _ 3 (by omega)) rfl
    rw [En.set d ⟨markT k, ((k + 1 : Nat) : Int), ((k + 2 : Nat) : Int), x3, x4, x5, x6, x7, x8⟩ ⟨markT k, ((k + 1 : Nat) : Int), ((k + 2 : Nat) : Int), markT (k + 3), x4, x5, x6, x7, x8⟩ (r ++ ma) 3 (sV (markT (k + 3))) (by omega) rfl] at s3
    have e3 := get_set (AObj.row g 9 (En.R (d ++ ⟨markT k, ((k + 1 : Nat) : Int), ((k + 2 : Nat) : Int), markT (k + 3), x4, x5, x6, x7, x8⟩ :: (r ++ ma)))) eb3
    have kA3 : KX n0 id h (B3.set id (AObj.row g 9 (En.R (d ++ ⟨markT k, ((k + 1 : Nat) : Int), ((k + 2 : Nat) : Int), markT (k + 3), x4, x5, x6, x7, x8⟩ :: (r ++ ma))))) := ((kA2).trans (k3.kx (Nat.le_trans h0 kA2.1))).trans (KX.set n0 id B3 (AObj.row g 9 (En.R (d ++ ⟨markT k, ((k + 1 : Nat) : Int), ((k + 2 : Nat) : Int), markT (k + 3), x4, x5, x6, x7, x8⟩ :: (r ++ ma)))))
    generalize hH3 : B3.set id (AObj.row g 9 (En.R (d ++ ⟨markT k, ((k + 1 : Nat) : Int), ((k + 2 : Nat) : Int), markT (k + 3), x4, x5, x6, x7, x8⟩ :: (r ++ ma)))) = H3 at *
    obtain ⟨B4, a4, k4⟩ := r48 (k + 4) (by omega) (by omega) l H3
    have eb4 := k4.get e3 (lt_of_get e3)
    have hid4 := lt_of_get e3
    have s4 := st1_of (v := sV (markT (k + 4))) hl eb4 (hlen _ 4 (by omega)) rfl
    rw [En.set d ⟨markT k, ((k + 1 : Nat) : Int), ((k + 2 : Nat) : Int), markT (k + 3), x4, x5, x6, x7, x8⟩ ⟨markT k, ((k + 1 : Nat) : Int), ((k + 2 : Nat) : Int), markT (k + 3), markT (k + 4), x5, x6, x7, x8⟩ (r ++ ma) 4 (sV (markT (k + 4))) (by omega) rfl] at s4
    have e4 := get_set (AObj.row g 9 (En.R (d ++ ⟨markT k, ((k + 1 : Nat) : Int), ((k + 2 : Nat) : Int), markT (k + 3), markT (k + 4), x5, x6, x7, x8⟩ :: (r ++ ma)))) eb4
    have kA4 : KX n0 id h (B4.set id (AObj.row g 9 (En.R (d ++ ⟨markT k, ((k + 1 : Nat) : Int), ((k + 2 : Nat) : Int), markT (k + 3), markT (k + 4), x5, x6, x7, x8⟩ :: (r ++ ma))))) := ((kA3).trans (k4.kx (Nat.le_trans h0 kA3.1))).trans (KX.set n0 id B4 (AObj.row g 9 (En.R (d ++ ⟨markT k, ((k + 1 : Nat) : Int), ((k + 2 : Nat) : Int), markT (k + 3), markT (k + 4), x5, x6, x7, x8⟩ :: (r ++ ma)))))
    generalize hH4 : B4.set id (AObj.row g 9 (En.R (d ++ ⟨markT k, ((k + 1 : Nat) : Int), ((k + 2 : Nat) : Int), markT (k + 3), markT (k + 4), x5, x6, x7, x8⟩ :: (r ++ ma)))) = H4 at *
    obtain ⟨B5, a5, k5⟩ := r48 (k + 5) (by omega) (by omega) l H4
    have eb5 := k5.get e4 (lt_of_get e4)
    have hid5 := lt_of_get e4
    have s5 := st1_of (v := sV (markT (k + 5))) hl eb5 (hlen _ 5 (by omega)) rfl
    rw [En.set d ⟨markT k, ((k + 1 : Nat) : Int), ((k + 2 : Nat) : Int), markT (k + 3), markT (k + 4), x5, x6, x7, x8⟩ ⟨markT k, ((k + 1 : Nat) : Int), ((k + 2 : Nat) : Int), markT (k + 3), markT (k + 4), markT (k + 5), x6, x7, x8⟩ (r ++ ma) 5 (sV (markT (k + 5))) (by omega) rfl] at s5
    have e5 := get_set (AObj.row g 9 (En.R (d ++ ⟨markT k, ((k + 1 : Nat) : Int), ((k + 2 : Nat) : Int), markT (k + 3), markT (k + 4), markT (k + 5), x6, x7, x8⟩ :: (r ++ ma)))) eb5
    have kA5 : KX n0 id h (B5.set id (AObj.row g 9 (En.R (d ++ ⟨markT k, ((k + 1 : Nat) : Int), ((k + 2 : Nat) : Int), markT (k + 3), markT (k + 4), markT (k + 5), x6, x7, x8⟩ :: (r ++ ma))))) := ((kA4).trans (k5.kx (Nat.le_trans h0 kA4.1))).trans (KX.set n0 id B5 (AObj.row g 9 (En.R (d ++ ⟨markT k, ((k + 1 : Nat) : Int), ((k + 2 : Nat) : Int), markT (k + 3), markT (k + 4), markT (k + 5), x6, x7, x8⟩ :: (r ++ ma)))))
    generalize hH5 : B5.set id (AObj.row g 9 (En.R (d ++ ⟨markT k, ((k + 1 : Nat) : Int), ((k + 2 : Nat) : Int), markT (k + 3), markT (k + 4), markT (k + 5), x6, x7, x8⟩ :: (r ++ ma)))) = H5 at *
    obtain ⟨B6, a6, k6⟩ := r48 (k + 6) (by omega) (by omega) l H5
    have eb6 := k6.get e5 (lt_of_get e5)
    have hid6 := lt_of_get e5
    have s6 := st1_of (v := sV (markT (k + 6))) hl eb6 (hlen _ 6 (by omega)) rfl
    rw [En.set d ⟨markT k, ((k + 1 : Nat) : Int), ((k + 2 : Nat) : Int), markT (k + 3), markT (k + 4), markT (k + 5), x6, x7, x8⟩ ⟨markT k, ((k + 1 : Nat) : Int), ((k + 2 : Nat) : Int), markT (k + 3), markT (k + 4), markT (k + 5), markT (k + 6), x7, x8⟩ (r ++ ma) 6 (sV (markT (k + 6))) (by omega) rfl] at s6
    have e6 := get_set (AObj.row g 9 (En.R (d ++ ⟨markT k, ((k + 1 : Nat) : Int), ((k + 2 : Nat) : Int), markT (k + 3), markT (k + 4), markT (k + 5), markT (k + 6), x7, x8⟩ :: (r ++ ma)))) eb6
    have kA6 : KX n0 id h (B6.set id (AObj.row g 9 (En.R (d ++ ⟨markT k, ((k + 1 : Nat) : Int), ((k + 2 : Nat) : Int), markT (k + 3), markT (k + 4), markT (k + 5), markT (k + 6), x7, x8⟩ :: (r ++ ma))))) := ((kA5).trans (k6.kx (Nat.le_trans h0 kA5.1))).trans (KX.set n0 id B6 (AObj.row g 9 (En.R (d ++ ⟨markT k, ((k + 1 : Nat) : Int), ((k + 2 : Nat) : Int), markT (k + 3), markT (k + 4), markT (k + 5), markT (k + 6), x7, x8⟩ :: (r ++ ma)))))
    generalize hH6 : B6.set id (AObj.row g 9 (En.R (d ++ ⟨markT k, ((k + 1 : Nat) : Int), ((k + 2 : Nat) : Int), markT (k + 3), markT (k + 4), markT (k + 5), markT (k + 6), x7, x8⟩ :: (r ++ ma)))) = H6 at *
    obtain ⟨B7, a7, k7⟩ := r48 (k + 7) (by omega) (by omega) l H6
    have eb7 := k7.get e6 (lt_of_get e6)
    have hid7 := lt_of_get e6
    have s7 := st1_of (v := sV (markT (k + 7))) hl eb7 (hlen _ 7 (by omega)) rfl
    rw [En.set d ⟨markT k, ((k + 1 : Nat) : Int), ((k + 2 : Nat) : Int), markT (k + 3), markT (k + 4), markT (k + 5), markT (k + 6), x7, x8⟩ ⟨markT k, ((k + 1 : Nat) : Int), ((k + 2 : Nat) : Int), markT (k + 3), markT (k + 4), markT (k + 5), markT (k + 6), markT (k + 7), x8⟩ (r ++ ma) 7 (sV (markT (k + 7))) (by omega) rfl] at s7
    have e7 := get_set (AObj.row g 9 (En.R (d ++ ⟨markT k, ((k + 1 : Nat) : Int), ((k + 2 : Nat) : Int), markT (k + 3), markT (k + 4), markT (k + 5), markT (k + 6), markT (k + 7), x8⟩ :: (r ++ ma)))) eb7
    have kA7 : KX n0 id h (B7.set id (AObj.row g 9 (En.R (d ++ ⟨markT k, ((k + 1 : Nat) : Int), ((k + 2 : Nat) : Int), markT (k + 3), markT (k + 4), markT (k + 5), markT (k + 6), markT (k + 7), x8⟩ :: (r ++ ma))))) := ((kA6).trans (k7.kx (Nat.le_trans h0 kA6.1))).trans (KX.set n0 id B7 (AObj.row g 9 (En.R (d ++ ⟨markT k, ((k + 1 : Nat) : Int), ((k + 2 : Nat) : Int), markT (k + 3), markT (k + 4), markT (k + 5), markT (k + 6), markT (k + 7), x8⟩ :: (r ++ ma)))))
    generalize hH7 : B7.set id (AObj.row g 9 (En.R (d ++ ⟨markT k, ((k + 1 : Nat) : Int), ((k + 2 : Nat) : Int), markT (k + 3), markT (k + 4), markT (k + 5), markT (k + 6), markT (k + 7), x8⟩ :: (r ++ ma)))) = H7 at *
    have s8 := st1_of (v := iV ((k + 8 : Nat) : Int)) hl e7 (hlen _ 8 (by omega)) rfl
    rw [En.set d ⟨markT k, ((k + 1 : Nat) : Int), ((k + 2 : Nat) : Int), markT (k + 3), markT (k + 4), markT (k + 5), markT (k + 6), markT (k + 7), x8⟩ (markEn k) (r ++ ma) 8 (iV ((k + 8 : Nat) : Int)) (by omega) rfl] at s8
    have e8 := get_set (AObj.row g 9 (En.R (d ++ (markEn k) :: (r ++ ma)))) e7
    have kA8 : KX n0 id h (H7.set id (AObj.row g 9 (En.R (d ++ (markEn k) :: (r ++ ma))))) := (kA7).trans (KX.set n0 id H7 (AObj.row g 9 (En.R (d ++ (markEn k) :: (r ++ ma)))))
    obtain ⟨h', i1, i2, i3⟩ := ih (d ++ [markEn k]) (k + 9) _ (Nat.le_trans h0 kA8.1) (by simp; omega) (by omega) (by omega) (by rw [e8]; simp)
    refine ⟨h', run_code Try.func29 rfl rfl ?_, by simpa only [marksEn, List.length_cons, List.append_assoc, List.singleton_append, List.cons_append, List.nil_append] using i2, kA8.trans i3⟩
    simp only [hx0] at s0
    simp only [↓XX, ↓XD, ↓YX, ZB, Nat.reduceAdd, Nat.reducePow, ↓reduceIte, eq_self, Int.reduceEq, Nat.reduceEqDiff, Nat.reduceMul, Nat.reduceLeDiff, Try.f29, lenV, hlt, hix, ha0, ha, a0, s0, w1, s1, w2, s2, w3, a3, s3, w4, a4, s4, w5, a5, s5, w6, a6, s6, w7, a7, s7, w8, s8, w9, hw]
    rw [i1]
    have hq : k + 9 + 9 * r.length = k + 9 * (r.length + 1) := by omega
    rw [hq]
theorem r29s (id g c l k : Nat) (xs ma : List En) (h : AH) (e : h[id]? = some (.row g 9 (En.R (xs ++ ma)))) (hl : l ≤ id) (hn : xs.length ≤ 2 ^ 30) (h1 : 0 < k) (hb : k ≤ 2 ^ 30) :
    ∃ h', run V0 (.fn 29) l [S (slV id g xs.length c), S (iV k)] h = some (.ret (iV (k + 9 * xs.length : Nat)) h') ∧ h'[id]? = some (.row g 9 (En.R (marksEn k xs.length ++ ma))) ∧ KX h.length id h h' := by
  obtain ⟨h', i1, i2, i3⟩ := L29 id g c xs.length l ma hl h.length hn xs [] k h (Nat.le_refl _) (by simp) h1 (by omega) e
  refine ⟨h', run_fn Try.func29 rfl rfl rfl rfl ?_, i2, i3⟩
  simp only [↓XX, ↓XD, ↓YX, ZB, Nat.reduceAdd, Nat.reducePow, ↓reduceIte, eq_self, Int.reduceEq, Nat.reduceEqDiff, Nat.reduceMul, Nat.reduceLeDiff, Try.f29]
  exact i1
theorem r29 (v : Value) (l lo k : Nat) (xs : List En) (h : AH) (q : En.Rt h lo v xs) (hl : l ≤ lo) (hn : xs.length ≤ 2 ^ 30) (h1 : 0 < k) (hb : k ≤ 2 ^ 30) :
    ∃ h', run V0 (.fn 29) l [S v, S (iV k)] h = some (.ret (iV (k + 9 * xs.length : Nat)) h') ∧ En.Rt h' lo v (marksEn k xs.length) ∧ ∃ ix, lo ≤ ix ∧ KX h.length ix h h' := by
  rcases q with ⟨rfl, rfl⟩ | ⟨id, g, c, ma, rfl, e, hl2⟩
  · refine ⟨h, run_fn Try.func29 rfl rfl rfl rfl ?_, .inl ⟨rfl, rfl⟩, lo, Nat.le_refl _, KX.refl _ _ _⟩
    have e0 : L29_0 l (.slice none 0 0) (iV k) (iV 0) h = some (.ret (iV k) h) := by
      refine run_code Try.func29 rfl rfl ?_
      have hlt : decide ((0 : Int) < 0) = false := rfl
      simp only [↓XX, ↓XD, ↓YX, ZB, Nat.reduceAdd, Nat.reducePow, ↓reduceIte, eq_self, Int.reduceEq, Nat.reduceEqDiff, Nat.reduceMul, Nat.reduceLeDiff, Try.f29, lenV, Int.natCast_zero, hlt]
    simp only [↓XX, ↓XD, ↓YX, ZB, Nat.reduceAdd, Nat.reducePow, ↓reduceIte, eq_self, Int.reduceEq, Nat.reduceEqDiff, Nat.reduceMul, Nat.reduceLeDiff, Try.f29]
    exact e0
  · obtain ⟨h', i1, i2, i3⟩ := r29s id g c l k xs ma h e (by omega) hn h1 hb
    exact ⟨h', i1, .inr ⟨id, g, c, ma, by rw [marksEn_len], i2, hl2⟩, id, hl2, i3⟩
theorem L30 (id g c n l : Nat) (ma : List En) (hn : n ≤ 2 ^ 30) : ∀ (m : Nat) (d : List En) (k : Nat) (h : AH), d.length + m = n → 0 < k → k + 9 * m ≤ 2 ^ 39 → h[id]? = some (.row g 9 (En.R (d ++ (marksEn k m ++ ma)))) →
    ∃ h', L30_0 l (slV id g n c) (iV k) (iV d.length) h = some (.ret (iV (k + 9 * m : Nat)) h') ∧ Keep h.length h h' := by
  intro m
  induction m with
  | zero =>
    intro d k h hk h1 hb e
    refine ⟨h, run_code Try.func30 rfl rfl ?_, Keep.refl _ _⟩
    have hlt : decide ((d.length : Int) < (n : Int)) = false := by rw [decide_eq_false_iff_not]; omega
    simp only [↓XX, ↓XD, ↓YX, ZB, Nat.reduceAdd, Nat.reducePow, ↓reduceIte, eq_self, Int.reduceEq, Nat.reduceEqDiff, Nat.reduceMul, Nat.reduceLeDiff, Try.f30, lenV, hlt, Nat.mul_zero, Nat.add_zero]
  | succ m ih =>
    intro d k h hk h1 hb e
    have hlt : decide ((d.length : Int) < (n : Int)) = true := by rw [decide_eq_true_iff]; omega
    have hix : ixAddr (slV id g n c) (d.length : Int) 9 = some (pV id (d.length * 9) g) := by rw [ixAddr_sl (by omega)]; simp
    have ha : ∀ j, addOff (pV id (d.length * 9) g) j = some (pV id (d.length * 9 + j) g) := fun _ => rfl
    have ha0 : addOff (pV id (d.length * 9) g) 0 = some (pV id (d.length * 9) g) := rfl
    have hw : IntKind.i64.wrap ((d.length : Int) + 1) = (((d ++ [markEn k]).length : Nat) : Int) := natCast_succ_wrap (by omega) (by simp)
    have cell : ∀ j, j < 9 → (En.R (d ++ (markEn k :: marksEn (k + 9) m ++ ma)))[d.length * 9 + j]? = (markEn k).C[j]? := fun j hj => cell_of_take (En.get d (markEn k) _) hj
    have w1 : IntKind.i64.wrap ((k : Int) + 1) = ((k + 1 : Nat) : Int) := natCast_succ_wrap (by omega) rfl
    have w2 : IntKind.i64.wrap (((k + 1 : Nat) : Int) + 1) = ((k + 2 : Nat) : Int) := natCast_succ_wrap (by omega) rfl
    have w3 : IntKind.i64.wrap (((k + 2 : Nat) : Int) + 1) = ((k + 3 : Nat) : Int) := natCast_succ_wrap (by omega) rfl
    have w4 : IntKind.i64.wrap (((k + 3 : Nat) : Int) + 1) = ((k + 4 : Nat) : Int) := natCast_succ_wrap (by omega) rfl
    have w5 : IntKind.i64.wrap (((k + 4 : Nat) : Int) + 1) = ((k + 5 : Nat) : Int) := natCast_succ_wrap (by omega) rfl
    have w6 : IntKind.i64.wrap (((k + 5 : Nat) : Int) + 1) = ((k + 6 : Nat) : Int) := natCast_succ_wrap (by omega) rfl
    have w7 : IntKind.i64.wrap (((k + 6 : Nat) : Int) + 1) = ((k + 7 : Nat) : Int) := natCast_succ_wrap (by omega) rfl
    have w8 : IntKind.i64.wrap (((k + 7 : Nat) : Int) + 1) = ((k + 8 : Nat) : Int) := natCast_succ_wrap (by omega) rfl
    have w9 : IntKind.i64.wrap (((k + 8 : Nat) : Int) + 1) = ((k + 9 : Nat) : Int) := natCast_succ_wrap (by omega) rfl
    have ld0 : ld h (pV id (d.length * 9) g) = some (sV (markT k)) := ld_of e (cell 0 (by omega))
    obtain ⟨A0, a0, k0⟩ := r48 k (by omega) (by omega) (List.length h) h
    have e0 := k0.get e (lt_of_get e)
    have kA0 : Keep h.length h A0 := k0
    have ld1 : ld A0 (pV id (d.length * 9 + 1) g) = some (iV ((k + 1 : Nat) : Int)) := ld_of e0 (cell 1 (by omega))
    have hb1 : (((k + 1 : Nat) : Int) != ((k + 1 : Nat) : Int)) = false := by simp
    have ld2 : ld A0 (pV id (d.length * 9 + 2) g) = some (iV ((k + 2 : Nat) : Int)) := ld_of e0 (cell 2 (by omega))
    have hb2 : (((k + 2 : Nat) : Int) != ((k + 2 : Nat) : Int)) = false := by simp
    have ld3 : ld A0 (pV id (d.length * 9 + 3) g) = some (sV (markT (k + 3))) := ld_of e0 (cell 3 (by omega))
    obtain ⟨A3, a3, k3⟩ := r48 (k + 3) (by omega) (by omega) (List.length A0) A0
    have e3 := k3.get e0 (lt_of_get e0)
    have kA3 : Keep h.length h A3 := kA0.trans (k3.le kA0.1)
    have ld4 : ld A3 (pV id (d.length * 9 + 4) g) = some (sV (markT (k + 4))) := ld_of e3 (cell 4 (by omega))
    obtain ⟨A4, a4, k4⟩ := r48 (k + 4) (by omega) (by omega) (List.length A3) A3
    have e4 := k4.get e3 (lt_of_get e3)
    have kA4 : Keep h.length h A4 := kA3.trans (k4.le kA3.1)
    have ld5 : ld A4 (pV id (d.length * 9 + 5) g) = some (sV (markT (k + 5))) := ld_of e4 (cell 5 (by omega))
    obtain ⟨A5, a5, k5⟩ := r48 (k + 5) (by omega) (by omega) (List.length A4) A4
    have e5 := k5.get e4 (lt_of_get e4)
    have kA5 : Keep h.length h A5 := kA4.trans (k5.le kA4.1)
    have ld6 : ld A5 (pV id (d.length * 9 + 6) g) = some (sV (markT (k + 6))) := ld_of e5 (cell 6 (by omega))
    obtain ⟨A6, a6, k6⟩ := r48 (k + 6) (by omega) (by omega) (List.length A5) A5
    have e6 := k6.get e5 (lt_of_get e5)
    have kA6 : Keep h.length h A6 := kA5.trans (k6.le kA5.1)
    have ld7 : ld A6 (pV id (d.length * 9 + 7) g) = some (sV (markT (k + 7))) := ld_of e6 (cell 7 (by omega))
    obtain ⟨A7, a7, k7⟩ := r48 (k + 7) (by omega) (by omega) (List.length A6) A6
    have e7 := k7.get e6 (lt_of_get e6)
    have kA7 : Keep h.length h A7 := kA6.trans (k7.le kA6.1)
    have ld8 : ld A7 (pV id (d.length * 9 + 8) g) = some (iV ((k + 8 : Nat) : Int)) := ld_of e7 (cell 8 (by omega))
    have hb8 : (((k + 8 : Nat) : Int) != ((k + 8 : Nat) : Int)) = false := by simp
    obtain ⟨h', i1, i2⟩ := ih (d ++ [markEn k]) (k + 9) A7 (by simp; omega) (by omega) (by omega) (by rw [e7]; simp [marksEn])
    refine ⟨h', run_code Try.func30 rfl rfl ?_, kA7.trans (i2.le kA7.1)⟩
    simp (disch := (refine _root_.id ?_; kernel_rfl)) only [↓XX, ↓XD, ↓YX, ZB, Nat.reduceAdd, Nat.reducePow, ↓reduceIte, eq_self, Int.reduceEq, Nat.reduceEqDiff, Nat.reduceMul, Nat.reduceLeDiff, Try.f30, lenV, hlt, hix, ha0, ha, ld0, a0, w1, ld1, hb1, w2, ld2, hb2, w3, ld3, a3, w4, ld4, a4, w5, ld5, a5, w6, ld6, a6, w7, ld7, a7, w8, ld8, hb8, w9, hw, decide_true, Bool.not_true]
    rw [i1]
    have hq : k + 9 + 9 * m = k + 9 * (m + 1) := by omega
    rw [hq]
theorem r30 (v : Value) (l lo k m : Nat) (h : AH) (q : En.Rt h lo v (marksEn k m)) (hn : m ≤ 2 ^ 30) (h1 : 0 < k) (hb : k ≤ 2 ^ 30) :
    ∃ h', run V0 (.fn 30) l [S v, S (iV k)] h = some (.ret (iV (k + 9 * m : Nat)) h') ∧ Keep h.length h h' := by
  rcases q with ⟨rfl, q⟩ | ⟨id, g, c, ma, rfl, e, hl⟩
  · have hm : m = 0 := by have := marksEn_len m k; rw [q] at this; simpa using this.symm
    subst hm
    refine ⟨h, run_fn Try.func30 rfl rfl rfl rfl ?_, Keep.refl _ _⟩
    have e0 : L30_0 l (.slice none 0 0) (iV k) (iV 0) h = some (.ret (iV k) h) := by
      refine run_code Try.func30 rfl rfl ?_
      have hlt : decide ((0 : Int) < 0) = false := rfl
      simp only [↓XX, ↓XD, ↓YX, ZB, Nat.reduceAdd, Nat.reducePow, ↓reduceIte, eq_self, Int.reduceEq, Nat.reduceEqDiff, Nat.reduceMul, Nat.reduceLeDiff, Try.f30, lenV, Int.natCast_zero, hlt]
    simp only [↓XX, ↓XD, ↓YX, ZB, Nat.reduceAdd, Nat.reducePow, ↓reduceIte, eq_self, Int.reduceEq, Nat.reduceEqDiff, Nat.reduceMul, Nat.reduceLeDiff, Try.f30]
    exact e0
  · rw [marksEn_len]
    obtain ⟨h', i1, i2⟩ := L30 id g c m l ma hn m [] k h (by simp) h1 (by omega) e
    refine ⟨h', run_fn Try.func30 rfl rfl rfl rfl ?_, i2⟩
    simp only [↓XX, ↓XD, ↓YX, ZB, Nat.reduceAdd, Nat.reducePow, ↓reduceIte, eq_self, Int.reduceEq, Nat.reduceEqDiff, Nat.reduceMul, Nat.reduceLeDiff, Try.f30]
    exact i1
theorem L28t (va vb : Value) (n l : Nat) (hn : n ≤ 2 ^ 40) (la lb : Nat) : ∀ (r r' d d' : List En) (h : AH), d.length = d'.length → d.length + r.length = n → r.length = r'.length → En.Rt h la va (d ++ r) → En.Rt h lb vb (d' ++ r') →
    ∃ h', L28_0 l va vb (iV d.length) h = some (.ret (.bool (decide (r = r'))) h') ∧ Keep h.length h h' := by
  intro r
  induction r with
  | nil =>
    intro r' d d' h hd hk hr ea eb
    obtain rfl : r' = [] := by cases r' with | nil => rfl | cons _ _ => simp at hr
    simp only [List.length_nil, Nat.add_zero] at hk
    have lenA := ea.len
    refine ⟨h, run_code Try.func28 rfl rfl ?_, Keep.refl _ _⟩
    have hlt : decide ((d.length : Int) < ((d ++ []).length : Int)) = false := by rw [decide_eq_false_iff_not, List.append_nil]; omega
    simp only [↓XX, ↓XD, ↓YX, ZB, Nat.reduceAdd, Nat.reducePow, ↓reduceIte, eq_self, Int.reduceEq, Nat.reduceEqDiff, Nat.reduceMul, Nat.reduceLeDiff, Try.f28, lenA, hlt, decide_true]
  | cons x r ih =>
    intro r' d d' h hd hk hr ea eb
    cases r' with
    | nil => simp at hr
    | cons y r' =>
      simp only [List.length_cons] at hk hr
      have lenA := ea.len
      have hlt : decide ((d.length : Int) < ((d ++ x :: r).length : Int)) = true := by rw [decide_eq_true_iff]; simp; omega
      obtain ⟨pa, hia, hla⟩ := ea.get
      obtain ⟨pb, hib, hlb⟩ := eb.get
      rw [← hd] at hib
      have hw : IntKind.i64.wrap ((d.length : Int) + 1) = (((d ++ [x]).length : Nat) : Int) := natCast_succ_wrap (by omega) (by simp)
      have h62 := r57 x y l h
      have kp : Keep h.length h (h ++ [.row 0 9 x.C] ++ [.row 0 9 y.C]) := (Keep.app _ _ (Nat.le_refl _)).trans (Keep.app _ _ (by simp))
      by_cases hq : x = y
      · rw [decide_eq_true hq] at h62
        obtain ⟨h', i1, i2⟩ := ih r' (d ++ [x]) (d' ++ [y]) (h ++ [.row 0 9 x.C] ++ [.row 0 9 y.C]) (by simp [hd]) (by simp; omega) (by omega) (by simpa using ea.keep kp) (by simpa using eb.keep kp)
        refine ⟨h', run_code Try.func28 rfl rfl ?_, kp.trans (i2.le kp.1)⟩
        simp (disch := (refine _root_.id ?_; kernel_rfl)) only [↓XX, ↓XD, ↓YX, ZB, Nat.reduceAdd, Nat.reducePow, ↓reduceIte, eq_self, Int.reduceEq, Nat.reduceEqDiff, Nat.reduceMul, Nat.reduceLeDiff, Try.f28, lenA, hlt, hia, hib, hla, hlb, h62, hw, Bool.not_true]
        rw [i1]; simp [hq]
      · rw [decide_eq_false hq] at h62
        refine ⟨_, run_code Try.func28 rfl rfl ?_, kp⟩
        simp (disch := (refine _root_.id ?_; kernel_rfl)) only [↓XX, ↓XD, ↓YX, ZB, Nat.reduceAdd, Nat.reducePow, ↓reduceIte, eq_self, Int.reduceEq, Nat.reduceEqDiff, Nat.reduceMul, Nat.reduceLeDiff, Try.f28, lenA, hlt, hia, hib, hla, hlb, h62, hw, Bool.not_false]
        simp [hq]
theorem r28t (va vb : Value) (l la lb : Nat) (xs ys : List En) (h : AH) (hn : xs.length ≤ 2 ^ 40) (ea : En.Rt h la va xs) (eb : En.Rt h lb vb ys) :
    ∃ h', run V0 (.fn 28) l [S va, S vb] h = some (.ret (.bool (decide (xs = ys))) h') ∧ Keep h.length h h' := by
  have lenA := ea.len
  have lenB := eb.len
  by_cases hy : xs.length = ys.length
  · obtain ⟨h', i1, i2⟩ := L28t va vb xs.length l hn la lb xs ys [] [] h rfl (by simp) hy ea eb
    refine ⟨h', run_fn Try.func28 rfl rfl rfl rfl ?_, i2⟩
    have hb : ((xs.length : Int) != (ys.length : Int)) = false := by simp [hy]
    simp only [↓XX, ↓XD, ↓YX, ZB, Nat.reduceAdd, Nat.reducePow, ↓reduceIte, eq_self, Int.reduceEq, Nat.reduceEqDiff, Nat.reduceMul, Nat.reduceLeDiff, Try.f28, lenA, lenB, hb]
    exact i1
  · refine ⟨h, run_fn Try.func28 rfl rfl rfl rfl ?_, Keep.refl _ _⟩
    have hb : ((xs.length : Int) != (ys.length : Int)) = true := by simp; omega
    have : xs ≠ ys := fun e => hy (by rw [e])
    simp only [↓XX, ↓XD, ↓YX, ZB, Nat.reduceAdd, Nat.reducePow, ↓reduceIte, eq_self, Int.reduceEq, Nat.reduceEqDiff, Nat.reduceMul, Nat.reduceLeDiff, Try.f28, lenA, lenB, hb]
    simp [this]
end Go.Abs
namespace Go.Abs
open Go.Proofs
set_option maxRecDepth 100000
set_option linter.unusedSimpArgs false
set_option pp.maxSteps 20000

theorem slCut_lenE {h : AH} {id off g n c sz : Nat} {cs : List Value} (e : h[id]? = some (.row g sz cs)) (hn : n ≤ c) (hw : wd sz = sz := by rfl) :
    slCut h (.slice (some ⟨id, off, some g⟩) n c) none (some (n : Int)) (some (n : Int)) sz = some (.slice (some ⟨id, off, some g⟩) n n) := by
  simp only [slCut, rowAt_of e, Option.bind_some, Option.getD_none, Option.getD_some]
  rw [if_pos ⟨by omega, by omega, hw, by omega, hn⟩, if_pos ⟨by omega, by omega⟩]
  simp
theorem r53 (id g n c l : Nat) (h : AH) (cs : List Value) (e : h[id]? = some (.row g 9 cs)) (hn : n ≤ c) : run V0 (.fn 53) l [S (slV id g n c)] h = some (.ret (slV id g n n) h) := by
  have := slCut_lenE (off := 0) e hn
  refine run_fn Try.func53 rfl rfl rfl rfl ?_
  simp only [↓XX, ↓XD, ↓YX, ZB, Nat.reduceAdd, Nat.reducePow, ↓reduceIte, eq_self, Int.reduceEq, Nat.reduceEqDiff, Nat.reduceMul, Nat.reduceLeDiff, Try.f53, lenV, this]
theorem r53n (l : Nat) (h : AH) : run V0 (.fn 53) l [S (.slice none 0 0)] h = some (.ret (.slice none 0 0) h) := by
  have : slCut h (.slice none 0 0) none (some (((0 : Nat)) : Int)) (some ((0 : Nat) : Int)) 9 = some (.slice none 0 0) := rfl
  refine run_fn Try.func53 rfl rfl rfl rfl ?_
  simp only [↓XX, ↓XD, ↓YX, ZB, Nat.reduceAdd, Nat.reducePow, ↓reduceIte, eq_self, Int.reduceEq, Nat.reduceEqDiff, Nat.reduceMul, Nat.reduceLeDiff, Try.f53, lenV, this]
/-- what is filtered -/
def filtL (xs : List Ru) (es : List En) : List En := if xs.all ruOk && decide ((xs.length : Int) ≤ 8) then es.filter (showL xs) else []
theorem filtL_len (xs : List Ru) (es : List En) : (filtL xs es).length ≤ es.length := by
  unfold filtL; split
  · exact List.length_filter_le _ _
  · simp
/-- spec.RulesFilter: its loop -/
theorem L25 (iL gL cL : Nat) (vE : Value) (loE iO l : Nat) (xs : List Ru) (es : List En) (hx : xs.length ≤ 2 ^ 20) (he : es.length ≤ 2 ^ 20) (hf : ∀ x ∈ xs, x.Fit) (hl : l ≤ iO) (hne : iL ≠ iO) (hvE : ∀ id g n c, vE = slV id g n c → id ≠ iO) (n0 : Nat) (h0 : n0 ≤ iO) : ∀ (r d out : List En) (gO : Nat) (h : AH), es = d ++ r → out.length + r.length ≤ 2 ^ 21 → h[iL]? = some (.row gL 4 (Ru.R xs)) → En.Rt h loE vE es → h[iO]? = some (.row gO 9 (En.R out)) →
    (xs.all ruOk && decide ((xs.length : Int) ≤ 8)) = true →
    ∃ g' h', Keep n0 h h' ∧ h'[iO]? = some (.row g' 9 (En.R (out ++ r.filter (showL xs)))) ∧ L25_0 l (slV iL gL xs.length cL) vE (slV iO gO out.length out.length) (iV d.length) h = some (.ret (slV iO g' (out ++ r.filter (showL xs)).length (out ++ r.filter (showL xs)).length) h') := by
  intro r
  induction r with
  | nil =>
    intro d out gO h hk hm el eE eo hok
    rw [List.append_nil] at hk
    have lenE := eE.len
    have hlt : decide ((d.length : Int) < (es.length : Int)) = false := by rw [decide_eq_false_iff_not, hk]; omega
    obtain ⟨h1, a1, k1⟩ := r37 iL gL cL l xs h (by omega) hf el
    refine ⟨gO, h, Keep.refl _ _, by simpa using eo, run_code Try.func25 rfl rfl ?_⟩
    simp only [↓XX, ↓XD, ↓YX, ZB, Nat.reduceAdd, Nat.reducePow, ↓reduceIte, eq_self, Int.reduceEq, Nat.reduceEqDiff, Nat.reduceMul, Nat.reduceLeDiff, Try.f25, lenE, hlt, List.filter_nil, List.append_nil]
  | cons x r ih =>
    intro d out gO h hk hm el eE eo hok
    simp only [List.length_cons] at hm
    have lenE := eE.len
    have hlen : d.length + 1 ≤ es.length := by rw [hk]; simp
    have hlt : decide ((d.length : Int) < (es.length : Int)) = true := by rw [decide_eq_true_iff]; omega
    have hw : IntKind.i64.wrap ((d.length : Int) + 1) = (((d ++ [x]).length : Nat) : Int) := natCast_succ_wrap (by omega) (by simp)
    obtain ⟨h1, a1, k1⟩ := r37 iL gL cL l xs h (by omega) hf el
    rw [hok] at a1
    have el1 := k1.get el (lt_of_get el)
    have eo1 := k1.get eo (lt_of_get eo)
    have eE1 := eE.keep k1
    obtain ⟨p, hp, hld⟩ := En.Rt.get (d := d) (r := r) (x := x) (by rw [← hk]; exact eE1)
    obtain ⟨h2, a2, k2⟩ := r38 iL gL cL l xs x h1 (by omega) el1
    have el2 := k2.get el1 (lt_of_get el1)
    have eo2 := k2.get eo1 (lt_of_get eo1)
    have eE2 := eE1.keep k2
    obtain ⟨p', hp', hld'⟩ := En.Rt.get (d := d) (r := r) (x := x) (by rw [← hk]; exact eE2)
    have hpp : p' = p := by rw [hp] at hp'; exact (Option.some.inj hp').symm
    subst hpp
    have h02 : n0 ≤ h.length := by have := lt_of_get eo; omega
    have kk : Keep n0 h h2 := (k1.le h02).trans (k2.le (Nat.le_trans h02 k1.1))
    cases hq : showL xs x with
    | false =>
      rw [hq] at a2
      obtain ⟨g', h', i1, i2, i3⟩ := ih (d ++ [x]) out gO h2 (by rw [hk]; simp) (by omega) el2 eE2 eo2 hok
      have hfl : (x :: r).filter (showL xs) = r.filter (showL xs) := by rw [List.filter_cons]; simp [hq]
      refine ⟨g', h', kk.trans i1, by rw [hfl]; exact i2, run_code Try.func25 rfl rfl ?_⟩
      rw [hfl]
      simp only [↓XX, ↓XD, ↓YX, ZB, Nat.reduceAdd, Nat.reducePow, ↓reduceIte, eq_self, Int.reduceEq, Nat.reduceEqDiff, Nat.reduceMul, Nat.reduceLeDiff, Try.f25, lenE, hlt, a1, hp, hld, a2, hw]
      exact i3
    | true =>
      rw [hq] at a2
      have hfl : out ++ (x :: r).filter (showL xs) = (out ++ [x]) ++ r.filter (showL xs) := by rw [List.filter_cons]; simp [hq]
      have hap := app_new (sz := 9) (tg := 9) (sz2 := 9) (lim := l) (by' := 120) (k := 1) (ds := x.C) hl eo2 (n := out.length) (by rw [En.R_len]; omega) (by simp) (by omega) (by omega)
      have e2 : (h2 ++ [AObj.row 0 9 x.C])[iO]? = some (.row gO 9 (En.R out)) := by rw [List.getElem?_append_left (lt_of_get eo2), eo2]
      have hRc : En.R out ++ x.C = En.R (out ++ [x]) := by rw [En.R_app]; simp [En.R]
      have kS : Keep n0 h ((h2 ++ [AObj.row 0 9 x.C]).set iO (.row (gO + 1) 9 (En.R (out ++ [x])))) := kk.trans ((Keep.app _ _ (Nat.le_trans h02 kk.1)).trans (Keep.set _ _ _ h0))
      have eE3 : En.Rt ((h2 ++ [AObj.row 0 9 x.C]).set iO (.row (gO + 1) 9 (En.R (out ++ [x])))) loE vE es := by
        rcases eE2 with q | ⟨id, g, c, ma, hv, e, hlo⟩
        · exact .inl q
        · refine .inr ⟨id, g, c, ma, hv, ?_, hlo⟩
          rw [List.getElem?_set_ne (Ne.symm (hvE _ _ _ _ hv)), List.getElem?_append_left (lt_of_get e), e]
      obtain ⟨g', h', i1, i2, i3⟩ := ih (d ++ [x]) (out ++ [x]) (gO + 1) ((h2 ++ [AObj.row 0 9 x.C]).set iO (.row (gO + 1) 9 (En.R (out ++ [x])))) (by rw [hk]; simp) (by simp; omega)
        (by rw [List.getElem?_set_ne (Ne.symm hne), List.getElem?_append_left (lt_of_get el2), el2]) eE3 (get_set _ e2) hok
      rw [hfl]
      refine ⟨g', h', kS.trans i1, i2, run_code Try.func25 rfl rfl ?_⟩
      rw [hRc] at hap
      have hlen2 : (out ++ [x]).length = out.length + 1 := by simp
      rw [hlen2] at i3
      simp only [↓XX, ↓XD, ↓YX, ZB, Nat.reduceAdd, Nat.reducePow, ↓reduceIte, eq_self, Int.reduceEq, Nat.reduceEqDiff, Nat.reduceMul, Nat.reduceLeDiff, Try.f25, lenE, hlt, a1, hp, hld, a2, hld', hap, hw]
      exact i3
theorem r25 (iL gL cL l loE : Nat) (vE : Value) (xs : List Ru) (es : List En) (h : AH) (hx : xs.length ≤ 2 ^ 20) (he : es.length ≤ 2 ^ 20) (hf : ∀ x ∈ xs, x.Fit) (el : h[iL]? = some (.row gL 4 (Ru.R xs))) (eE : En.Rt h loE vE es) (hl : l ≤ h.length) :
    ∃ v h', run V0 (.fn 25) l [S (slV iL gL xs.length cL), S vE] h = some (.ret v h') ∧ En.Rt h' h.length v (filtL xs es) ∧ Keep h.length h h' := by
  have k0 : Keep h.length h (h ++ [.row 0 9 []]) := Keep.app _ _ (Nat.le_refl _)
  have e1 := k0.get el (lt_of_get el)
  have hid := lt_of_get el
  have e2 : (h ++ [AObj.row 0 9 []])[h.length]? = some (.row 0 9 (En.R [])) := by simp [En.R]
  unfold filtL
  cases hok : (xs.all ruOk && decide ((xs.length : Int) ≤ 8)) with
  | true =>
    obtain ⟨g', h', i1, i2, i3⟩ := L25 iL gL cL vE loE h.length l xs es hx he hf hl (by omega) (fun id g n c q => by
        rcases eE with ⟨q', _⟩ | ⟨id', g', c', ma, q', e, _⟩
        · rw [q'] at q; cases q
        · rw [q'] at q; cases q; have := lt_of_get e; omega) h.length (Nat.le_refl _) es [] [] 0 (h ++ [.row 0 9 []]) rfl (by simp; omega) e1 (eE.keep k0) e2 hok
    simp only [List.nil_append] at i2 i3
    refine ⟨_, h', run_fn Try.func25 rfl rfl rfl rfl ?_, .inr ⟨h.length, g', (es.filter (showL xs)).length, [], by rw [if_pos rfl], by rw [if_pos rfl, List.append_nil]; exact i2, Nat.le_refl _⟩, k0.trans i1⟩
    simp only [↓XX, ↓XD, ↓YX, ZB, Nat.reduceAdd, Nat.reducePow, ↓reduceIte, eq_self, Int.reduceEq, Nat.reduceEqDiff, Nat.reduceMul, Nat.reduceLeDiff, Try.f25, newS]
    exact i3
  | false =>
    obtain ⟨h1, a1, k1⟩ := r37 iL gL cL l xs (h ++ [.row 0 9 []]) (by omega) hf e1
    rw [hok] at a1
    have lenE := eE.len
    have e2' := k1.get e2 (lt_of_get e2)
    cases hlt : decide ((0 : Int) < (es.length : Int)) with
    | true =>
      refine ⟨slV h.length 0 0 0, h1, run_fn Try.func25 rfl rfl rfl rfl ?_, .inr ⟨h.length, 0, 0, [], rfl, by simpa using e2', Nat.le_refl _⟩, k0.trans (k1.le k0.1)⟩
      have e4 : L25_0 l (slV iL gL xs.length cL) vE (slV h.length 0 0 0) (iV 0) (h ++ [.row 0 9 []]) = some (.ret (slV h.length 0 0 0) h1) := by
        refine run_code Try.func25 rfl rfl ?_
        simp only [↓XX, ↓XD, ↓YX, ZB, Nat.reduceAdd, Nat.reducePow, ↓reduceIte, eq_self, Int.reduceEq, Nat.reduceEqDiff, Nat.reduceMul, Nat.reduceLeDiff, Try.f25, lenE, hlt, a1]
      simp only [↓XX, ↓XD, ↓YX, ZB, Nat.reduceAdd, Nat.reducePow, ↓reduceIte, eq_self, Int.reduceEq, Nat.reduceEqDiff, Nat.reduceMul, Nat.reduceLeDiff, Try.f25, newS]
      exact e4
    | false =>
      refine ⟨slV h.length 0 0 0, h ++ [.row 0 9 []], run_fn Try.func25 rfl rfl rfl rfl ?_, .inr ⟨h.length, 0, 0, [], rfl, by simpa using e2, Nat.le_refl _⟩, k0⟩
      have e4 : L25_0 l (slV iL gL xs.length cL) vE (slV h.length 0 0 0) (iV 0) (h ++ [.row 0 9 []]) = some (.ret (slV h.length 0 0 0) (h ++ [.row 0 9 []])) := by
        refine run_code Try.func25 rfl rfl ?_
        simp only [↓XX, ↓XD, ↓YX, ZB, Nat.reduceAdd, Nat.reducePow, ↓reduceIte, eq_self, Int.reduceEq, Nat.reduceEqDiff, Nat.reduceMul, Nat.reduceLeDiff, Try.f25, lenE, hlt]
      simp only [↓XX, ↓XD, ↓YX, ZB, Nat.reduceAdd, Nat.reducePow, ↓reduceIte, eq_self, Int.reduceEq, Nat.reduceEqDiff, Nat.reduceMul, Nat.reduceLeDiff, Try.f25, newS]
      exact e4
/-- slices.Clone of entries -/
theorem r55 (v : Value) (l lo : Nat) (es : List En) (h : AH) (q : En.Rt h lo v es) (hn : es.length ≤ 2 ^ 30) (hl : l ≤ h.length) :
    ∃ v' h', run V0 (.fn 55) l [S v] h = some (.ret v' h') ∧ Keep h.length h h' ∧ ((v' = .slice none 0 0 ∧ es = []) ∨ ∃ id g, v' = slV id g es.length es.length ∧ h'[id]? = some (.row g 9 (En.R es)) ∧ h.length ≤ id) := by
  rcases q with ⟨rfl, rfl⟩ | ⟨id, g, c, ma, rfl, e, hlo⟩
  · refine ⟨.slice none 0 0, h, run_fn Try.func55 rfl rfl rfl rfl ?_, Keep.refl _ _, .inl ⟨rfl, rfl⟩⟩
    simp only [↓XX, ↓XD, ↓YX, ZB, Nat.reduceAdd, Nat.reducePow, ↓reduceIte, eq_self, Int.reduceEq, Nat.reduceEqDiff, Nat.reduceMul, Nat.reduceLeDiff, Try.f55]
  · have k0 : Keep h.length h (h ++ [.row 0 9 []]) := Keep.app _ _ (Nat.le_refl _)
    have e1 := k0.get e (lt_of_get e)
    have e2 : (h ++ [AObj.row 0 9 []])[h.length]? = some (.row 0 9 []) := by simp
    by_cases h0 : es.length = 0
    · have hap : app l (h ++ [AObj.row 0 9 []]) (newS h 0 0) (slV id g es.length c) 9 9 120 = some (newS h 0 0, h ++ [AObj.row 0 9 []]) := by
        simp only [app, lenOf, newS, Option.bind_some, h0, if_true]
      obtain rfl : es = [] := List.length_eq_zero_iff.1 h0
      rw [List.length_nil] at hap
      refine ⟨newS h 0 0, h ++ [.row 0 9 []], run_fn Try.func55 rfl rfl rfl rfl ?_, k0, .inr ⟨h.length, 0, rfl, by simp [En.R], Nat.le_refl _⟩⟩
      simp only [↓XX, ↓XD, ↓YX, ZB, Nat.reduceAdd, Nat.reducePow, ↓reduceIte, eq_self, Int.reduceEq, Nat.reduceEqDiff, Nat.reduceMul, Nat.reduceLeDiff, Try.f55, hap]
    · have hsrc : srcCells (h ++ [AObj.row 0 9 []]) (slV id g es.length c) es.length 9 = some (En.R es) := by
        simp only [srcCells, rowAt_of e1, Option.bind_some, cut]
        have hlen : (En.R (es ++ ma)).length = 9 * es.length + 9 * ma.length := by rw [En.R_len]; simp; omega
        rw [if_pos (by omega), En.R_app]
        rw [List.drop_zero, List.take_left' (by rw [En.R_len]; omega)]
      have hap : app l (h ++ [AObj.row 0 9 []]) (newS h 0 0) (slV id g es.length c) 9 9 120 = some (slV h.length 1 es.length es.length, (h ++ [AObj.row 0 9 []]).set h.length (.row 1 9 (En.R es))) := by
        simp only [app, lenOf, newS, Option.bind_some]
        rw [if_neg h0, hsrc]
        simp only [Option.bind_some, rowAt_of e2]
        rw [if_neg (by omega), if_pos ⟨hl, by simp, by simp, by simp, by omega⟩]
        simp
      refine ⟨_, _, run_fn Try.func55 rfl rfl rfl rfl ?_, k0.trans (Keep.set _ h.length (.row 1 9 (En.R es)) (Nat.le_refl _)), .inr ⟨h.length, 1, rfl, get_set _ e2, Nat.le_refl _⟩⟩
      simp only [↓XX, ↓XD, ↓YX, ZB, Nat.reduceAdd, Nat.reducePow, ↓reduceIte, eq_self, Int.reduceEq, Nat.reduceEqDiff, Nat.reduceMul, Nat.reduceLeDiff, Try.f55, hap]
end Go.Abs
namespace Go.Abs
open Go.Proofs
set_option maxRecDepth 100000
set_option linter.unusedSimpArgs false
set_option pp.maxSteps 20000

abbrev fcV (ib : Nat) : Value := .func (.func 56) ⟨[]⟩ ⟨[pV ib 0 0]⟩
theorem r56 {mr : List Ru} (x : En) (ib iL gL cL l : Nat) (xs : List Ru) (h : AH) (hn : xs.length ≤ 2 ^ 40) (eb : h[ib]? = some (.row 0 1 [slV iL gL xs.length cL])) (el : h[iL]? = some (.row gL 4 (Ru.R (xs ++ mr)))) :
    ∃ h', run V0 (.fn 56) l [S x.V, S (pV ib 0 0)] h = some (.ret (.bool (!showL xs x)) h') ∧ Keep h.length h h' := by
  have k0 : Keep h.length h (h ++ [.row 0 9 x.C]) := Keep.app _ _ (Nat.le_refl _)
  have e1 := k0.get eb (lt_of_get eb)
  have el1 := k0.get el (lt_of_get el)
  have e2 : (h ++ [AObj.row 0 9 x.C])[h.length]? = some (.row 0 9 x.C) := by simp
  have hlb : ld (h ++ [AObj.row 0 9 x.C]) (pV ib 0 0) = some (slV iL gL xs.length cL) := ld_of e1 rfl
  have hlx : ldN (h ++ [AObj.row 0 9 x.C]) (pV h.length 0 0) 9 = some x.C := by rw [ldN_of e2 (by simp)]; rfl
  have hp : newP h = pV h.length 0 0 := rfl
  obtain ⟨h', a1, k1⟩ := r41m iL gL cL l xs x (h ++ [.row 0 9 x.C]) hn el1
  refine ⟨h', run_fn Try.func56 rfl rfl rfl rfl ?_, k0.trans (k1.le k0.1)⟩
  simp only [↓XX, ↓XD, ↓YX, ZB, Nat.reduceAdd, Nat.reducePow, ↓reduceIte, eq_self, Int.reduceEq, Nat.reduceEqDiff, Nat.reduceMul, Nat.reduceLeDiff, Try.f56, hp, hlb, hlx, a1]
def fixG {α : Type} (p : α → Bool) : List α → Nat → Int
  | [], _ => -1
  | x :: r, k => if p x then k else fixG p r (k + 1)
theorem fixG_spec {α : Type} (p : α → Bool) : ∀ (xs : List α) (k : Nat), (fixG p xs k = -1 ∧ ∀ x ∈ xs, p x = false) ∨ ∃ d x r, xs = d ++ x :: r ∧ (∀ y ∈ d, p y = false) ∧ p x = true ∧ fixG p xs k = ((k + d.length : Nat) : Int)
  | [], k => .inl ⟨rfl, by simp⟩
  | x :: r, k => by
    by_cases hq : p x = true
    · exact .inr ⟨[], x, r, rfl, by simp, hq, by simp [fixG, hq]⟩
    · have hq' : p x = false := by simpa using hq
      rcases fixG_spec p r (k + 1) with ⟨a, b⟩ | ⟨d, y, s, rfl, b, c, e⟩
      · refine .inl ⟨by simp [fixG, hq, a], fun z hz => ?_⟩
        rcases List.mem_cons.1 hz with rfl | hz
        · exact hq'
        · exact b z hz
      · refine .inr ⟨x :: d, y, s, rfl, fun z hz => ?_, c, ?_⟩
        · rcases List.mem_cons.1 hz with rfl | hz
          · exact hq'
          · exact b z hz
        · simp only [fixG, if_neg hq, e, List.length_cons]; omega
/-- slices.IndexFunc over entries: its loop -/
theorem L78 {mr : List Ru} (id g c n l ib iL gL cL : Nat) (xs : List Ru) (hx : xs.length ≤ 2 ^ 40) (hn : n ≤ 2 ^ 40) : ∀ (r d : List En) (h : AH), d.length + r.length = n → h[ib]? = some (.row 0 1 [slV iL gL xs.length cL]) → h[iL]? = some (.row gL 4 (Ru.R (xs ++ mr))) → h[id]? = some (.row g 9 (En.R (d ++ r))) →
    ∃ h', L78_0 l (slV id g n c) (fcV ib) (iV n) (iV d.length) h = some (.ret (iV (fixG (fun x => !showL xs x) r d.length)) h') ∧ Keep h.length h h' := by
  intro r
  induction r with
  | nil =>
    intro d h hk eb el ei
    simp only [List.length_nil, Nat.add_zero] at hk
    have hlt : decide ((d.length : Int) < (n : Int)) = false := by rw [decide_eq_false_iff_not]; omega
    refine ⟨h, run_code Try.func78 rfl rfl ?_, Keep.refl _ _⟩
    simp only [↓XX, ↓XD, ↓YX, ZB, Nat.reduceAdd, Nat.reducePow, ↓reduceIte, eq_self, Int.reduceEq, Nat.reduceEqDiff, Nat.reduceMul, Nat.reduceLeDiff, Try.f78, hlt, fixG]
  | cons x r ih =>
    intro d h hk eb el ei
    simp only [List.length_cons] at hk
    have hlt : decide ((d.length : Int) < (n : Int)) = true := by rw [decide_eq_true_iff]; omega
    have hix : ixAddr (slV id g n c) (d.length : Int) 9 = some (pV id (d.length * 9) g) := by rw [ixAddr_sl (by omega)]; simp
    have hld : ldN h (pV id (d.length * 9) g) 9 = some x.C := En.ldN ei
    have hw : IntKind.i64.wrap ((d.length : Int) + 1) = (((d ++ [x]).length : Nat) : Int) := natCast_succ_wrap (by omega) (by simp)
    obtain ⟨h1, a1, k1⟩ := r56 x ib iL gL cL l xs h hx eb el
    by_cases hq : showL xs x = false
    · rw [hq] at a1
      refine ⟨h1, run_code Try.func78 rfl rfl ?_, k1⟩
      simp only [↓XX, ↓XD, ↓YX, ZB, Nat.reduceAdd, Nat.reducePow, ↓reduceIte, eq_self, Int.reduceEq, Nat.reduceEqDiff, Nat.reduceMul, Nat.reduceLeDiff, Try.f78, hlt, hix, hld, a1, Bool.not_false]
      simp [fixG, hq]
    · have hq' : showL xs x = true := by simpa using hq
      rw [hq'] at a1
      obtain ⟨h', i1, i2⟩ := ih (d ++ [x]) h1 (by simp; omega) (k1.get eb (lt_of_get eb)) (k1.get el (lt_of_get el)) (by rw [k1.get ei (lt_of_get ei)]; simp)
      refine ⟨h', run_code Try.func78 rfl rfl ?_, k1.trans (i2.le k1.1)⟩
      simp only [↓XX, ↓XD, ↓YX, ZB, Nat.reduceAdd, Nat.reducePow, ↓reduceIte, eq_self, Int.reduceEq, Nat.reduceEqDiff, Nat.reduceMul, Nat.reduceLeDiff, Try.f78, hlt, hix, hld, a1, Bool.not_true, hw]
      rw [i1]; simp [fixG, hq']
abbrev zEn : En := ⟨[], 0, 0, [], [], [], [], [], 0⟩
theorem zeros_R (n : Nat) : repL n zEn.C = En.R (List.replicate n zEn) := by
  induction n with
  | zero => rfl
  | succ n ih => rw [List.replicate_succ, En.R_cons, ← ih]; simp [repL, List.replicate_succ]
/-- slices.DeleteFunc over entries: its loop -/
theorem L54 {mr : List Ru} (id g c n l ib iL gL cL : Nat) (xs : List Ru) (hx : xs.length ≤ 2 ^ 40) (hn : n ≤ 2 ^ 40) (hnc : n ≤ c) (hl : l ≤ id) (hbi : ib ≠ id) (hLi : iL ≠ id) (n0 : Nat) (h0 : n0 ≤ id) : ∀ (r kept mid : List En) (h : AH), kept.length + mid.length + r.length = n → 0 < mid.length →
    h[ib]? = some (.row 0 1 [slV iL gL xs.length cL]) → h[iL]? = some (.row gL 4 (Ru.R (xs ++ mr))) → h[id]? = some (.row g 9 (En.R (kept ++ (mid ++ r)))) →
    ∃ h' ma, L54_0 l (slV id g n c) (fcV ib) (iV kept.length) (iV ((kept.length + mid.length : Nat) : Int)) h = some (.ret (slV id g (kept ++ r.filter (showL xs)).length c) h') ∧ h'[id]? = some (.row g 9 (En.R ((kept ++ r.filter (showL xs)) ++ ma))) ∧ Keep n0 h h' := by
  intro r
  induction r with
  | nil =>
    intro kept mid h hk hm eb el ei
    simp only [List.length_nil, Nat.add_zero] at hk
    have hlt : decide (((kept.length + mid.length : Nat) : Int) < (n : Int)) = false := by rw [decide_eq_false_iff_not]; omega
    rw [List.append_nil] at ei
    have hcut1 : slCut h (slV id g n c) (some (kept.length : Int)) none none 9 = some (.slice (some ⟨id, kept.length * 9, some g⟩) mid.length (c - kept.length)) := by
      simp only [slCut, rowAt_of ei, Option.bind_some, Option.getD_none, Option.getD_some]
      rw [if_pos ⟨by omega, by omega, rfl, by omega, hnc⟩]
      simp
      omega
    have hclr : clearA l h (.slice (some ⟨id, kept.length * 9, some g⟩) mid.length (c - kept.length)) zEn.C = some (h.set id (.row g 9 (En.R (kept ++ List.replicate mid.length zEn)))) := by
      simp only [clearA]
      rw [if_neg (by omega), zeros_R, stN_of hl ei (by rw [En.R_len, En.R_len]; simp; omega) ?_]
      · rw [En.R_app, En.R_app]
        have := setMany_mid (En.R kept) (En.R mid) [] (En.R (List.replicate mid.length zEn)) (by rw [En.R_len, En.R_len]; simp)
        rw [En.R_len, List.append_nil, List.append_nil, Nat.mul_comm] at this
        rw [this]
      · rw [← zeros_R]
        simp only [repL, List.all_eq_true]
        intro v hv
        obtain ⟨l, hl, hv⟩ := List.mem_flatten.1 hv
        rw [List.eq_of_mem_replicate hl] at hv
        have hall : zEn.C.all oneCell = true := rfl
        exact List.all_eq_true.1 hall v hv
    have ei' := get_set (.row g 9 (En.R (kept ++ List.replicate mid.length zEn))) ei
    have hcut2 : slCut (h.set id (.row g 9 (En.R (kept ++ List.replicate mid.length zEn)))) (slV id g n c) none (some (kept.length : Int)) none 9 = some (slV id g kept.length c) := by
      simp only [slCut, rowAt_of ei', Option.bind_some, Option.getD_none, Option.getD_some]
      rw [if_pos ⟨by omega, by omega, rfl, by omega, hnc⟩]
      simp
    refine ⟨_, List.replicate mid.length zEn, run_code Try.func54 rfl rfl ?_, by simpa using ei', Keep.set _ _ _ h0⟩
    have hmid : (kept ++ List.filter (showL xs) []).length = kept.length := by simp
    rw [hmid]
    simp only [↓XX, ↓XD, ↓YX, ZB, Nat.reduceAdd, Nat.reducePow, ↓reduceIte, eq_self, Int.reduceEq, Nat.reduceEqDiff, Nat.reduceMul, Nat.reduceLeDiff, Try.f54, lenV, hlt, hcut1, hclr, hcut2]
  | cons x r ih =>
    intro kept mid h hk hm eb el ei
    simp only [List.length_cons] at hk
    have hlt : decide (((kept.length + mid.length : Nat) : Int) < (n : Int)) = true := by rw [decide_eq_true_iff]; omega
    have hix : ixAddr (slV id g n c) ((kept.length + mid.length : Nat) : Int) 9 = some (pV id ((kept ++ mid).length * 9) g) := by rw [ixAddr_sl (by omega)]; simp
    have ei2 : h[id]? = some (.row g 9 (En.R ((kept ++ mid) ++ x :: r))) := by rw [ei, List.append_assoc]
    have hld : ldN h (pV id ((kept ++ mid).length * 9) g) 9 = some x.C := En.ldN ei2
    have hp : newP h = pV h.length 0 0 := rfl
    have hloh : l ≤ h.length := by have := lt_of_get ei; omega
    have h0h : n0 ≤ h.length := by have := lt_of_get ei; omega
    have hst : stN l (h ++ [.row 0 9 [sV [], iV 0, iV 0, sV [], sV [], sV [], sV [], sV [], iV 0]]) (pV h.length 0 0) x.C = some (h ++ [.row 0 9 x.C]) := by
      rw [stN_of hloh (cs := [sV [], iV 0, iV 0, sV [], sV [], sV [], sV [], sV [], iV 0]) (g := 0) (sz := 9) (by simp) (by simp) rfl]
      simp [setMany]
    have hag : aggOf (.agg x.C.toArray) = some x.C := rfl
    have k1 : Keep h.length h (h ++ [.row 0 9 x.C]) := Keep.app _ _ (Nat.le_refl _)
    have eb1 := k1.get eb (lt_of_get eb)
    have el1 := k1.get el (lt_of_get el)
    have ei1 := k1.get ei (lt_of_get ei)
    have ex1 : (h ++ [AObj.row 0 9 x.C])[h.length]? = some (.row 0 9 x.C) := by simp
    have hlx1 : ldN (h ++ [AObj.row 0 9 x.C]) (pV h.length 0 0) 9 = some x.C := by rw [ldN_of ex1 (by simp)]; rfl
    obtain ⟨h2, a2, k2⟩ := r56 x ib iL gL cL l xs (h ++ [.row 0 9 x.C]) hx eb1 el1
    have eb2 := k2.get eb1 (lt_of_get eb1)
    have el2 := k2.get el1 (lt_of_get el1)
    have ei2' := k2.get ei1 (lt_of_get ei1)
    have ex2 := k2.get ex1 (lt_of_get ex1)
    have hlx2 : ldN h2 (pV h.length 0 0) 9 = some x.C := by rw [ldN_of ex2 (by simp)]; rfl
    have kk : Keep n0 h h2 := (k1.le h0h).trans (k2.le (Nat.le_trans h0h k1.1))
    have hwj : IntKind.i64.wrap (((kept.length + mid.length : Nat) : Int) + 1) = ((kept.length + mid.length + 1 : Nat) : Int) := natCast_succ_wrap (by omega) rfl
    cases hq : showL xs x with
    | false =>
      rw [hq] at a2
      have hfl : (x :: r).filter (showL xs) = r.filter (showL xs) := by rw [List.filter_cons]; simp [hq]
      obtain ⟨h', ma, i1, i2, i3⟩ := ih kept (mid ++ [x]) h2 (by simp; omega) (by simp) eb2 el2 (by rw [ei2']; simp)
      rw [hfl]
      refine ⟨h', ma, run_code Try.func54 rfl rfl ?_, i2, kk.trans i3⟩
      have hjl : kept.length + (mid ++ [x]).length = kept.length + mid.length + 1 := by simp; omega
      rw [hjl] at i1
      simp only [↓XX, ↓XD, ↓YX, ZB, Nat.reduceAdd, Nat.reducePow, ↓reduceIte, eq_self, Int.reduceEq, Nat.reduceEqDiff, Nat.reduceMul, Nat.reduceLeDiff, Try.f54, lenV, hlt, hix, hld, hp, hag, hst, hlx1, a2, Bool.not_true, Bool.not_false, hwj]
      exact i1
    | true =>
      rw [hq] at a2
      have hfl : kept ++ (x :: r).filter (showL xs) = (kept ++ [x]) ++ r.filter (showL xs) := by rw [List.filter_cons]; simp [hq]
      obtain ⟨m0, ms, rfl⟩ : ∃ m0 ms, mid = m0 :: ms := by cases mid with | nil => simp at hm | cons a b => exact ⟨a, b, rfl⟩
      have hixi : ixAddr (slV id g n c) (kept.length : Int) 9 = some (pV id (kept.length * 9) g) := by rw [ixAddr_sl (by omega)]; simp
      have hsti : stN l h2 (pV id (kept.length * 9) g) x.C = some (h2.set id (.row g 9 (En.R ((kept ++ [x]) ++ ((ms ++ [x]) ++ r))))) := by
        rw [stN_of hl ei2' (by rw [En.R_len]; simp; omega) rfl]
        have := setMany_mid (En.R kept) m0.C (En.R (ms ++ x :: r)) x.C rfl
        rw [En.R_len, Nat.mul_comm] at this
        rw [En.R_app, List.cons_append, En.R_cons, this]
        have h2 : En.R ((kept ++ [x]) ++ ((ms ++ [x]) ++ r)) = En.R kept ++ (x.C ++ En.R (ms ++ x :: r)) := by
          rw [show (kept ++ [x]) ++ ((ms ++ [x]) ++ r) = kept ++ x :: (ms ++ x :: r) by simp, En.R_app, En.R_cons]
        rw [h2]
      have hwi : IntKind.i64.wrap ((kept.length : Int) + 1) = (((kept ++ [x]).length : Nat) : Int) := natCast_succ_wrap (by omega) (by simp)
      obtain ⟨h', ma, i1, i2, i3⟩ := ih (kept ++ [x]) (ms ++ [x]) _ (by simp at hk ⊢; omega) (by simp) (by rw [List.getElem?_set_ne (Ne.symm hbi), eb2]) (by rw [List.getElem?_set_ne (Ne.symm hLi), el2]) (get_set (.row g 9 (En.R ((kept ++ [x]) ++ ((ms ++ [x]) ++ r)))) ei2')
      rw [hfl]
      refine ⟨h', ma, run_code Try.func54 rfl rfl ?_, i2, (kk.trans (Keep.set _ _ _ h0)).trans i3⟩
      have hjl : (kept ++ [x]).length + (ms ++ [x]).length = kept.length + (m0 :: ms).length + 1 := by simp; omega
      rw [hjl] at i1
      clear hk hm
      generalize hJ : (m0 :: ms).length = M at hlt hix hwj i1 ⊢
      generalize hJ2 : (kept ++ m0 :: ms).length = M2 at hix hld
      simp only [↓XX, ↓XD, ↓YX, ZB, Nat.reduceAdd, Nat.reducePow, ↓reduceIte, eq_self, Int.reduceEq, Nat.reduceEqDiff, Nat.reduceMul, Nat.reduceLeDiff, Try.f54, lenV, hlt, hix, hld, hp, hag, hst, hlx1, a2, Bool.not_true, Bool.not_false, hlx2, hixi, hsti, hwi, hwj]
      exact i1
end Go.Abs
namespace Go.Abs
open Go.Proofs
set_option maxRecDepth 100000
set_option linter.unusedSimpArgs false
set_option pp.maxSteps 20000

/-- slices.DeleteFunc over entries -/
theorem r54 {mr : List Ru} (v : Value) (l n0 ib iL gL cL : Nat) (xs : List Ru) (es : List En) (h : AH) (hx : xs.length ≤ 2 ^ 40) (hn : es.length ≤ 2 ^ 40) (hl : l ≤ n0) (hbi : ib < n0) (hLi : iL < n0) (h0 : n0 ≤ h.length)
    (eb : h[ib]? = some (.row 0 1 [slV iL gL xs.length cL])) (el : h[iL]? = some (.row gL 4 (Ru.R (xs ++ mr))))
    (q : (v = .slice none 0 0 ∧ es = []) ∨ ∃ id g, v = slV id g es.length es.length ∧ h[id]? = some (.row g 9 (En.R es)) ∧ n0 ≤ id) :
    ∃ v' h', run V0 (.fn 54) l [S v, S (fcV ib)] h = some (.ret v' h') ∧ Keep n0 h h' ∧
      ((v' = .slice none 0 0 ∧ es.filter (showL xs) = []) ∨ ∃ id g c ma, v' = slV id g (es.filter (showL xs)).length c ∧ (es.filter (showL xs)).length ≤ c ∧ h'[id]? = some (.row g 9 (En.R (es.filter (showL xs) ++ ma))) ∧ n0 ≤ id) := by
  rcases q with ⟨rfl, rfl⟩ | ⟨id, g, rfl, ei, hid⟩
  · refine ⟨.slice none 0 0, h, run_fn Try.func54 rfl rfl rfl rfl ?_, Keep.refl _ _, .inl ⟨rfl, rfl⟩⟩
    have e0 : L78_0 l (.slice none 0 0) (fcV ib) (iV 0) (iV 0) h = some (.ret (iV (-1)) h) := by
      refine run_code Try.func78 rfl rfl ?_
      have hlt : decide ((0 : Int) < 0) = false := rfl
      simp only [↓XX, ↓XD, ↓YX, ZB, Nat.reduceAdd, Nat.reducePow, ↓reduceIte, eq_self, Int.reduceEq, Nat.reduceEqDiff, Nat.reduceMul, Nat.reduceLeDiff, Try.f78, hlt]
    have e78 : run V0 (.fn 78) l [S (.slice none 0 0), S (fcV ib)] h = some (.ret (iV (-1)) h) := by
      refine run_fn Try.func78 rfl rfl rfl rfl ?_
      simp only [↓XX, ↓XD, ↓YX, ZB, Nat.reduceAdd, Nat.reducePow, ↓reduceIte, eq_self, Int.reduceEq, Nat.reduceEqDiff, Nat.reduceMul, Nat.reduceLeDiff, Try.f78, lenV, Int.natCast_zero]
      exact e0
    have hb : ((-1 : Int) == -1) = true := rfl
    simp only [↓XX, ↓XD, ↓YX, ZB, Nat.reduceAdd, Nat.reducePow, ↓reduceIte, eq_self, Int.reduceEq, Nat.reduceEqDiff, Nat.reduceMul, Nat.reduceLeDiff, Try.f54, e78, hb]
  · obtain ⟨h1, a1, k1⟩ := L78 id g es.length es.length l ib iL gL cL xs hx hn es [] h (by simp) eb el (by simpa using ei)
    have e78 : run V0 (.fn 78) l [S (slV id g es.length es.length), S (fcV ib)] h = some (.ret (iV (fixG (fun x => !showL xs x) es 0)) h1) := by
      refine run_fn Try.func78 rfl rfl rfl rfl ?_
      simp only [↓XX, ↓XD, ↓YX, ZB, Nat.reduceAdd, Nat.reducePow, ↓reduceIte, eq_self, Int.reduceEq, Nat.reduceEqDiff, Nat.reduceMul, Nat.reduceLeDiff, Try.f78, lenV]
      exact a1
    have eb1 := k1.get eb (lt_of_get eb)
    have el1 := k1.get el (lt_of_get el)
    have ei1 := k1.get ei (lt_of_get ei)
    rcases fixG_spec (fun x => !showL xs x) es 0 with ⟨a, b⟩ | ⟨d, x, r, hsp, b, c, a⟩
    · have hfl : es.filter (showL xs) = es := List.filter_eq_self.2 fun x hx => by have := b x hx; simpa using this
      rw [hfl]
      rw [a] at e78
      refine ⟨slV id g es.length es.length, h1, run_fn Try.func54 rfl rfl rfl rfl ?_, k1.le h0, .inr ⟨id, g, es.length, [], rfl, Nat.le_refl _, by simpa using ei1, hid⟩⟩
      have hb : ((-1 : Int) == -1) = true := rfl
      simp only [↓XX, ↓XD, ↓YX, ZB, Nat.reduceAdd, Nat.reducePow, ↓reduceIte, eq_self, Int.reduceEq, Nat.reduceEqDiff, Nat.reduceMul, Nat.reduceLeDiff, Try.f54, e78, hb]
    · have a' : fixG (fun x => !showL xs x) es 0 = (d.length : Int) := by rw [a]; simp
      rw [a'] at e78
      have hq : showL xs x = false := by simpa using c
      have hfl : es.filter (showL xs) = d ++ r.filter (showL xs) := by
        rw [hsp, List.filter_append, List.filter_cons]
        simp only [hq]
        rw [List.filter_eq_self.2 fun y hy => by have := b y hy; simpa using this]
        simp
      rw [hfl]
      have hlen : es.length = d.length + 1 + r.length := by rw [hsp]; simp; omega
      obtain ⟨h', ma, i1, i2, i3⟩ := L54 id g es.length es.length l ib iL gL cL xs hx hn (Nat.le_refl _) (by omega) (by omega) (by omega) n0 hid r d [x] h1 (by simp; omega) (by simp) eb1 el1 (by rw [ei1, hsp]; simp)
      refine ⟨_, h', run_fn Try.func54 rfl rfl rfl rfl ?_, (k1.le h0).trans i3, .inr ⟨id, g, es.length, ma, rfl, by simp; have := List.length_filter_le (showL xs) r; omega, i2, hid⟩⟩
      have hb : ((d.length : Int) == -1) = false := by simp
      have hw : IntKind.i64.wrap ((d.length : Int) + 1) = ((d.length + 1 : Nat) : Int) := natCast_succ_wrap (by omega) rfl
      simp only [↓XX, ↓XD, ↓YX, ZB, Nat.reduceAdd, Nat.reducePow, ↓reduceIte, eq_self, Int.reduceEq, Nat.reduceEqDiff, Nat.reduceMul, Nat.reduceLeDiff, Try.f54, e78, hb, hw]
      exact i1
/-- impl.RulesFilter -/
theorem r27m {mr : List Ru} (iL gL cL l loE : Nat) (vE : Value) (xs : List Ru) (es : List En) (h : AH) (hx : xs.length ≤ 2 ^ 20) (he : es.length ≤ 2 ^ 20) (hf : ∀ x ∈ xs, x.Fit) (el : h[iL]? = some (.row gL 4 (Ru.R (xs ++ mr)))) (eE : En.Rt h loE vE es) (hl : l ≤ h.length) :
    ∃ v h', run V0 (.fn 27) l [S (slV iL gL xs.length cL), S vE] h = some (.ret v h') ∧ En.Rt h' h.length v (filtL xs es) ∧ Keep h.length h h' := by
  have k0 : Keep h.length h (h ++ [.row 0 1 [slV iL gL xs.length cL]]) := Keep.app _ _ (Nat.le_refl _)
  have el0 := k0.get el (lt_of_get el)
  have hid := lt_of_get el
  have eb0 : (h ++ [AObj.row 0 1 [slV iL gL xs.length cL]])[h.length]? = some (.row 0 1 [slV iL gL xs.length cL]) := by simp
  have hp : newP h = pV h.length 0 0 := rfl
  have hl0 : ld (h ++ [AObj.row 0 1 [slV iL gL xs.length cL]]) (pV h.length 0 0) = some (slV iL gL xs.length cL) := ld_of eb0 rfl
  obtain ⟨h1, a1, k1⟩ := r40m iL gL cL l xs (h ++ [.row 0 1 [slV iL gL xs.length cL]]) (by omega) hf el0
  have el1 := k1.get el0 (lt_of_get el0)
  have eb1 := k1.get eb0 (lt_of_get eb0)
  unfold filtL
  cases hok : (xs.all ruOk && decide ((xs.length : Int) ≤ 8)) with
  | false =>
    rw [hok] at a1
    refine ⟨.slice none 0 0, h1, run_fn Try.func27 rfl rfl rfl rfl ?_, .inl ⟨rfl, rfl⟩, k0.trans (k1.le k0.1)⟩
    simp only [↓XX, ↓XD, ↓YX, ZB, Nat.reduceAdd, Nat.reducePow, ↓reduceIte, eq_self, Int.reduceEq, Nat.reduceEqDiff, Nat.reduceMul, Nat.reduceLeDiff, Try.f27, hp, hl0, a1, Bool.not_false]
  | true =>
    rw [hok] at a1
    have hh1 : h.length + 1 ≤ h1.length := by have := k1.1; simpa using this
    obtain ⟨v2, h2, a2, k2, q2⟩ := r55 vE l loE es h1 ((eE.keep k0).keep k1) (by omega) (by omega)
    have el2 := k2.get el1 (lt_of_get el1)
    have eb2 := k2.get eb1 (lt_of_get eb1)
    obtain ⟨v3, h3, a3, k3, q3⟩ := r54 v2 l h1.length h.length iL gL cL xs es h2 (by omega) (by omega) (by omega) (by omega) (by omega) k2.1 eb2 el2 (by
      rcases q2 with q | ⟨id, g, q, e, hq⟩
      · exact .inl q
      · exact .inr ⟨id, g, q, e, hq⟩)
    have K : Keep h.length h h3 := (k0.trans (k1.le k0.1)).trans ((k2.le (by omega)).trans (k3.le (by omega)))
    rw [if_pos rfl]
    rcases q3 with ⟨rfl, q3⟩ | ⟨id, g, c, ma, rfl, hc, e3, hid3⟩
    · refine ⟨.slice none 0 0, h3, run_fn Try.func27 rfl rfl rfl rfl ?_, .inl ⟨rfl, q3⟩, K⟩
      have h53 := r53n l h3
      simp only [↓XX, ↓XD, ↓YX, ZB, Nat.reduceAdd, Nat.reducePow, ↓reduceIte, eq_self, Int.reduceEq, Nat.reduceEqDiff, Nat.reduceMul, Nat.reduceLeDiff, Try.f27, hp, hl0, a1, Bool.not_true, a2, a3, h53]
    · have h53 := r53 id g _ c l h3 _ e3 hc
      refine ⟨_, h3, run_fn Try.func27 rfl rfl rfl rfl ?_, .inr ⟨id, g, (es.filter (showL xs)).length, ma, rfl, e3, by omega⟩, K⟩
      simp only [↓XX, ↓XD, ↓YX, ZB, Nat.reduceAdd, Nat.reducePow, ↓reduceIte, eq_self, Int.reduceEq, Nat.reduceEqDiff, Nat.reduceMul, Nat.reduceLeDiff, Try.f27, hp, hl0, a1, Bool.not_true, a2, a3, h53]
theorem r27 (iL gL cL l loE : Nat) (vE : Value) (xs : List Ru) (es : List En) (h : AH) (hx : xs.length ≤ 2 ^ 20) (he : es.length ≤ 2 ^ 20) (hf : ∀ x ∈ xs, x.Fit) (el : h[iL]? = some (.row gL 4 (Ru.R xs))) (eE : En.Rt h loE vE es) (hl : l ≤ h.length) :
    ∃ v h', run V0 (.fn 27) l [S (slV iL gL xs.length cL), S vE] h = some (.ret v h') ∧ En.Rt h' h.length v (filtL xs es) ∧ Keep h.length h h' := r27m (mr := []) iL gL cL l loE vE xs es h hx he hf (by simpa using el) eE hl
/-- FnExactRulesFilter, run -/
theorem r6 (v ve : Value) (xs : List Ru) (es : List En) (l : Nat) (h : AH) (hl : l ≤ h.length) (q : Ru.Rd h v xs) (hf0 : ∀ x ∈ xs, x.Fit63) (hn : xs.length ≤ 9223372036854775807)
    (qe : En.Rd h ve es) (he0 : ∀ x ∈ es, x.Fit63) (hne : es.length ≤ 9223372036854775807) : ∃ h', run V0 (.fn 6) l [S v, S ve] h = some (.ret (.bool true) h') := by
  obtain ⟨h1, n, a1, k1, hnk, hz⟩ := r11 v l xs h q hf0 hn 1048576 (by omega)
  have hh1 := k1.1
  by_cases h0 : n < 0
  · refine ⟨h1, run_fn Try.func6 rfl rfl rfl rfl ?_⟩
    have hd : decide (n < 0) = true := decide_eq_true h0
    simp only [↓XX, ↓XD, ↓YX, ZB, Nat.reduceAdd, Nat.reducePow, ↓reduceIte, eq_self, Int.reduceEq, Nat.reduceEqDiff, Nat.reduceMul, Nat.reduceLeDiff, Try.f6, a1, hd]
  · obtain ⟨hn2, hz2⟩ := hz (by omega)
    have hd : decide (n < 0) = false := decide_eq_false h0
    have hf : ∀ x ∈ xs, x.Fit := fun x hx => by have := Ru.szL_fit xs _ hz2 x hx; exact ⟨by omega, by omega⟩
    obtain ⟨h1', n', a1', k1', hnk', hz'⟩ := r24 ve l es h1 (qe.keep k1) he0 hne n (by omega)
    by_cases h0' : n' < 0
    · refine ⟨h1', run_fn Try.func6 rfl rfl rfl rfl ?_⟩
      have hd' : decide (n' < 0) = true := decide_eq_true h0'
      simp only [↓XX, ↓XD, ↓YX, ZB, Nat.reduceAdd, Nat.reducePow, ↓reduceIte, eq_self, Int.reduceEq, Nat.reduceEqDiff, Nat.reduceMul, Nat.reduceLeDiff, Try.f6, a1, hd, a1', hd']
    · obtain ⟨hn2', _⟩ := hz' (by omega)
      have hd' : decide (n' < 0) = false := decide_eq_false h0'
      have htl := filtL_len xs es
      have hh1' := k1'.1
      have K1 : Keep h.length h h1' := k1.trans (k1'.le hh1)
      -- w0
      obtain ⟨i2, h2, a2, e2, d2, k2⟩ := r14 v l xs h1' (q.keep K1) (by omega) (by omega)
      have hh2 := k2.1
      have K2 := K1.trans (k2.le (by omega))
      obtain ⟨j2, h2b, a2b, e2b, d2b, k2b⟩ := r26 ve l es h2 (qe.keep K2) (by omega) (by omega)
      have hh2b := k2b.1
      obtain ⟨w, h3, a3, t3, k3⟩ := r25 i2 0 xs.length l 0 _ xs es h2b (by omega) (by omega) hf (k2b.get e2 (lt_of_get e2)) (En.Rd.rt (En.Rd.own (c := es.length) e2b)) (by omega)
      have hh3 := k3.1
      have K3 : Keep h.length h h3 := K2.trans ((k2b.le (by omega)).trans (k3.le (by omega)))
      -- x0, x1
      obtain ⟨i4, h4, a4, e4, d4, k4⟩ := r14 v l xs h3 (q.keep K3) (by omega) (by omega)
      have hh4 := k4.1
      have K4 := K3.trans (k4.le (by omega))
      obtain ⟨j4, h4b, a4b, e4b, d4b, k4b⟩ := r26 ve l es h4 (qe.keep K4) (by omega) (by omega)
      have hh4b := k4b.1
      have hi4 := lt_of_get e4
      have hj4 := lt_of_get e4b
      have e4' := k4b.get e4 hi4
      -- g0
      obtain ⟨gv, h5, a5, t5, k5⟩ := r27 i4 0 xs.length l 0 _ xs es h4b (by omega) (by omega) hf e4' (En.Rd.rt (En.Rd.own (c := es.length) e4b)) (by omega)
      have hh5 := k5.1
      have W5 : Keep h3.length h3 h5 := k4.trans ((k4b.le (by omega)).trans (k5.le (by omega)))
      -- g0 = w0
      obtain ⟨h6, a6, k6⟩ := r28t gv w l h4b.length h2b.length (filtL xs es) (filtL xs es) h5 (by omega) t5 (t3.keep W5)
      have hh6 := k6.1
      rw [decide_eq_true rfl] at a6
      have W6 := W5.trans (k6.le (by omega))
      have t6 := t5.keep k6
      have e6 := k6.get (k5.get e4' (by omega)) (by omega)
      have e6b := k6.get (k5.get e4b hj4) (by omega)
      -- x0 = the argument
      obtain ⟨i7, h7, a7, e7, d7, k7⟩ := r14 v l xs h6 (q.keep (K3.trans (W6.le (by omega)))) (by omega) (by omega)
      have hh7 := k7.1
      have e7' := k7.get e6 (by omega)
      have e7b := k7.get e6b (by omega)
      obtain ⟨h8, a8, k8⟩ := r17 i4 0 xs.length i7 0 xs.length l xs xs h7 (by omega) e7' e7
      have hh8 := k8.1
      rw [decide_eq_true rfl] at a8
      have k78 := k7.trans (k8.le hh7)
      have W8 := W6.trans (k78.le (by omega))
      have t8 := t6.keep k78
      have e8 := k8.get e7' (by omega)
      have e8b := k8.get e7b (by omega)
      -- x1 = the argument
      obtain ⟨j7, h7c, a7c, e7c, d7c, k7c⟩ := r26 ve l es h8 (qe.keep (K3.trans (W8.le (by omega)))) (by omega) (by omega)
      have hh7c := k7c.1
      have e8' := k7c.get e8 (by omega)
      have e8b' := k7c.get e8b (by omega)
      obtain ⟨h8c, a8c, k8c⟩ := r28 j4 0 es.length j7 0 es.length l es es h7c (by omega) e8b' e7c
      have hh8c := k8c.1
      rw [decide_eq_true rfl] at a8c
      have k78c := k7c.trans (k8c.le hh7c)
      have W8c := W8.trans (k78c.le (by omega))
      have t8c := t8.keep k78c
      have e9 := k8c.get e8' (by omega)
      have e9b := k8c.get e8b' (by omega)
      -- x0 is marked
      obtain ⟨h9, a9, _, x9⟩ := r20s i4 0 xs.length l 1 xs [] h8c (by simpa using e9) (by omega) (by omega) (by omega) (by omega)
      have hh9 := x9.1
      have t9 := t8c.kx x9 (by omega)
      have W9 := W8c.trans (Keep.ofKX x9 (by omega) d4)
      have e9b' := x9.get e9b (by omega) (by omega)
      -- x1 is marked
      obtain ⟨h9b, a9b, _, x9b⟩ := r29s j4 0 es.length l (1 + 4 * xs.length) es [] h9 (by simpa using e9b') (by omega) (by omega) (by omega) (by omega)
      have hh9b := x9b.1
      have t9b := t9.kx x9b (by omega)
      have W9b := W9.trans (Keep.ofKX x9b (by omega) (by omega))
      have hk9 : decide (((1 + 4 * xs.length + 9 * es.length : Nat) : Int) < 0) = false := decide_eq_false (by omega)
      -- g0 = w0, still
      obtain ⟨h10, a10, k10⟩ := r28t gv w l h4b.length h2b.length (filtL xs es) (filtL xs es) h9b (by omega) t9b (t3.keep W9b)
      have hh10 := k10.1
      rw [decide_eq_true rfl] at a10
      have W10 := W9b.trans (k10.le (by omega))
      have t10 := t9b.keep k10
      -- g0 is marked
      obtain ⟨h11, a11, t11, ix, hix, x11⟩ := r29 gv l h4b.length 1 (filtL xs es) h10 t10 (by omega) (by omega) (by omega) (by omega)
      have hh11 := x11.1
      have W11 := W10.trans (Keep.ofKX x11 (by omega) (by omega))
      obtain ⟨h12, a12, k12⟩ := r30 gv l h4b.length 1 (filtL xs es).length h11 t11 (by omega) (by omega) (by omega)
      have hh12 := k12.1
      have W12 := W11.trans (k12.le (by omega))
      have t12 := t11.keep k12
      have hm0 : decide (((1 + 9 * (filtL xs es).length : Nat) : Int) < 0) = false := decide_eq_false (by omega)
      have hme : (((1 + 9 * (filtL xs es).length : Nat) : Int) != ((1 + 9 * (filtL xs es).length : Nat) : Int)) = false := by simp
      -- another call
      obtain ⟨i13, h13, a13, e13, d13, k13⟩ := r14 v l xs h12 (q.keep (K3.trans (W12.le (by omega)))) (by omega) (by omega)
      have hh13 := k13.1
      have W13 := W12.trans (k13.le (by omega))
      obtain ⟨j13, h13b, a13b, e13b, d13b, k13b⟩ := r26 ve l es h13 (qe.keep (K3.trans (W13.le (by omega)))) (by omega) (by omega)
      have hh13b := k13b.1
      obtain ⟨u, h14, a14, t14, k14⟩ := r27 i13 0 xs.length l 0 _ xs es h13b (by omega) (by omega) hf (k13b.get e13 (lt_of_get e13)) (En.Rd.rt (En.Rd.own (c := es.length) e13b)) (by omega)
      have hh14 := k14.1
      have k1314 := k13.trans ((k13b.le hh13).trans (k14.le (by omega)))
      have W14 := W12.trans (k1314.le (by omega))
      obtain ⟨h15, a15, k15⟩ := r28t u w l h13b.length h2b.length (filtL xs es) (filtL xs es) h14 (by omega) t14 (t3.keep W14)
      rw [decide_eq_true rfl] at a15
      obtain ⟨h16, a16, k16⟩ := r30 gv l h4b.length 1 (filtL xs es).length h15 (t12.keep (k1314.trans (k15.le (by omega)))) (by omega) (by omega) (by omega)
      refine ⟨h16, run_fn Try.func6 rfl rfl rfl rfl ?_⟩
      have c1 : ((1 : Nat) : Int) = 1 := rfl
      rw [c1] at a9 a11 a12 a16
      simp only [↓XX, ↓XD, ↓YX, ZB, Nat.reduceAdd, Nat.reducePow, ↓reduceIte, eq_self, Int.reduceEq, Nat.reduceEqDiff, Nat.reduceMul, Nat.reduceLeDiff, Try.f6, a1, hd, a1', hd', a2, a2b, a3, a4, a4b, a5, a6, a7, a8, a7c, a8c, a9, a9b, hk9, a10, a11, a12, hm0, hme, a13, a13b, a14, a15, a16, Bool.not_true]
end Go.Abs
namespace Go.Abs
open Go.Proofs
set_option maxRecDepth 100000
set_option linter.unusedSimpArgs false
set_option pp.maxSteps 20000

/-! ### the text of a rule -/
def kindsL : List Bs := [[], [106, 111, 105, 110], [108, 101, 97, 118, 101], [116, 97, 108, 107], [115, 117, 98, 106, 101, 99, 116], [114, 111, 108, 101], [114, 97, 110, 107]]
def kindW (k : Int) : Bs := kindsL.getD k.toNat []
def oA (s : Bs) : Bs := if s = [] then [42] else s
def ruHead (x : Ru) : Bs := if x.quiet then [113, 117, 105, 101, 116] else [115, 104, 111, 119]
def ruText (x : Ru) : Bs := ruHead x ++ [32] ++ oA x.room ++ [32] ++ oA x.user ++ [32] ++ oA (kindW x.kind) ++ [10]
def Ru.Fit20 (x : Ru) : Prop := x.room.length ≤ 2 ^ 20 ∧ x.user.length ≤ 2 ^ 20
theorem oA_len (s : Bs) : (oA s).length ≤ s.length + 1 := by unfold oA; split <;> simp
theorem kindW_len (k : Int) : (kindW k).length ≤ 7 := by
  unfold kindW
  rcases h : k.toNat with _ | _ | _ | _ | _ | _ | _ | n <;> simp [kindsL]
theorem ruHead_len (x : Ru) : (ruHead x).length ≤ 5 := by unfold ruHead; split <;> simp
theorem ruText_len (x : Ru) (h : x.Fit20) : (ruText x).length ≤ 2 ^ 22 := by
  obtain ⟨h1, h2⟩ := h
  have a := oA_len x.room
  have b := oA_len x.user
  have c := oA_len (kindW x.kind)
  have d := kindW_len x.kind
  have e := ruHead_len x
  simp only [ruText, List.length_append, List.length_cons, List.length_nil]
  omega
theorem cat_of {a b c : Bs} (e : a ++ b = c) (h : c.length ≤ 2 ^ 62) : catA (B a) (B b) = some (B c) := by
  subst e
  exact catA_B a b (by simpa using h)
theorem r72 (s : Bs) (l : Nat) (h : AH) : run V0 (.fn 72) l [S (sV s)] h = some (.ret (sV (oA s)) h) := by
  refine run_fn Try.func72 rfl rfl rfl rfl ?_
  unfold oA
  cases hq : decide (s = []) with
  | true => rw [if_pos (of_decide_eq_true hq)]; simp only [↓XX, ↓XD, ↓YX, ZB, Nat.reduceAdd, Nat.reducePow, ↓reduceIte, eq_self, Int.reduceEq, Nat.reduceEqDiff, Nat.reduceMul, Nat.reduceLeDiff, Try.f72, eqB, hq]
  | false => rw [if_neg (of_decide_eq_false hq)]; simp only [↓XX, ↓XD, ↓YX, ZB, Nat.reduceAdd, Nat.reducePow, ↓reduceIte, eq_self, Int.reduceEq, Nat.reduceEqDiff, Nat.reduceMul, Nat.reduceLeDiff, Try.f72, eqB, hq]
theorem r76 (s : Bs) (l : Nat) (h : AH) : run V0 (.fn 76) l [S (sV s)] h = some (.ret (sV (oA s)) h) := by
  refine run_fn Try.func76 rfl rfl rfl rfl ?_
  unfold oA
  cases hq : decide (s = []) with
  | true => rw [if_pos (of_decide_eq_true hq)]; simp only [↓XX, ↓XD, ↓YX, ZB, Nat.reduceAdd, Nat.reducePow, ↓reduceIte, eq_self, Int.reduceEq, Nat.reduceEqDiff, Nat.reduceMul, Nat.reduceLeDiff, Try.f76, eqB, hq]
  | false => rw [if_neg (of_decide_eq_false hq)]; simp only [↓XX, ↓XD, ↓YX, ZB, Nat.reduceAdd, Nat.reducePow, ↓reduceIte, eq_self, Int.reduceEq, Nat.reduceEqDiff, Nat.reduceMul, Nat.reduceLeDiff, Try.f76, eqB, hq]
theorem r73 (l : Nat) (h : AH) : run V0 (.fn 73) l [] h = some (.ret (newS h 7 7) (h ++ [.row 0 1 (sL kindsL)])) := by
  refine run_fn Try.func73 rfl rfl rfl rfl ?_
  simp only [↓XX, ↓XD, ↓YX, ZB, Nat.reduceAdd, Nat.reducePow, ↓reduceIte, eq_self, Int.reduceEq, Nat.reduceEqDiff, Nat.reduceMul, Nat.reduceLeDiff, Try.f73]
  rfl
theorem r77 (l : Nat) (h : AH) : run V0 (.fn 77) l [] h = some (.ret (newS h 7 7) (h ++ [.row 0 1 (sL kindsL)])) := by
  refine run_fn Try.func77 rfl rfl rfl rfl ?_
  simp only [↓XX, ↓XD, ↓YX, ZB, Nat.reduceAdd, Nat.reducePow, ↓reduceIte, eq_self, Int.reduceEq, Nat.reduceEqDiff, Nat.reduceMul, Nat.reduceLeDiff, Try.f77]
  rfl
theorem kind_ix (h : AH) {k : Int} (hk : 0 ≤ k ∧ k < 7) : ixAddr (newS h 7 7) k 1 = some (pV h.length k.toNat 0) := by
  simp only [ixAddr, newS]
  rw [if_pos (by omega)]
  simp
theorem kind_ld (h : AH) (l : AH) {k : Int} (hk : 0 ≤ k ∧ k < 7) (e : l[h.length]? = some (.row 0 1 (sL kindsL))) : ld l (pV h.length k.toNat 0) = some (sV (kindW k)) := by
  refine ld_of e ?_
  unfold kindW
  rcases hk' : k.toNat with _ | _ | _ | _ | _ | _ | _ | n <;> first | rfl | omega
/-- l17Put -/
theorem r49 (x : Ru) (hx : x.Fit20) (hk : 0 ≤ x.kind ∧ x.kind < 7) (l : Nat) (h : AH) : run V0 (.fn 49) l [S x.V] h = some (.ret (sV (ruText x)) (h ++ [.row 0 4 x.C] ++ [.row 0 1 (sL kindsL)])) := by
  refine run_fn Try.func49 rfl rfl rfl rfl ?_
  have ht := ruText_len x hx
  obtain ⟨q, rm, us, kd⟩ := x
  simp only at hk
  have hix := kind_ix (h ++ [AObj.row 0 4 [Value.bool q, sV rm, sV us, iV kd]]) hk
  have hld := kind_ld (h ++ [AObj.row 0 4 [Value.bool q, sV rm, sV us, iV kd]]) (h ++ [AObj.row 0 4 [Value.bool q, sV rm, sV us, iV kd]] ++ [AObj.row 0 1 (sL kindsL)]) hk (by simp)
  have tx : ruText ⟨q, rm, us, kd⟩ = ruHead ⟨q, rm, us, kd⟩ ++ [32] ++ oA rm ++ [32] ++ oA us ++ [32] ++ oA (kindW kd) ++ [10] := rfl
  rw [tx] at ht ⊢
  simp only [List.length_append, List.length_cons, List.length_nil] at ht
  cases q with
  | true =>
    have hh : ruHead ⟨true, rm, us, kd⟩ = [113, 117, 105, 101, 116] := rfl
    rw [hh] at ht ⊢
    simp only [List.length_cons, List.length_nil] at ht
    have c1 : catA (B [113, 117, 105, 101, 116]) (B [32]) = some (B ([113, 117, 105, 101, 116] ++ [32])) := cat_of rfl (by simp)
    have c2 : catA (B ([113, 117, 105, 101, 116] ++ [32])) (B (oA rm)) = some (B ([113, 117, 105, 101, 116] ++ [32] ++ oA rm)) := cat_of rfl (by simp; omega)
    have c3 : catA (B ([113, 117, 105, 101, 116] ++ [32] ++ oA rm)) (B [32]) = some (B ([113, 117, 105, 101, 116] ++ [32] ++ oA rm ++ [32])) := cat_of rfl (by simp; omega)
    have c4 : catA (B ([113, 117, 105, 101, 116] ++ [32] ++ oA rm ++ [32])) (B (oA us)) = some (B ([113, 117, 105, 101, 116] ++ [32] ++ oA rm ++ [32] ++ oA us)) := cat_of rfl (by simp; omega)
    have c5 : catA (B ([113, 117, 105, 101, 116] ++ [32] ++ oA rm ++ [32] ++ oA us)) (B [32]) = some (B ([113, 117, 105, 101, 116] ++ [32] ++ oA rm ++ [32] ++ oA us ++ [32])) := cat_of rfl (by simp; omega)
    have c6 : catA (B ([113, 117, 105, 101, 116] ++ [32] ++ oA rm ++ [32] ++ oA us ++ [32])) (B (oA (kindW kd))) = some (B ([113, 117, 105, 101, 116] ++ [32] ++ oA rm ++ [32] ++ oA us ++ [32] ++ oA (kindW kd))) := cat_of rfl (by simp; omega)
    have c7 : catA (B ([113, 117, 105, 101, 116] ++ [32] ++ oA rm ++ [32] ++ oA us ++ [32] ++ oA (kindW kd))) (B [10]) = some (B ([113, 117, 105, 101, 116] ++ [32] ++ oA rm ++ [32] ++ oA us ++ [32] ++ oA (kindW kd) ++ [10])) := cat_of rfl (by simp; omega)
    simp (disch := (refine _root_.id ?_; kernel_rfl)) only [↓hld, ↓XX, ↓XD, ↓YX, ZB, Nat.reduceAdd, Nat.reducePow, ↓reduceIte, eq_self, Int.reduceEq, Nat.reduceEqDiff, Nat.reduceMul, Nat.reduceLeDiff, Try.f49, ↓XH1, ↓XH2, ZC, eq_self, Nat.reduceLeDiff, r72, r73, hix, c1, c2, c3, c4, c5, c6, c7]
  | false =>
    have hh : ruHead ⟨false, rm, us, kd⟩ = [115, 104, 111, 119] := rfl
    rw [hh] at ht ⊢
    simp only [List.length_cons, List.length_nil] at ht
    have c1 : catA (B [115, 104, 111, 119]) (B [32]) = some (B ([115, 104, 111, 119] ++ [32])) := cat_of rfl (by simp)
    have c2 : catA (B ([115, 104, 111, 119] ++ [32])) (B (oA rm)) = some (B ([115, 104, 111, 119] ++ [32] ++ oA rm)) := cat_of rfl (by simp; omega)
    have c3 : catA (B ([115, 104, 111, 119] ++ [32] ++ oA rm)) (B [32]) = some (B ([115, 104, 111, 119] ++ [32] ++ oA rm ++ [32])) := cat_of rfl (by simp; omega)
    have c4 : catA (B ([115, 104, 111, 119] ++ [32] ++ oA rm ++ [32])) (B (oA us)) = some (B ([115, 104, 111, 119] ++ [32] ++ oA rm ++ [32] ++ oA us)) := cat_of rfl (by simp; omega)
    have c5 : catA (B ([115, 104, 111, 119] ++ [32] ++ oA rm ++ [32] ++ oA us)) (B [32]) = some (B ([115, 104, 111, 119] ++ [32] ++ oA rm ++ [32] ++ oA us ++ [32])) := cat_of rfl (by simp; omega)
    have c6 : catA (B ([115, 104, 111, 119] ++ [32] ++ oA rm ++ [32] ++ oA us ++ [32])) (B (oA (kindW kd))) = some (B ([115, 104, 111, 119] ++ [32] ++ oA rm ++ [32] ++ oA us ++ [32] ++ oA (kindW kd))) := cat_of rfl (by simp; omega)
    have c7 : catA (B ([115, 104, 111, 119] ++ [32] ++ oA rm ++ [32] ++ oA us ++ [32] ++ oA (kindW kd))) (B [10]) = some (B ([115, 104, 111, 119] ++ [32] ++ oA rm ++ [32] ++ oA us ++ [32] ++ oA (kindW kd) ++ [10])) := cat_of rfl (by simp; omega)
    simp (disch := (refine _root_.id ?_; kernel_rfl)) only [↓hld, ↓XX, ↓XD, ↓YX, ZB, Nat.reduceAdd, Nat.reducePow, ↓reduceIte, eq_self, Int.reduceEq, Nat.reduceEqDiff, Nat.reduceMul, Nat.reduceLeDiff, Try.f49, ↓XH1, ↓XH2, ZC, eq_self, Nat.reduceLeDiff, r72, r73, hix, c1, c2, c3, c4, c5, c6, c7]
/-- strings.Join of four texts -/
theorem join4 (a b c d t : Bs) (l : Nat) (h : AH) (ht : a ++ [32] ++ b ++ [32] ++ c ++ [32] ++ d = t) (hl : t.length ≤ 2 ^ 40) :
    run V0 (.fn 75) l [S (newS h 4 4), S (sV [32])] (h ++ [.row 0 1 [sV a, sV b, sV c, sV d]]) = some (.ret (sV t) (h ++ [.row 0 1 [sV a, sV b, sV c, sV d]])) := by
  refine run_prim (vs := [.slice (some ⟨h.length, 0, some 0⟩) 4 4, sV [32]]) (p := pJoin) rfl ?_
  have e : (h ++ [AObj.row 0 1 [sV a, sV b, sV c, sV d]])[h.length]? = some (.row 0 1 [sV a, sV b, sV c, sV d]) := by simp
  have hj : Lib.join ([B a, B b, B c, B d].map (·.data.toList)) (B [32]).data.toList = t := by
    subst ht
    show Lib.join [a, b, c, d] [32] = _
    rw [Lib.join_cons]
    simp [Lib.joinTail]
  simp only [pJoin, rowAt_of e, Option.bind_some]
  have hc : cut [sV a, sV b, sV c, sV d] 0 4 = some [sV a, sV b, sV c, sV d] := rfl
  have hs : strsOf [sV a, sV b, sV c, sV d] = some [B a, B b, B c, B d] := rfl
  rw [hc]
  simp only [Option.bind_some, hs]
  rw [hj, if_pos ⟨by omega, by omega⟩]
  rfl
/-- Rule.text -/
theorem r51 (x : Ru) (hx : x.Fit20) (hk : 0 ≤ x.kind ∧ x.kind < 7) (l : Nat) (h : AH) : ∃ h', run V0 (.fn 51) l [S x.V] h = some (.ret (sV (ruText x)) h') ∧ Keep h.length h h' := by
  have ht := ruText_len x hx
  obtain ⟨q, rm, us, kd⟩ := x
  simp only at hk
  have hix := kind_ix (h ++ [AObj.row 0 4 [Value.bool q, sV rm, sV us, iV kd]]) hk
  have hld := kind_ld (h ++ [AObj.row 0 4 [Value.bool q, sV rm, sV us, iV kd]]) (h ++ [AObj.row 0 4 [Value.bool q, sV rm, sV us, iV kd]] ++ [AObj.row 0 1 (sL kindsL)]) hk (by simp)
  have tx : ruText ⟨q, rm, us, kd⟩ = ruHead ⟨q, rm, us, kd⟩ ++ [32] ++ oA rm ++ [32] ++ oA us ++ [32] ++ oA (kindW kd) ++ [10] := rfl
  rw [tx] at ht ⊢
  simp only [List.length_append, List.length_cons, List.length_nil] at ht
  have hj := join4 (ruHead ⟨q, rm, us, kd⟩) (oA rm) (oA us) (oA (kindW kd)) _ l (h ++ [AObj.row 0 4 [Value.bool q, sV rm, sV us, iV kd]] ++ [AObj.row 0 1 (sL kindsL)]) rfl (by simp; omega)
  have c7 : catA (B (ruHead ⟨q, rm, us, kd⟩ ++ [32] ++ oA rm ++ [32] ++ oA us ++ [32] ++ oA (kindW kd))) (B [10]) = some (B (ruHead ⟨q, rm, us, kd⟩ ++ [32] ++ oA rm ++ [32] ++ oA us ++ [32] ++ oA (kindW kd) ++ [10])) := cat_of rfl (by simp; omega)
  refine ⟨h ++ [.row 0 4 [Value.bool q, sV rm, sV us, iV kd]] ++ [.row 0 1 (sL kindsL)] ++ [.row 0 1 [sV (ruHead ⟨q, rm, us, kd⟩), sV (oA rm), sV (oA us), sV (oA (kindW kd))]], run_fn Try.func51 rfl rfl rfl rfl ?_, by rw [List.append_assoc, List.append_assoc]; exact Keep.app _ _ (Nat.le_refl _)⟩
  cases q with
  | true =>
    have hh : ruHead ⟨true, rm, us, kd⟩ = [113, 117, 105, 101, 116] := rfl
    rw [hh] at hj c7 ⊢
    simp (disch := (refine _root_.id ?_; kernel_rfl)) only [↓hld, ↓XX, ↓XD, ↓YX, ZB, Nat.reduceAdd, Nat.reducePow, ↓reduceIte, eq_self, Int.reduceEq, Nat.reduceEqDiff, Nat.reduceMul, Nat.reduceLeDiff, Try.f51, ↓XH1, ↓XH2, ZC, eq_self, Nat.reduceLeDiff, r76, r77, hix, ↓hj, c7]
  | false =>
    have hh : ruHead ⟨false, rm, us, kd⟩ = [115, 104, 111, 119] := rfl
    rw [hh] at hj c7 ⊢
    simp (disch := (refine _root_.id ?_; kernel_rfl)) only [↓hld, ↓XX, ↓XD, ↓YX, ZB, Nat.reduceAdd, Nat.reducePow, ↓reduceIte, eq_self, Int.reduceEq, Nat.reduceEqDiff, Nat.reduceMul, Nat.reduceLeDiff, Try.f51, ↓XH1, ↓XH2, ZC, eq_self, Nat.reduceLeDiff, r76, r77, hix, ↓hj, c7]
end Go.Abs
namespace Go.Abs
open Go.Proofs
set_option maxRecDepth 100000
set_option linter.unusedSimpArgs false
set_option pp.maxSteps 20000

def rulesT (xs : List Ru) : Bs := xs.flatMap ruText
theorem rulesT_len : ∀ (r : List Ru), (∀ x ∈ r, x.Fit20) → (rulesT r).length ≤ r.length * 2 ^ 22
  | [], _ => by simp [rulesT]
  | x :: r, h => by
    have ih := rulesT_len r (fun y hy => h y (by simp [hy]))
    have h1 := ruText_len x (h x (by simp))
    simp only [rulesT, List.flatMap_cons, List.length_append, List.length_cons] at ih ⊢
    rw [Nat.succ_mul]
    omega
def KOk (x : Ru) : Prop := 0 ≤ x.kind ∧ x.kind < 7
theorem KOk_of {x : Ru} (h : ruOk x = true) : KOk x := by
  unfold ruOk inI at h
  simp only [Bool.and_eq_true, decide_eq_true_eq] at h
  exact ⟨h.2.1, by omega⟩
/-- spec.RulesPut: its loop -/
theorem L22 (id g c n l : Nat) (hn : n ≤ 2 ^ 40) : ∀ (r d : List Ru) (acc : Bs) (h : AH), d.length + r.length = n → (∀ x ∈ r, x.Fit20 ∧ KOk x) → h[id]? = some (.row g 4 (Ru.R (d ++ r))) → acc.length + (rulesT r).length ≤ 2 ^ 46 →
    ∃ h', L22_0 l (slV id g n c) (sV acc) (iV d.length) h = some (.ret (sV (acc ++ rulesT r)) h') ∧ Keep h.length h h' := by
  intro r
  induction r with
  | nil =>
    intro d acc h hk hf e hb
    simp only [List.length_nil, Nat.add_zero] at hk
    have hlt : decide ((d.length : Int) < (n : Int)) = false := by rw [decide_eq_false_iff_not]; omega
    refine ⟨h, run_code Try.func22 rfl rfl ?_, Keep.refl _ _⟩
    simp only [↓XX, ↓XD, ↓YX, ZB, Nat.reduceAdd, Nat.reducePow, ↓reduceIte, eq_self, Int.reduceEq, Nat.reduceEqDiff, Nat.reduceMul, Nat.reduceLeDiff, Try.f22, lenV, hlt, rulesT, List.flatMap_nil, List.append_nil]
  | cons x r ih =>
    intro d acc h hk hf e hb
    simp only [List.length_cons] at hk
    have hlt : decide ((d.length : Int) < (n : Int)) = true := by rw [decide_eq_true_iff]; omega
    have hix : ixAddr (slV id g n c) (d.length : Int) 4 = some (pV id (d.length * 4) g) := by rw [ixAddr_sl (by omega)]; simp
    have hld : ldN h (pV id (d.length * 4) g) 4 = some x.C := Ru.ldN e
    have hw : IntKind.i64.wrap ((d.length : Int) + 1) = (((d ++ [x]).length : Nat) : Int) := natCast_succ_wrap (by omega) (by simp)
    have hrt : rulesT (x :: r) = ruText x ++ rulesT r := by simp [rulesT]
    rw [hrt] at hb ⊢
    simp only [List.length_append] at hb
    have a1 := r49 x (hf x (by simp)).1 (hf x (by simp)).2 l h
    have kp : Keep h.length h (h ++ [AObj.row 0 4 x.C] ++ [AObj.row 0 1 (sL kindsL)]) := by rw [List.append_assoc]; exact Keep.app _ _ (Nat.le_refl _)
    obtain ⟨h', i1, i2⟩ := ih (d ++ [x]) (acc ++ ruText x) _ (by simp; omega) (fun y hy => hf y (by simp [hy])) (by rw [kp.get e (lt_of_get e)]; simp) (by simp only [List.length_append]; omega)
    have c1 : catA (B acc) (B (ruText x)) = some (B (acc ++ ruText x)) := cat_of rfl (by simp; omega)
    refine ⟨h', run_code Try.func22 rfl rfl ?_, kp.trans (i2.le kp.1)⟩
    simp only [↓XX, ↓XD, ↓YX, ZB, Nat.reduceAdd, Nat.reducePow, ↓reduceIte, eq_self, Int.reduceEq, Nat.reduceEqDiff, Nat.reduceMul, Nat.reduceLeDiff, Try.f22, lenV, hlt, hix, hld, hw, a1, c1, i1]
    rw [List.append_assoc]
def rokL (xs : List Ru) : Bool := xs.all ruOk && decide ((xs.length : Int) ≤ 8)
def rputL (xs : List Ru) : Bs := if rokL xs then rulesT xs else []
theorem rokL_k {xs : List Ru} (h : rokL xs = true) : ∀ x ∈ xs, KOk x := by
  unfold rokL at h
  simp only [Bool.and_eq_true, List.all_eq_true] at h
  exact fun x hx => KOk_of (h.1 x hx)
theorem Ru.Fit20.fit {x : Ru} (h : x.Fit20) : x.Fit := ⟨by have := h.1; omega, by have := h.2; omega⟩
theorem r22 (id g c l : Nat) (xs : List Ru) (h : AH) (hn : xs.length ≤ 2 ^ 20) (hf : ∀ x ∈ xs, x.Fit20) (e : h[id]? = some (.row g 4 (Ru.R xs))) :
    ∃ h', run V0 (.fn 22) l [S (slV id g xs.length c)] h = some (.ret (sV (rputL xs)) h') ∧ Keep h.length h h' := by
  obtain ⟨h1, a1, k1⟩ := r37 id g c l xs h (by omega) (fun x hx => Ru.Fit20.fit (hf x hx)) e
  have : (xs.all ruOk && decide ((xs.length : Int) ≤ 8)) = rokL xs := rfl
  rw [this] at a1
  unfold rputL
  cases hq : rokL xs with
  | false =>
    rw [hq] at a1
    refine ⟨h1, run_fn Try.func22 rfl rfl rfl rfl ?_, k1⟩
    simp only [↓XX, ↓XD, ↓YX, ZB, Nat.reduceAdd, Nat.reducePow, ↓reduceIte, eq_self, Int.reduceEq, Nat.reduceEqDiff, Nat.reduceMul, Nat.reduceLeDiff, Try.f22, a1, Bool.not_false]
    try rfl
  | true =>
    rw [hq] at a1
    have hb := rulesT_len xs hf
    obtain ⟨h2, a2, k2⟩ := L22 id g c xs.length l (by omega) xs [] [] h1 (by simp) (fun x hx => ⟨hf x hx, rokL_k hq x hx⟩) (by simpa using k1.get e (lt_of_get e)) (by simp; omega)
    refine ⟨h2, run_fn Try.func22 rfl rfl rfl rfl ?_, k1.trans (k2.le k1.1)⟩
    simp only [↓XX, ↓XD, ↓YX, ZB, Nat.reduceAdd, Nat.reducePow, ↓reduceIte, eq_self, Int.reduceEq, Nat.reduceEqDiff, Nat.reduceMul, Nat.reduceLeDiff, Try.f22, a1, Bool.not_true]
    exact a2
/-- impl.RulesPut: its loop -/
theorem L23 (id g c n l ib : Nat) (hn : n ≤ 2 ^ 40) (hl : l ≤ ib) (hid : id < ib) : ∀ (r d : List Ru) (acc : Bs) (h : AH), d.length + r.length = n → (∀ x ∈ r, x.Fit20 ∧ KOk x) → Bd h ib acc → h[id]? = some (.row g 4 (Ru.R (d ++ r))) → acc.length + (rulesT r).length ≤ 2 ^ 45 →
    ∃ h', L23_0 l (pV ib 0 0) (slV id g n c) (iV n) (iV d.length) h = some (.ret (sV (acc ++ rulesT r)) h') ∧ Wr ib h h' := by
  intro r
  induction r with
  | nil =>
    intro d acc h hk hf b e hb
    simp only [List.length_nil, Nat.add_zero] at hk
    have hlt : decide ((d.length : Int) < (n : Int)) = false := by rw [decide_eq_false_iff_not]; omega
    obtain ⟨h1, a1, w1⟩ := r_String hl b (by omega)
    refine ⟨h1, run_code Try.func23 rfl rfl ?_, w1⟩
    simp only [↓XX, ↓XD, ↓YX, ZB, Nat.reduceAdd, Nat.reducePow, ↓reduceIte, eq_self, Int.reduceEq, Nat.reduceEqDiff, Nat.reduceMul, Nat.reduceLeDiff, Try.f23, hlt, a1, rulesT, List.flatMap_nil, List.append_nil]
  | cons x r ih =>
    intro d acc h hk hf b e hb
    simp only [List.length_cons] at hk
    have hlt : decide ((d.length : Int) < (n : Int)) = true := by rw [decide_eq_true_iff]; omega
    have hix : ixAddr (slV id g n c) (d.length : Int) 4 = some (pV id (d.length * 4) g) := by rw [ixAddr_sl (by omega)]; simp
    have hld : ldN h (pV id (d.length * 4) g) 4 = some x.C := Ru.ldN e
    have hw : IntKind.i64.wrap ((d.length : Int) + 1) = (((d ++ [x]).length : Nat) : Int) := natCast_succ_wrap (by omega) (by simp)
    have hrt : rulesT (x :: r) = ruText x ++ rulesT r := by simp [rulesT]
    rw [hrt] at hb ⊢
    simp only [List.length_append] at hb
    have hib := b.lt
    have hl1 : l ≤ h.length := by omega
    have k0 : Keep h.length h (h ++ [AObj.row 0 4 x.C]) := Keep.app _ _ (Nat.le_refl _)
    obtain ⟨h2, a2, k2⟩ := r51 x (hf x (by simp)).1 (hf x (by simp)).2 l (h ++ [AObj.row 0 4 x.C])
    have k02 := k0.trans (k2.le k0.1)
    obtain ⟨h3, a3, b3, w3⟩ := r_WriteString (ib := ib) (ruText x) hl (b.keep k02) (by omega)
    have w03 := (Wr.of_keep k02 (by omega : ib ≤ h.length)).trans w3
    obtain ⟨h', i1, i2⟩ := ih (d ++ [x]) (acc ++ ruText x) h3 (by simp; omega) (fun y hy => hf y (by simp [hy])) b3 (by rw [w03.oth _ _ _ _ e (by omega) (by decide)]; simp) (by simp only [List.length_append]; omega)
    refine ⟨h', run_code Try.func23 rfl rfl ?_, w03.trans i2⟩
    simp only [↓hld, ↓XX, ↓XD, ↓YX, ZB, Nat.reduceAdd, Nat.reducePow, ↓reduceIte, eq_self, Int.reduceEq, Nat.reduceEqDiff, Nat.reduceMul, Nat.reduceLeDiff, Try.f23, ↓XH1, ↓XH2, ZC, eq_self, Nat.reduceLeDiff, hlt, hix, hw, hl1, a2, a3, i1]
    rw [List.append_assoc]
theorem r23 (id g c l : Nat) (xs : List Ru) (h : AH) (hl : l ≤ h.length) (hn : xs.length ≤ 2 ^ 20) (hf : ∀ x ∈ xs, x.Fit20) (e : h[id]? = some (.row g 4 (Ru.R xs))) :
    ∃ h', run V0 (.fn 23) l [S (slV id g xs.length c)] h = some (.ret (sV (rputL xs)) h') ∧ Keep h.length h h' := by
  obtain ⟨h1, a1, k1⟩ := r40 id g c l xs h (by omega) (fun x hx => Ru.Fit20.fit (hf x hx)) e
  have : (xs.all ruOk && decide ((xs.length : Int) ≤ 8)) = rokL xs := rfl
  rw [this] at a1
  unfold rputL
  cases hq : rokL xs with
  | false =>
    rw [hq] at a1
    refine ⟨h1, run_fn Try.func23 rfl rfl rfl rfl ?_, k1⟩
    simp only [↓XX, ↓XD, ↓YX, ZB, Nat.reduceAdd, Nat.reducePow, ↓reduceIte, eq_self, Int.reduceEq, Nat.reduceEqDiff, Nat.reduceMul, Nat.reduceLeDiff, Try.f23, a1, Bool.not_false]
    try rfl
  | true =>
    rw [hq] at a1
    have hb := rulesT_len xs hf
    have hid := lt_of_get (k1.get e (lt_of_get e))
    have k0 : Keep h1.length h1 (h1 ++ [AObj.row 0 292057776128 [.pointer none, .slice none 0 0]]) := Keep.app _ _ (Nat.le_refl _)
    obtain ⟨h2, a2, w2⟩ := L23 id g c xs.length l h1.length (by omega) (by have := k1.1; omega) hid xs [] [] (h1 ++ [AObj.row 0 292057776128 [.pointer none, .slice none 0 0]]) (by simp) (fun x hx => ⟨hf x hx, rokL_k hq x hx⟩) (.inl ⟨rfl, .inl (by simp)⟩) (by rw [k0.get (k1.get e (lt_of_get e)) hid]; simp) (by simp; omega)
    refine ⟨h2, run_fn Try.func23 rfl rfl rfl rfl ?_, (k1.trans (k0.le k1.1)).trans ((w2.keep (Nat.le_refl _)).le k1.1)⟩
    simp only [↓XX, ↓XD, ↓YX, ZB, Nat.reduceAdd, Nat.reducePow, ↓reduceIte, eq_self, Int.reduceEq, Nat.reduceEqDiff, Nat.reduceMul, Nat.reduceLeDiff, Try.f23, a1, Bool.not_true, lenV]
    exact a2
/-- FnExactRulesPut, run -/
theorem r5 (v : Value) (xs : List Ru) (l : Nat) (h : AH) (hl : l ≤ h.length) (q : Ru.Rd h v xs) (hf0 : ∀ x ∈ xs, x.Fit63) (hn : xs.length ≤ 9223372036854775807) : ∃ h', run V0 (.fn 5) l [S v] h = some (.ret (.bool true) h') := by
  obtain ⟨h1, n, a1, k1, hnk, hz⟩ := r11 v l xs h q hf0 hn 1048576 (by omega)
  by_cases h0 : n < 0
  · refine ⟨h1, run_fn Try.func5 rfl rfl rfl rfl ?_⟩
    have hd : decide (n < 0) = true := decide_eq_true h0
    simp only [↓XX, ↓XD, ↓YX, ZB, Nat.reduceAdd, Nat.reducePow, ↓reduceIte, eq_self, Int.reduceEq, Nat.reduceEqDiff, Nat.reduceMul, Nat.reduceLeDiff, Try.f5, a1, hd]
  · obtain ⟨hn2, hz2⟩ := hz (by omega)
    have hf : ∀ x ∈ xs, x.Fit20 := fun x hx => by have := Ru.szL_fit xs _ hz2 x hx; exact ⟨by omega, by omega⟩
    have hd : decide (n < 0) = false := decide_eq_false h0
    have q1 := q.keep k1
    obtain ⟨i2, h2, a2, b2, c2, k2⟩ := r14 v l xs h1 q1 (by omega) (by have := k1.1; omega)
    have q2 := q1.keep k2
    obtain ⟨h3, a3, k3⟩ := r22 i2 0 xs.length l xs h2 (by omega) hf b2
    have q3 := q2.keep k3
    have hh3 : l ≤ h3.length := by have := k1.1; have := k2.1; have := k3.1; omega
    obtain ⟨i4, h4, a4, b4, c4, k4⟩ := r14 v l xs h3 q3 (by omega) hh3
    have q4 := q3.keep k4
    obtain ⟨h5, a5, k5⟩ := r23 i4 0 xs.length l xs h4 (by have := k4.1; omega) (by omega) hf b4
    have q5 := q4.keep k5
    have b5 := k5.get b4 (lt_of_get b4)
    have hh5 : l ≤ h5.length := by have := k4.1; have := k5.1; omega
    obtain ⟨i6, h6, a6, b6, c6, k6⟩ := r14 v l xs h5 q5 (by omega) hh5
    have b7 := k6.get b5 (lt_of_get b5)
    obtain ⟨h7, a7, k7⟩ := r17 i4 0 xs.length i6 0 xs.length l xs xs h6 (by omega) b7 b6
    rw [decide_eq_true rfl] at a7
    refine ⟨h7, run_fn Try.func5 rfl rfl rfl rfl ?_⟩
    simp only [↓XX, ↓XD, ↓YX, ZB, Nat.reduceAdd, Nat.reducePow, ↓reduceIte, eq_self, Int.reduceEq, Nat.reduceEqDiff, Nat.reduceMul, Nat.reduceLeDiff, Try.f5, a1, hd, a2, a3, a4, a5, neB, decide_true, a6, a7, Bool.not_true]
end Go.Abs
