/- Rooms and their texts: plain. For every room; no condition. -/
import Derived.Test.YtoijpmokcdifnaaGreatDoorLibA
import Derived.Lib.DecodeN
import Derived.Test.YtoijpmokcdifnaaGreatDoorAbsB
import Derived.Sort.Walk0
namespace Go.Abs
open Go.Proofs
set_option maxRecDepth 100000
set_option linter.unusedSimpArgs false
set_option linter.unusedVariables false
structure En where
  mk ::
  (room : Bs)
  (seq : Int)
  (kind : Int)
  (user : Bs)
  (nick : Bs)
  (text : Bs)
  (id : Bs)
  (ref : Bs)
  (num : Int)
  deriving DecidableEq
abbrev En.C (x : En) : List Value := [sV x.room, iV x.seq, iV x.kind, sV x.user, sV x.nick, sV x.text, sV x.id, sV x.ref, iV x.num]
abbrev En.V (x : En) : Value := .agg ⟨[sV x.room, iV x.seq, iV x.kind, sV x.user, sV x.nick, sV x.text, sV x.id, sV x.ref, iV x.num]⟩
def En.R (xs : List En) : List Value := xs.flatMap En.C
theorem En.R_len (xs : List En) : (En.R xs).length = 9 * xs.length := by
  induction xs with
  | nil => rfl
  | cons x xs ih => simp only [En.R, List.flatMap_cons, List.length_append, List.length_cons, List.length_nil] at ih ⊢; omega
theorem En.R_app (a b : List En) : En.R (a ++ b) = En.R a ++ En.R b := by simp [En.R]
theorem En.R_cons (x : En) (r : List En) : En.R (x :: r) = En.C x ++ En.R r := by simp [En.R]
theorem En.R_one (x : En) : En.R [x] = En.C x := by simp [En.R]
theorem En.get (d : List En) (x : En) (r : List En) : ((En.R (d ++ x :: r)).drop (d.length * 9)).take 9 = En.C x := by
  rw [En.R_app, En.R_cons, List.drop_left' (by rw [En.R_len]; omega)]
  rfl
theorem En.cell (d : List En) (x : En) (r : List En) (j : Nat) (hj : j < 9) : (En.R (d ++ x :: r))[d.length * 9 + j]? = (En.C x)[j]? := by
  rw [En.R_app, En.R_cons, List.getElem?_append_right (by rw [En.R_len]; omega), En.R_len, show d.length * 9 + j - 9 * d.length = j by omega, List.getElem?_append_left (by simpa using hj)]
theorem En.ldN {h : AH} {id g : Nat} {d r : List En} {x : En} (e : h[id]? = some (.row g 9 (En.R (d ++ x :: r)))) : ldN h (pV id (d.length * 9) g) 9 = some (En.C x) := by
  rw [ldN_of e (by rw [En.R_len]; simp; omega), En.get]
theorem En.ld1 {h : AH} {id g : Nat} {d r : List En} {x : En} (j : Nat) (hj : j < 9) (e : h[id]? = some (.row g 9 (En.R (d ++ x :: r)))) : ld h (pV id (d.length * 9 + j) g) = (En.C x)[j]? := by
  rw [← En.cell d x r j hj]
  simp only [ld, rowAt_of e, Option.bind_some]
/-- a slice that is read -/
def En.Rd (h : AH) (v : Value) (xs : List En) : Prop :=
  (v = .slice none 0 0 ∧ xs = []) ∨ ∃ id g c, v = slV id g xs.length c ∧ h[id]? = some (.row g 9 (En.R xs))
theorem En.Rd.len {h : AH} {v : Value} {xs : List En} (r : En.Rd h v xs) : lenV v = some (xs.length : Int) := by
  rcases r with ⟨rfl, rfl⟩ | ⟨id, g, c, rfl, _⟩ <;> rfl
theorem En.Rd.get {h : AH} {v : Value} {d r : List En} {x : En} (q : En.Rd h v (d ++ x :: r)) : ∃ p, ixAddr v (d.length : Int) 9 = some p ∧ Abs.ldN h p 9 = some (En.C x) := by
  rcases q with ⟨_, q⟩ | ⟨id, g, c, rfl, e⟩
  · simp at q
  · exact ⟨pV id (d.length * 9) g, by rw [ixAddr_sl (by simp)]; simp, En.ldN e⟩
theorem En.Rd.keep {h h' : AH} {v : Value} {xs : List En} (q : En.Rd h v xs) (k : Keep h.length h h') : En.Rd h' v xs := by
  rcases q with q | ⟨id, g, c, rfl, e⟩
  · exact .inl q
  · exact .inr ⟨id, g, c, rfl, k.get e (lt_of_get e)⟩
theorem En.Rd.own {h : AH} {id g c : Nat} {xs : List En} (e : h[id]? = some (.row g 9 (En.R xs))) : En.Rd h (slV id g xs.length c) xs := .inr ⟨id, g, c, rfl, e⟩
/-- a slice of the call's own, all of whose room is taken -/
def En.Ow (h : AH) (v : Value) (xs : List En) : Prop :=
  (v = .slice none 0 0 ∧ xs = []) ∨ ∃ id g, v = slV id g xs.length xs.length ∧ h[id]? = some (.row g 9 (En.R xs))
theorem En.Ow.rd {h : AH} {v : Value} {xs : List En} (q : En.Ow h v xs) : En.Rd h v xs := by
  rcases q with q | ⟨id, g, rfl, e⟩
  · exact .inl q
  · exact .inr ⟨id, g, _, rfl, e⟩
theorem En.Ow.keep {h h' : AH} {v : Value} {xs : List En} (q : En.Ow h v xs) (k : Keep h.length h h') : En.Ow h' v xs := by
  rcases q with q | ⟨id, g, rfl, e⟩
  · exact .inl q
  · exact .inr ⟨id, g, rfl, k.get e (lt_of_get e)⟩
theorem En.Ow.kx {h h' : AH} {v : Value} {xs : List En} {ix : Nat} {cs : List Value} (q : En.Ow h v xs) (k : KX h.length ix h h') (e2 : h[ix]? = some (.row 0 2 cs)) : En.Ow h' v xs := by
  rcases q with q | ⟨id, g, rfl, e⟩
  · exact .inl q
  · refine .inr ⟨id, g, rfl, k.get e (lt_of_get e) ?_⟩
    rintro rfl
    rw [e] at e2
    injection e2 with e2; injection e2 with a b c
    exact absurd b (by decide)
theorem En.Rd.src {h : AH} {v : Value} {xs : List En} (q : En.Rd h v xs) : lenOf v = some xs.length ∧ srcCells h v xs.length 9 = some (En.R xs) := by
  rcases q with ⟨rfl, rfl⟩ | ⟨id, g, c, rfl, e⟩
  · exact ⟨rfl, rfl⟩
  · refine ⟨rfl, ?_⟩
    simp only [srcCells, rowAt_of e, Option.bind_some, cut]
    rw [if_pos (by rw [En.R_len]; omega)]
    simp only [List.drop_zero]
    rw [List.take_of_length_le (by rw [En.R_len]; omega)]
end Go.Abs
namespace Go.Abs
open Go.Proofs
set_option maxRecDepth 100000
set_option linter.unusedSimpArgs false
set_option pp.maxSteps 20000

/-! ### draws -/
def RdB (h : AH) (va : Value) (n id : Nat) : Prop := (va = .slice none 0 0 ∧ n = 0) ∨ ∃ i g c bs, va = slV i g n c ∧ h[i]? = some (.row g 1 (u8c bs)) ∧ n ≤ bs.length ∧ i < id
def Rd (h : AH) (id : Nat) (va : Value) (n p : Nat) : Prop := h[id]? = some (.row 0 2 [va, iV p]) ∧ RdB h va n id
theorem RdB.len {h : AH} {va : Value} {n id : Nat} (r : RdB h va n id) : lenV va = some (n : Int) := by
  rcases r with ⟨rfl, rfl⟩ | ⟨i, g, c, bs, rfl, _⟩ <;> rfl
theorem RdB.get {h : AH} {va : Value} {n id : Nat} (r : RdB h va n id) (j : Nat) (hj : j < n) : ∃ p b, ixAddr va (j : Int) 1 = some p ∧ ld h p = some (.int .u8 ((b : Nat) : Int)) ∧ b < 256 := by
  rcases r with ⟨_, q⟩ | ⟨i, g, c, bs, rfl, e, hn, _⟩
  · omega
  · have hjb : j < bs.length := by omega
    refine ⟨pV i j g, (bs[j]).toNat, by rw [ixAddr_sl hj]; simp, ld_of e ?_, UInt8.toNat_lt _⟩
    simp [u8c, hjb]
theorem RdB.keep {h h' : AH} {va : Value} {n id : Nat} (r : RdB h va n id) (k : ∀ j, j < id → h'[j]? = h[j]?) : RdB h' va n id := by
  rcases r with q | ⟨i, g, c, bs, hv, e, hn, hi⟩
  · exact .inl q
  · exact .inr ⟨i, g, c, bs, hv, by rw [k i hi, e], hn, hi⟩
theorem Rd.keep {h h' : AH} {id : Nat} {va : Value} {n p : Nat} (r : Rd h id va n p) (k : Keep (id + 1) h h') : Rd h' id va n p :=
  ⟨by rw [k.2 id (by omega), r.1], r.2.keep fun j hj => k.2 j (by omega)⟩
theorem xor_nn (a b : Int) (ha : 0 ≤ a ∧ a < 2 ^ 62) (hb : 0 ≤ b ∧ b < 2 ^ 62) : 0 ≤ xorI .i64 a b := by
  unfold xorI
  have h1 : (BitVec.ofInt 64 a).toNat = a.toNat := by rw [BitVec.toNat_ofInt]; omega
  have h2 : (BitVec.ofInt 64 b).toNat = b.toNat := by rw [BitVec.toNat_ofInt]; omega
  have h3 : (BitVec.ofInt 64 a ^^^ BitVec.ofInt 64 b).toNat < 2 ^ 62 := by
    rw [BitVec.toNat_xor, h1, h2]
    exact Nat.xor_lt_two_pow (by omega) (by omega)
  have e : ((BitVec.ofInt IntKind.i64.bits a ^^^ BitVec.ofInt IntKind.i64.bits b).toNat : Int) = ((BitVec.ofInt 64 a ^^^ BitVec.ofInt 64 b).toNat : Int) := rfl
  rw [e, wrap64 (by omega)]
  omega
theorem tmod_nat (a b : Nat) : (a : Int).tmod (b : Int) = ((a % b : Nat) : Int) := by rw [Int.tmod_eq_emod_of_nonneg (by omega)]; rfl
theorem tdiv_nat (a b : Nat) : (a : Int).tdiv (b : Int) = ((a / b : Nat) : Int) := by rw [Int.tdiv_eq_ediv_of_nonneg (by omega)]; rfl
theorem tmod_range (a : Int) (k : Nat) (ha : 0 ≤ a) (hk : 0 < k) : ∃ m : Nat, a.tmod (k : Int) = (m : Int) ∧ m < k := by
  obtain ⟨n, rfl⟩ : ∃ n : Nat, a = n := ⟨a.toNat, by omega⟩
  exact ⟨n % k, tmod_nat n k, Nat.mod_lt _ hk⟩
/-- spec.l16Rd.pick -/
theorem rq83 (id : Nat) (va : Value) (n p K : Nat) (l : Nat) (h : AH) (r : Rd h id va n p) (hl : l ≤ id) (hK : 0 < K) (hK2 : K ≤ 2 ^ 20) (hn : n ≤ 2 ^ 62) (hp : p ≤ 2 ^ 40) :
    ∃ m h', run V0 (.fn 83) l [S (pV id 0 0), S (iV K)] h = some (.ret (iV (m : Nat)) h') ∧ m < K ∧ h' = h.set id (.row 0 2 [va, iV (p + 1 : Nat)]) := by
  obtain ⟨e, rb⟩ := r
  have hlen := rb.len
  have l1 : ld h (pV id 1 0) = some (iV p) := ld_of e rfl
  have w1 : IntKind.i64.wrap ((p : Int) + 1) = ((p + 1 : Nat) : Int) := by rw [wrap64 (by omega)]; omega
  have w2 : IntKind.i64.wrap (((p + 1 : Nat) : Int) - 1) = (p : Int) := by rw [wrap64 (by omega)]; omega
  have hst : stN l h (pV id 1 0) [iV (p + 1 : Nat)] = some (h.set id (.row 0 2 [va, iV (p + 1 : Nat)])) := by
    rw [st1_of hl e (by simp) rfl]; rfl
  have e1 := get_set (.row 0 2 [va, iV (p + 1 : Nat)]) e
  have rb1 : RdB (h.set id (.row 0 2 [va, iV (p + 1 : Nat)])) va n id := rb.keep fun j hj => by rw [List.getElem?_set_ne (by omega)]
  generalize hh1 : h.set id (.row 0 2 [va, iV (p + 1 : Nat)]) = h1 at *
  have m1 : ld h1 (pV id 1 0) = some (iV (p + 1 : Nat)) := ld_of e1 rfl
  have m0 : ld h1 (pV id 0 0) = some va := ld_of e1 rfl
  have ha : ∀ k, addOff (pV id 0 0) k = some (pV id (0 + k) 0) := fun _ => rfl
  have hnn : nonNil (pV id 0 0) = some (pV id 0 0) := rfl
  have hK1 : decide ((K : Int) < 1) = false := decide_eq_false (by omega)
  have hK0 : ((K : Int) = 0) = False := eq_false (by omega)
  by_cases h0 : n = 0
  · subst h0
    refine ⟨0, h1, run_fn Tryz.func83 rfl rfl rfl rfl ?_, hK, rfl⟩
    have hz : ((((0 : Nat) : Int)) == 0) = true := rfl
    simp (disch := (refine _root_.id ?_; kernel_rfl)) only [↓XX, ↓XD, ↓YX, ZB, Nat.reduceAdd, Nat.reducePow, ↓reduceIte, eq_self, Int.reduceEq, Nat.reduceEqDiff, Nat.reduceMul, Nat.reduceLeDiff, Tryz.f83, ha, hnn, l1, w1, hst, m1, m0, hlen, hK1, hz]
    rfl
  · have hz : ((n : Int) == 0) = false := by simp; omega
    have hn0 : ((n : Int) = 0) = False := eq_false (by omega)
    by_cases h2 : p < n
    · obtain ⟨q, b, hq1, hq2, hb⟩ := rb1.get p h2
      have hlt : decide ((p : Int) < (n : Int)) = true := decide_eq_true (by omega)
      have wb : IntKind.i64.wrap ((b : Nat) : Int) = (b : Int) := wrap64 (by omega)
      refine ⟨b % K, h1, run_fn Tryz.func83 rfl rfl rfl rfl ?_, Nat.mod_lt _ hK, rfl⟩
      simp (disch := (refine _root_.id ?_; kernel_rfl)) only [↓XX, ↓XD, ↓YX, ZB, Nat.reduceAdd, Nat.reducePow, ↓reduceIte, eq_self, Int.reduceEq, Nat.reduceEqDiff, Nat.reduceMul, Nat.reduceLeDiff, Tryz.f83, ha, hnn, l1, w1, hst, m1, m0, hlen, hK1, hz, w2, hlt, hq1, hq2, wb, hK0, tmod_nat]
    · have hlt : decide ((p : Int) < (n : Int)) = false := decide_eq_false (by omega)
      have hnp : 0 < n := by omega
      obtain ⟨q1, b1, a1, c1, d1⟩ := rb1.get (p % n) (Nat.mod_lt _ hnp)
      obtain ⟨q2, b2, a2, c2, d2⟩ := rb1.get ((p * 7 + 3) % n) (Nat.mod_lt _ hnp)
      have x1 : IntKind.i64.wrap ((b1 : Nat) : Int) = (b1 : Int) := wrap64 (by omega)
      have x2 : IntKind.i64.wrap ((b2 : Nat) : Int) = (b2 : Int) := wrap64 (by omega)
      have x3 : IntKind.i64.wrap ((b1 : Int) * 131) = (b1 : Int) * 131 := wrap64 (by omega)
      have x4 : IntKind.i64.wrap ((b2 : Int) * 1117) = (b2 : Int) * 1117 := wrap64 (by omega)
      have x5 : IntKind.i64.wrap ((p : Int) * 7) = (p : Int) * 7 := wrap64 (by omega)
      have x6 : IntKind.i64.wrap ((p : Int) * 7 + 3) = ((p * 7 + 3 : Nat) : Int) := by rw [wrap64 (by omega)]; omega
      have x7 : IntKind.i64.wrap ((b1 : Int) * 131 + (b2 : Int) * 1117) = (b1 : Int) * 131 + (b2 : Int) * 1117 := wrap64 (by omega)
      have x8 : IntKind.i64.wrap ((p : Int) * 29) = (p : Int) * 29 := wrap64 (by omega)
      have x9 : IntKind.i64.wrap ((b1 : Int) * 131 + (b2 : Int) * 1117 + (p : Int) * 29) = (b1 : Int) * 131 + (b2 : Int) * 1117 + (p : Int) * 29 := wrap64 (by omega)
      have hdiv : p / n ≤ p := Nat.div_le_self _ _
      have hdv := tdiv_nat p n
      generalize p / n = pd at *
      have y1 : IntKind.i64.wrap (pd : Int) = (pd : Int) := wrap64 (by omega)
      have y2 : IntKind.i64.wrap ((pd : Int) * 53) = (pd : Int) * 53 := wrap64 (by omega)
      have y3 : IntKind.i64.wrap ((b1 : Int) * 131 + (b2 : Int) * 1117 + (p : Int) * 29 + (pd : Int) * 53) = ((b1 * 131 + b2 * 1117 + p * 29 + pd * 53 : Nat) : Int) := by rw [wrap64 (by omega)]; omega
      have hx : b1 * 131 + b2 * 1117 + p * 29 + pd * 53 ≤ 2 ^ 50 := by omega
      generalize b1 * 131 + b2 * 1117 + p * 29 + pd * 53 = x at *
      have hxd : x / 64 ≤ x := Nat.div_le_self _ _
      have z0 : IntKind.i64.wrap ((x : Int).tdiv 64) = ((x / 64 : Nat) : Int) := by
        have := tdiv_nat x 64
        rw [show ((64 : Nat) : Int) = 64 from rfl] at this
        rw [this, wrap64 (by omega)]
      have hxn := xor_nn (x : Int) ((x / 64 : Nat) : Int) (by omega) (by omega)
      obtain ⟨m, hm1, hm2⟩ := tmod_range _ K hxn hK
      refine ⟨m, h1, run_fn Tryz.func83 rfl rfl rfl rfl ?_, hm2, rfl⟩
      simp (disch := (refine _root_.id ?_; kernel_rfl)) only [↓XX, ↓XD, ↓YX, ZB, Nat.reduceAdd, Nat.reducePow, ↓reduceIte, eq_self, Int.reduceEq, Nat.reduceEqDiff, Nat.reduceMul, Nat.reduceLeDiff, Tryz.f83, ha, hnn, l1, w1, hst, m1, m0, hlen, hK1, hz, w2, hlt, hn0, tmod_nat, hdv, a1, c1, x1, x3, x5, x6, a2, c2, x2, x4, x7, x8, x9, y1, y2, y3, z0, hK0, hm1]
/-- spec.l16Rd.of -/
theorem rq84 (id : Nat) (va : Value) (n p : Nat) (l : Nat) (h : AH) (i2 : Nat) (xs : List Bs) (r : Rd h id va n p) (hl : l ≤ id) (e : h[i2]? = some (.row 0 1 (sL xs))) (hi : i2 ≠ id) (h0 : 0 < xs.length) (hx : xs.length ≤ 2 ^ 20) (hn : n ≤ 2 ^ 62) (hp : p ≤ 2 ^ 40) :
    ∃ x h', x ∈ xs ∧ run V0 (.fn 84) l [S (pV id 0 0), S (slV i2 0 xs.length xs.length)] h = some (.ret (sV x) h') ∧ h' = h.set id (.row 0 2 [va, iV (p + 1 : Nat)]) := by
  obtain ⟨m, h', a1, a2, a3⟩ := rq83 id va n p xs.length l h r hl h0 hx hn hp
  refine ⟨xs[m], h', List.getElem_mem a2, run_fn Tryz.func84 rfl rfl rfl rfl ?_, a3⟩
  have hix : ixAddr (slV i2 0 xs.length xs.length) (m : Int) 1 = some (pV i2 m 0) := by rw [ixAddr_sl a2]; simp
  have hld : ld h' (pV i2 m 0) = some (sV xs[m]) := ld_of (by rw [a3, List.getElem?_set_ne (Ne.symm hi), e]) (by simp [sL, a2])
  simp only [↓XX, ↓XD, ↓YX, ZB, Nat.reduceAdd, Nat.reducePow, ↓reduceIte, eq_self, Int.reduceEq, Nat.reduceEqDiff, Nat.reduceMul, Nat.reduceLeDiff, Tryz.f84, lenV, a1, hix, hld]
theorem Rd.step {h : AH} {id : Nat} {va : Value} {n p : Nat} (r : Rd h id va n p) (p' : Nat) : Rd (h.set id (.row 0 2 [va, iV p'])) id va n p' :=
  ⟨get_set _ r.1, r.2.keep fun j hj => by rw [List.getElem?_set_ne (by omega)]⟩
/-- the code that is drawn from: an argument -/
def Cd (h : AH) (va : Value) (n : Nat) : Prop := (va = .slice none 0 0 ∧ n = 0) ∨ ∃ i bs, va = slV i 0 n n ∧ h[i]? = some (.row 0 1 (u8c bs)) ∧ n = bs.length
theorem Cd.len {h : AH} {va : Value} {n : Nat} (r : Cd h va n) : lenV va = some (n : Int) := by
  rcases r with ⟨rfl, rfl⟩ | ⟨i, bs, rfl, _⟩ <;> rfl
theorem Cd.keep {h h' : AH} {va : Value} {n : Nat} (r : Cd h va n) (k : Keep h.length h h') : Cd h' va n := by
  rcases r with q | ⟨i, bs, hv, e, hn⟩
  · exact .inl q
  · exact .inr ⟨i, bs, hv, k.get e (lt_of_get e), hn⟩
theorem Cd.rdb {h : AH} {va : Value} {n : Nat} (r : Cd h va n) (o : AObj) : RdB (h ++ [o]) va n h.length := by
  rcases r with q | ⟨i, bs, hv, e, hn⟩
  · exact .inl q
  · exact .inr ⟨i, 0, n, bs, hv, by rw [List.getElem?_append_left (lt_of_get e), e], by omega, lt_of_get e⟩
/-- spec.l16Open -/
theorem rq41 (va : Value) (n l : Nat) (h : AH) (r : Cd h va n) (hn : n ≤ 2 ^ 62) :
    ∃ vb m h', run V0 (.fn 41) l [S va] h = some (.ret (pV h.length 0 0) h') ∧ Rd h' h.length vb m 0 ∧ m ≤ n ∧ Keep h.length h h' := by
  have hlen := r.len
  by_cases h2 : 2000 < n
  · have hgt : decide ((2000 : Int) < (n : Int)) = true := decide_eq_true (by omega)
    rcases r with ⟨rfl, rfl⟩ | ⟨i, bs, rfl, e, hb⟩
    · omega
    · have hcut : slCut h (slV i 0 n n) none (some (2000 : Int)) none 1 = some (slV i 0 2000 n) := by
        simp only [slCut, rowAt_of e, Option.bind_some, Option.getD_none, Option.getD_some]
        rw [if_pos ⟨by omega, by omega, by decide, by omega, Nat.le_refl _⟩]
        simp
      refine ⟨slV i 0 2000 n, 2000, h ++ [.row 0 2 [slV i 0 2000 n, iV 0]], run_fn Tryz.func41 rfl rfl rfl rfl ?_, ⟨by simp, ?_⟩, by omega, Keep.app _ _ (Nat.le_refl _)⟩
      · simp only [↓XX, ↓XD, ↓YX, ZB, Nat.reduceAdd, Nat.reducePow, ↓reduceIte, eq_self, Int.reduceEq, Nat.reduceEqDiff, Nat.reduceMul, Nat.reduceLeDiff, Tryz.f41, lenV, hgt, hcut]
        rfl
      · exact .inr ⟨i, 0, n, bs, rfl, by rw [List.getElem?_append_left (lt_of_get e), e], by omega, lt_of_get e⟩
  · have hgt : decide ((2000 : Int) < (n : Int)) = false := decide_eq_false (by omega)
    refine ⟨va, n, h ++ [.row 0 2 [va, iV 0]], run_fn Tryz.func41 rfl rfl rfl rfl ?_, ⟨by simp, r.rdb _⟩, Nat.le_refl _, Keep.app _ _ (Nat.le_refl _)⟩
    rcases r with ⟨rfl, rfl⟩ | ⟨i, bs, rfl, e, hb⟩
    · simp only [↓XX, ↓XD, ↓YX, ZB, Nat.reduceAdd, Nat.reducePow, ↓reduceIte, eq_self, Int.reduceEq, Nat.reduceEqDiff, Nat.reduceMul, Nat.reduceLeDiff, Tryz.f41, lenV, hgt]
      rfl
    · simp only [↓XX, ↓XD, ↓YX, ZB, Nat.reduceAdd, Nat.reducePow, ↓reduceIte, eq_self, Int.reduceEq, Nat.reduceEqDiff, Nat.reduceMul, Nat.reduceLeDiff, Tryz.f41, lenV, hgt]
      rfl
/-! ### draws, of which it is not told how many there were -/
def Rq (h : AH) (id : Nat) (va : Value) (n P : Nat) : Prop := ∃ p, p ≤ P ∧ Rd h id va n p
theorem Rq.lt {h : AH} {id : Nat} {va : Value} {n P : Nat} (q : Rq h id va n P) : id < h.length := let ⟨_, _, r⟩ := q; lt_of_get r.1
theorem Rq.keep {h h' : AH} {id : Nat} {va : Value} {n P : Nat} (q : Rq h id va n P) (k : Keep h.length h h') : Rq h' id va n P :=
  let ⟨p, hp, r⟩ := q; ⟨p, hp, r.keep (k.le (by have := lt_of_get r.1; omega))⟩
theorem Rq.kx {h h' : AH} {id ix : Nat} {va : Value} {n P : Nat} (q : Rq h id va n P) (k : KX h.length ix h h') (hi : id < ix) : Rq h' id va n P :=
  let ⟨p, hp, r⟩ := q; ⟨p, hp, r.keep (Keep.ofKX k (by have := lt_of_get r.1; omega) (by omega))⟩
theorem Rq.le {h : AH} {id : Nat} {va : Value} {n P Q : Nat} (q : Rq h id va n P) (hq : P ≤ Q) : Rq h id va n Q := let ⟨p, hp, r⟩ := q; ⟨p, by omega, r⟩
def iL (xs : List Int) : List Value := xs.map iV
end Go.Abs
namespace Go.Abs
open Go.Proofs
set_option maxRecDepth 100000
set_option linter.unusedSimpArgs false
set_option linter.unusedVariables false
structure Me where
  mk ::
  (user : Bs)
  (nick : Bs)
  (role : Int)
  deriving DecidableEq
abbrev Me.C (x : Me) : List Value := [sV x.user, sV x.nick, iV x.role]
abbrev Me.V (x : Me) : Value := .agg ⟨[sV x.user, sV x.nick, iV x.role]⟩
def Me.R (xs : List Me) : List Value := xs.flatMap Me.C
theorem Me.R_len (xs : List Me) : (Me.R xs).length = 3 * xs.length := by
  induction xs with
  | nil => rfl
  | cons x xs ih => simp only [Me.R, List.flatMap_cons, List.length_append, List.length_cons, List.length_nil] at ih ⊢; omega
theorem Me.R_app (a b : List Me) : Me.R (a ++ b) = Me.R a ++ Me.R b := by simp [Me.R]
theorem Me.R_cons (x : Me) (r : List Me) : Me.R (x :: r) = Me.C x ++ Me.R r := by simp [Me.R]
theorem Me.R_one (x : Me) : Me.R [x] = Me.C x := by simp [Me.R]
theorem Me.get (d : List Me) (x : Me) (r : List Me) : ((Me.R (d ++ x :: r)).drop (d.length * 3)).take 3 = Me.C x := by
  rw [Me.R_app, Me.R_cons, List.drop_left' (by rw [Me.R_len]; omega)]
  rfl
theorem Me.cell (d : List Me) (x : Me) (r : List Me) (j : Nat) (hj : j < 3) : (Me.R (d ++ x :: r))[d.length * 3 + j]? = (Me.C x)[j]? := by
  rw [Me.R_app, Me.R_cons, List.getElem?_append_right (by rw [Me.R_len]; omega), Me.R_len, show d.length * 3 + j - 3 * d.length = j by omega, List.getElem?_append_left (by simpa using hj)]
theorem Me.ldN {h : AH} {id g : Nat} {d r : List Me} {x : Me} (e : h[id]? = some (.row g 3 (Me.R (d ++ x :: r)))) : ldN h (pV id (d.length * 3) g) 3 = some (Me.C x) := by
  rw [ldN_of e (by rw [Me.R_len]; simp; omega), Me.get]
theorem Me.ld1 {h : AH} {id g : Nat} {d r : List Me} {x : Me} (j : Nat) (hj : j < 3) (e : h[id]? = some (.row g 3 (Me.R (d ++ x :: r)))) : ld h (pV id (d.length * 3 + j) g) = (Me.C x)[j]? := by
  rw [← Me.cell d x r j hj]
  simp only [ld, rowAt_of e, Option.bind_some]
/-- a slice that is read -/
def Me.Rd (h : AH) (v : Value) (xs : List Me) : Prop :=
  (v = .slice none 0 0 ∧ xs = []) ∨ ∃ id g c, v = slV id g xs.length c ∧ h[id]? = some (.row g 3 (Me.R xs))
theorem Me.Rd.len {h : AH} {v : Value} {xs : List Me} (r : Me.Rd h v xs) : lenV v = some (xs.length : Int) := by
  rcases r with ⟨rfl, rfl⟩ | ⟨id, g, c, rfl, _⟩ <;> rfl
theorem Me.Rd.get {h : AH} {v : Value} {d r : List Me} {x : Me} (q : Me.Rd h v (d ++ x :: r)) : ∃ p, ixAddr v (d.length : Int) 3 = some p ∧ Abs.ldN h p 3 = some (Me.C x) := by
  rcases q with ⟨_, q⟩ | ⟨id, g, c, rfl, e⟩
  · simp at q
  · exact ⟨pV id (d.length * 3) g, by rw [ixAddr_sl (by simp)]; simp, Me.ldN e⟩
theorem Me.Rd.keep {h h' : AH} {v : Value} {xs : List Me} (q : Me.Rd h v xs) (k : Keep h.length h h') : Me.Rd h' v xs := by
  rcases q with q | ⟨id, g, c, rfl, e⟩
  · exact .inl q
  · exact .inr ⟨id, g, c, rfl, k.get e (lt_of_get e)⟩
theorem Me.Rd.own {h : AH} {id g c : Nat} {xs : List Me} (e : h[id]? = some (.row g 3 (Me.R xs))) : Me.Rd h (slV id g xs.length c) xs := .inr ⟨id, g, c, rfl, e⟩
/-- a slice of the call's own, all of whose room is taken -/
def Me.Ow (h : AH) (v : Value) (xs : List Me) : Prop :=
  (v = .slice none 0 0 ∧ xs = []) ∨ ∃ id g, v = slV id g xs.length xs.length ∧ h[id]? = some (.row g 3 (Me.R xs))
theorem Me.Ow.one {h : AH} {v : Value} {xs : List Me} (q : Me.Ow h v xs) : oneCell v = true := by
  rcases q with ⟨rfl, _⟩ | ⟨id, g, rfl, e⟩ <;> rfl
theorem Me.Ow.rd {h : AH} {v : Value} {xs : List Me} (q : Me.Ow h v xs) : Me.Rd h v xs := by
  rcases q with q | ⟨id, g, rfl, e⟩
  · exact .inl q
  · exact .inr ⟨id, g, _, rfl, e⟩
theorem Me.Ow.keep {h h' : AH} {v : Value} {xs : List Me} (q : Me.Ow h v xs) (k : Keep h.length h h') : Me.Ow h' v xs := by
  rcases q with q | ⟨id, g, rfl, e⟩
  · exact .inl q
  · exact .inr ⟨id, g, rfl, k.get e (lt_of_get e)⟩
theorem Me.Ow.kx {h h' : AH} {v : Value} {xs : List Me} {ix : Nat} {cs : List Value} (q : Me.Ow h v xs) (k : KX h.length ix h h') (e2 : h[ix]? = some (.row 0 2 cs)) : Me.Ow h' v xs := by
  rcases q with q | ⟨id, g, rfl, e⟩
  · exact .inl q
  · refine .inr ⟨id, g, rfl, k.get e (lt_of_get e) ?_⟩
    rintro rfl
    rw [e] at e2
    injection e2 with e2; injection e2 with a b c
    exact absurd b (by decide)
theorem Me.Rd.src {h : AH} {v : Value} {xs : List Me} (q : Me.Rd h v xs) : lenOf v = some xs.length ∧ srcCells h v xs.length 3 = some (Me.R xs) := by
  rcases q with ⟨rfl, rfl⟩ | ⟨id, g, c, rfl, e⟩
  · exact ⟨rfl, rfl⟩
  · refine ⟨rfl, ?_⟩
    simp only [srcCells, rowAt_of e, Option.bind_some, cut]
    rw [if_pos (by rw [Me.R_len]; omega)]
    simp only [List.drop_zero]
    rw [List.take_of_length_le (by rw [Me.R_len]; omega)]
structure Rk where
  mk ::
  (user : Bs)
  (num : Int)
  deriving DecidableEq
abbrev Rk.C (x : Rk) : List Value := [sV x.user, iV x.num]
abbrev Rk.V (x : Rk) : Value := .agg ⟨[sV x.user, iV x.num]⟩
def Rk.R (xs : List Rk) : List Value := xs.flatMap Rk.C
theorem Rk.R_len (xs : List Rk) : (Rk.R xs).length = 2 * xs.length := by
  induction xs with
  | nil => rfl
  | cons x xs ih => simp only [Rk.R, List.flatMap_cons, List.length_append, List.length_cons, List.length_nil] at ih ⊢; omega
theorem Rk.R_app (a b : List Rk) : Rk.R (a ++ b) = Rk.R a ++ Rk.R b := by simp [Rk.R]
theorem Rk.R_cons (x : Rk) (r : List Rk) : Rk.R (x :: r) = Rk.C x ++ Rk.R r := by simp [Rk.R]
theorem Rk.R_one (x : Rk) : Rk.R [x] = Rk.C x := by simp [Rk.R]
theorem Rk.get (d : List Rk) (x : Rk) (r : List Rk) : ((Rk.R (d ++ x :: r)).drop (d.length * 2)).take 2 = Rk.C x := by
  rw [Rk.R_app, Rk.R_cons, List.drop_left' (by rw [Rk.R_len]; omega)]
  rfl
theorem Rk.cell (d : List Rk) (x : Rk) (r : List Rk) (j : Nat) (hj : j < 2) : (Rk.R (d ++ x :: r))[d.length * 2 + j]? = (Rk.C x)[j]? := by
  rw [Rk.R_app, Rk.R_cons, List.getElem?_append_right (by rw [Rk.R_len]; omega), Rk.R_len, show d.length * 2 + j - 2 * d.length = j by omega, List.getElem?_append_left (by simpa using hj)]
theorem Rk.ldN {h : AH} {id g : Nat} {d r : List Rk} {x : Rk} (e : h[id]? = some (.row g 2 (Rk.R (d ++ x :: r)))) : ldN h (pV id (d.length * 2) g) 2 = some (Rk.C x) := by
  rw [ldN_of e (by rw [Rk.R_len]; simp; omega), Rk.get]
theorem Rk.ld1 {h : AH} {id g : Nat} {d r : List Rk} {x : Rk} (j : Nat) (hj : j < 2) (e : h[id]? = some (.row g 2 (Rk.R (d ++ x :: r)))) : ld h (pV id (d.length * 2 + j) g) = (Rk.C x)[j]? := by
  rw [← Rk.cell d x r j hj]
  simp only [ld, rowAt_of e, Option.bind_some]
/-- a slice that is read -/
def Rk.Rd (h : AH) (v : Value) (xs : List Rk) : Prop :=
  (v = .slice none 0 0 ∧ xs = []) ∨ ∃ id g c, v = slV id g xs.length c ∧ h[id]? = some (.row g 2 (Rk.R xs))
theorem Rk.Rd.len {h : AH} {v : Value} {xs : List Rk} (r : Rk.Rd h v xs) : lenV v = some (xs.length : Int) := by
  rcases r with ⟨rfl, rfl⟩ | ⟨id, g, c, rfl, _⟩ <;> rfl
theorem Rk.Rd.get {h : AH} {v : Value} {d r : List Rk} {x : Rk} (q : Rk.Rd h v (d ++ x :: r)) : ∃ p, ixAddr v (d.length : Int) 2 = some p ∧ Abs.ldN h p 2 = some (Rk.C x) := by
  rcases q with ⟨_, q⟩ | ⟨id, g, c, rfl, e⟩
  · simp at q
  · exact ⟨pV id (d.length * 2) g, by rw [ixAddr_sl (by simp)]; simp, Rk.ldN e⟩
theorem Rk.Rd.keep {h h' : AH} {v : Value} {xs : List Rk} (q : Rk.Rd h v xs) (k : Keep h.length h h') : Rk.Rd h' v xs := by
  rcases q with q | ⟨id, g, c, rfl, e⟩
  · exact .inl q
  · exact .inr ⟨id, g, c, rfl, k.get e (lt_of_get e)⟩
theorem Rk.Rd.own {h : AH} {id g c : Nat} {xs : List Rk} (e : h[id]? = some (.row g 2 (Rk.R xs))) : Rk.Rd h (slV id g xs.length c) xs := .inr ⟨id, g, c, rfl, e⟩
/-- a slice of the call's own, all of whose room is taken -/
def Rk.Ow (h : AH) (v : Value) (xs : List Rk) : Prop :=
  (v = .slice none 0 0 ∧ xs = []) ∨ ∃ id g, v = slV id g xs.length xs.length ∧ h[id]? = some (.row g 2 (Rk.R xs))
theorem Rk.Ow.one {h : AH} {v : Value} {xs : List Rk} (q : Rk.Ow h v xs) : oneCell v = true := by
  rcases q with ⟨rfl, _⟩ | ⟨id, g, rfl, e⟩ <;> rfl
theorem Rk.Ow.rd {h : AH} {v : Value} {xs : List Rk} (q : Rk.Ow h v xs) : Rk.Rd h v xs := by
  rcases q with q | ⟨id, g, rfl, e⟩
  · exact .inl q
  · exact .inr ⟨id, g, _, rfl, e⟩
theorem Rk.Ow.keep {h h' : AH} {v : Value} {xs : List Rk} (q : Rk.Ow h v xs) (k : Keep h.length h h') : Rk.Ow h' v xs := by
  rcases q with q | ⟨id, g, rfl, e⟩
  · exact .inl q
  · exact .inr ⟨id, g, rfl, k.get e (lt_of_get e)⟩
theorem Rk.Rd.src {h : AH} {v : Value} {xs : List Rk} (q : Rk.Rd h v xs) : lenOf v = some xs.length ∧ srcCells h v xs.length 2 = some (Rk.R xs) := by
  rcases q with ⟨rfl, rfl⟩ | ⟨id, g, c, rfl, e⟩
  · exact ⟨rfl, rfl⟩
  · refine ⟨rfl, ?_⟩
    simp only [srcCells, rowAt_of e, Option.bind_some, cut]
    rw [if_pos (by rw [Rk.R_len]; omega)]
    simp only [List.drop_zero]
    rw [List.take_of_length_le (by rw [Rk.R_len]; omega)]
structure Ro where
  mk ::
  (name : Bs)
  (next : Int)
  (ms : Value)
  (rs : Value)
  (subj : Bs)
abbrev Ro.C (x : Ro) : List Value := [sV x.name, iV x.next, x.ms, x.rs, sV x.subj]
abbrev Ro.V (x : Ro) : Value := .agg ⟨[sV x.name, iV x.next, x.ms, x.rs, sV x.subj]⟩
structure Sa where
  mk ::
  (kind : Int)
  (room : Bs)
  (nick : Bs)
  (name : Bs)
  (id : Bs)
  (ref : Bs)
  (text : Bs)
  (num : Int)
  (frm : Int)
  (back : Int)
  deriving DecidableEq
abbrev Sa.C (x : Sa) : List Value := [iV x.kind, sV x.room, sV x.nick, sV x.name, sV x.id, sV x.ref, sV x.text, iV x.num, iV x.frm, iV x.back]
abbrev Sa.V (x : Sa) : Value := .agg ⟨[iV x.kind, sV x.room, sV x.nick, sV x.name, sV x.id, sV x.ref, sV x.text, iV x.num, iV x.frm, iV x.back]⟩
theorem Me.c0 (d : List Me) (x : Me) (r : List Me) : (Me.R (d ++ x :: r))[d.length * 3 + 0]? = some (sV x.user) := Me.cell d x r 0 (by decide)
theorem Me.c1 (d : List Me) (x : Me) (r : List Me) : (Me.R (d ++ x :: r))[d.length * 3 + 1]? = some (sV x.nick) := Me.cell d x r 1 (by decide)
theorem Me.c2 (d : List Me) (x : Me) (r : List Me) : (Me.R (d ++ x :: r))[d.length * 3 + 2]? = some (iV x.role) := Me.cell d x r 2 (by decide)
theorem Me.Rd.at {h : AH} {v : Value} {d r : List Me} {x : Me} (q : Me.Rd h v (d ++ x :: r)) : ∃ id g, ixAddr v (d.length : Int) 3 = some (pV id (d.length * 3) g) ∧ h[id]? = some (.row g 3 (Me.R (d ++ x :: r))) ∧ id < h.length := by
  rcases q with ⟨_, q⟩ | ⟨id, g, c, rfl, e⟩
  · simp at q
  · exact ⟨id, g, by rw [ixAddr_sl (by simp)]; simp, e, lt_of_get e⟩
theorem Rk.c0 (d : List Rk) (x : Rk) (r : List Rk) : (Rk.R (d ++ x :: r))[d.length * 2 + 0]? = some (sV x.user) := Rk.cell d x r 0 (by decide)
theorem Rk.c1 (d : List Rk) (x : Rk) (r : List Rk) : (Rk.R (d ++ x :: r))[d.length * 2 + 1]? = some (iV x.num) := Rk.cell d x r 1 (by decide)
theorem Rk.Rd.at {h : AH} {v : Value} {d r : List Rk} {x : Rk} (q : Rk.Rd h v (d ++ x :: r)) : ∃ id g, ixAddr v (d.length : Int) 2 = some (pV id (d.length * 2) g) ∧ h[id]? = some (.row g 2 (Rk.R (d ++ x :: r))) ∧ id < h.length := by
  rcases q with ⟨_, q⟩ | ⟨id, g, c, rfl, e⟩
  · simp at q
  · exact ⟨id, g, by rw [ixAddr_sl (by simp)]; simp, e, lt_of_get e⟩
theorem En.c0 (d : List En) (x : En) (r : List En) : (En.R (d ++ x :: r))[d.length * 9 + 0]? = some (sV x.room) := En.cell d x r 0 (by decide)
theorem En.c1 (d : List En) (x : En) (r : List En) : (En.R (d ++ x :: r))[d.length * 9 + 1]? = some (iV x.seq) := En.cell d x r 1 (by decide)
theorem En.c2 (d : List En) (x : En) (r : List En) : (En.R (d ++ x :: r))[d.length * 9 + 2]? = some (iV x.kind) := En.cell d x r 2 (by decide)
theorem En.c3 (d : List En) (x : En) (r : List En) : (En.R (d ++ x :: r))[d.length * 9 + 3]? = some (sV x.user) := En.cell d x r 3 (by decide)
theorem En.c4 (d : List En) (x : En) (r : List En) : (En.R (d ++ x :: r))[d.length * 9 + 4]? = some (sV x.nick) := En.cell d x r 4 (by decide)
theorem En.c5 (d : List En) (x : En) (r : List En) : (En.R (d ++ x :: r))[d.length * 9 + 5]? = some (sV x.text) := En.cell d x r 5 (by decide)
theorem En.c6 (d : List En) (x : En) (r : List En) : (En.R (d ++ x :: r))[d.length * 9 + 6]? = some (sV x.id) := En.cell d x r 6 (by decide)
theorem En.c7 (d : List En) (x : En) (r : List En) : (En.R (d ++ x :: r))[d.length * 9 + 7]? = some (sV x.ref) := En.cell d x r 7 (by decide)
theorem En.c8 (d : List En) (x : En) (r : List En) : (En.R (d ++ x :: r))[d.length * 9 + 8]? = some (iV x.num) := En.cell d x r 8 (by decide)
theorem En.Rd.at {h : AH} {v : Value} {d r : List En} {x : En} (q : En.Rd h v (d ++ x :: r)) : ∃ id g, ixAddr v (d.length : Int) 9 = some (pV id (d.length * 9) g) ∧ h[id]? = some (.row g 9 (En.R (d ++ x :: r))) ∧ id < h.length := by
  rcases q with ⟨_, q⟩ | ⟨id, g, c, rfl, e⟩
  · simp at q
  · exact ⟨id, g, by rw [ixAddr_sl (by simp)]; simp, e, lt_of_get e⟩
end Go.Abs
namespace Go.Abs
open Go.Proofs
set_option maxRecDepth 100000
set_option linter.unusedSimpArgs false
set_option linter.unusedVariables false
set_option pp.maxSteps 20000

/-! ### a room: who is in it, and of which rank -/
def ofL (u : Bs) : List Me → Nat → Int
  | [], _ => -1
  | x :: r, k => if x.user = u then k else ofL u r (k + 1)
def nickL (u : Bs) : List Me → Nat → Int
  | [], _ => -1
  | x :: r, k => if x.nick = u then k else nickL u r (k + 1)
def rankL (u : Bs) : List Rk → Int
  | [] => 1
  | x :: r => if x.user = u then x.num else rankL u r
theorem ofL_spec (u : Bs) : ∀ (r : List Me) (k : Nat), ofL u r k = -1 ∨ ∃ d x t, r = d ++ x :: t ∧ x.user = u ∧ ofL u r k = ((k + d.length : Nat) : Int)
  | [], k => .inl rfl
  | y :: r, k => by
    by_cases h : y.user = u
    · exact .inr ⟨[], y, r, rfl, h, by simp [ofL, h]⟩
    · rcases ofL_spec u r (k + 1) with q | ⟨d, x, t, q1, q2, q3⟩
      · exact .inl (by simp only [ofL, if_neg h, q])
      · exact .inr ⟨y :: d, x, t, by simp [q1], q2, by simp only [ofL, if_neg h, q3, List.length_cons]; omega⟩
theorem nickL_spec (u : Bs) : ∀ (r : List Me) (k : Nat), nickL u r k = -1 ∨ ∃ d x t, r = d ++ x :: t ∧ x.nick = u ∧ nickL u r k = ((k + d.length : Nat) : Int)
  | [], k => .inl rfl
  | y :: r, k => by
    by_cases h : y.nick = u
    · exact .inr ⟨[], y, r, rfl, h, by simp [nickL, h]⟩
    · rcases nickL_spec u r (k + 1) with q | ⟨d, x, t, q1, q2, q3⟩
      · exact .inl (by simp only [nickL, if_neg h, q])
      · exact .inr ⟨y :: d, x, t, by simp [q1], q2, by simp only [nickL, if_neg h, q3, List.length_cons]; omega⟩
theorem L101 (l ir : Nat) (u : Bs) (ro : Ro) (n : Nat) (hn : n ≤ 2 ^ 40) (h : AH) (er : h[ir]? = some (.row 0 5 ro.C)) : ∀ (r d : List Me), d.length + r.length = n → Me.Rd h ro.ms (d ++ r) →
    L101_0 l (sV u) (pV ir 0 0) (iV d.length) h = some (.ret (iV (ofL u r d.length)) h) := by
  have hl2 : ld h (pV ir 2 0) = some ro.ms := ld_of er rfl
  have ha : ∀ k, addOff (pV ir 0 0) k = some (pV ir (0 + k) 0) := fun _ => rfl
  intro r
  induction r with
  | nil =>
    intro d hk q
    have hlen := q.len
    simp only [List.append_nil] at hlen
    have hlt : decide ((d.length : Int) < (d.length : Int)) = false := decide_eq_false (by omega)
    refine run_code Tryz.func101 rfl rfl ?_
    simp only [↓XX, ↓XD, ↓YX, ZB, Nat.reduceAdd, Nat.reducePow, ↓reduceIte, eq_self, Int.reduceEq, Nat.reduceEqDiff, Nat.reduceMul, Nat.reduceLeDiff, Tryz.f101, ha, hl2, hlen, hlt, ofL]
  | cons x r ih =>
    intro d hk q
    simp only [List.length_cons] at hk
    rcases q with ⟨_, q⟩ | ⟨id, g, c, hv, e⟩
    · simp at q
    have hlen : lenV ro.ms = some (n : Int) := by rw [hv]; simp only [lenV]; congr 2; simp; omega
    have hlt : decide ((d.length : Int) < (n : Int)) = true := decide_eq_true (by omega)
    have hix : ixAddr ro.ms (d.length : Int) 3 = some (pV id (d.length * 3) g) := by rw [hv, ixAddr_sl (by simp)]; simp
    have ha3 : ∀ k, addOff (pV id (d.length * 3) g) k = some (pV id (d.length * 3 + k) g) := fun _ => rfl
    have l0 : ld h (pV id (d.length * 3 + 0) g) = some (sV x.user) := Me.ld1 0 (by decide) e
    have hw : IntKind.i64.wrap ((d.length : Int) + 1) = (((d ++ [x]).length : Nat) : Int) := natCast_succ_wrap (by omega) (by simp)
    refine run_code Tryz.func101 rfl rfl ?_
    cases hq : decide (x.user = u) with
    | true => simp only [↓XX, ↓XD, ↓YX, ZB, Nat.reduceAdd, Nat.reducePow, ↓reduceIte, eq_self, Int.reduceEq, Nat.reduceEqDiff, Nat.reduceMul, Nat.reduceLeDiff, Tryz.f101, ha, hl2, hlen, hlt, hix, ha3, l0, eqB, hq, ofL, if_pos (of_decide_eq_true hq)]
    | false =>
      simp only [↓XX, ↓XD, ↓YX, ZB, Nat.reduceAdd, Nat.reducePow, ↓reduceIte, eq_self, Int.reduceEq, Nat.reduceEqDiff, Nat.reduceMul, Nat.reduceLeDiff, Tryz.f101, ha, hl2, hlen, hlt, hix, ha3, l0, eqB, hq, ofL, if_neg (of_decide_eq_false hq), hw]
      rw [ih (d ++ [x]) (by simp; omega) (.inr ⟨id, g, c, by rw [hv]; simp, by rw [e]; simp⟩)]
      simp
theorem rq101 (ro : Ro) (u : Bs) (ms : List Me) (l : Nat) (h : AH) (hn : ms.length ≤ 2 ^ 40) (q : Me.Rd h ro.ms ms) :
    run V0 (.fn 101) l [S ro.V, S (sV u)] h = some (.ret (iV (ofL u ms 0)) (h ++ [.row 0 5 ro.C])) := by
  refine run_fn Tryz.func101 rfl rfl rfl rfl ?_
  have i1 := L101 l h.length u ro ms.length hn (h ++ [.row 0 5 ro.C]) (by simp) ms [] (by simp) (q.keep (Keep.app _ _ (Nat.le_refl _)))
  simp only [↓XX, ↓XD, ↓YX, ZB, Nat.reduceAdd, Nat.reducePow, ↓reduceIte, eq_self, Int.reduceEq, Nat.reduceEqDiff, Nat.reduceMul, Nat.reduceLeDiff, Tryz.f101]
  exact i1
theorem L102 (l ir : Nat) (u : Bs) (ro : Ro) (n : Nat) (hn : n ≤ 2 ^ 40) (h : AH) (er : h[ir]? = some (.row 0 5 ro.C)) : ∀ (r d : List Me), d.length + r.length = n → Me.Rd h ro.ms (d ++ r) →
    L102_0 l (sV u) (pV ir 0 0) (iV d.length) h = some (.ret (iV (nickL u r d.length)) h) := by
  have hl2 : ld h (pV ir 2 0) = some ro.ms := ld_of er rfl
  have ha : ∀ k, addOff (pV ir 0 0) k = some (pV ir (0 + k) 0) := fun _ => rfl
  intro r
  induction r with
  | nil =>
    intro d hk q
    have hlen := q.len
    simp only [List.append_nil] at hlen
    have hlt : decide ((d.length : Int) < (d.length : Int)) = false := decide_eq_false (by omega)
    refine run_code Tryz.func102 rfl rfl ?_
    simp only [↓XX, ↓XD, ↓YX, ZB, Nat.reduceAdd, Nat.reducePow, ↓reduceIte, eq_self, Int.reduceEq, Nat.reduceEqDiff, Nat.reduceMul, Nat.reduceLeDiff, Tryz.f102, ha, hl2, hlen, hlt, nickL]
  | cons x r ih =>
    intro d hk q
    simp only [List.length_cons] at hk
    rcases q with ⟨_, q⟩ | ⟨id, g, c, hv, e⟩
    · simp at q
    have hlen : lenV ro.ms = some (n : Int) := by rw [hv]; simp only [lenV]; congr 2; simp; omega
    have hlt : decide ((d.length : Int) < (n : Int)) = true := decide_eq_true (by omega)
    have hix : ixAddr ro.ms (d.length : Int) 3 = some (pV id (d.length * 3) g) := by rw [hv, ixAddr_sl (by simp)]; simp
    have ha3 : ∀ k, addOff (pV id (d.length * 3) g) k = some (pV id (d.length * 3 + k) g) := fun _ => rfl
    have l0 : ld h (pV id (d.length * 3 + 1) g) = some (sV x.nick) := Me.ld1 1 (by decide) e
    have hw : IntKind.i64.wrap ((d.length : Int) + 1) = (((d ++ [x]).length : Nat) : Int) := natCast_succ_wrap (by omega) (by simp)
    refine run_code Tryz.func102 rfl rfl ?_
    cases hq : decide (x.nick = u) with
    | true => simp only [↓XX, ↓XD, ↓YX, ZB, Nat.reduceAdd, Nat.reducePow, ↓reduceIte, eq_self, Int.reduceEq, Nat.reduceEqDiff, Nat.reduceMul, Nat.reduceLeDiff, Tryz.f102, ha, hl2, hlen, hlt, hix, ha3, l0, eqB, hq, nickL, if_pos (of_decide_eq_true hq)]
    | false =>
      simp only [↓XX, ↓XD, ↓YX, ZB, Nat.reduceAdd, Nat.reducePow, ↓reduceIte, eq_self, Int.reduceEq, Nat.reduceEqDiff, Nat.reduceMul, Nat.reduceLeDiff, Tryz.f102, ha, hl2, hlen, hlt, hix, ha3, l0, eqB, hq, nickL, if_neg (of_decide_eq_false hq), hw]
      rw [ih (d ++ [x]) (by simp; omega) (.inr ⟨id, g, c, by rw [hv]; simp, by rw [e]; simp⟩)]
      simp
theorem rq102 (ro : Ro) (u : Bs) (ms : List Me) (l : Nat) (h : AH) (hn : ms.length ≤ 2 ^ 40) (q : Me.Rd h ro.ms ms) :
    run V0 (.fn 102) l [S ro.V, S (sV u)] h = some (.ret (iV (nickL u ms 0)) (h ++ [.row 0 5 ro.C])) := by
  refine run_fn Tryz.func102 rfl rfl rfl rfl ?_
  have i1 := L102 l h.length u ro ms.length hn (h ++ [.row 0 5 ro.C]) (by simp) ms [] (by simp) (q.keep (Keep.app _ _ (Nat.le_refl _)))
  simp only [↓XX, ↓XD, ↓YX, ZB, Nat.reduceAdd, Nat.reducePow, ↓reduceIte, eq_self, Int.reduceEq, Nat.reduceEqDiff, Nat.reduceMul, Nat.reduceLeDiff, Tryz.f102]
  exact i1
theorem L103 (l ir : Nat) (u : Bs) (ro : Ro) (n : Nat) (hn : n ≤ 2 ^ 40) (h : AH) (er : h[ir]? = some (.row 0 5 ro.C)) : ∀ (r d : List Rk), d.length + r.length = n → Rk.Rd h ro.rs (d ++ r) →
    L103_0 l (sV u) (pV ir 0 0) (iV d.length) h = some (.ret (iV (rankL u r)) h) := by
  have hl2 : ld h (pV ir 3 0) = some ro.rs := ld_of er rfl
  have ha : ∀ k, addOff (pV ir 0 0) k = some (pV ir (0 + k) 0) := fun _ => rfl
  intro r
  induction r with
  | nil =>
    intro d hk q
    have hlen := q.len
    simp only [List.append_nil] at hlen
    have hlt : decide ((d.length : Int) < (d.length : Int)) = false := decide_eq_false (by omega)
    refine run_code Tryz.func103 rfl rfl ?_
    simp only [↓XX, ↓XD, ↓YX, ZB, Nat.reduceAdd, Nat.reducePow, ↓reduceIte, eq_self, Int.reduceEq, Nat.reduceEqDiff, Nat.reduceMul, Nat.reduceLeDiff, Tryz.f103, ha, hl2, hlen, hlt, rankL]
  | cons x r ih =>
    intro d hk q
    simp only [List.length_cons] at hk
    rcases q with ⟨_, q⟩ | ⟨id, g, c, hv, e⟩
    · simp at q
    have hlen : lenV ro.rs = some (n : Int) := by rw [hv]; simp only [lenV]; congr 2; simp; omega
    have hlt : decide ((d.length : Int) < (n : Int)) = true := decide_eq_true (by omega)
    have hix : ixAddr ro.rs (d.length : Int) 2 = some (pV id (d.length * 2) g) := by rw [hv, ixAddr_sl (by simp)]; simp
    have ha3 : ∀ k, addOff (pV id (d.length * 2) g) k = some (pV id (d.length * 2 + k) g) := fun _ => rfl
    have l0 : ld h (pV id (d.length * 2 + 0) g) = some (sV x.user) := Rk.ld1 0 (by decide) e
    have l1 : ld h (pV id (d.length * 2 + 1) g) = some (iV x.num) := Rk.ld1 1 (by decide) e
    have hw : IntKind.i64.wrap ((d.length : Int) + 1) = (((d ++ [x]).length : Nat) : Int) := natCast_succ_wrap (by omega) (by simp)
    refine run_code Tryz.func103 rfl rfl ?_
    cases hq : decide (x.user = u) with
    | true => simp only [↓XX, ↓XD, ↓YX, ZB, Nat.reduceAdd, Nat.reducePow, ↓reduceIte, eq_self, Int.reduceEq, Nat.reduceEqDiff, Nat.reduceMul, Nat.reduceLeDiff, Tryz.f103, ha, hl2, hlen, hlt, hix, ha3, l0, l1, eqB, hq, rankL, if_pos (of_decide_eq_true hq)]
    | false =>
      simp only [↓XX, ↓XD, ↓YX, ZB, Nat.reduceAdd, Nat.reducePow, ↓reduceIte, eq_self, Int.reduceEq, Nat.reduceEqDiff, Nat.reduceMul, Nat.reduceLeDiff, Tryz.f103, ha, hl2, hlen, hlt, hix, ha3, l0, eqB, hq, rankL, if_neg (of_decide_eq_false hq), hw]
      rw [ih (d ++ [x]) (by simp; omega) (.inr ⟨id, g, c, by rw [hv]; simp, by rw [e]; simp⟩)]
theorem rq103 (ro : Ro) (u : Bs) (rs : List Rk) (l : Nat) (h : AH) (hn : rs.length ≤ 2 ^ 40) (q : Rk.Rd h ro.rs rs) :
    run V0 (.fn 103) l [S ro.V, S (sV u)] h = some (.ret (iV (rankL u rs)) (h ++ [.row 0 5 ro.C])) := by
  refine run_fn Tryz.func103 rfl rfl rfl rfl ?_
  have i1 := L103 l h.length u ro rs.length hn (h ++ [.row 0 5 ro.C]) (by simp) rs [] (by simp) (q.keep (Keep.app _ _ (Nat.le_refl _)))
  simp only [↓XX, ↓XD, ↓YX, ZB, Nat.reduceAdd, Nat.reducePow, ↓reduceIte, eq_self, Int.reduceEq, Nat.reduceEqDiff, Nat.reduceMul, Nat.reduceLeDiff, Tryz.f103]
  exact i1
def ownL : List Rk → Nat → Nat
  | [], k => k
  | x :: r, k => ownL r (if x.num = 4 then k + 1 else k)
theorem L60 (l ir : Nat) (ro : Ro) (n : Nat) (hn : n ≤ 2 ^ 40) (h : AH) (er : h[ir]? = some (.row 0 5 ro.C)) : ∀ (r d : List Rk) (k : Nat), d.length + r.length = n → k ≤ d.length → Rk.Rd h ro.rs (d ++ r) →
    L60_0 l (pV ir 0 0) (iV k) (iV d.length) h = some (.ret (iV (ownL r k)) h) := by
  have hl2 : ld h (pV ir 3 0) = some ro.rs := ld_of er rfl
  have ha : ∀ k, addOff (pV ir 0 0) k = some (pV ir (0 + k) 0) := fun _ => rfl
  intro r
  induction r with
  | nil =>
    intro d k hk hkd q
    have hlen := q.len
    simp only [List.append_nil] at hlen
    have hlt : decide ((d.length : Int) < (d.length : Int)) = false := decide_eq_false (by omega)
    refine run_code Tryz.func60 rfl rfl ?_
    simp only [↓XX, ↓XD, ↓YX, ZB, Nat.reduceAdd, Nat.reducePow, ↓reduceIte, eq_self, Int.reduceEq, Nat.reduceEqDiff, Nat.reduceMul, Nat.reduceLeDiff, Tryz.f60, ha, hl2, hlen, hlt, ownL]
  | cons x r ih =>
    intro d k hk hkd q
    simp only [List.length_cons] at hk
    rcases q with ⟨_, q⟩ | ⟨id, g, c, hv, e⟩
    · simp at q
    have hlen : lenV ro.rs = some (n : Int) := by rw [hv]; simp only [lenV]; congr 2; simp; omega
    have hlt : decide ((d.length : Int) < (n : Int)) = true := decide_eq_true (by omega)
    have hix : ixAddr ro.rs (d.length : Int) 2 = some (pV id (d.length * 2) g) := by rw [hv, ixAddr_sl (by simp)]; simp
    have ha3 : ∀ k, addOff (pV id (d.length * 2) g) k = some (pV id (d.length * 2 + k) g) := fun _ => rfl
    have l1 : ld h (pV id (d.length * 2 + 1) g) = some (iV x.num) := Rk.ld1 1 (by decide) e
    have hw : IntKind.i64.wrap ((d.length : Int) + 1) = (((d ++ [x]).length : Nat) : Int) := natCast_succ_wrap (by omega) (by simp)
    have hw2 : IntKind.i64.wrap ((k : Int) + 1) = ((k + 1 : Nat) : Int) := natCast_succ_wrap (by omega) rfl
    refine run_code Tryz.func60 rfl rfl ?_
    cases hq : (x.num == 4) with
    | true =>
      simp only [↓XX, ↓XD, ↓YX, ZB, Nat.reduceAdd, Nat.reducePow, ↓reduceIte, eq_self, Int.reduceEq, Nat.reduceEqDiff, Nat.reduceMul, Nat.reduceLeDiff, Tryz.f60, ha, hl2, hlen, hlt, hix, ha3, l1, hq, hw, hw2, ownL, if_pos (beq_iff_eq.1 hq)]
      rw [ih (d ++ [x]) (k + 1) (by simp; omega) (by simp; omega) (.inr ⟨id, g, c, by rw [hv]; simp, by rw [e]; simp⟩)]
    | false =>
      have : ¬ x.num = 4 := by simpa using hq
      simp only [↓XX, ↓XD, ↓YX, ZB, Nat.reduceAdd, Nat.reducePow, ↓reduceIte, eq_self, Int.reduceEq, Nat.reduceEqDiff, Nat.reduceMul, Nat.reduceLeDiff, Tryz.f60, ha, hl2, hlen, hlt, hix, ha3, l1, hq, hw, ownL, if_neg this]
      rw [ih (d ++ [x]) k (by simp; omega) (by simp; omega) (.inr ⟨id, g, c, by rw [hv]; simp, by rw [e]; simp⟩)]
theorem rq60 (ro : Ro) (rs : List Rk) (l : Nat) (h : AH) (hn : rs.length ≤ 2 ^ 40) (q : Rk.Rd h ro.rs rs) :
    run V0 (.fn 60) l [S ro.V] h = some (.ret (iV (ownL rs 0)) (h ++ [.row 0 5 ro.C])) := by
  refine run_fn Tryz.func60 rfl rfl rfl rfl ?_
  have i1 := L60 l h.length ro rs.length hn (h ++ [.row 0 5 ro.C]) (by simp) rs [] 0 (by simp) (by simp) (q.keep (Keep.app _ _ (Nat.le_refl _)))
  simp only [↓XX, ↓XD, ↓YX, ZB, Nat.reduceAdd, Nat.reducePow, ↓reduceIte, eq_self, Int.reduceEq, Nat.reduceEqDiff, Nat.reduceMul, Nat.reduceLeDiff, Tryz.f60]
  exact i1
theorem rq136 (k : Int) (l : Nat) (h : AH) : run V0 (.fn 136) l [S (iV k)] h = some (.ret (iV (if 3 ≤ k then 3 else 2)) h) := by
  refine run_fn Tryz.func136 rfl rfl rfl rfl ?_
  cases hq : decide (3 ≤ k) with
  | true => rw [if_pos (of_decide_eq_true hq)]; simp only [↓XX, ↓XD, ↓YX, ZB, Nat.reduceAdd, Nat.reducePow, ↓reduceIte, eq_self, Int.reduceEq, Nat.reduceEqDiff, Nat.reduceMul, Nat.reduceLeDiff, Tryz.f136, hq]
  | false => rw [if_neg (of_decide_eq_false hq)]; simp only [↓XX, ↓XD, ↓YX, ZB, Nat.reduceAdd, Nat.reducePow, ↓reduceIte, eq_self, Int.reduceEq, Nat.reduceEqDiff, Nat.reduceMul, Nat.reduceLeDiff, Tryz.f136, hq]
end Go.Abs
namespace Go.Abs
open Go.Proofs
set_option linter.unusedVariables false

/-! ### runs of which only something is known -/
/-- a run that answers something of which P is known -/
def Okr (P : Value → AH → Prop) (x : R) : Prop := ∃ v h, x = some (.ret v h) ∧ P v h
theorem Okr.ret {P : Value → AH → Prop} {v : Value} {h : AH} (p : P v h) : Okr P (some (.ret v h)) := ⟨v, h, rfl, p⟩
theorem Okr.mono {P Q : Value → AH → Prop} {x : R} (e : Okr P x) (hq : ∀ v h, P v h → Q v h) : Okr Q x := let ⟨v, h, e1, p⟩ := e; ⟨v, h, e1, hq v h p⟩
theorem okr_fn {P : Value → AH → Prop} {f : Nat} {F : Func} {c : Code} {rs : List ResultVar} {n : Nat} {l : Nat} {fr fr' : Frm} {h : AH} (hF : Tryz.prog.funcs[f]? = some F) (hb : F.body = some c) (hr : F.results.toList = rs) (hn : F.ntmps = n) (hf : padF n fr = fr')
    (e : Okr P (exec V0 (run V0) f l (retQ V0.P rs) panK c [] ⟨retQ V0.P rs, fun _ _ _ => none⟩ fr' h)) (hp : V0.prim f = none := by rfl) : Okr P (run V0 (.fn f) l fr h) :=
  let ⟨v, h', e1, p⟩ := e; ⟨v, h', run_fn hF hb hr hn hf e1 hp, p⟩
theorem okr_code {P : Value → AH → Prop} {f : Nat} {F : Func} {c : Code} {rs : List ResultVar} {l : Nat} {p : List Nat} {fr : Frm} {h : AH} (hF : Tryz.prog.funcs[f]? = some F) (hb : F.body = some c) (hr : F.results.toList = rs)
    (e : Okr P (goAt (run V0) f l (retQ V0.P rs) panK p c [] (retQ V0.P rs) (fun _ _ _ => none) fr h)) : Okr P (run V0 (.code f p) l fr h) :=
  let ⟨v, h', e1, p⟩ := e; ⟨v, h', run_code hF hb hr e1, p⟩
/-- a call whose answer is known in part -/
theorem okr_call {P Q : Value → AH → Prop} {x : R} {K Kp : Value → AH → R} (e : Okr Q x) (hk : ∀ v h, Q v h → Okr P (K v h)) :
    Okr P (match (generalizing := false) x with | some o => (match o with | .ret v h => K v h | .pan v h => Kp v h) | none => none) := by
  obtain ⟨v, h, rfl, q⟩ := e
  exact hk v h q
theorem okr_opt {α : Type} {P : Value → AH → Prop} {x : Option α} {K : α → R} {Q : α → Prop} (e : ∃ y, x = some y ∧ Q y) (hk : ∀ y, Q y → Okr P (K y)) : Okr P (match (generalizing := false) x with | some y => K y | none => none) := by
  obtain ⟨y, rfl, q⟩ := e
  exact hk y q
theorem okr_bool {P : Value → AH → Prop} {b : Bool} {X Y : R} (h1 : b = true → Okr P X) (h2 : b = false → Okr P Y) : Okr P (match (generalizing := false) b with | true => X | false => Y) := by
  cases b with
  | true => exact h1 rfl
  | false => exact h2 rfl
theorem HC1 {h : AH} {o : AObj} {j : Nat} (hj : j < h.length) : (h ++ [o])[j]? = h[j]? := List.getElem?_append_left hj
theorem HC2 {h : AH} {o : AObj} {j : Nat} (hj : j = h.length) : (h ++ [o])[j]? = some o := by subst hj; simp
theorem HC3 {h : AH} {o : AObj} {i j : Nat} (hij : i ≠ j) : (h.set i o)[j]? = h[j]? := List.getElem?_set_ne hij
theorem HC4 {h : AH} {o : AObj} {i j : Nat} (hij : i = j) (hi : i < h.length) : (h.set i o)[j]? = some o := by subst hij; exact List.getElem?_set_self hi
theorem LEo {a b : Nat} (q : a ≤ b) : (a ≤ b) = True := eq_true q
theorem Keep.ap {a h : AH} {o : AObj} (k : Keep a.length a h) : Keep a.length a (h ++ [o]) := k.trans (Keep.app _ _ k.1)
theorem Keep.st {n i : Nat} {a h : AH} {o : AObj} (hi : n ≤ i) (k : Keep n a h) : Keep n a (h.set i o) := k.trans (Keep.set _ _ _ hi)
theorem slV_new (h : AH) (n : Nat) : newS h n n = slV h.length 0 n n := rfl
/-- append, of which only the outcome is told -/
theorem app_ok {lim : Nat} {h : AH} {id g sz tg n k by' : Nat} {cs ds : List Value} {x : Value} (hl : lim ≤ id) (e : h[id]? = some (.row g tg cs)) (hn : n * sz = cs.length) (hx : lenOf x = some k ∧ srcCells h x k sz = some ds) (hb : (n + k) * by' ≤ 2 ^ 47)
    {Q : Value × AH → Prop} (hq : ∀ g', Q (slV id g' (n + k) (n + k), h.set id (.row g' tg (cs ++ ds)))) : ∃ y, app lim h (slV id g n n) x sz tg by' = some y ∧ Q y := by
  obtain ⟨hx, hs⟩ := hx
  by_cases h0 : k = 0
  · subst h0
    have hds : ds = [] := by
      have := srcCells_len hs hx (Nat.le_refl _)
      rw [Nat.zero_mul] at this
      exact List.eq_nil_of_length_eq_zero this
    subst hds
    refine ⟨_, ?_, hq g⟩
    rw [List.append_nil, set_same e]
    simp only [app, hx, Option.bind_some, if_true, Nat.add_zero]
  · refine ⟨_, ?_, hq (g + 1)⟩
    simp only [app, hx, Option.bind_some]
    rw [if_neg h0, hs, rowAt_of e]
    simp only [Option.bind_some]
    rw [if_neg (by omega), if_pos ⟨hl, True.intro, True.intro, hn, hb⟩]
def AppQ (h : AH) (id n k tg : Nat) (cs ds : List Value) (y : Value × AH) : Prop := ∃ g', y = (slV id g' (n + k) (n + k), h.set id (.row g' tg (cs ++ ds)))
theorem okr_app {lim : Nat} {h : AH} {id g sz tg n k by' : Nat} {cs ds : List Value} {x : Value} (hx : lenOf x = some k ∧ srcCells h x k sz = some ds) (e : h[id]? = some (.row g tg cs)) (hn : n * sz = cs.length) (hl : lim ≤ id) (hb : (n + k) * by' ≤ 2 ^ 47) :
    ∃ y, app lim h (slV id g n n) x sz tg by' = some y ∧ AppQ h id n k tg cs ds y :=
  app_ok hl e hn hx hb fun g' => ⟨g', rfl⟩
theorem src_new {h : AH} {i g n c sz tg : Nat} {ds : List Value} (e : h[i]? = some (.row g tg ds)) (hn : n * sz = ds.length) : lenOf (slV i g n c) = some n ∧ srcCells h (slV i g n c) n sz = some ds := by
  refine ⟨rfl, ?_⟩
  simp only [srcCells, rowAt_of e, Option.bind_some, cut]
  rw [if_pos (by omega), List.drop_zero, List.take_of_length_le (by omega)]
theorem src_keep {h h' : AH} {x : Value} {k sz : Nat} {ds : List Value} (q : lenOf x = some k ∧ srcCells h x k sz = some ds) (hk : Keep h.length h h') : lenOf x = some k ∧ srcCells h' x k sz = some ds := by
  refine ⟨q.1, ?_⟩
  have q2 := q.2
  have key : ∀ (id g : Nat) (r : Nat × List Value), rowAt h id g = some r → rowAt h' id g = some r := by
    intro id g r e
    have hl : id < h.length := by
      rcases Nat.lt_or_ge id h.length with hl | hl
      · exact hl
      · simp only [rowAt, List.getElem?_eq_none hl] at e; exact absurd e (by simp)
    rw [← e]
    simp only [rowAt, hk.2 id hl]
  cases x <;> try exact q2
  rename_i p n c
  cases p with
  | none => exact q2
  | some p =>
    rcases p with ⟨id, off, g⟩
    cases g with
    | none => exact q2
    | some g =>
      simp only [srcCells] at q2 ⊢
      cases hr : rowAt h id g with
      | none => rw [hr] at q2; simp at q2
      | some r => rw [hr] at q2; rw [key id g r hr]; exact q2
theorem Me.app1 {lim : Nat} {h : AH} {id g : Nat} {os : List Me} (y : Me) (e : h[id]? = some (.row g 3 (Me.R os))) (hl : lim ≤ id) (hb : os.length ≤ 2 ^ 30) :
    ∃ z, app lim (h ++ [AObj.row 0 3 (Me.C y)]) (slV id g os.length os.length) (slV h.length 0 1 1) 3 3 40 = some z ∧ ∃ g', z = (slV id g' (os.length + 1) (os.length + 1), (h ++ [AObj.row 0 3 (Me.C y)]).set id (.row g' 3 (Me.R (os ++ [y])))) := by
  have hi := lt_of_get e
  obtain ⟨z, e1, g', rfl⟩ := okr_app (lim := lim) (h := h ++ [AObj.row 0 3 (Me.C y)]) (id := id) (g := g) (tg := 3) (n := os.length) (k := 1) (by' := 40) (cs := Me.R os) (x := slV h.length 0 1 1) (ds := Me.C y) (src_new (i := h.length) (g := 0) (c := 1) (sz := 3) (tg := 3) (HC2 rfl) rfl) (by rw [HC1 hi, e]) (by rw [Me.R_len]; omega) hl (by omega)
  exact ⟨_, e1, g', by rw [Me.R_app, Me.R_one]⟩
theorem Rk.app1 {lim : Nat} {h : AH} {id g : Nat} {os : List Rk} (y : Rk) (e : h[id]? = some (.row g 2 (Rk.R os))) (hl : lim ≤ id) (hb : os.length ≤ 2 ^ 30) :
    ∃ z, app lim (h ++ [AObj.row 0 2 (Rk.C y)]) (slV id g os.length os.length) (slV h.length 0 1 1) 2 2 24 = some z ∧ ∃ g', z = (slV id g' (os.length + 1) (os.length + 1), (h ++ [AObj.row 0 2 (Rk.C y)]).set id (.row g' 2 (Rk.R (os ++ [y])))) := by
  have hi := lt_of_get e
  obtain ⟨z, e1, g', rfl⟩ := okr_app (lim := lim) (h := h ++ [AObj.row 0 2 (Rk.C y)]) (id := id) (g := g) (tg := 2) (n := os.length) (k := 1) (by' := 24) (cs := Rk.R os) (x := slV h.length 0 1 1) (ds := Rk.C y) (src_new (i := h.length) (g := 0) (c := 1) (sz := 2) (tg := 2) (HC2 rfl) rfl) (by rw [HC1 hi, e]) (by rw [Rk.R_len]; omega) hl (by omega)
  exact ⟨_, e1, g', by rw [Rk.R_app, Rk.R_one]⟩
theorem En.app1 {lim : Nat} {h : AH} {id g : Nat} {os : List En} (y : En) (e : h[id]? = some (.row g 9 (En.R os))) (hl : lim ≤ id) (hb : os.length ≤ 2 ^ 30) :
    ∃ z, app lim (h ++ [AObj.row 0 9 (En.C y)]) (slV id g os.length os.length) (slV h.length 0 1 1) 9 9 120 = some z ∧ ∃ g', z = (slV id g' (os.length + 1) (os.length + 1), (h ++ [AObj.row 0 9 (En.C y)]).set id (.row g' 9 (En.R (os ++ [y])))) := by
  have hi := lt_of_get e
  obtain ⟨z, e1, g', rfl⟩ := okr_app (lim := lim) (h := h ++ [AObj.row 0 9 (En.C y)]) (id := id) (g := g) (tg := 9) (n := os.length) (k := 1) (by' := 120) (cs := En.R os) (x := slV h.length 0 1 1) (ds := En.C y) (src_new (i := h.length) (g := 0) (c := 1) (sz := 9) (tg := 9) (HC2 rfl) rfl) (by rw [HC1 hi, e]) (by rw [En.R_len]; omega) hl (by omega)
  exact ⟨_, e1, g', by rw [En.R_app, En.R_one]⟩
theorem lenV_sl {i g n c : Nat} : lenV (slV i g n c) = some (n : Int) := rfl
theorem Me.app2 {lim : Nat} {h : AH} {id g no nh : Nat} {os : List Me} {cs ys : List Value} (y : Me) (e : h[id]? = some (.row g 3 cs)) (hc : cs = Me.R os) (hno : no = os.length) (hnh : nh = h.length) (hl : lim ≤ id) (hb : os.length ≤ 2 ^ 30) (hy : ys = Me.C y) :
    ∃ z, app lim (h ++ [AObj.row 0 3 ys]) (slV id g no no) (slV nh 0 1 1) 3 3 40 = some z ∧ ∃ g', z = (slV id g' (no + 1) (no + 1), (h ++ [AObj.row 0 3 ys]).set id (.row g' 3 (Me.R (os ++ [y])))) := by
  subst hc hno hnh hy
  exact Me.app1 y e hl hb
theorem Rk.app2 {lim : Nat} {h : AH} {id g no nh : Nat} {os : List Rk} {cs ys : List Value} (y : Rk) (e : h[id]? = some (.row g 2 cs)) (hc : cs = Rk.R os) (hno : no = os.length) (hnh : nh = h.length) (hl : lim ≤ id) (hb : os.length ≤ 2 ^ 30) (hy : ys = Rk.C y) :
    ∃ z, app lim (h ++ [AObj.row 0 2 ys]) (slV id g no no) (slV nh 0 1 1) 2 2 24 = some z ∧ ∃ g', z = (slV id g' (no + 1) (no + 1), (h ++ [AObj.row 0 2 ys]).set id (.row g' 2 (Rk.R (os ++ [y])))) := by
  subst hc hno hnh hy
  exact Rk.app1 y e hl hb
theorem En.app2 {lim : Nat} {h : AH} {id g no nh : Nat} {os : List En} {cs ys : List Value} (y : En) (e : h[id]? = some (.row g 9 cs)) (hc : cs = En.R os) (hno : no = os.length) (hnh : nh = h.length) (hl : lim ≤ id) (hb : os.length ≤ 2 ^ 30) (hy : ys = En.C y) :
    ∃ z, app lim (h ++ [AObj.row 0 9 ys]) (slV id g no no) (slV nh 0 1 1) 9 9 120 = some z ∧ ∃ g', z = (slV id g' (no + 1) (no + 1), (h ++ [AObj.row 0 9 ys]).set id (.row g' 9 (En.R (os ++ [y])))) := by
  subst hc hno hnh hy
  exact En.app1 y e hl hb
theorem HA0 (h L : AH) : (h ++ L)[h.length]? = L[0]? := by rw [List.getElem?_append_right (Nat.le_refl _), Nat.sub_self]
theorem HA1 (h L : AH) (k : Nat) : (h ++ L)[h.length + k]? = L[k]? := by rw [List.getElem?_append_right (by omega), Nat.add_sub_cancel_left]
theorem HS0 (h L : AH) (o : AObj) : (h ++ L).set h.length o = h ++ L.set 0 o := by rw [List.set_append_right _ _ (Nat.le_refl _), Nat.sub_self]
theorem HS1 (h L : AH) (k : Nat) (o : AObj) : (h ++ L).set (h.length + k) o = h ++ L.set k o := by rw [List.set_append_right _ _ (by omega), Nat.add_sub_cancel_left]
theorem HAn {h L : AH} {j : Nat} (q : j < h.length) : (h ++ L)[j]? = h[j]? := List.getElem?_append_left q
theorem HSn {h L : AH} {j : Nat} {o : AObj} (q : j < h.length) : (h ++ L).set j o = h.set j o ++ L := List.set_append_left _ _ q
theorem HB0 (h L : AH) (j : Nat) (o : AObj) : (h.set j o ++ L)[h.length]? = L[0]? := by rw [List.getElem?_append_right (by simp), List.length_set, Nat.sub_self]
theorem HB1 (h L : AH) (k j : Nat) (o : AObj) : (h.set j o ++ L)[h.length + k]? = L[k]? := by rw [List.getElem?_append_right (by simp), List.length_set, Nat.add_sub_cancel_left]
theorem HT0 (h L : AH) (j : Nat) (o o2 : AObj) : (h.set j o ++ L).set h.length o2 = h.set j o ++ L.set 0 o2 := by rw [List.set_append_right _ _ (by simp), List.length_set, Nat.sub_self]
theorem HT1 (h L : AH) (k j : Nat) (o o2 : AObj) : (h.set j o ++ L).set (h.length + k) o2 = h.set j o ++ L.set k o2 := by rw [List.set_append_right _ _ (by simp), List.length_set, Nat.add_sub_cancel_left]
theorem Me.app3 {lim : Nat} {h : AH} {id g g2 no nh : Nat} {os : List Me} {cs ys : List Value} (y : Me) (e : h[id]? = some (.row g 3 cs)) (e2 : h[nh]? = some (.row g2 3 ys)) (hc : cs = Me.R os) (hno : no = os.length) (hl : lim ≤ id) (hb : os.length ≤ 2 ^ 30) (hy : ys = Me.C y) :
    ∃ z, app lim h (slV id g no no) (slV nh g2 1 1) 3 3 40 = some z ∧ ∃ g', z = (slV id g' (no + 1) (no + 1), h.set id (.row g' 3 (Me.R (os ++ [y])))) := by
  subst hc hno hy
  obtain ⟨z, e1, g', rfl⟩ := okr_app (lim := lim) (id := id) (g := g) (tg := 3) (n := os.length) (k := 1) (by' := 40) (cs := Me.R os) (x := slV nh g2 1 1) (ds := Me.C y) (src_new (sz := 3) (tg := 3) e2 rfl) e (by rw [Me.R_len]; omega) hl (by omega)
  exact ⟨_, e1, g', by rw [Me.R_app, Me.R_one]⟩
theorem Rk.app3 {lim : Nat} {h : AH} {id g g2 no nh : Nat} {os : List Rk} {cs ys : List Value} (y : Rk) (e : h[id]? = some (.row g 2 cs)) (e2 : h[nh]? = some (.row g2 2 ys)) (hc : cs = Rk.R os) (hno : no = os.length) (hl : lim ≤ id) (hb : os.length ≤ 2 ^ 30) (hy : ys = Rk.C y) :
    ∃ z, app lim h (slV id g no no) (slV nh g2 1 1) 2 2 24 = some z ∧ ∃ g', z = (slV id g' (no + 1) (no + 1), h.set id (.row g' 2 (Rk.R (os ++ [y])))) := by
  subst hc hno hy
  obtain ⟨z, e1, g', rfl⟩ := okr_app (lim := lim) (id := id) (g := g) (tg := 2) (n := os.length) (k := 1) (by' := 24) (cs := Rk.R os) (x := slV nh g2 1 1) (ds := Rk.C y) (src_new (sz := 2) (tg := 2) e2 rfl) e (by rw [Rk.R_len]; omega) hl (by omega)
  exact ⟨_, e1, g', by rw [Rk.R_app, Rk.R_one]⟩
theorem En.app3 {lim : Nat} {h : AH} {id g g2 no nh : Nat} {os : List En} {cs ys : List Value} (y : En) (e : h[id]? = some (.row g 9 cs)) (e2 : h[nh]? = some (.row g2 9 ys)) (hc : cs = En.R os) (hno : no = os.length) (hl : lim ≤ id) (hb : os.length ≤ 2 ^ 30) (hy : ys = En.C y) :
    ∃ z, app lim h (slV id g no no) (slV nh g2 1 1) 9 9 120 = some z ∧ ∃ g', z = (slV id g' (no + 1) (no + 1), h.set id (.row g' 9 (En.R (os ++ [y])))) := by
  subst hc hno hy
  obtain ⟨z, e1, g', rfl⟩ := okr_app (lim := lim) (id := id) (g := g) (tg := 9) (n := os.length) (k := 1) (by' := 120) (cs := En.R os) (x := slV nh g2 1 1) (ds := En.C y) (src_new (sz := 9) (tg := 9) e2 rfl) e (by rw [En.R_len]; omega) hl (by omega)
  exact ⟨_, e1, g', by rw [En.R_app, En.R_one]⟩
theorem okr_if {P : Value → AH → Prop} {b : Bool} {X Y : R} {w : Fx X} {u : Fx Y} (h1 : b = true → Okr P X) (h2 : b = false → Okr P Y) : Okr P (onB b (Stop X w) (Stop Y u)) := by
  cases b with
  | true => exact h1 rfl
  | false => exact h2 rfl
theorem op_extract {V : Env} {C : Hnd} {lim : Nat} {pan : Value → AH → R} {fr : Frm} {h : AH} {act : Option Bool} {K : Slot → AH → R} (s : TypeId) (x : Operand) (i : Nat) : op1 V C lim pan fr h (.extract x i) s act K = use act (slot fr x) fun v => oE act (tupAt v i) undef fun v => K (mkS act v) h := rfl
theorem tupAt_mk (l : List Value) (i : Nat) : tupAt (.tuple ⟨l⟩) i = l[i]? := rfl
/-! ### bundles of rules about heaps and structures -/
theorem ZK : type_of% @HC1 ∧ type_of% @HC2 ∧ type_of% @HC3 ∧ type_of% @HC4 ∧ type_of% @LEo :=
  ⟨@HC1, @HC2, @HC3, @HC4, @LEo⟩
theorem ZH : type_of% @HA0 ∧ type_of% @HA1 ∧ type_of% @HS0 ∧ type_of% @HS1 ∧ type_of% @HB0 ∧ type_of% @HB1 ∧ type_of% @HT0 ∧ type_of% @HT1 ∧ type_of% @HAn ∧ type_of% @HSn ∧ type_of% @HC3 ∧ type_of% @HC4 ∧ type_of% @LEo ∧ type_of% @Nat.add_assoc ∧ type_of% @List.append_assoc.{0} :=
  ⟨@HA0, @HA1, @HS0, @HS1, @HB0, @HB1, @HT0, @HT1, @HAn, @HSn, @HC3, @HC4, @LEo, @Nat.add_assoc, @List.append_assoc⟩
theorem ZS : type_of% @Me.c0 ∧ type_of% @Me.c1 ∧ type_of% @Me.c2 ∧ type_of% @Me.get ∧ type_of% @Me.R_len ∧ type_of% @Rk.c0 ∧ type_of% @Rk.c1 ∧ type_of% @Rk.get ∧ type_of% @Rk.R_len ∧ type_of% @En.c0 ∧ type_of% @En.c1 ∧ type_of% @En.c2 ∧ type_of% @En.c3 ∧ type_of% @En.c4 ∧ type_of% @En.c5 ∧ type_of% @En.c6 ∧ type_of% @En.c7 ∧ type_of% @En.c8 ∧ type_of% @En.get ∧ type_of% @En.R_len ∧ type_of% @Bool.not_true ∧ type_of% @Bool.not_false ∧ type_of% @lenV_sl ∧ type_of% @tupAt_mk :=
  ⟨@Me.c0, @Me.c1, @Me.c2, @Me.get, @Me.R_len, @Rk.c0, @Rk.c1, @Rk.get, @Rk.R_len, @En.c0, @En.c1, @En.c2, @En.c3, @En.c4, @En.c5, @En.c6, @En.c7, @En.c8, @En.get, @En.R_len, @Bool.not_true, @Bool.not_false, @lenV_sl, @tupAt_mk⟩
theorem ZR : type_of% @Me.R_len ∧ type_of% @Rk.R_len ∧ type_of% @En.R_len :=
  ⟨@Me.R_len, @Rk.R_len, @En.R_len⟩
theorem dS {a b c} (h : drawS a b = some c) : drawS a b = some c := h
theorem dM {a b d c} (h : drawM a b d = some c) : drawM a b d = some c := h
theorem dO {a b : Option AObj} (h : a = b) : a = b := h
theorem dK {n : Nat} {a b : AH} (h : Keep n a b) : Keep n a b := h
/-- how a side goal of a step is closed -/
theorem dI {p : Prop} (h : p := by (first | (refine dS ?_; kernel_rfl) | (refine dM ?_; kernel_rfl) | (refine dO ?_; simp (disch := ((try simp only [ZL]) <;> omega)) only [ZK, ZL]; done) | (refine dK ?_; (repeat first | exact Keep.refl _ _ | exact Keep.app _ _ (Nat.le_refl _) | assumption | refine Keep.ap ?_ | refine Keep.st (by first | omega | (simp only [ZL]; omega)) ?_); done) | ((try simp only [ZL]) <;> omega) | fail)) : p := h
end Go.Abs
namespace Go.Abs
open Go.Proofs
set_option maxRecDepth 100000
set_option linter.unusedSimpArgs false
set_option pp.maxSteps 20000
/-! ### Ru: a struct of plain cells -/
structure Ru where
  mk ::
  (quiet : Bool)
  (room : Bs)
  (user : Bs)
  (kind : Int)
  deriving DecidableEq
abbrev Ru.C (x : Ru) : List Value := [.bool x.quiet, sV x.room, sV x.user, iV x.kind]
abbrev Ru.V (x : Ru) : Value := .agg ⟨[.bool x.quiet, sV x.room, sV x.user, iV x.kind]⟩
def Ru.R (xs : List Ru) : List Value := xs.flatMap Ru.C
theorem Ru.R_len (xs : List Ru) : (Ru.R xs).length = 4 * xs.length := by
  induction xs with
  | nil => rfl
  | cons x xs ih => simp only [Ru.R, List.flatMap_cons, List.length_append, List.length_cons, List.length_nil] at ih ⊢; omega
theorem Ru.R_app (a b : List Ru) : Ru.R (a ++ b) = Ru.R a ++ Ru.R b := by simp [Ru.R]
theorem Ru.R_cons (x : Ru) (r : List Ru) : Ru.R (x :: r) = Ru.C x ++ Ru.R r := by simp [Ru.R]
theorem Ru.get (d : List Ru) (x : Ru) (r : List Ru) : ((Ru.R (d ++ x :: r)).drop (d.length * 4)).take 4 = Ru.C x := by
  rw [Ru.R_app, Ru.R_cons, List.drop_left' (by rw [Ru.R_len]; omega)]
  rfl
theorem Ru.ldN {h : AH} {id g : Nat} {d r : List Ru} {x : Ru} (e : h[id]? = some (.row g 4 (Ru.R (d ++ x :: r)))) : ldN h (pV id (d.length * 4) g) 4 = some (Ru.C x) := by
  rw [ldN_of e (by rw [Ru.R_len]; simp; omega), Ru.get]
/-- a slice that is read -/
def Ru.Rd (h : AH) (v : Value) (xs : List Ru) : Prop :=
  (v = .slice none 0 0 ∧ xs = []) ∨ ∃ id g c, v = slV id g xs.length c ∧ h[id]? = some (.row g 4 (Ru.R xs))
theorem Ru.Rd.len {h : AH} {v : Value} {xs : List Ru} (r : Ru.Rd h v xs) : lenV v = some (xs.length : Int) := by
  rcases r with ⟨rfl, rfl⟩ | ⟨id, g, c, rfl, _⟩ <;> rfl
theorem Ru.Rd.get {h : AH} {v : Value} {d r : List Ru} {x : Ru} (q : Ru.Rd h v (d ++ x :: r)) : ∃ p, ixAddr v (d.length : Int) 4 = some p ∧ Abs.ldN h p 4 = some (Ru.C x) := by
  rcases q with ⟨_, q⟩ | ⟨id, g, c, rfl, e⟩
  · simp at q
  · exact ⟨pV id (d.length * 4) g, by rw [ixAddr_sl (by simp)]; simp, Ru.ldN e⟩
theorem Ru.Rd.keep {h h' : AH} {v : Value} {xs : List Ru} (q : Ru.Rd h v xs) (k : Keep h.length h h') : Ru.Rd h' v xs := by
  rcases q with q | ⟨id, g, c, rfl, e⟩
  · exact .inl q
  · exact .inr ⟨id, g, c, rfl, k.get e (lt_of_get e)⟩
theorem Ru.Rd.own {h : AH} {id g c : Nat} {xs : List Ru} (e : h[id]? = some (.row g 4 (Ru.R xs))) : Ru.Rd h (slV id g xs.length c) xs := .inr ⟨id, g, c, rfl, e⟩
def Ru.sz (x : Ru) (k : Int) : Int :=
  if k - x.room.length < 0 then -1 else if k - x.room.length - x.user.length < 0 then -1 else k - x.room.length - x.user.length
/-! ### En: a struct of plain cells -/
def En.sz (x : En) (k : Int) : Int :=
  if k - x.room.length < 0 then -1 else if k - x.room.length - x.user.length < 0 then -1 else if k - x.room.length - x.user.length - x.nick.length < 0 then -1 else if k - x.room.length - x.user.length - x.nick.length - x.text.length < 0 then -1 else if k - x.room.length - x.user.length - x.nick.length - x.text.length - x.id.length < 0 then -1 else if k - x.room.length - x.user.length - x.nick.length - x.text.length - x.id.length - x.ref.length < 0 then -1 else k - x.room.length - x.user.length - x.nick.length - x.text.length - x.id.length - x.ref.length
end Go.Abs
namespace Go.Abs
open Go.Proofs
set_option maxRecDepth 100000
set_option linter.unusedSimpArgs false
set_option pp.maxSteps 20000

def smlI (n : Int) : Bool := decide (97 ≤ n) && decide (n ≤ 122) || decide (48 ≤ n) && decide (n ≤ 57)
theorem rq109 (n : Int) (l : Nat) (h : AH) : run V0 (.fn 109) l [S (.int .u8 n)] h = some (.ret (.bool (inI n 48 57)) h) := by
  refine run_fn Tryz.func109 rfl rfl rfl rfl ?_
  simp only [↓XX, ↓XD, ↓YX, ZB, Nat.reduceAdd, Nat.reducePow, ↓reduceIte, eq_self, Int.reduceEq, Nat.reduceEqDiff, Nat.reduceMul, Nat.reduceLeDiff, Tryz.f109]
  unfold inI
  cases decide (48 ≤ n) <;> rfl
theorem rq34 (n a b : Int) (l : Nat) (h : AH) : run V0 (.fn 34) l [S (iV n), S (iV a), S (iV b)] h = some (.ret (.bool (inI n a b)) h) := by
  refine run_fn Tryz.func34 rfl rfl rfl rfl ?_
  simp only [↓XX, ↓XD, ↓YX, ZB, Nat.reduceAdd, Nat.reducePow, ↓reduceIte, eq_self, Int.reduceEq, Nat.reduceEqDiff, Nat.reduceMul, Nat.reduceLeDiff, Tryz.f34]
  unfold inI
  cases decide (a ≤ n) <;> rfl
theorem rq56 (n a b : Int) (l : Nat) (h : AH) : run V0 (.fn 56) l [S (iV n), S (iV a), S (iV b)] h = some (.ret (.bool (inI n a b)) h) := by
  refine run_fn Tryz.func56 rfl rfl rfl rfl ?_
  simp only [↓XX, ↓XD, ↓YX, ZB, Nat.reduceAdd, Nat.reducePow, ↓reduceIte, eq_self, Int.reduceEq, Nat.reduceEqDiff, Nat.reduceMul, Nat.reduceLeDiff, Tryz.f56]
  unfold inI
  cases decide (a ≤ n) <;> rfl
theorem rq89 (n : Int) (l : Nat) (h : AH) : run V0 (.fn 89) l [S (.int .u8 n)] h = some (.ret (.bool (smlI n)) h) := by
  refine run_fn Tryz.func89 rfl rfl rfl rfl ?_
  simp only [↓XX, ↓XD, ↓YX, ZB, Nat.reduceAdd, Nat.reducePow, ↓reduceIte, eq_self, Int.reduceEq, Nat.reduceEqDiff, Nat.reduceMul, Nat.reduceLeDiff, Tryz.f89]
  unfold smlI
  cases decide (97 ≤ n) <;> cases decide (n ≤ 122) <;> cases decide (48 ≤ n) <;> rfl
theorem rq98 (n : Int) (l : Nat) (h : AH) : run V0 (.fn 98) l [S (.int .u8 n)] h = some (.ret (.bool (smlI n)) h) := by
  refine run_fn Tryz.func98 rfl rfl rfl rfl ?_
  simp only [↓XX, ↓XD, ↓YX, ZB, Nat.reduceAdd, Nat.reducePow, ↓reduceIte, eq_self, Int.reduceEq, Nat.reduceEqDiff, Nat.reduceMul, Nat.reduceLeDiff, Tryz.f98, rq109, inI]
  unfold smlI
  cases decide (97 ≤ n) <;> cases decide (n ≤ 122) <;> cases decide (48 ≤ n) <;> cases decide (n ≤ 57) <;> rfl
def usrI (n : Int) : Bool := smlI n || n == 45 || n == 46 || n == 95
def userOkL (s : Bs) : Bool := s.all (fun b => usrI b.toNat) && inI s.length 1 8
/-- impl.userOk: its loop -/
theorem L42 (s : Bs) (hs : s.length ≤ 2 ^ 60) (l id : Nat) (h : AH) (e : h[id]? = some (.row 0 25769803777 (u8c s))) : ∀ (r d : Bs), s = d ++ r →
    L42_0 l (sV s) (slV id 0 s.length s.length) (iV s.length) (iV d.length) h = some (.ret (.bool (r.all (fun b => usrI b.toNat) && inI s.length 1 8)) h) := by
  intro r
  induction r with
  | nil =>
    intro d hk
    rw [List.append_nil] at hk
    have hlt : decide ((d.length : Int) < (s.length : Int)) = false := by rw [decide_eq_false_iff_not, hk]; omega
    refine run_code Tryz.func42 rfl rfl ?_
    simp only [↓XX, ↓XD, ↓YX, ZB, Nat.reduceAdd, Nat.reducePow, ↓reduceIte, eq_self, Int.reduceEq, Nat.reduceEqDiff, Nat.reduceMul, Nat.reduceLeDiff, Tryz.f42, hlt, rq34, size_B]
    rfl
  | cons b r ih =>
    intro d hk
    have hlen : d.length + 1 ≤ s.length := by rw [hk]; simp
    have hlt : decide ((d.length : Int) < (s.length : Int)) = true := by rw [decide_eq_true_iff]; omega
    have hix : ixAddr (slV id 0 s.length s.length) (d.length : Int) 1 = some (pV id d.length 0) := by rw [ixAddr_sl (by omega)]; simp
    have hld : ld h (pV id d.length 0) = some (.int .u8 b.toNat) := ld_of e (by rw [hk]; exact u8c_get d b r)
    have hw : IntKind.i64.wrap ((d.length : Int) + 1) = (((d ++ [b]).length : Nat) : Int) := natCast_succ_wrap (by omega) (by simp)
    have ih' := ih (d ++ [b]) (by rw [hk]; simp)
    refine run_code Tryz.func42 rfl rfl ?_
    simp only [↓XX, ↓XD, ↓YX, ZB, Nat.reduceAdd, Nat.reducePow, ↓reduceIte, eq_self, Int.reduceEq, Nat.reduceEqDiff, Nat.reduceMul, Nat.reduceLeDiff, Tryz.f42, hlt, hix, hld, rq89, hw, bne]
    simp only [List.all_cons, usrI]
    cases smlI (b.toNat : Int) with
    | true => simp only [Bool.not_true, Bool.true_or, Bool.true_and]; exact ih'
    | false =>
      cases ((b.toNat : Int) == 45) with
      | true => simp only [Bool.not_true, Bool.not_false, Bool.true_or, Bool.or_true, Bool.false_or, Bool.true_and]; exact ih'
      | false =>
        cases ((b.toNat : Int) == 46) with
        | true => simp only [Bool.not_true, Bool.not_false, Bool.true_or, Bool.or_true, Bool.false_or, Bool.true_and]; exact ih'
        | false =>
          cases ((b.toNat : Int) == 95) with
          | true => simp only [Bool.not_true, Bool.not_false, Bool.true_or, Bool.or_true, Bool.false_or, Bool.true_and]; exact ih'
          | false => rfl
theorem rq42 (s : Bs) (hs : s.length ≤ 2 ^ 60) (l : Nat) (h : AH) : ∃ h', run V0 (.fn 42) l [S (sV s)] h = some (.ret (.bool (userOkL s)) h') ∧ Keep h.length h h' := by
  refine ⟨h ++ [.row 0 25769803777 (u8c s)], run_fn Tryz.func42 rfl rfl rfl rfl ?_, Keep.app _ _ (Nat.le_refl _)⟩
  simp only [↓XX, ↓XD, ↓YX, ZB, Nat.reduceAdd, Nat.reducePow, ↓reduceIte, eq_self, Int.reduceEq, Nat.reduceEqDiff, Nat.reduceMul, Nat.reduceLeDiff, Tryz.f42, lenV, newS]
  exact L42 s hs l h.length _ (by rw [List.getElem?_append_right (Nat.le_refl _)]; simp [u8c, B]) s [] rfl
/-- spec.l4User: its loop -/
theorem L55 (s : Bs) (hs : s.length ≤ 2 ^ 60) (l : Nat) (h : AH) : ∀ (r d : Bs), s = d ++ r →
    L55_0 l (sV s) (iV d.length) h = some (.ret (.bool (r.all (fun b => usrI b.toNat) && inI s.length 1 8)) h) := by
  intro r
  induction r with
  | nil =>
    intro d hk
    rw [List.append_nil] at hk
    have hlt : decide ((d.length : Int) < ((B s).size : Int)) = false := by rw [decide_eq_false_iff_not, size_B, hk]; omega
    refine run_code Tryz.func55 rfl rfl ?_
    simp only [↓XX, ↓XD, ↓YX, ZB, Nat.reduceAdd, Nat.reducePow, ↓reduceIte, eq_self, Int.reduceEq, Nat.reduceEqDiff, Nat.reduceMul, Nat.reduceLeDiff, Tryz.f55, hlt, rq56]
    rfl
  | cons b r ih =>
    intro d hk
    have hlen : d.length + 1 ≤ s.length := by rw [hk]; simp
    have hlt : decide ((d.length : Int) < ((B s).size : Int)) = true := by rw [decide_eq_true_iff, size_B]; omega
    have hat : strAt (B s) (d.length : Int) = some (b.toNat : Int) := by rw [hk]; exact strAt_mid d b r
    have hw : IntKind.i64.wrap ((d.length : Int) + 1) = (((d ++ [b]).length : Nat) : Int) := natCast_succ_wrap (by omega) (by simp)
    have ih' := ih (d ++ [b]) (by rw [hk]; simp)
    refine run_code Tryz.func55 rfl rfl ?_
    simp only [↓XX, ↓XD, ↓YX, ZB, Nat.reduceAdd, Nat.reducePow, ↓reduceIte, eq_self, Int.reduceEq, Nat.reduceEqDiff, Nat.reduceMul, Nat.reduceLeDiff, Tryz.f55, hlt, hat, rq98, hw, bne]
    simp only [List.all_cons, usrI]
    cases smlI (b.toNat : Int) with
    | true => simp only [Bool.not_true, Bool.true_or, Bool.true_and]; exact ih'
    | false =>
      cases ((b.toNat : Int) == 45) with
      | true => simp only [Bool.not_true, Bool.not_false, Bool.true_or, Bool.or_true, Bool.false_or, Bool.true_and]; exact ih'
      | false =>
        cases ((b.toNat : Int) == 46) with
        | true => simp only [Bool.not_true, Bool.not_false, Bool.true_or, Bool.or_true, Bool.false_or, Bool.true_and]; exact ih'
        | false =>
          cases ((b.toNat : Int) == 95) with
          | true => simp only [Bool.not_true, Bool.not_false, Bool.true_or, Bool.or_true, Bool.false_or, Bool.true_and]; exact ih'
          | false => rfl
theorem rq55 (s : Bs) (hs : s.length ≤ 2 ^ 60) (l : Nat) (h : AH) : run V0 (.fn 55) l [S (sV s)] h = some (.ret (.bool (userOkL s)) h) := by
  refine run_fn Tryz.func55 rfl rfl rfl rfl ?_
  simp only [↓XX, ↓XD, ↓YX, ZB, Nat.reduceAdd, Nat.reducePow, ↓reduceIte, eq_self, Int.reduceEq, Nat.reduceEqDiff, Nat.reduceMul, Nat.reduceLeDiff, Tryz.f55]
  exact L55 s hs l h s [] rfl
/-! ### rules -/
end Go.Abs
namespace Go.Abs
set_option linter.unusedSimpArgs false
set_option linter.unusedVariables false
set_option maxRecDepth 100000
/-! ### signs in UTF-8: plain -/
/-- a number is a sign -/
def sgnI (n : Int) : Bool := n == 9 || n == 10 || (decide (32 ≤ n) && decide (n ≤ 55295)) || (decide (57344 ≤ n) && decide (n ≤ 65533)) || (decide (65536 ≤ n) && decide (n ≤ 1114111))
def leadN (b : Nat) : Nat := if b < 128 then 1 else if 194 ≤ b ∧ b ≤ 223 then 2 else if 224 ≤ b ∧ b ≤ 239 then 3 else if 240 ≤ b ∧ b ≤ 244 then 4 else 0
/-- whether a second byte can stand behind a first one -/
def secN (a b : Nat) : Bool := if a = 224 then decide (160 ≤ b) else if a = 237 then decide (b < 160) else if a = 240 then decide (144 ≤ b) else if a = 244 then decide (b < 144) else true
/-- the first number, of the first byte -/
def fstN (b : Nat) : Nat := if leadN b = 2 then b % 32 else if leadN b = 3 then b % 16 else if leadN b = 4 then b % 8 else b
/-- the bytes behind the first one -/
def tlN (a many : Nat) : Nat → Bool → Nat → Bs → Nat × Int
  | 0, _, n, _ => if many = 0 ∨ sgnI n = false then (0, 0) else (n, many)
  | _ + 1, _, _, [] => (0, -1)
  | k + 1, f, n, b :: r => if ¬ (128 ≤ b.toNat ∧ b.toNat ≤ 191) ∨ (f = true ∧ secN a b.toNat = false) then (0, 0) else tlN a many k false (n * 64 + b.toNat - 128) r
/-- the sign with which a text begins, and how many bytes it has -/
def nxtN : Bs → Nat × Int
  | [] => (0, 0)
  | b :: r => tlN b.toNat (leadN b.toNat) (leadN b.toNat - 1) true (fstN b.toNat) r
/-- what Go's decoder says -/
def decL (s : Bs) : Nat × Nat := if s = [] then (65533, 0) else Lib.decodeN s.length (s.getD 0 0).toNat (s.getD 1 0).toNat (s.getD 2 0).toNat (s.getD 3 0).toNat
def sgnOk (p : Nat × Nat) : Bool := sgnI p.1 && (p.1 != 65533 || p.2 == 3)
theorem u8_lt (b : UInt8) : b.toNat < 256 := UInt8.toNat_lt b
theorem sgnI_iff (n : Nat) : sgnI (n : Int) = true ↔ (n = 9 ∨ n = 10 ∨ (32 ≤ n ∧ n ≤ 55295) ∨ (57344 ≤ n ∧ n ≤ 65533) ∨ (65536 ≤ n ∧ n ≤ 1114111)) := by
  simp only [sgnI, Bool.or_eq_true, Bool.and_eq_true, decide_eq_true_eq, beq_iff_eq]
  omega
theorem secN_iff (a b : Nat) : secN a b = false ↔ ((a = 224 ∧ b < 160) ∨ (a = 237 ∧ 160 ≤ b) ∨ (a = 240 ∧ b < 144) ∨ (a = 244 ∧ 144 ≤ b)) := by
  unfold secN
  repeat' split
  all_goals simp only [decide_eq_false_iff_not, Bool.true_eq_false, false_iff]
  all_goals omega
/-- the two readings are one -/
def Agree (p : Nat × Int) (q : Nat × Nat) : Prop := if 1 ≤ p.2 then (sgnOk q = true ∧ q.1 = p.1 ∧ (q.2 : Int) = p.2) else sgnOk q = false
theorem Agree.yes {n : Nat} {m : Nat} (h1 : 1 ≤ m) (h : sgnI (n : Int) = true) (h2 : n ≠ 65533 ∨ m = 3) : Agree (n, (m : Int)) (n, m) := by
  unfold Agree
  rw [if_pos (by simp only; omega)]
  refine ⟨?_, rfl, rfl⟩
  simp only [sgnOk, h, Bool.true_and, Bool.or_eq_true, bne_iff_ne, ne_eq, beq_iff_eq]
  exact h2
theorem Agree.no {n : Nat} {k : Int} {q : Nat × Nat} (h : k < 1) (h2 : sgnI (q.1 : Int) = false ∨ (q.1 = 65533 ∧ q.2 ≠ 3)) : Agree (n, k) q := by
  unfold Agree
  rw [if_neg (by simp only; omega)]
  simp only [sgnOk, Bool.and_eq_false_iff, Bool.or_eq_false_iff]
  rcases h2 with h2 | ⟨h2, h3⟩
  · exact .inl h2
  · exact .inr ⟨by simp [h2], by simp [h3]⟩
theorem tl_zero (a many n : Nat) (f : Bool) (r : Bs) : tlN a many 0 f n r = if many = 0 ∨ sgnI n = false then ((0, 0) : Nat × Int) else (n, (many : Int)) := by unfold tlN; rfl
theorem tl_nil (a many k n : Nat) (f : Bool) : tlN a many (k + 1) f n [] = (0, -1) := rfl
theorem tl_cons (a many k n : Nat) (f : Bool) (b : UInt8) (r : Bs) : tlN a many (k + 1) f n (b :: r) = if ¬ (128 ≤ b.toNat ∧ b.toNat ≤ 191) ∨ (f = true ∧ secN a b.toNat = false) then (0, 0) else tlN a many k false (n * 64 + b.toNat - 128) r := rfl
theorem agree_one (b : UInt8) (r : Bs) (h : b.toNat < 128) : Agree (nxtN (b :: r)) (decL (b :: r)) := by
  have e1 : nxtN (b :: r) = if sgnI (b.toNat : Int) = false then (0, 0) else (b.toNat, 1) := by
    have hl : leadN b.toNat = 1 := by unfold leadN; rw [if_pos h]
    unfold nxtN fstN
    simp only [hl, Nat.sub_self, tl_zero]
    simp
  have e2 : decL (b :: r) = (b.toNat, 1) := by
    unfold decL Lib.decodeN
    simp [h]
  rw [e1, e2]
  by_cases hs : sgnI (b.toNat : Int) = false
  · rw [if_pos hs]; exact Agree.no (by omega) (.inl hs)
  · rw [if_neg hs]; exact Agree.yes (Nat.le_refl 1) (by simpa using hs) (.inl (by omega))
theorem agree_bad (b : UInt8) (r : Bs) (h : leadN b.toNat = 0) : Agree (nxtN (b :: r)) (decL (b :: r)) := by
  have e1 : nxtN (b :: r) = (0, 0) := by
    unfold nxtN
    simp only [h, Nat.zero_sub, tl_zero, true_or, if_true]
  have e2 : decL (b :: r) = (65533, 1) := by
    have hb : ¬ b.toNat < 128 ∧ ¬ (194 ≤ b.toNat ∧ b.toNat ≤ 223) ∧ ¬ (224 ≤ b.toNat ∧ b.toNat ≤ 239) ∧ ¬ (240 ≤ b.toNat ∧ b.toNat ≤ 244) := by
      unfold leadN at h
      repeat' split at h
      all_goals first | (cases h; done) | skip
      exact ⟨by assumption, by assumption, by assumption, by assumption⟩
    have := u8_lt b
    unfold decL Lib.decodeN
    rw [if_neg (by simp)]
    simp only [List.getD_cons_zero]
    generalize ((b :: r).getD 1 0).toNat = b1
    generalize ((b :: r).getD 2 0).toNat = b2
    generalize ((b :: r).getD 3 0).toNat = b3
    generalize (b :: r).length = n
    generalize b.toNat = b0 at *
    obtain ⟨h1, h2, h3, h4⟩ := hb
    repeat' split
    all_goals first | rfl | (exfalso; omega) | skip
  rw [e1, e2]
  exact Agree.no (by omega) (.inr ⟨rfl, by simp⟩)
theorem agree_two (b : UInt8) (r : Bs) (h : leadN b.toNat = 2) : Agree (nxtN (b :: r)) (decL (b :: r)) := by
  have hb : 194 ≤ b.toNat ∧ b.toNat ≤ 223 := by
    unfold leadN at h
    repeat' split at h
    all_goals first | (cases h; done) | assumption
  have hf : fstN b.toNat = b.toNat % 32 := by unfold fstN; rw [if_pos h]
  unfold nxtN
  simp only [h, hf]
  cases r with
  | nil =>
    rw [tl_nil]
    have e2 : decL [b] = (65533, 1) := by
      unfold decL Lib.decodeN
      simp only [List.cons_ne_nil, if_false, List.getD_cons_zero, List.length_cons, List.length_nil]
      generalize b.toNat = b0 at *
      repeat' split
      all_goals first | rfl | (exfalso; omega)
    rw [e2]; exact Agree.no (by omega) (.inr ⟨rfl, by simp⟩)
  | cons c r =>
    have e2 : decL (b :: c :: r) = if 128 ≤ c.toNat ∧ c.toNat ≤ 191 then (b.toNat % 32 * 64 + c.toNat % 64, 2) else (65533, 1) := by
      have := u8_lt c
      unfold decL Lib.decodeN
      simp only [List.cons_ne_nil, if_false, List.getD_cons_zero, List.getD_cons_succ, List.length_cons]
      generalize b.toNat = b0 at *
      generalize c.toNat = b1 at *
      generalize (r.getD 0 0).toNat = b2
      generalize (r.getD 1 0).toNat = b3
      repeat' split
      all_goals first | rfl | (exfalso; omega)
    have hs : secN b.toNat c.toNat = true := by
      rw [← Bool.not_eq_false, secN_iff]; omega
    rw [e2, tl_cons, tl_zero]
    simp only [hs, Bool.true_eq_false, and_false, or_false]
    by_cases hc : 128 ≤ c.toNat ∧ c.toNat ≤ 191
    · rw [if_neg (by simpa using hc), if_pos hc]
      have e : b.toNat % 32 * 64 + c.toNat - 128 = b.toNat % 32 * 64 + c.toNat % 64 := by omega
      have hsg : sgnI ((b.toNat % 32 * 64 + c.toNat % 64 : Nat) : Int) = true := by rw [sgnI_iff]; omega
      rw [e, hsg]
      rw [if_neg (by simp)]
      exact Agree.yes (by omega) hsg (.inl (by omega))
    · rw [if_pos (by simpa using hc), if_neg hc]
      exact Agree.no (by omega) (.inr ⟨rfl, by simp⟩)
theorem agree_three (b : UInt8) (r : Bs) (h : leadN b.toNat = 3) : Agree (nxtN (b :: r)) (decL (b :: r)) := by
  have hb : 224 ≤ b.toNat ∧ b.toNat ≤ 239 := by
    unfold leadN at h
    repeat' split at h
    all_goals first | (cases h; done) | assumption
  have hf : fstN b.toNat = b.toNat % 16 := by unfold fstN; rw [if_neg (by omega), if_pos h]
  have hbad : ∀ t : Bs, (∀ c d u, t = c :: d :: u → ¬ (128 ≤ c.toNat ∧ c.toNat ≤ 191 ∧ secN b.toNat c.toNat = true ∧ 128 ≤ d.toNat ∧ d.toNat ≤ 191)) → sgnOk (decL (b :: t)) = false := by
    intro t ht
    have e : decL (b :: t) = (65533, 1) := by
      match t, ht with
      | [], ht =>
        unfold decL Lib.decodeN
        simp only [List.cons_ne_nil, if_false, List.getD_cons_zero, List.length_cons, List.length_nil]
        generalize b.toNat = b0 at *
        repeat' split
        all_goals first | rfl | (exfalso; omega)
      | [c], ht =>
        unfold decL Lib.decodeN
        simp only [List.cons_ne_nil, if_false, List.getD_cons_zero, List.getD_cons_succ, List.length_cons, List.length_nil]
        generalize b.toNat = b0 at *
        repeat' split
        all_goals first | rfl | (exfalso; omega)
      | c :: d :: u, ht =>
        have hn := ht c d u rfl
        rw [← Bool.not_eq_false, secN_iff] at hn
        have := u8_lt c; have := u8_lt d
        unfold decL Lib.decodeN
        simp only [List.cons_ne_nil, if_false, List.getD_cons_zero, List.getD_cons_succ, List.length_cons]
        generalize b.toNat = b0 at *
        generalize c.toNat = b1 at *
        generalize d.toNat = b2 at *
        generalize (u.getD 0 0).toNat = b3
        clear ht
        repeat' split
        all_goals first | rfl | (exfalso; omega)
    rw [e]; rfl
  unfold nxtN
  simp only [h, hf]
  match r, hbad with
  | [], hbad =>
    rw [tl_nil]; unfold Agree; rw [if_neg (by simp only; omega)]
    exact hbad [] (fun c d u e => by cases e)
  | [c], hbad =>
    rw [tl_cons, tl_nil]
    have : sgnOk (decL [b, c]) = false := hbad [c] (fun c d u e => by cases e)
    unfold Agree
    rw [if_neg (by split <;> simp)]
    exact this
  | c :: d :: u, hbad =>
    have hbad := hbad (c :: d :: u)
    have hg : (∀ c' d' u', c :: d :: u = c' :: d' :: u' → ¬ (128 ≤ c'.toNat ∧ c'.toNat ≤ 191 ∧ secN b.toNat c'.toNat = true ∧ 128 ≤ d'.toNat ∧ d'.toNat ≤ 191)) ↔ ¬ (128 ≤ c.toNat ∧ c.toNat ≤ 191 ∧ secN b.toNat c.toNat = true ∧ 128 ≤ d.toNat ∧ d.toNat ≤ 191) :=
      ⟨fun q => q c d u rfl, fun q c' d' u' e => by cases e; exact q⟩
    rw [hg] at hbad
    rw [tl_cons, tl_cons, tl_zero]
    by_cases hc : ¬ (128 ≤ c.toNat ∧ c.toNat ≤ 191) ∨ (true = true ∧ secN b.toNat c.toNat = false)
    · rw [if_pos hc]; unfold Agree; rw [if_neg (by simp only; omega)]
      refine hbad fun q => ?_
      rcases hc with hc | ⟨_, hc⟩
      · exact hc ⟨q.1, q.2.1⟩
      · rw [q.2.2.1] at hc; cases hc
    · rw [if_neg hc]
      have hc1 : 128 ≤ c.toNat ∧ c.toNat ≤ 191 := Decidable.not_not.1 fun q => hc (.inl q)
      have hc2 : secN b.toNat c.toNat = true := by
        cases q : secN b.toNat c.toNat with
        | true => rfl
        | false => exact absurd (.inr ⟨rfl, q⟩) hc
      by_cases hd : 128 ≤ d.toNat ∧ d.toNat ≤ 191
      · rw [if_neg (by simpa using hd)]
        have hc3 := hc2
        rw [← Bool.not_eq_false, secN_iff] at hc3
        have e2 : decL (b :: c :: d :: u) = (b.toNat % 16 * 4096 + c.toNat % 64 * 64 + d.toNat % 64, 3) := by
          have := u8_lt c; have := u8_lt d
          unfold decL Lib.decodeN
          simp only [List.cons_ne_nil, if_false, List.getD_cons_zero, List.getD_cons_succ, List.length_cons]
          generalize b.toNat = b0 at *
          generalize c.toNat = b1 at *
          generalize d.toNat = b2 at *
          generalize (u.getD 0 0).toNat = b3
          clear hbad hg hc hc2
          repeat' split
          all_goals first | rfl | (exfalso; omega)
        have e : (b.toNat % 16 * 64 + c.toNat - 128) * 64 + d.toNat - 128 = b.toNat % 16 * 4096 + c.toNat % 64 * 64 + d.toNat % 64 := by omega
        rw [e2, e]
        by_cases hsg : sgnI ((b.toNat % 16 * 4096 + c.toNat % 64 * 64 + d.toNat % 64 : Nat) : Int) = false
        · rw [if_pos (.inr hsg)]; exact Agree.no (by omega) (.inl hsg)
        · rw [if_neg (fun q => q.elim (by decide) hsg)]
          exact Agree.yes (by omega) (by simpa using hsg) (.inr rfl)
      · rw [if_pos (.inl hd)]; unfold Agree; rw [if_neg (by simp only; omega)]
        exact hbad fun q => hd ⟨q.2.2.2.1, q.2.2.2.2⟩
theorem agree_four (b : UInt8) (r : Bs) (h : leadN b.toNat = 4) : Agree (nxtN (b :: r)) (decL (b :: r)) := by
  have hb : 240 ≤ b.toNat ∧ b.toNat ≤ 244 := by
    unfold leadN at h
    repeat' split at h
    all_goals first | (cases h; done) | assumption
  have hf : fstN b.toNat = b.toNat % 8 := by unfold fstN; rw [if_neg (by omega), if_neg (by omega), if_pos h]
  have hbad : ∀ t : Bs, (∀ c d f u, t = c :: d :: f :: u → ¬ (128 ≤ c.toNat ∧ c.toNat ≤ 191 ∧ secN b.toNat c.toNat = true ∧ 128 ≤ d.toNat ∧ d.toNat ≤ 191 ∧ 128 ≤ f.toNat ∧ f.toNat ≤ 191)) → sgnOk (decL (b :: t)) = false := by
    intro t ht
    have e : decL (b :: t) = (65533, 1) := by
      match t, ht with
      | [], ht =>
        unfold decL Lib.decodeN
        simp only [List.cons_ne_nil, if_false, List.getD_cons_zero, List.length_cons, List.length_nil]
        generalize b.toNat = b0 at *
        repeat' split
        all_goals first | rfl | (exfalso; omega)
      | [c], ht =>
        unfold decL Lib.decodeN
        simp only [List.cons_ne_nil, if_false, List.getD_cons_zero, List.getD_cons_succ, List.length_cons, List.length_nil]
        generalize b.toNat = b0 at *
        repeat' split
        all_goals first | rfl | (exfalso; omega)
      | [c, d], ht =>
        unfold decL Lib.decodeN
        simp only [List.cons_ne_nil, if_false, List.getD_cons_zero, List.getD_cons_succ, List.length_cons, List.length_nil]
        generalize b.toNat = b0 at *
        repeat' split
        all_goals first | rfl | (exfalso; omega)
      | c :: d :: f :: u, ht =>
        have hn := ht c d f u rfl
        rw [← Bool.not_eq_false, secN_iff] at hn
        have := u8_lt c; have := u8_lt d; have := u8_lt f
        unfold decL Lib.decodeN
        simp only [List.cons_ne_nil, if_false, List.getD_cons_zero, List.getD_cons_succ, List.length_cons]
        generalize b.toNat = b0 at *
        generalize c.toNat = b1 at *
        generalize d.toNat = b2 at *
        generalize f.toNat = b3 at *
        clear ht
        repeat' split
        all_goals first | rfl | (exfalso; omega)
    rw [e]; rfl
  unfold nxtN
  simp only [h, hf]
  match r, hbad with
  | [], hbad =>
    rw [tl_nil]; unfold Agree; rw [if_neg (by simp only; omega)]
    exact hbad [] (fun c d f u e => by cases e)
  | [c], hbad =>
    rw [tl_cons, tl_nil]
    have : sgnOk (decL [b, c]) = false := hbad [c] (fun c d f u e => by cases e)
    unfold Agree
    rw [if_neg (by split <;> simp)]
    exact this
  | [c, d], hbad =>
    rw [tl_cons, tl_cons, tl_nil]
    have : sgnOk (decL [b, c, d]) = false := hbad [c, d] (fun c d f u e => by cases e)
    unfold Agree
    rw [if_neg (by repeat' split
                   all_goals simp)]
    exact this
  | c :: d :: f :: u, hbad =>
    have hbad := hbad (c :: d :: f :: u)
    have hg : (∀ c' d' f' u', c :: d :: f :: u = c' :: d' :: f' :: u' → ¬ (128 ≤ c'.toNat ∧ c'.toNat ≤ 191 ∧ secN b.toNat c'.toNat = true ∧ 128 ≤ d'.toNat ∧ d'.toNat ≤ 191 ∧ 128 ≤ f'.toNat ∧ f'.toNat ≤ 191)) ↔ ¬ (128 ≤ c.toNat ∧ c.toNat ≤ 191 ∧ secN b.toNat c.toNat = true ∧ 128 ≤ d.toNat ∧ d.toNat ≤ 191 ∧ 128 ≤ f.toNat ∧ f.toNat ≤ 191) :=
      ⟨fun q => q c d f u rfl, fun q c' d' f' u' e => by cases e; exact q⟩
    rw [hg] at hbad
    rw [tl_cons, tl_cons, tl_cons, tl_zero]
    by_cases hc : ¬ (128 ≤ c.toNat ∧ c.toNat ≤ 191) ∨ (true = true ∧ secN b.toNat c.toNat = false)
    · rw [if_pos hc]; unfold Agree; rw [if_neg (by simp only; omega)]
      refine hbad fun q => ?_
      rcases hc with hc | ⟨_, hc⟩
      · exact hc ⟨q.1, q.2.1⟩
      · rw [q.2.2.1] at hc; cases hc
    · rw [if_neg hc]
      have hc1 : 128 ≤ c.toNat ∧ c.toNat ≤ 191 := Decidable.not_not.1 fun q => hc (.inl q)
      have hc2 : secN b.toNat c.toNat = true := by
        cases q : secN b.toNat c.toNat with
        | true => rfl
        | false => exact absurd (.inr ⟨rfl, q⟩) hc
      by_cases hd : 128 ≤ d.toNat ∧ d.toNat ≤ 191
      · rw [if_neg (by simpa using hd)]
        by_cases hff : 128 ≤ f.toNat ∧ f.toNat ≤ 191
        · rw [if_neg (by simpa using hff)]
          have hc3 := hc2
          rw [← Bool.not_eq_false, secN_iff] at hc3
          have hlow : 65536 ≤ b.toNat % 8 * 262144 + c.toNat % 64 * 4096 + d.toNat % 64 * 64 + f.toNat % 64 ∧ b.toNat % 8 * 262144 + c.toNat % 64 * 4096 + d.toNat % 64 * 64 + f.toNat % 64 ≤ 1114111 := by
            clear hbad hg hc hc2
            generalize b.toNat = b0 at *
            generalize c.toNat = b1 at *
            generalize d.toNat = b2 at *
            generalize f.toNat = b3 at *
            omega
          have e2 : decL (b :: c :: d :: f :: u) = (b.toNat % 8 * 262144 + c.toNat % 64 * 4096 + d.toNat % 64 * 64 + f.toNat % 64, 4) := by
            unfold decL Lib.decodeN
            simp only [List.cons_ne_nil, if_false, List.getD_cons_zero, List.getD_cons_succ, List.length_cons]
            generalize b.toNat = b0 at *
            generalize c.toNat = b1 at *
            generalize d.toNat = b2 at *
            generalize f.toNat = b3 at *
            clear hbad hg hc hc2
            repeat' split
            all_goals first | rfl | (exfalso; omega)
          have e : ((b.toNat % 8 * 64 + c.toNat - 128) * 64 + d.toNat - 128) * 64 + f.toNat - 128 = b.toNat % 8 * 262144 + c.toNat % 64 * 4096 + d.toNat % 64 * 64 + f.toNat % 64 := by omega
          have hsg : sgnI ((b.toNat % 8 * 262144 + c.toNat % 64 * 4096 + d.toNat % 64 * 64 + f.toNat % 64 : Nat) : Int) = true := by rw [sgnI_iff]; omega
          rw [e2, e, if_neg (fun q => q.elim (by decide) (fun q => by rw [hsg] at q; cases q))]
          exact Agree.yes (by omega) hsg (.inl (by omega))
        · rw [if_pos (.inl hff)]; unfold Agree; rw [if_neg (by simp only; omega)]
          exact hbad fun q => hff ⟨q.2.2.2.2.2.1, q.2.2.2.2.2.2⟩
      · rw [if_pos (.inl hd)]; unfold Agree; rw [if_neg (by simp only; omega)]
        exact hbad fun q => hd ⟨q.2.2.2.1, q.2.2.2.2.1⟩
theorem agree (b : UInt8) (r : Bs) : Agree (nxtN (b :: r)) (decL (b :: r)) := by
  by_cases h : b.toNat < 128
  · exact agree_one b r h
  · have : leadN b.toNat = 0 ∨ leadN b.toNat = 2 ∨ leadN b.toNat = 3 ∨ leadN b.toNat = 4 := by
      unfold leadN
      rw [if_neg h]
      repeat' split
      all_goals simp
    rcases this with q | q | q | q
    · exact agree_bad b r q
    · exact agree_two b r q
    · exact agree_three b r q
    · exact agree_four b r q
/-- all of a text is signs -/
def utfL : Nat → Bs → Bool
  | 0, _ => true
  | _ + 1, [] => true
  | k + 1, b :: r => if (nxtN (b :: r)).2 < 1 then false else utfL k ((b :: r).drop (nxtN (b :: r)).2.toNat)
def textOk (s : Bs) : Bool := utfL s.length s
theorem utfL_more : ∀ (k j : Nat) (s : Bs), s.length ≤ k → s.length ≤ j → utfL k s = utfL j s
  | 0, j, s, hk, hj => by
    have : s = [] := List.eq_nil_of_length_eq_zero (by omega)
    subst this; cases j <;> rfl
  | k + 1, 0, s, hk, hj => by
    have : s = [] := List.eq_nil_of_length_eq_zero (by omega)
    subst this; rfl
  | k + 1, j + 1, [], hk, hj => rfl
  | k + 1, j + 1, b :: r, hk, hj => by
    simp only [List.length_cons] at hk hj
    unfold utfL
    split
    · rfl
    · rename_i hlt
      exact utfL_more k j _ (by rw [List.length_drop, List.length_cons]; omega) (by rw [List.length_drop, List.length_cons]; omega)
theorem textOk_nil : textOk [] = true := rfl
theorem textOk_cons (b : UInt8) (r : Bs) : textOk (b :: r) = if (nxtN (b :: r)).2 < 1 then false else textOk ((b :: r).drop (nxtN (b :: r)).2.toNat) := by
  unfold textOk
  rw [List.length_cons, utfL]
  split
  · rfl
  · exact utfL_more _ _ _ (by rw [List.length_drop, List.length_cons]; omega) (Nat.le_refl _)
/-- what Go's decoder hands back of a text -/
theorem decodeGo_eq (s : Bs) : (if (B s).size = 0 then (65533, 0) else Utf8.decode (B s) 0) = decL s := by
  cases s with
  | nil => rfl
  | cons b r =>
    have hg : ∀ i, ((B (b :: r)).get! i).toNat = ((b :: r).getD i 0).toNat := fun i => by
      show (((b :: r).toArray)[i]!).toNat = _
      rw [List.getElem!_toArray, List.getElem!_eq_getElem?_getD, List.getD_eq_getElem?_getD]
      rfl
    unfold decL
    rw [if_neg (by simp [B, ByteArray.size]), if_neg (by simp), Lib.decode_at, hg, hg, hg, hg]
    rfl
end Go.Abs
namespace Go.Abs
set_option linter.unusedSimpArgs false
set_option linter.unusedVariables false
/-! ### fields between bars, numbers in decimals: plain -/
/-- a text with a backslash ahead of each bar and backslash -/
def fieldL (s : Bs) : Bs := s.flatMap fun b => if b = 124 ∨ b = 92 then [92, b] else [b]
theorem fieldL_nil : fieldL [] = [] := rfl
theorem fieldL_cons (b : UInt8) (r : Bs) : fieldL (b :: r) = (if b = 124 ∨ b = 92 then [92, b] else [b]) ++ fieldL r := by simp [fieldL]
theorem fieldL_len : ∀ (s : Bs), (fieldL s).length ≤ 2 * s.length
  | [] => by simp [fieldL_nil]
  | b :: r => by
    have := fieldL_len r
    rw [fieldL_cons, List.length_append, List.length_cons]
    split <;> simp only [List.length_cons, List.length_nil] <;> omega
theorem fieldL_same : ∀ (s : Bs), (∀ b ∈ s, b ≠ 124 ∧ b ≠ 92) → fieldL s = s
  | [], _ => rfl
  | b :: r, h => by
    rw [fieldL_cons, if_neg (by have := h b (by simp); simp [this.1, this.2]), fieldL_same r (fun x hx => h x (by simp [hx]))]
    rfl
/-- the texts between bars: what has been read of one, and what follows -/
def fieldsL : Bs → Bs → List Bs
  | cur, [] => [cur]
  | cur, [b] => if b = 124 then [cur, []] else [cur ++ [b]]
  | cur, b :: c :: r => if b = 124 then cur :: fieldsL [] (c :: r) else if b = 92 then fieldsL (cur ++ [c]) r else fieldsL (cur ++ [b]) (c :: r)
theorem fieldsL_bar (cur r : Bs) : fieldsL cur (124 :: r) = cur :: fieldsL [] r := by
  cases r with
  | nil => simp [fieldsL]
  | cons c r => rw [fieldsL]; simp
theorem fieldsL_esc (cur r : Bs) (c : UInt8) : fieldsL cur (92 :: c :: r) = fieldsL (cur ++ [c]) r := by rw [fieldsL]; simp
theorem fieldsL_one (cur r : Bs) (b : UInt8) (h : b ≠ 124) (h2 : b ≠ 92 ∨ r = []) : fieldsL cur (b :: r) = fieldsL (cur ++ [b]) r := by
  cases r with
  | nil =>
    have e1 : fieldsL cur [b] = if b = 124 then [cur, []] else [cur ++ [b]] := by rw [fieldsL]
    have e2 : fieldsL (cur ++ [b]) [] = [cur ++ [b]] := by rw [fieldsL]
    rw [e1, e2, if_neg h]
  | cons c r => rw [fieldsL, if_neg h, if_neg (by rcases h2 with h2 | h2; exact h2; cases h2)]
theorem fieldsL_field : ∀ (p cur t : Bs), fieldsL cur (fieldL p ++ t) = fieldsL (cur ++ p) t
  | [], cur, t => by rw [fieldL_nil, List.nil_append, List.append_nil]
  | b :: r, cur, t => by
    rw [fieldL_cons]
    by_cases h : b = 124 ∨ b = 92
    · rw [if_pos h]
      show fieldsL cur (92 :: b :: (fieldL r ++ t)) = _
      rw [fieldsL_esc, fieldsL_field r]; simp
    · rw [if_neg h]
      show fieldsL cur (b :: (fieldL r ++ t)) = _
      rw [fieldsL_one _ _ _ (fun q => h (.inl q)) (.inl fun q => h (.inr q)), fieldsL_field r]; simp
/-- texts with bars between -/
def joinE : List Bs → Bs
  | [] => []
  | [p] => fieldL p
  | p :: q :: r => fieldL p ++ 124 :: joinE (q :: r)
theorem fieldsL_joinE : ∀ (p : Bs) (r : List Bs), fieldsL [] (joinE (p :: r)) = p :: r
  | p, [] => by
    have := fieldsL_field p [] []
    rw [List.append_nil] at this
    rw [joinE, this, List.nil_append, fieldsL]
  | p, q :: r => by
    rw [joinE, fieldsL_field, fieldsL_bar, fieldsL_joinE q r, List.nil_append]
theorem fieldsL_len : ∀ (s cur : Bs), (fieldsL cur s).length ≤ s.length + 1
  | [], cur => by simp [fieldsL]
  | [b], cur => by rw [fieldsL]; split <;> simp
  | b :: c :: r, cur => by
    have h1 := fieldsL_len (c :: r) []
    have h2 := fieldsL_len r (cur ++ [c])
    have h3 := fieldsL_len (c :: r) (cur ++ [b])
    simp only [List.length_cons] at h1 h2 h3 ⊢
    rw [fieldsL]
    split
    · simp only [List.length_cons]; omega
    · split <;> omega
theorem fieldsL_each : ∀ (s cur : Bs), ∀ x ∈ fieldsL cur s, x.length ≤ cur.length + s.length
  | [], cur, x, hx => by simp [fieldsL] at hx; subst hx; simp
  | [b], cur, x, hx => by
    rw [fieldsL] at hx
    split at hx
    · simp at hx; rcases hx with rfl | rfl <;> simp
    · simp at hx; subst hx; simp
  | b :: c :: r, cur, x, hx => by
    rw [fieldsL] at hx
    split at hx
    · rcases List.mem_cons.1 hx with rfl | hx
      · simp
      · have := fieldsL_each (c :: r) [] x hx
        simp only [List.length_cons, List.length_nil] at this ⊢; omega
    · split at hx
      · have := fieldsL_each r (cur ++ [c]) x hx
        simp only [List.length_cons, List.length_append, List.length_nil] at this ⊢; omega
      · have := fieldsL_each (c :: r) (cur ++ [b]) x hx
        simp only [List.length_cons, List.length_append, List.length_nil] at this ⊢; omega
/-- decimals, of at most so many figures -/
def decF : Nat → Nat → Bs
  | 0, _ => []
  | k + 1, n => if n < 10 then [UInt8.ofNat (48 + n)] else decF k (n / 10) ++ [UInt8.ofNat (48 + n % 10)]
/-- the decimals of a number that is not below nought -/
def decI (n : Int) : Bs := Lib.decDigits n.toNat
theorem decDigits_F : ∀ (k n : Nat), n < 10 ^ k → 0 < k → Lib.decDigits n = decF k n
  | 0, n, h, h0 => by omega
  | k + 1, n, h, h0 => by
    rw [Lib.decDigits, decF]
    by_cases hn : n < 10
    · simp only [hn, dif_pos, if_true]
    · simp only [hn, dif_neg, if_false, not_false_eq_true]
      have hk : 0 < k := by
        rcases Nat.eq_zero_or_pos k with q | q
        · subst q; simp at h; omega
        · exact q
      rw [decDigits_F k (n / 10) (by rw [Nat.pow_succ] at h; omega) hk]
/-- the number that figures are, as the reference reads it -/
def numAcc : Nat → Nat → Bs → Option Nat
  | _, n, [] => some n
  | k, n, b :: r => if ¬ (48 ≤ b.toNat ∧ b.toNat ≤ 57) ∨ 9 ≤ k then none else numAcc (k + 1) (n * 10 + (b.toNat - 48)) r
def numS (s : Bs) : Int := match numAcc 0 0 s with
  | none => -1
  | some n => if s = [] ∨ (1 < s.length ∧ s.head? = some 48) then -1 else n
def fig (b : UInt8) : Prop := 48 ≤ b.toNat ∧ b.toNat ≤ 57
def valN : Nat → Bs → Nat
  | a, [] => a
  | a, b :: r => valN (a * 10 + (b.toNat - 48)) r
theorem valN_ge : ∀ (l : Bs) (a : Nat), a ≤ valN a l
  | [], a => Nat.le_refl _
  | b :: r, a => Nat.le_trans (by omega) (valN_ge r (a * 10 + (b.toNat - 48)))
theorem valN_snoc (b : UInt8) : ∀ (l : Bs) (a : Nat), valN a (l ++ [b]) = valN a l * 10 + (b.toNat - 48)
  | [], a => rfl
  | c :: r, a => valN_snoc b r _
theorem fig_of {d : Nat} (h : d < 10) : (UInt8.ofNat (48 + d)).toNat = 48 + d := by
  rw [UInt8.toNat_ofNat']; omega
theorem decF_fig : ∀ (k n : Nat), ∀ b ∈ decF k n, fig b
  | 0, n, b, hb => by cases hb
  | k + 1, n, b, hb => by
    rw [decF] at hb
    split at hb
    · rename_i h
      rw [List.mem_singleton] at hb; subst hb
      unfold fig; rw [fig_of h]; omega
    · rcases List.mem_append.1 hb with hb | hb
      · exact decF_fig k _ b hb
      · rw [List.mem_singleton] at hb; subst hb
        have : n % 10 < 10 := Nat.mod_lt _ (by omega)
        unfold fig; rw [fig_of this]; omega
theorem decF_val : ∀ (k n : Nat), n < 10 ^ k → 0 < k → valN 0 (decF k n) = n
  | 0, n, h, h0 => by omega
  | k + 1, n, h, h0 => by
    rw [decF]
    split
    · rename_i q
      show 0 * 10 + ((UInt8.ofNat (48 + n)).toNat - 48) = n
      rw [fig_of q]
      clear h
      omega
    · rename_i hn
      have hk : 0 < k := by
        rcases Nat.eq_zero_or_pos k with q | q
        · subst q; simp at h; omega
        · exact q
      rw [valN_snoc, decF_val k (n / 10) (by rw [Nat.pow_succ] at h; omega) hk, fig_of (Nat.mod_lt _ (by omega))]
      omega
theorem decF_len : ∀ (k n : Nat), (decF k n).length ≤ k
  | 0, n => by simp [decF]
  | k + 1, n => by
    have := decF_len k (n / 10)
    rw [decF]
    split
    · simp
    · simp only [List.length_append, List.length_cons, List.length_nil]; omega
theorem decF_head : ∀ (k n : Nat), n < 10 ^ k → 0 < k → decF k n ≠ [] ∧ (1 < (decF k n).length → (decF k n).head? ≠ some 48)
  | 0, n, h, h0 => by omega
  | k + 1, n, h, h0 => by
    rw [decF]
    split
    · exact ⟨by simp, fun q => by simp at q⟩
    · rename_i hn
      have hk : 0 < k := by
        rcases Nat.eq_zero_or_pos k with q | q
        · subst q; simp at h; omega
        · exact q
      have hlt : n / 10 < 10 ^ k := by rw [Nat.pow_succ] at h; omega
      obtain ⟨a, b⟩ := decF_head k (n / 10) hlt hk
      refine ⟨by simp, fun _ => ?_⟩
      have hh : (decF k (n / 10) ++ [UInt8.ofNat (48 + n % 10)]).head? = (decF k (n / 10)).head? := by
        cases hq : decF k (n / 10) with
        | nil => exact absurd hq a
        | cons x t => rfl
      rw [hh]
      by_cases h1 : 1 < (decF k (n / 10)).length
      · exact b h1
      · obtain ⟨x, hx⟩ : ∃ x, decF k (n / 10) = [x] := by
          match hq : decF k (n / 10), a, h1 with
          | [x], _, _ => exact ⟨x, rfl⟩
          | x :: y :: t, _, h1 => simp at h1
        have hv := decF_val k (n / 10) hlt hk
        have hf := decF_fig k (n / 10)
        rw [hx] at hv hf ⊢
        intro e
        simp only [List.head?_cons, Option.some.injEq] at e
        subst e
        have hv : 0 * 10 + ((48 : UInt8).toNat - 48) = n / 10 := hv
        have h48 : (48 : UInt8).toNat = 48 := rfl
        rw [h48] at hv
        clear hlt h hf
        omega
theorem parse_val : ∀ (l : Bs) (a : Nat), (∀ b ∈ l, fig b) → valN a l < 1844674407370955161 → Lib.parseUint10 a l = .ok (valN a l)
  | [], a, _, _ => rfl
  | b :: r, a, h, hv => by
    have hb : 48 ≤ b.toNat ∧ b.toNat ≤ 57 := h b (by simp)
    have hg := valN_ge r (a * 10 + (b.toNat - 48))
    have hv' : valN (a * 10 + (b.toNat - 48)) r < 1844674407370955161 := hv
    rw [Lib.parseUint10, if_pos hb, if_neg (by omega), if_neg (by omega)]
    exact parse_val r _ (fun x hx => h x (by simp [hx])) hv
theorem acc_val : ∀ (l : Bs) (k a : Nat), (∀ b ∈ l, fig b) → k + l.length ≤ 9 → numAcc k a l = some (valN a l)
  | [], k, a, _, _ => rfl
  | b :: r, k, a, h, hk => by
    have hb : 48 ≤ b.toNat ∧ b.toNat ≤ 57 := h b (by simp)
    simp only [List.length_cons] at hk
    rw [numAcc, if_neg (by omega)]
    exact acc_val r (k + 1) _ (fun x hx => h x (by simp [hx])) (by omega)
theorem decI_of {n : Int} (h0 : 0 ≤ n) (h1 : n < 10000) : decI n = decF 4 n.toNat := decDigits_F 4 n.toNat (by omega) (by omega)
theorem decI_num {n : Int} (h0 : 0 ≤ n) (h1 : n < 10000) : numI (decI n) = n ∧ numS (decI n) = n := by
  rw [decI_of h0 h1]
  have hv := decF_val 4 n.toNat (by omega) (by omega)
  have hf := decF_fig 4 n.toNat
  have hl := decF_len 4 n.toNat
  obtain ⟨ha, hb⟩ := decF_head 4 n.toNat (by omega) (by omega)
  constructor
  · unfold numI Lib.atoiAll
    cases hq : decF 4 n.toNat with
    | nil => exact absurd hq ha
    | cons c r =>
      rw [hq] at hv hf
      have hc : 48 ≤ c.toNat ∧ c.toNat ≤ 57 := hf c (by simp)
      have h1 : ¬ (c.toNat = 43 ∨ c.toNat = 45) := by omega
      have h2 : ¬ (c.toNat = 45) := by omega
      have hp : Lib.parseMag (c :: r) = .ok n.toNat := by
        unfold Lib.parseMag
        rw [if_neg (by simp), parse_val _ _ hf (by omega), hv]
      dsimp only
      rw [if_neg h1, hp]
      dsimp only
      rw [if_neg (by omega), if_neg (fun q => h2 q.1), if_neg h2]
      dsimp only
      omega
  · unfold numS
    rw [acc_val _ 0 0 hf (by omega), hv]
    simp only
    rw [if_neg]
    · omega
    · rintro (q | q)
      · exact ha q
      · exact hb q.1 q.2
theorem decI_plain {n : Int} (h0 : 0 ≤ n) (h1 : n < 10000) : ∀ b ∈ decI n, b ≠ 124 ∧ b ≠ 92 := by
  rw [decI_of h0 h1]
  intro b hb
  have hb : 48 ≤ b.toNat ∧ b.toNat ≤ 57 := decF_fig _ _ b hb
  constructor
  · rintro rfl; exact absurd hb (by decide)
  · rintro rfl; exact absurd hb (by decide)
theorem decI_len {n : Int} (h0 : 0 ≤ n) (h1 : n < 10000) : (decI n).length ≤ 4 := by
  rw [decI_of h0 h1]; exact decF_len _ _
theorem itoa_decI {n : Int} (h0 : 0 ≤ n) : Lib.itoa n = decI n := by unfold Lib.itoa decI; rw [if_neg (by omega)]
end Go.Abs
namespace Go.Abs
open Go.Proofs
set_option linter.unusedSimpArgs false
set_option linter.unusedVariables false
/-! ### rooms: plain -/
def ltB (x y : Bs) : Bool := Op.bytesLess x y
theorem ltB_flip (x y : Bs) : (!ltB y x) = (ltB x y || decide (x = y)) := by
  unfold ltB
  rw [bytesLess_eq, bytesLess_eq]
  by_cases h : x < y
  · have h2 : ¬ y < x := fun q => List.lt_asymm h q
    simp [h, h2]
  · by_cases h2 : y < x
    · have h3 : x ≠ y := fun e => by subst e; exact h h2
      simp [h, h2, h3]
    · have h3 : x = y := List.le_antisymm (List.not_lt.1 h2) (List.not_lt.1 h)
      subst h3; simp [h]
def prnL (s : Bs) : Bool := s.all fun b => decide (32 ≤ (b.toNat : Int)) && !((b.toNat : Int) == 127)
def nickOkL (s : Bs) : Bool := prnL s && textOk s && inI s.length 1 10 && !(s.head? == some 32) && !(s.getLast? == some 32)
def bodyOkL (s : Bs) : Bool := textOk s && inI s.length 1 60
structure Rm where
  name : Bs
  next : Int
  ms : List Me
  rs : List Rk
  sub : Bs
  deriving DecidableEq
def memOk (ms : List Me) (rs : List Rk) (m : Me) (i : Nat) : Bool :=
  userOkL m.user && nickOkL m.nick && inI m.role 1 3 && decide (ofL m.user ms 0 = (i : Int)) && decide (nickL m.nick ms 0 = (i : Int)) && !decide (rankL m.user rs = 0)
def memsOk (ms : List Me) (rs : List Rk) : List Me → Nat → Bool
  | [], _ => true
  | m :: r, i => memOk ms rs m i && memsOk ms rs r (i + 1)
def rnkOk (x : Rk) : Bool := userOkL x.user && inI x.num 0 4 && !decide (x.num = 1)
def prevOk : Option Rk → Bs → Bool
  | none, _ => true
  | some y, u => ltB y.user u
def ranksOk : List Rk → Option Rk → Bool
  | [], _ => true
  | x :: r, p => rnkOk x && prevOk p x.user && ranksOk r (some x)
def subOk (s : Bs) : Bool := decide (s = []) || bodyOkL s
def Rm.ok (r : Rm) : Bool :=
  userOkL r.name && inI r.next 0 9999 && subOk r.sub && decide (r.ms.length ≤ 5) && decide (r.rs.length ≤ 6) && memsOk r.ms r.rs r.ms 0 && ranksOk r.rs none &&
    (decide (0 < ownL r.rs 0) || (decide (r.next = 0) && decide (r.ms = []) && decide (r.rs = []) && decide (r.sub = [])))
/-- the texts of a room -/
def Rm.parts (r : Rm) : List Bs := [r.name, decI r.next, r.sub, decI r.ms.length] ++ (r.ms.flatMap fun m => [m.user, m.nick, decI m.role]) ++ r.rs.flatMap fun x => [x.user, decI x.num]
def Rm.put (r : Rm) : Bs := joinE r.parts
theorem usr_plain {s : Bs} (h : userOkL s = true) : ∀ b ∈ s, b ≠ 124 ∧ b ≠ 92 := by
  intro b hb
  unfold userOkL at h
  simp only [Bool.and_eq_true] at h
  have h1 := List.all_eq_true.1 h.1 b hb
  constructor
  · rintro rfl; exact absurd h1 (by decide)
  · rintro rfl; exact absurd h1 (by decide)
theorem inI_of {n a b : Int} (h : inI n a b = true) : a ≤ n ∧ n ≤ b := by
  unfold inI at h; simpa using h
theorem memsOk_all {ms : List Me} {rs : List Rk} : ∀ {r : List Me} {i : Nat}, memsOk ms rs r i = true → ∀ m ∈ r, userOkL m.user = true ∧ nickOkL m.nick = true ∧ inI m.role 1 3 = true
  | [], _, _, m, hm => by cases hm
  | x :: r, i, h, m, hm => by
    simp only [memsOk, memOk, Bool.and_eq_true] at h
    rcases List.mem_cons.1 hm with rfl | hm
    · exact ⟨h.1.1.1.1.1.1, h.1.1.1.1.1.2, h.1.1.1.1.2⟩
    · exact memsOk_all h.2 m hm
theorem ranksOk_all : ∀ {r : List Rk} {p : Option Rk}, ranksOk r p = true → ∀ x ∈ r, userOkL x.user = true ∧ inI x.num 0 4 = true
  | [], _, _, m, hm => by cases hm
  | x :: r, p, h, m, hm => by
    simp only [ranksOk, rnkOk, Bool.and_eq_true] at h
    rcases List.mem_cons.1 hm with rfl | hm
    · exact ⟨h.1.1.1.1, h.1.1.1.2⟩
    · exact ranksOk_all h.2 m hm
/-- what a reader of fields makes of members -/
def takeM (num : Bs → Int) : Nat → List Bs → List Me × List Bs
  | 0, w => ([], w)
  | n + 1, a :: b :: c :: w => (⟨a, b, num c⟩ :: (takeM num n w).1, (takeM num n w).2)
  | _ + 1, w => ([], w)
def takeR (num : Bs → Int) : List Bs → List Rk
  | a :: b :: w => ⟨a, num b⟩ :: takeR num w
  | _ => []
theorem takeM_parts (num : Bs → Int) (w : List Bs) : ∀ (ms : List Me), (∀ m ∈ ms, num (decI m.role) = m.role) → takeM num ms.length ((ms.flatMap fun m => [m.user, m.nick, decI m.role]) ++ w) = (ms, w)
  | [], _ => rfl
  | m :: ms, h => by
    have ih := takeM_parts num w ms (fun x hx => h x (by simp [hx]))
    simp only [List.flatMap_cons, List.length_cons, List.cons_append, List.nil_append, takeM, ih, h m (by simp)]
theorem takeR_parts (num : Bs → Int) : ∀ (rs : List Rk), (∀ x ∈ rs, num (decI x.num) = x.num) → takeR num (rs.flatMap fun x => [x.user, decI x.num]) = rs
  | [], _ => rfl
  | x :: rs, h => by
    have ih := takeR_parts num rs (fun y hy => h y (by simp [hy]))
    simp only [List.flatMap_cons, List.cons_append, List.nil_append, takeR, ih, h x (by simp)]
/-- as the program reads a room -/
def rdI : List Bs → Option Rm
  | a :: b :: c :: d :: p =>
    if inI (numI d) 0 5 = false ∨ p.length < 3 * (numI d).toNat ∨ (p.length - 3 * (numI d).toNat) % 2 ≠ 0 ∨ 12 < p.length - 3 * (numI d).toNat then none
    else some ⟨a, numI b, (takeM numI (numI d).toNat p).1, takeR numI (takeM numI (numI d).toNat p).2, c⟩
  | _ => none
/-- as the reference reads one -/
def rdS : List Bs → Option Rm
  | a :: b :: c :: d :: p => some ⟨a, numS b, (takeM numS (numS d).toNat p).1, takeR numS (takeM numS (numS d).toNat p).2, c⟩
  | _ => none
def sealL (s : Bs) (r : Option Rm) : Option Rm := r.bind fun r => if r.ok = true ∧ r.put = s then some r else none
def getI (s : Bs) : Option Rm := sealL s (rdI (fieldsL [] s))
def getS (s : Bs) : Option Rm := sealL s (rdS (fieldsL [] s))
theorem seal_some {s : Bs} {o : Option Rm} {r : Rm} (h : sealL s o = some r) : o = some r ∧ r.ok = true ∧ r.put = s := by
  unfold sealL at h
  rw [Option.bind_eq_some_iff] at h
  obtain ⟨x, e1, e2⟩ := h
  split at e2
  · rename_i hc; injection e2 with e2; subst e2; exact ⟨e1, hc⟩
  · cases e2
theorem seal_mk {s : Bs} {r : Rm} (h : r.ok = true) (h2 : r.put = s) : sealL s (some r) = some r := by
  unfold sealL; rw [Option.bind_some, if_pos ⟨h, h2⟩]
structure Rm.Nums (r : Rm) : Prop where
  n : 0 ≤ r.next ∧ r.next ≤ 9999
  m : r.ms.length ≤ 5
  k : r.rs.length ≤ 6
  ms : ∀ m ∈ r.ms, 0 ≤ m.role ∧ m.role < 10000
  rs : ∀ x ∈ r.rs, 0 ≤ x.num ∧ x.num < 10000
theorem Rm.ok_nums {r : Rm} (h : r.ok = true) : r.Nums := by
  simp only [Rm.ok, Bool.and_eq_true, decide_eq_true_eq] at h
  obtain ⟨⟨⟨⟨⟨⟨⟨h1, h2⟩, h3⟩, h4⟩, h5⟩, h6⟩, h7⟩, h8⟩ := h
  refine ⟨inI_of h2, h4, h5, fun m hm => ?_, fun x hx => ?_⟩
  · have := inI_of (memsOk_all h6 m hm).2.2; omega
  · have := inI_of (ranksOk_all h7 x hx).2; omega
theorem parts_len (r : Rm) : r.parts.length = 4 + 3 * r.ms.length + 2 * r.rs.length := by
  have h1 : (r.ms.flatMap fun m => [m.user, m.nick, decI m.role]).length = 3 * r.ms.length := by
    induction r.ms with
    | nil => rfl
    | cons m ms ih => simp only [List.flatMap_cons, List.length_append, ih, List.length_cons, List.length_nil]; omega
  have h2 : (r.rs.flatMap fun x => [x.user, decI x.num]).length = 2 * r.rs.length := by
    induction r.rs with
    | nil => rfl
    | cons m ms ih => simp only [List.flatMap_cons, List.length_append, ih, List.length_cons, List.length_nil]; omega
  simp only [Rm.parts, List.length_append, h1, h2, List.length_cons, List.length_nil]
theorem rd_parts {r : Rm} (h : r.ok = true) : rdI r.parts = some r ∧ rdS r.parts = some r := by
  have q := Rm.ok_nums h
  have hl := parts_len r
  have m0 : 0 ≤ (r.ms.length : Int) ∧ (r.ms.length : Int) < 10000 := ⟨by omega, by have := q.m; omega⟩
  have e1 := decI_num q.n.1 (by have := q.n.2; omega)
  have e2 := decI_num m0.1 m0.2
  have f1 : ∀ num : Bs → Int, (∀ n : Int, 0 ≤ n → n < 10000 → num (decI n) = n) →
      takeM num r.ms.length ((r.ms.flatMap fun m => [m.user, m.nick, decI m.role]) ++ r.rs.flatMap fun x => [x.user, decI x.num]) = (r.ms, r.rs.flatMap fun x => [x.user, decI x.num]) ∧
      takeR num (r.rs.flatMap fun x => [x.user, decI x.num]) = r.rs := fun num hn =>
    ⟨takeM_parts num _ r.ms fun m hm => hn _ (q.ms m hm).1 (q.ms m hm).2, takeR_parts num r.rs fun x hx => hn _ (q.rs x hx).1 (q.rs x hx).2⟩
  have a1 := f1 numI fun n h0 h1 => (decI_num h0 h1).1
  have a2 := f1 numS fun n h0 h1 => (decI_num h0 h1).2
  have hp : r.parts = r.name :: decI r.next :: r.sub :: decI r.ms.length :: ((r.ms.flatMap fun m => [m.user, m.nick, decI m.role]) ++ r.rs.flatMap fun x => [x.user, decI x.num]) := by
    simp [Rm.parts]
  rw [hp] at hl ⊢
  simp only [List.length_cons] at hl
  constructor
  · unfold rdI
    simp only [e1.1, e2.1, Int.toNat_natCast, a1.1, a1.2]
    rw [if_neg]
    have := q.m; have := q.k
    rw [not_or, not_or, not_or]
    refine ⟨?_, by omega, by omega, by omega⟩
    simp only [inI, Bool.and_eq_false_iff, decide_eq_false_iff_not]
    omega
  · unfold rdS
    simp only [e1.2, e2.2, Int.toNat_natCast, a2.1, a2.2]
theorem getI_iff (s : Bs) (r : Rm) : getI s = some r ↔ r.ok = true ∧ r.put = s := by
  constructor
  · intro h; exact (seal_some h).2
  · rintro ⟨h1, h2⟩
    unfold getI
    rw [← h2, show fieldsL [] r.put = r.parts from fieldsL_joinE _ _, (rd_parts h1).1]
    exact seal_mk h1 rfl
theorem getS_iff (s : Bs) (r : Rm) : getS s = some r ↔ r.ok = true ∧ r.put = s := by
  constructor
  · intro h; exact (seal_some h).2
  · rintro ⟨h1, h2⟩
    unfold getS
    rw [← h2, show fieldsL [] r.put = r.parts from fieldsL_joinE _ _, (rd_parts h1).2]
    exact seal_mk h1 rfl
theorem get_same (s : Bs) : getI s = getS s := by
  apply Option.ext
  intro r
  exact (getI_iff s r).trans (getS_iff s r).symm
theorem rmput_ne {r : Rm} (h : r.ok = true) : r.put ≠ [] := by
  intro q
  have h1 : fieldsL [] r.put = r.parts := fieldsL_joinE _ _
  have h2 := parts_len r
  rw [q] at h1
  rw [← h1] at h2
  simp only [fieldsL, List.length_cons, List.length_nil] at h2
  omega
theorem joinE_cons (p : Bs) : ∀ (r : List Bs), joinE (p :: r) = fieldL p ++ r.flatMap fun q => 124 :: fieldL q
  | [] => by simp [joinE]
  | q :: r => by rw [joinE, joinE_cons q r]; simp
/-- a room's text, as both write it -/
theorem put_eq {r : Rm} (h : r.ok = true) : r.put = r.name ++ 124 :: decI r.next ++ 124 :: fieldL r.sub ++ 124 :: decI r.ms.length ++ (r.ms.flatMap fun m => 124 :: m.user ++ 124 :: fieldL m.nick ++ 124 :: decI m.role) ++ r.rs.flatMap fun x => 124 :: x.user ++ 124 :: decI x.num := by
  have q := Rm.ok_nums h
  simp only [Rm.ok, Bool.and_eq_true, decide_eq_true_eq] at h
  obtain ⟨⟨⟨⟨⟨⟨⟨h1, h2⟩, h3⟩, h4⟩, h5⟩, h6⟩, h7⟩, h8⟩ := h
  have e1 : fieldL r.name = r.name := fieldL_same _ (usr_plain h1)
  have e2 : fieldL (decI r.next) = decI r.next := fieldL_same _ (decI_plain q.n.1 (by have := q.n.2; omega))
  have e3 : fieldL (decI (r.ms.length : Int)) = decI r.ms.length := fieldL_same _ (decI_plain (by omega) (by have := q.m; omega))
  have e4 : ∀ ms : List Me, (∀ m ∈ ms, userOkL m.user = true ∧ 0 ≤ m.role ∧ m.role < 10000) → ((ms.flatMap fun m => [m.user, m.nick, decI m.role]).flatMap fun q => 124 :: fieldL q) = ms.flatMap fun m => 124 :: m.user ++ 124 :: fieldL m.nick ++ 124 :: decI m.role := by
    intro ms
    induction ms with
    | nil => intro _; rfl
    | cons m ms ih =>
      intro hm
      obtain ⟨g1, g2, g3⟩ := hm m (by simp)
      simp only [List.flatMap_cons, List.flatMap_append, ih (fun x hx => hm x (by simp [hx])), List.flatMap_nil, fieldL_same _ (usr_plain g1), fieldL_same _ (decI_plain g2 g3)]
      simp
  have e5 : ∀ rs : List Rk, (∀ x ∈ rs, userOkL x.user = true ∧ 0 ≤ x.num ∧ x.num < 10000) → ((rs.flatMap fun x => [x.user, decI x.num]).flatMap fun q => 124 :: fieldL q) = rs.flatMap fun x => 124 :: x.user ++ 124 :: decI x.num := by
    intro rs
    induction rs with
    | nil => intro _; rfl
    | cons m ms ih =>
      intro hm
      obtain ⟨g1, g2, g3⟩ := hm m (by simp)
      simp only [List.flatMap_cons, List.flatMap_append, ih (fun x hx => hm x (by simp [hx])), List.flatMap_nil, fieldL_same _ (usr_plain g1), fieldL_same _ (decI_plain g2 g3)]
      simp
  unfold Rm.put Rm.parts
  rw [List.cons_append, List.cons_append, joinE_cons]
  simp only [List.cons_append, List.flatMap_cons, List.flatMap_append, List.nil_append, List.flatMap_nil, e1, e2, e3,
    e4 r.ms (fun m hm => ⟨(memsOk_all h6 m hm).1, q.ms m hm⟩), e5 r.rs (fun x hx => ⟨(ranksOk_all h7 x hx).1, q.rs x hx⟩)]
  simp
end Go.Abs
