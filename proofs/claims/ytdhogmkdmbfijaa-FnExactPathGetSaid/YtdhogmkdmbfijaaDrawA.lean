/- How a law draws its inputs. No statement of the program is proved here; no condition. -/
import Derived.Test.YtdhogmkdmbfijaaPathA
namespace Go.Abs
open Go.Proofs
set_option maxRecDepth 100000
set_option linter.unusedSimpArgs false
set_option linter.unusedVariables false
structure En where
  mk ::
  (room : Bs)
  (seq : Int)
  (kind : Int)
  (user : Bs)
  (nick : Bs)
  (text : Bs)
  (id : Bs)
  (ref : Bs)
  (num : Int)
  deriving DecidableEq
abbrev En.C (x : En) : List Value := [sV x.room, iV x.seq, iV x.kind, sV x.user, sV x.nick, sV x.text, sV x.id, sV x.ref, iV x.num]
abbrev En.V (x : En) : Value := .agg ⟨[sV x.room, iV x.seq, iV x.kind, sV x.user, sV x.nick, sV x.text, sV x.id, sV x.ref, iV x.num]⟩
def En.R (xs : List En) : List Value := xs.flatMap En.C
theorem En.R_len (xs : List En) : (En.R xs).length = 9 * xs.length := by
  induction xs with
  | nil => rfl
  | cons x xs ih => simp only [En.R, List.flatMap_cons, List.length_append, List.length_cons, List.length_nil] at ih ⊢; omega
theorem En.R_app (a b : List En) : En.R (a ++ b) = En.R a ++ En.R b := by simp [En.R]
theorem En.R_cons (x : En) (r : List En) : En.R (x :: r) = En.C x ++ En.R r := by simp [En.R]
theorem En.R_one (x : En) : En.R [x] = En.C x := by simp [En.R]
theorem En.get (d : List En) (x : En) (r : List En) : ((En.R (d ++ x :: r)).drop (d.length * 9)).take 9 = En.C x := by
  rw [En.R_app, En.R_cons, List.drop_left' (by rw [En.R_len]; omega)]
  rfl
theorem En.cell (d : List En) (x : En) (r : List En) (j : Nat) (hj : j < 9) : (En.R (d ++ x :: r))[d.length * 9 + j]? = (En.C x)[j]? := by
  rw [En.R_app, En.R_cons, List.getElem?_append_right (by rw [En.R_len]; omega), En.R_len, show d.length * 9 + j - 9 * d.length = j by omega, List.getElem?_append_left (by simpa using hj)]
theorem En.ldN {h : AH} {id g : Nat} {d r : List En} {x : En} (e : h[id]? = some (.row g 9 (En.R (d ++ x :: r)))) : ldN h (pV id (d.length * 9) g) 9 = some (En.C x) := by
  rw [ldN_of e (by rw [En.R_len]; simp; omega), En.get]
theorem En.ld1 {h : AH} {id g : Nat} {d r : List En} {x : En} (j : Nat) (hj : j < 9) (e : h[id]? = some (.row g 9 (En.R (d ++ x :: r)))) : ld h (pV id (d.length * 9 + j) g) = (En.C x)[j]? := by
  rw [← En.cell d x r j hj]
  simp only [ld, rowAt_of e, Option.bind_some]
/-- a slice that is read -/
def En.Rd (h : AH) (v : Value) (xs : List En) : Prop :=
  (v = .slice none 0 0 ∧ xs = []) ∨ ∃ id g c, v = slV id g xs.length c ∧ h[id]? = some (.row g 9 (En.R xs))
theorem En.Rd.len {h : AH} {v : Value} {xs : List En} (r : En.Rd h v xs) : lenV v = some (xs.length : Int) := by
  rcases r with ⟨rfl, rfl⟩ | ⟨id, g, c, rfl, _⟩ <;> rfl
theorem En.Rd.get {h : AH} {v : Value} {d r : List En} {x : En} (q : En.Rd h v (d ++ x :: r)) : ∃ p, ixAddr v (d.length : Int) 9 = some p ∧ Abs.ldN h p 9 = some (En.C x) := by
  rcases q with ⟨_, q⟩ | ⟨id, g, c, rfl, e⟩
  · simp at q
  · exact ⟨pV id (d.length * 9) g, by rw [ixAddr_sl (by simp)]; simp, En.ldN e⟩
theorem En.Rd.keep {h h' : AH} {v : Value} {xs : List En} (q : En.Rd h v xs) (k : Keep h.length h h') : En.Rd h' v xs := by
  rcases q with q | ⟨id, g, c, rfl, e⟩
  · exact .inl q
  · exact .inr ⟨id, g, c, rfl, k.get e (lt_of_get e)⟩
theorem En.Rd.own {h : AH} {id g c : Nat} {xs : List En} (e : h[id]? = some (.row g 9 (En.R xs))) : En.Rd h (slV id g xs.length c) xs := .inr ⟨id, g, c, rfl, e⟩
/-- a slice of the call's own, all of whose room is taken -/
def En.Ow (h : AH) (v : Value) (xs : List En) : Prop :=
  (v = .slice none 0 0 ∧ xs = []) ∨ ∃ id g, v = slV id g xs.length xs.length ∧ h[id]? = some (.row g 9 (En.R xs))
theorem En.Ow.rd {h : AH} {v : Value} {xs : List En} (q : En.Ow h v xs) : En.Rd h v xs := by
  rcases q with q | ⟨id, g, rfl, e⟩
  · exact .inl q
  · exact .inr ⟨id, g, _, rfl, e⟩
theorem En.Ow.keep {h h' : AH} {v : Value} {xs : List En} (q : En.Ow h v xs) (k : Keep h.length h h') : En.Ow h' v xs := by
  rcases q with q | ⟨id, g, rfl, e⟩
  · exact .inl q
  · exact .inr ⟨id, g, rfl, k.get e (lt_of_get e)⟩
theorem En.Ow.kx {h h' : AH} {v : Value} {xs : List En} {ix : Nat} {cs : List Value} (q : En.Ow h v xs) (k : KX h.length ix h h') (e2 : h[ix]? = some (.row 0 2 cs)) : En.Ow h' v xs := by
  rcases q with q | ⟨id, g, rfl, e⟩
  · exact .inl q
  · refine .inr ⟨id, g, rfl, k.get e (lt_of_get e) ?_⟩
    rintro rfl
    rw [e] at e2
    injection e2 with e2; injection e2 with a b c
    exact absurd b (by decide)
theorem En.Rd.src {h : AH} {v : Value} {xs : List En} (q : En.Rd h v xs) : lenOf v = some xs.length ∧ srcCells h v xs.length 9 = some (En.R xs) := by
  rcases q with ⟨rfl, rfl⟩ | ⟨id, g, c, rfl, e⟩
  · exact ⟨rfl, rfl⟩
  · refine ⟨rfl, ?_⟩
    simp only [srcCells, rowAt_of e, Option.bind_some, cut]
    rw [if_pos (by rw [En.R_len]; omega)]
    simp only [List.drop_zero]
    rw [List.take_of_length_le (by rw [En.R_len]; omega)]
/-- append of whatever is read to a slice all of whose room is taken -/
theorem app_any {lim : Nat} {h : AH} {id g sz tg n k by' : Nat} {cs ds : List Value} {x : Value} (hl : lim ≤ id) (e : h[id]? = some (.row g tg cs)) (hn : n * sz = cs.length) (hx : lenOf x = some k ∧ srcCells h x k sz = some ds) (hb : (n + k) * by' ≤ 2 ^ 47) :
    ∃ g', app lim h (slV id g n n) x sz tg by' = some (slV id g' (n + k) (n + k), h.set id (.row g' tg (cs ++ ds))) := by
  obtain ⟨hx, hs⟩ := hx
  by_cases h0 : k = 0
  · subst h0
    have hds : ds = [] := by
      have := srcCells_len hs hx (Nat.le_refl _)
      rw [Nat.zero_mul] at this
      exact List.eq_nil_of_length_eq_zero this
    subst hds
    refine ⟨g, ?_⟩
    rw [List.append_nil, set_same e]
    simp only [app, hx, Option.bind_some, if_true, Nat.add_zero]
  · refine ⟨g + 1, ?_⟩
    simp only [app, hx, Option.bind_some]
    rw [if_neg h0, hs, rowAt_of e]
    simp only [Option.bind_some]
    rw [if_neg (by omega), if_pos ⟨hl, True.intro, True.intro, hn, hb⟩]
end Go.Abs
namespace Go.Abs
open Go.Proofs
set_option maxRecDepth 100000
set_option linter.unusedSimpArgs false
set_option pp.maxSteps 20000

/-! ### draws -/
def RdB (h : AH) (va : Value) (n id : Nat) : Prop := (va = .slice none 0 0 ∧ n = 0) ∨ ∃ i g c bs, va = slV i g n c ∧ h[i]? = some (.row g 1 (u8c bs)) ∧ n ≤ bs.length ∧ i < id
def Rd (h : AH) (id : Nat) (va : Value) (n p : Nat) : Prop := h[id]? = some (.row 0 2 [va, iV p]) ∧ RdB h va n id
theorem RdB.len {h : AH} {va : Value} {n id : Nat} (r : RdB h va n id) : lenV va = some (n : Int) := by
  rcases r with ⟨rfl, rfl⟩ | ⟨i, g, c, bs, rfl, _⟩ <;> rfl
theorem RdB.get {h : AH} {va : Value} {n id : Nat} (r : RdB h va n id) (j : Nat) (hj : j < n) : ∃ p b, ixAddr va (j : Int) 1 = some p ∧ ld h p = some (.int .u8 ((b : Nat) : Int)) ∧ b < 256 := by
  rcases r with ⟨_, q⟩ | ⟨i, g, c, bs, rfl, e, hn, _⟩
  · omega
  · have hjb : j < bs.length := by omega
    refine ⟨pV i j g, (bs[j]).toNat, by rw [ixAddr_sl hj]; simp, ld_of e ?_, UInt8.toNat_lt _⟩
    simp [u8c, hjb]
theorem RdB.keep {h h' : AH} {va : Value} {n id : Nat} (r : RdB h va n id) (k : ∀ j, j < id → h'[j]? = h[j]?) : RdB h' va n id := by
  rcases r with q | ⟨i, g, c, bs, hv, e, hn, hi⟩
  · exact .inl q
  · exact .inr ⟨i, g, c, bs, hv, by rw [k i hi, e], hn, hi⟩
theorem Rd.keep {h h' : AH} {id : Nat} {va : Value} {n p : Nat} (r : Rd h id va n p) (k : Keep (id + 1) h h') : Rd h' id va n p :=
  ⟨by rw [k.2 id (by omega), r.1], r.2.keep fun j hj => k.2 j (by omega)⟩
theorem xor_nn (a b : Int) (ha : 0 ≤ a ∧ a < 2 ^ 62) (hb : 0 ≤ b ∧ b < 2 ^ 62) : 0 ≤ xorI .i64 a b := by
  unfold xorI
  have h1 : (BitVec.ofInt 64 a).toNat = a.toNat := by rw [BitVec.toNat_ofInt]; omega
  have h2 : (BitVec.ofInt 64 b).toNat = b.toNat := by rw [BitVec.toNat_ofInt]; omega
  have h3 : (BitVec.ofInt 64 a ^^^ BitVec.ofInt 64 b).toNat < 2 ^ 62 := by
    rw [BitVec.toNat_xor, h1, h2]
    exact Nat.xor_lt_two_pow (by omega) (by omega)
  have e : ((BitVec.ofInt IntKind.i64.bits a ^^^ BitVec.ofInt IntKind.i64.bits b).toNat : Int) = ((BitVec.ofInt 64 a ^^^ BitVec.ofInt 64 b).toNat : Int) := rfl
  rw [e, wrap64 (by omega)]
  omega
theorem tmod_nat (a b : Nat) : (a : Int).tmod (b : Int) = ((a % b : Nat) : Int) := by rw [Int.tmod_eq_emod_of_nonneg (by omega)]; rfl
theorem tdiv_nat (a b : Nat) : (a : Int).tdiv (b : Int) = ((a / b : Nat) : Int) := by rw [Int.tdiv_eq_ediv_of_nonneg (by omega)]; rfl
theorem tmod_range (a : Int) (k : Nat) (ha : 0 ≤ a) (hk : 0 < k) : ∃ m : Nat, a.tmod (k : Int) = (m : Int) ∧ m < k := by
  obtain ⟨n, rfl⟩ : ∃ n : Nat, a = n := ⟨a.toNat, by omega⟩
  exact ⟨n % k, tmod_nat n k, Nat.mod_lt _ hk⟩
/-- spec.l16Rd.pick -/
theorem r77 (id : Nat) (va : Value) (n p K : Nat) (l : Nat) (h : AH) (r : Rd h id va n p) (hl : l ≤ id) (hK : 0 < K) (hK2 : K ≤ 2 ^ 20) (hn : n ≤ 2 ^ 62) (hp : p ≤ 2 ^ 40) :
    ∃ m h', run V0 (.fn 77) l [S (pV id 0 0), S (iV K)] h = some (.ret (iV (m : Nat)) h') ∧ m < K ∧ h' = h.set id (.row 0 2 [va, iV (p + 1 : Nat)]) := by
  obtain ⟨e, rb⟩ := r
  have hlen := rb.len
  have l1 : ld h (pV id 1 0) = some (iV p) := ld_of e rfl
  have w1 : IntKind.i64.wrap ((p : Int) + 1) = ((p + 1 : Nat) : Int) := by rw [wrap64 (by omega)]; omega
  have w2 : IntKind.i64.wrap (((p + 1 : Nat) : Int) - 1) = (p : Int) := by rw [wrap64 (by omega)]; omega
  have hst : stN l h (pV id 1 0) [iV (p + 1 : Nat)] = some (h.set id (.row 0 2 [va, iV (p + 1 : Nat)])) := by
    rw [st1_of hl e (by simp) rfl]; rfl
  have e1 := get_set (.row 0 2 [va, iV (p + 1 : Nat)]) e
  have rb1 : RdB (h.set id (.row 0 2 [va, iV (p + 1 : Nat)])) va n id := rb.keep fun j hj => by rw [List.getElem?_set_ne (by omega)]
  generalize hh1 : h.set id (.row 0 2 [va, iV (p + 1 : Nat)]) = h1 at *
  have m1 : ld h1 (pV id 1 0) = some (iV (p + 1 : Nat)) := ld_of e1 rfl
  have m0 : ld h1 (pV id 0 0) = some va := ld_of e1 rfl
  have ha : ∀ k, addOff (pV id 0 0) k = some (pV id (0 + k) 0) := fun _ => rfl
  have hnn : nonNil (pV id 0 0) = some (pV id 0 0) := rfl
  have hK1 : decide ((K : Int) < 1) = false := decide_eq_false (by omega)
  have hK0 : ((K : Int) = 0) = False := eq_false (by omega)
  by_cases h0 : n = 0
  · subst h0
    refine ⟨0, h1, run_fn Try.func77 rfl rfl rfl rfl ?_, hK, rfl⟩
    have hz : ((((0 : Nat) : Int)) == 0) = true := rfl
    simp (disch := (refine _root_.id ?_; kernel_rfl)) only [↓XX, ↓XD, ↓YX, ZB, Nat.reduceAdd, Nat.reducePow, ↓reduceIte, eq_self, Int.reduceEq, Nat.reduceEqDiff, Nat.reduceMul, Nat.reduceLeDiff, Try.f77, ha, hnn, l1, w1, hst, m1, m0, hlen, hK1, hz]
    rfl
  · have hz : ((n : Int) == 0) = false := by simp; omega
    have hn0 : ((n : Int) = 0) = False := eq_false (by omega)
    by_cases h2 : p < n
    · obtain ⟨q, b, hq1, hq2, hb⟩ := rb1.get p h2
      have hlt : decide ((p : Int) < (n : Int)) = true := decide_eq_true (by omega)
      have wb : IntKind.i64.wrap ((b : Nat) : Int) = (b : Int) := wrap64 (by omega)
      refine ⟨b % K, h1, run_fn Try.func77 rfl rfl rfl rfl ?_, Nat.mod_lt _ hK, rfl⟩
      simp (disch := (refine _root_.id ?_; kernel_rfl)) only [↓XX, ↓XD, ↓YX, ZB, Nat.reduceAdd, Nat.reducePow, ↓reduceIte, eq_self, Int.reduceEq, Nat.reduceEqDiff, Nat.reduceMul, Nat.reduceLeDiff, Try.f77, ha, hnn, l1, w1, hst, m1, m0, hlen, hK1, hz, w2, hlt, hq1, hq2, wb, hK0, tmod_nat]
    · have hlt : decide ((p : Int) < (n : Int)) = false := decide_eq_false (by omega)
      have hnp : 0 < n := by omega
      obtain ⟨q1, b1, a1, c1, d1⟩ := rb1.get (p % n) (Nat.mod_lt _ hnp)
      obtain ⟨q2, b2, a2, c2, d2⟩ := rb1.get ((p * 7 + 3) % n) (Nat.mod_lt _ hnp)
      have x1 : IntKind.i64.wrap ((b1 : Nat) : Int) = (b1 : Int) := wrap64 (by omega)
      have x2 : IntKind.i64.wrap ((b2 : Nat) : Int) = (b2 : Int) := wrap64 (by omega)
      have x3 : IntKind.i64.wrap ((b1 : Int) * 131) = (b1 : Int) * 131 := wrap64 (by omega)
      have x4 : IntKind.i64.wrap ((b2 : Int) * 1117) = (b2 : Int) * 1117 := wrap64 (by omega)
      have x5 : IntKind.i64.wrap ((p : Int) * 7) = (p : Int) * 7 := wrap64 (by omega)
      have x6 : IntKind.i64.wrap ((p : Int) * 7 + 3) = ((p * 7 + 3 : Nat) : Int) := by rw [wrap64 (by omega)]; omega
      have x7 : IntKind.i64.wrap ((b1 : Int) * 131 + (b2 : Int) * 1117) = (b1 : Int) * 131 + (b2 : Int) * 1117 := wrap64 (by omega)
      have x8 : IntKind.i64.wrap ((p : Int) * 29) = (p : Int) * 29 := wrap64 (by omega)
      have x9 : IntKind.i64.wrap ((b1 : Int) * 131 + (b2 : Int) * 1117 + (p : Int) * 29) = (b1 : Int) * 131 + (b2 : Int) * 1117 + (p : Int) * 29 := wrap64 (by omega)
      have hdiv : p / n ≤ p := Nat.div_le_self _ _
      have hdv := tdiv_nat p n
      generalize p / n = pd at *
      have y1 : IntKind.i64.wrap (pd : Int) = (pd : Int) := wrap64 (by omega)
      have y2 : IntKind.i64.wrap ((pd : Int) * 53) = (pd : Int) * 53 := wrap64 (by omega)
      have y3 : IntKind.i64.wrap ((b1 : Int) * 131 + (b2 : Int) * 1117 + (p : Int) * 29 + (pd : Int) * 53) = ((b1 * 131 + b2 * 1117 + p * 29 + pd * 53 : Nat) : Int) := by rw [wrap64 (by omega)]; omega
      have hx : b1 * 131 + b2 * 1117 + p * 29 + pd * 53 ≤ 2 ^ 50 := by omega
      generalize b1 * 131 + b2 * 1117 + p * 29 + pd * 53 = x at *
      have hxd : x / 64 ≤ x := Nat.div_le_self _ _
      have z0 : IntKind.i64.wrap ((x : Int).tdiv 64) = ((x / 64 : Nat) : Int) := by
        have := tdiv_nat x 64
        rw [show ((64 : Nat) : Int) = 64 from rfl] at this
        rw [this, wrap64 (by omega)]
      have hxn := xor_nn (x : Int) ((x / 64 : Nat) : Int) (by omega) (by omega)
      obtain ⟨m, hm1, hm2⟩ := tmod_range _ K hxn hK
      refine ⟨m, h1, run_fn Try.func77 rfl rfl rfl rfl ?_, hm2, rfl⟩
      simp (disch := (refine _root_.id ?_; kernel_rfl)) only [↓XX, ↓XD, ↓YX, ZB, Nat.reduceAdd, Nat.reducePow, ↓reduceIte, eq_self, Int.reduceEq, Nat.reduceEqDiff, Nat.reduceMul, Nat.reduceLeDiff, Try.f77, ha, hnn, l1, w1, hst, m1, m0, hlen, hK1, hz, w2, hlt, hn0, tmod_nat, hdv, a1, c1, x1, x3, x5, x6, a2, c2, x2, x4, x7, x8, x9, y1, y2, y3, z0, hK0, hm1]
/-- spec.l16Rd.of -/
theorem r54 (id : Nat) (va : Value) (n p : Nat) (l : Nat) (h : AH) (i2 : Nat) (xs : List Bs) (r : Rd h id va n p) (hl : l ≤ id) (e : h[i2]? = some (.row 0 1 (sL xs))) (hi : i2 ≠ id) (h0 : 0 < xs.length) (hx : xs.length ≤ 2 ^ 20) (hn : n ≤ 2 ^ 62) (hp : p ≤ 2 ^ 40) :
    ∃ x h', x ∈ xs ∧ run V0 (.fn 54) l [S (pV id 0 0), S (slV i2 0 xs.length xs.length)] h = some (.ret (sV x) h') ∧ h' = h.set id (.row 0 2 [va, iV (p + 1 : Nat)]) := by
  obtain ⟨m, h', a1, a2, a3⟩ := r77 id va n p xs.length l h r hl h0 hx hn hp
  refine ⟨xs[m], h', List.getElem_mem a2, run_fn Try.func54 rfl rfl rfl rfl ?_, a3⟩
  have hix : ixAddr (slV i2 0 xs.length xs.length) (m : Int) 1 = some (pV i2 m 0) := by rw [ixAddr_sl a2]; simp
  have hld : ld h' (pV i2 m 0) = some (sV xs[m]) := ld_of (by rw [a3, List.getElem?_set_ne (Ne.symm hi), e]) (by simp [sL, a2])
  simp only [↓XX, ↓XD, ↓YX, ZB, Nat.reduceAdd, Nat.reducePow, ↓reduceIte, eq_self, Int.reduceEq, Nat.reduceEqDiff, Nat.reduceMul, Nat.reduceLeDiff, Try.f54, lenV, a1, hix, hld]
theorem Rd.step {h : AH} {id : Nat} {va : Value} {n p : Nat} (r : Rd h id va n p) (p' : Nat) : Rd (h.set id (.row 0 2 [va, iV p'])) id va n p' :=
  ⟨get_set _ r.1, r.2.keep fun j hj => by rw [List.getElem?_set_ne (by omega)]⟩
/-- one of a list that is laid for it -/
theorem r54n (id : Nat) (va : Value) (n p : Nat) (l : Nat) (h : AH) (xs : List Bs) (r : Rd h id va n p) (hl : l ≤ id) (h0 : 0 < xs.length) (hx : xs.length ≤ 2 ^ 20) (hb : ∀ x ∈ xs, x.length ≤ 64) (hn : n ≤ 2 ^ 62) (hp : p ≤ 2 ^ 40) :
    ∃ x h', run V0 (.fn 54) l [S (pV id 0 0), S (newS h xs.length xs.length)] (h ++ [.row 0 1 (sL xs)]) = some (.ret (sV x) h') ∧ x.length ≤ 64 ∧ Rd h' id va n (p + 1) ∧ Keep id h h' := by
  have hid := lt_of_get r.1
  have r' : Rd (h ++ [.row 0 1 (sL xs)]) id va n p := r.keep (Keep.app _ _ (by omega))
  obtain ⟨x, h', a1, a2, a3⟩ := r54 id va n p l (h ++ [.row 0 1 (sL xs)]) h.length xs r' hl (by simp) (by omega) h0 hx hn hp
  refine ⟨x, h', a2, hb x a1, ?_, ?_⟩
  · rw [a3]; exact r'.step (p + 1)
  · rw [a3]; exact (Keep.app _ _ (by omega)).trans (Keep.set _ _ _ (Nat.le_refl _))
/-- the code that is drawn from: an argument -/
def Cd (h : AH) (va : Value) (n : Nat) : Prop := (va = .slice none 0 0 ∧ n = 0) ∨ ∃ i bs, va = slV i 0 n n ∧ h[i]? = some (.row 0 1 (u8c bs)) ∧ n = bs.length
theorem Cd.len {h : AH} {va : Value} {n : Nat} (r : Cd h va n) : lenV va = some (n : Int) := by
  rcases r with ⟨rfl, rfl⟩ | ⟨i, bs, rfl, _⟩ <;> rfl
theorem Cd.keep {h h' : AH} {va : Value} {n : Nat} (r : Cd h va n) (k : Keep h.length h h') : Cd h' va n := by
  rcases r with q | ⟨i, bs, hv, e, hn⟩
  · exact .inl q
  · exact .inr ⟨i, bs, hv, k.get e (lt_of_get e), hn⟩
theorem Cd.rdb {h : AH} {va : Value} {n : Nat} (r : Cd h va n) (o : AObj) : RdB (h ++ [o]) va n h.length := by
  rcases r with q | ⟨i, bs, hv, e, hn⟩
  · exact .inl q
  · exact .inr ⟨i, 0, n, bs, hv, by rw [List.getElem?_append_left (lt_of_get e), e], by omega, lt_of_get e⟩
/-- spec.l16Open -/
theorem r52 (va : Value) (n l : Nat) (h : AH) (r : Cd h va n) (hn : n ≤ 2 ^ 62) :
    ∃ vb m h', run V0 (.fn 52) l [S va] h = some (.ret (pV h.length 0 0) h') ∧ Rd h' h.length vb m 0 ∧ m ≤ n ∧ Keep h.length h h' := by
  have hlen := r.len
  by_cases h2 : 2000 < n
  · have hgt : decide ((2000 : Int) < (n : Int)) = true := decide_eq_true (by omega)
    rcases r with ⟨rfl, rfl⟩ | ⟨i, bs, rfl, e, hb⟩
    · omega
    · have hcut : slCut h (slV i 0 n n) none (some (2000 : Int)) none 1 = some (slV i 0 2000 n) := by
        simp only [slCut, rowAt_of e, Option.bind_some, Option.getD_none, Option.getD_some]
        rw [if_pos ⟨by omega, by omega, by decide, by omega, Nat.le_refl _⟩]
        simp
      refine ⟨slV i 0 2000 n, 2000, h ++ [.row 0 2 [slV i 0 2000 n, iV 0]], run_fn Try.func52 rfl rfl rfl rfl ?_, ⟨by simp, ?_⟩, by omega, Keep.app _ _ (Nat.le_refl _)⟩
      · simp only [↓XX, ↓XD, ↓YX, ZB, Nat.reduceAdd, Nat.reducePow, ↓reduceIte, eq_self, Int.reduceEq, Nat.reduceEqDiff, Nat.reduceMul, Nat.reduceLeDiff, Try.f52, lenV, hgt, hcut]
        rfl
      · exact .inr ⟨i, 0, n, bs, rfl, by rw [List.getElem?_append_left (lt_of_get e), e], by omega, lt_of_get e⟩
  · have hgt : decide ((2000 : Int) < (n : Int)) = false := decide_eq_false (by omega)
    refine ⟨va, n, h ++ [.row 0 2 [va, iV 0]], run_fn Try.func52 rfl rfl rfl rfl ?_, ⟨by simp, r.rdb _⟩, Nat.le_refl _, Keep.app _ _ (Nat.le_refl _)⟩
    rcases r with ⟨rfl, rfl⟩ | ⟨i, bs, rfl, e, hb⟩
    · simp only [↓XX, ↓XD, ↓YX, ZB, Nat.reduceAdd, Nat.reducePow, ↓reduceIte, eq_self, Int.reduceEq, Nat.reduceEqDiff, Nat.reduceMul, Nat.reduceLeDiff, Try.f52, lenV, hgt]
      rfl
    · simp only [↓XX, ↓XD, ↓YX, ZB, Nat.reduceAdd, Nat.reducePow, ↓reduceIte, eq_self, Int.reduceEq, Nat.reduceEqDiff, Nat.reduceMul, Nat.reduceLeDiff, Try.f52, lenV, hgt]
      rfl
/-! ### draws, of which it is not told how many there were -/
def Rq (h : AH) (id : Nat) (va : Value) (n P : Nat) : Prop := ∃ p, p ≤ P ∧ Rd h id va n p
theorem Rq.lt {h : AH} {id : Nat} {va : Value} {n P : Nat} (q : Rq h id va n P) : id < h.length := let ⟨_, _, r⟩ := q; lt_of_get r.1
theorem Rq.keep {h h' : AH} {id : Nat} {va : Value} {n P : Nat} (q : Rq h id va n P) (k : Keep h.length h h') : Rq h' id va n P :=
  let ⟨p, hp, r⟩ := q; ⟨p, hp, r.keep (k.le (by have := lt_of_get r.1; omega))⟩
theorem Rq.kx {h h' : AH} {id ix : Nat} {va : Value} {n P : Nat} (q : Rq h id va n P) (k : KX h.length ix h h') (hi : id < ix) : Rq h' id va n P :=
  let ⟨p, hp, r⟩ := q; ⟨p, hp, r.keep (Keep.ofKX k (by have := lt_of_get r.1; omega) (by omega))⟩
theorem Rq.le {h : AH} {id : Nat} {va : Value} {n P Q : Nat} (q : Rq h id va n P) (hq : P ≤ Q) : Rq h id va n Q := let ⟨p, hp, r⟩ := q; ⟨p, by omega, r⟩
theorem r_pick {h : AH} {id : Nat} {va : Value} {n P : Nat} {l : Nat} (K : Nat) (q : Rq h id va n P) (hl : l ≤ id) (hK : 0 < K) (hK2 : K ≤ 2 ^ 20) (hn : n ≤ 2 ^ 62) (hp : P ≤ 2 ^ 40) :
    ∃ (m : Nat) (h' : AH), run V0 (.fn 77) l [S (pV id 0 0), S (iV K)] h = some (.ret (iV m) h') ∧ m < K ∧ Rq h' id va n (P + 1) ∧ KX h.length id h h' ∧ h'.length = h.length := by
  obtain ⟨p, hpP, r⟩ := q
  obtain ⟨m, h', a1, a2, a3⟩ := r77 id va n p K l h r hl hK hK2 hn (by omega)
  subst a3
  exact ⟨m, _, a1, a2, ⟨p + 1, by omega, r.step (p + 1)⟩, KX.set _ _ _ _, by simp⟩
/-- one of a list of texts that is laid for it -/
theorem r_of {h : AH} {id : Nat} {va : Value} {n P : Nat} {l : Nat} (xs : List Bs) (cs : List Value) (k : Nat) (hcs : cs = sL xs) (hk : xs.length = k) (h0 : 0 < k) (q : Rq h id va n P) (hl : l ≤ id) (hK2 : k ≤ 2 ^ 20) (hn : n ≤ 2 ^ 62) (hp : P ≤ 2 ^ 40) :
    ∃ (x : Bs) (h' : AH), run V0 (.fn 54) l [S (pV id 0 0), S (newS h k k)] (h ++ [.row 0 1 cs]) = some (.ret (sV x) h') ∧ x ∈ xs ∧ Rq h' id va n (P + 1) ∧ KX h.length id h h' ∧ h'.length = h.length + 1 := by
  subst hcs hk
  have hid := q.lt
  obtain ⟨p, hpP, r⟩ := q
  have r' : Rd (h ++ [.row 0 1 (sL xs)]) id va n p := r.keep (Keep.app _ _ (by omega))
  obtain ⟨x, h', a1, a2, a3⟩ := r54 id va n p l (h ++ [.row 0 1 (sL xs)]) h.length xs r' hl (by simp) (by omega) h0 hK2 hn (by omega)
  subst a3
  refine ⟨x, _, a2, a1, ⟨p + 1, by omega, r'.step (p + 1)⟩, ((Keep.app h [AObj.row 0 1 (sL xs)] (Nat.le_refl _)).kx (Nat.le_refl _)).trans (KX.set _ _ _ _), by simp⟩
def iL (xs : List Int) : List Value := xs.map iV
theorem r_one {h : AH} {id : Nat} {va : Value} {n P : Nat} {l : Nat} (xs : List Int) (cs : List Value) (k : Nat) (hcs : cs = iL xs) (hk : xs.length = k) (h0 : 0 < k) (q : Rq h id va n P) (hl : l ≤ id) (hK2 : k ≤ 2 ^ 20) (hn : n ≤ 2 ^ 62) (hp : P ≤ 2 ^ 40) :
    ∃ (x : Int) (h' : AH), run V0 (.fn 93) l [S (pV id 0 0), S (newS h k k)] (h ++ [.row 0 1 cs]) = some (.ret (iV x) h') ∧ x ∈ xs ∧ Rq h' id va n (P + 1) ∧ KX h.length id h h' ∧ h'.length = h.length + 1 := by
  subst hcs hk
  have hid := q.lt
  have q' : Rq (h ++ [.row 0 1 (iL xs)]) id va n P := q.keep (Keep.app _ _ (Nat.le_refl _))
  obtain ⟨m, h', a1, a2, a3, a4, a5⟩ := r_pick xs.length q' hl h0 hK2 hn hp
  have kk : KX h.length id h h' := ((Keep.app h [AObj.row 0 1 (iL xs)] (Nat.le_refl _)).kx (Nat.le_refl _)).trans ⟨a4.1, fun j hj hi => a4.2 j (by simp; omega) hi⟩
  refine ⟨xs[m], h', run_fn Try.func93 rfl rfl rfl rfl ?_, List.getElem_mem a2, a3, kk, by rw [a5]; simp⟩
  have hix : ixAddr (newS h xs.length xs.length) (m : Int) 1 = some (pV h.length m 0) := by unfold newS; rw [ixAddr_sl a2]; simp
  have e : h'[h.length]? = some (.row 0 1 (iL xs)) := a4.get (by simp) (by simp) (by omega)
  have hld : ld h' (pV h.length m 0) = some (iV xs[m]) := ld_of e (by simp [iL, a2])
  have hln : lenV (newS h xs.length xs.length) = some (xs.length : Int) := rfl
  simp only [↓XX, ↓XD, ↓YX, ZB, Nat.reduceAdd, Nat.reducePow, ↓reduceIte, eq_self, Int.reduceEq, Nat.reduceEqDiff, Nat.reduceMul, Nat.reduceLeDiff, Try.f93, hln, a1, hix, hld]
end Go.Abs
namespace Go.Abs
open Go.Proofs
set_option maxRecDepth 100000
set_option linter.unusedSimpArgs false
set_option linter.unusedVariables false
structure Me where
  mk ::
  (user : Bs)
  (nick : Bs)
  (role : Int)
  deriving DecidableEq
abbrev Me.C (x : Me) : List Value := [sV x.user, sV x.nick, iV x.role]
abbrev Me.V (x : Me) : Value := .agg ⟨[sV x.user, sV x.nick, iV x.role]⟩
def Me.R (xs : List Me) : List Value := xs.flatMap Me.C
theorem Me.R_len (xs : List Me) : (Me.R xs).length = 3 * xs.length := by
  induction xs with
  | nil => rfl
  | cons x xs ih => simp only [Me.R, List.flatMap_cons, List.length_append, List.length_cons, List.length_nil] at ih ⊢; omega
theorem Me.R_app (a b : List Me) : Me.R (a ++ b) = Me.R a ++ Me.R b := by simp [Me.R]
theorem Me.R_cons (x : Me) (r : List Me) : Me.R (x :: r) = Me.C x ++ Me.R r := by simp [Me.R]
theorem Me.R_one (x : Me) : Me.R [x] = Me.C x := by simp [Me.R]
theorem Me.get (d : List Me) (x : Me) (r : List Me) : ((Me.R (d ++ x :: r)).drop (d.length * 3)).take 3 = Me.C x := by
  rw [Me.R_app, Me.R_cons, List.drop_left' (by rw [Me.R_len]; omega)]
  rfl
theorem Me.cell (d : List Me) (x : Me) (r : List Me) (j : Nat) (hj : j < 3) : (Me.R (d ++ x :: r))[d.length * 3 + j]? = (Me.C x)[j]? := by
  rw [Me.R_app, Me.R_cons, List.getElem?_append_right (by rw [Me.R_len]; omega), Me.R_len, show d.length * 3 + j - 3 * d.length = j by omega, List.getElem?_append_left (by simpa using hj)]
theorem Me.ldN {h : AH} {id g : Nat} {d r : List Me} {x : Me} (e : h[id]? = some (.row g 3 (Me.R (d ++ x :: r)))) : ldN h (pV id (d.length * 3) g) 3 = some (Me.C x) := by
  rw [ldN_of e (by rw [Me.R_len]; simp; omega), Me.get]
theorem Me.ld1 {h : AH} {id g : Nat} {d r : List Me} {x : Me} (j : Nat) (hj : j < 3) (e : h[id]? = some (.row g 3 (Me.R (d ++ x :: r)))) : ld h (pV id (d.length * 3 + j) g) = (Me.C x)[j]? := by
  rw [← Me.cell d x r j hj]
  simp only [ld, rowAt_of e, Option.bind_some]
/-- a slice that is read -/
def Me.Rd (h : AH) (v : Value) (xs : List Me) : Prop :=
  (v = .slice none 0 0 ∧ xs = []) ∨ ∃ id g c, v = slV id g xs.length c ∧ h[id]? = some (.row g 3 (Me.R xs))
theorem Me.Rd.len {h : AH} {v : Value} {xs : List Me} (r : Me.Rd h v xs) : lenV v = some (xs.length : Int) := by
  rcases r with ⟨rfl, rfl⟩ | ⟨id, g, c, rfl, _⟩ <;> rfl
theorem Me.Rd.get {h : AH} {v : Value} {d r : List Me} {x : Me} (q : Me.Rd h v (d ++ x :: r)) : ∃ p, ixAddr v (d.length : Int) 3 = some p ∧ Abs.ldN h p 3 = some (Me.C x) := by
  rcases q with ⟨_, q⟩ | ⟨id, g, c, rfl, e⟩
  · simp at q
  · exact ⟨pV id (d.length * 3) g, by rw [ixAddr_sl (by simp)]; simp, Me.ldN e⟩
theorem Me.Rd.keep {h h' : AH} {v : Value} {xs : List Me} (q : Me.Rd h v xs) (k : Keep h.length h h') : Me.Rd h' v xs := by
  rcases q with q | ⟨id, g, c, rfl, e⟩
  · exact .inl q
  · exact .inr ⟨id, g, c, rfl, k.get e (lt_of_get e)⟩
theorem Me.Rd.own {h : AH} {id g c : Nat} {xs : List Me} (e : h[id]? = some (.row g 3 (Me.R xs))) : Me.Rd h (slV id g xs.length c) xs := .inr ⟨id, g, c, rfl, e⟩
/-- a slice of the call's own, all of whose room is taken -/
def Me.Ow (h : AH) (v : Value) (xs : List Me) : Prop :=
  (v = .slice none 0 0 ∧ xs = []) ∨ ∃ id g, v = slV id g xs.length xs.length ∧ h[id]? = some (.row g 3 (Me.R xs))
theorem Me.Ow.one {h : AH} {v : Value} {xs : List Me} (q : Me.Ow h v xs) : oneCell v = true := by
  rcases q with ⟨rfl, _⟩ | ⟨id, g, rfl, e⟩ <;> rfl
theorem Me.Ow.rd {h : AH} {v : Value} {xs : List Me} (q : Me.Ow h v xs) : Me.Rd h v xs := by
  rcases q with q | ⟨id, g, rfl, e⟩
  · exact .inl q
  · exact .inr ⟨id, g, _, rfl, e⟩
theorem Me.Ow.keep {h h' : AH} {v : Value} {xs : List Me} (q : Me.Ow h v xs) (k : Keep h.length h h') : Me.Ow h' v xs := by
  rcases q with q | ⟨id, g, rfl, e⟩
  · exact .inl q
  · exact .inr ⟨id, g, rfl, k.get e (lt_of_get e)⟩
theorem Me.Ow.kx {h h' : AH} {v : Value} {xs : List Me} {ix : Nat} {cs : List Value} (q : Me.Ow h v xs) (k : KX h.length ix h h') (e2 : h[ix]? = some (.row 0 2 cs)) : Me.Ow h' v xs := by
  rcases q with q | ⟨id, g, rfl, e⟩
  · exact .inl q
  · refine .inr ⟨id, g, rfl, k.get e (lt_of_get e) ?_⟩
    rintro rfl
    rw [e] at e2
    injection e2 with e2; injection e2 with a b c
    exact absurd b (by decide)
theorem Me.Rd.src {h : AH} {v : Value} {xs : List Me} (q : Me.Rd h v xs) : lenOf v = some xs.length ∧ srcCells h v xs.length 3 = some (Me.R xs) := by
  rcases q with ⟨rfl, rfl⟩ | ⟨id, g, c, rfl, e⟩
  · exact ⟨rfl, rfl⟩
  · refine ⟨rfl, ?_⟩
    simp only [srcCells, rowAt_of e, Option.bind_some, cut]
    rw [if_pos (by rw [Me.R_len]; omega)]
    simp only [List.drop_zero]
    rw [List.take_of_length_le (by rw [Me.R_len]; omega)]
structure Rk where
  mk ::
  (user : Bs)
  (num : Int)
  deriving DecidableEq
abbrev Rk.C (x : Rk) : List Value := [sV x.user, iV x.num]
abbrev Rk.V (x : Rk) : Value := .agg ⟨[sV x.user, iV x.num]⟩
def Rk.R (xs : List Rk) : List Value := xs.flatMap Rk.C
theorem Rk.R_len (xs : List Rk) : (Rk.R xs).length = 2 * xs.length := by
  induction xs with
  | nil => rfl
  | cons x xs ih => simp only [Rk.R, List.flatMap_cons, List.length_append, List.length_cons, List.length_nil] at ih ⊢; omega
theorem Rk.R_app (a b : List Rk) : Rk.R (a ++ b) = Rk.R a ++ Rk.R b := by simp [Rk.R]
theorem Rk.R_cons (x : Rk) (r : List Rk) : Rk.R (x :: r) = Rk.C x ++ Rk.R r := by simp [Rk.R]
theorem Rk.R_one (x : Rk) : Rk.R [x] = Rk.C x := by simp [Rk.R]
theorem Rk.get (d : List Rk) (x : Rk) (r : List Rk) : ((Rk.R (d ++ x :: r)).drop (d.length * 2)).take 2 = Rk.C x := by
  rw [Rk.R_app, Rk.R_cons, List.drop_left' (by rw [Rk.R_len]; omega)]
  rfl
theorem Rk.cell (d : List Rk) (x : Rk) (r : List Rk) (j : Nat) (hj : j < 2) : (Rk.R (d ++ x :: r))[d.length * 2 + j]? = (Rk.C x)[j]? := by
  rw [Rk.R_app, Rk.R_cons, List.getElem?_append_right (by rw [Rk.R_len]; omega), Rk.R_len, show d.length * 2 + j - 2 * d.length = j by omega, List.getElem?_append_left (by simpa using hj)]
theorem Rk.ldN {h : AH} {id g : Nat} {d r : List Rk} {x : Rk} (e : h[id]? = some (.row g 2 (Rk.R (d ++ x :: r)))) : ldN h (pV id (d.length * 2) g) 2 = some (Rk.C x) := by
  rw [ldN_of e (by rw [Rk.R_len]; simp; omega), Rk.get]
theorem Rk.ld1 {h : AH} {id g : Nat} {d r : List Rk} {x : Rk} (j : Nat) (hj : j < 2) (e : h[id]? = some (.row g 2 (Rk.R (d ++ x :: r)))) : ld h (pV id (d.length * 2 + j) g) = (Rk.C x)[j]? := by
  rw [← Rk.cell d x r j hj]
  simp only [ld, rowAt_of e, Option.bind_some]
/-- a slice that is read -/
def Rk.Rd (h : AH) (v : Value) (xs : List Rk) : Prop :=
  (v = .slice none 0 0 ∧ xs = []) ∨ ∃ id g c, v = slV id g xs.length c ∧ h[id]? = some (.row g 2 (Rk.R xs))
theorem Rk.Rd.len {h : AH} {v : Value} {xs : List Rk} (r : Rk.Rd h v xs) : lenV v = some (xs.length : Int) := by
  rcases r with ⟨rfl, rfl⟩ | ⟨id, g, c, rfl, _⟩ <;> rfl
theorem Rk.Rd.get {h : AH} {v : Value} {d r : List Rk} {x : Rk} (q : Rk.Rd h v (d ++ x :: r)) : ∃ p, ixAddr v (d.length : Int) 2 = some p ∧ Abs.ldN h p 2 = some (Rk.C x) := by
  rcases q with ⟨_, q⟩ | ⟨id, g, c, rfl, e⟩
  · simp at q
  · exact ⟨pV id (d.length * 2) g, by rw [ixAddr_sl (by simp)]; simp, Rk.ldN e⟩
theorem Rk.Rd.keep {h h' : AH} {v : Value} {xs : List Rk} (q : Rk.Rd h v xs) (k : Keep h.length h h') : Rk.Rd h' v xs := by
  rcases q with q | ⟨id, g, c, rfl, e⟩
  · exact .inl q
  · exact .inr ⟨id, g, c, rfl, k.get e (lt_of_get e)⟩
theorem Rk.Rd.own {h : AH} {id g c : Nat} {xs : List Rk} (e : h[id]? = some (.row g 2 (Rk.R xs))) : Rk.Rd h (slV id g xs.length c) xs := .inr ⟨id, g, c, rfl, e⟩
/-- a slice of the call's own, all of whose room is taken -/
def Rk.Ow (h : AH) (v : Value) (xs : List Rk) : Prop :=
  (v = .slice none 0 0 ∧ xs = []) ∨ ∃ id g, v = slV id g xs.length xs.length ∧ h[id]? = some (.row g 2 (Rk.R xs))
theorem Rk.Ow.one {h : AH} {v : Value} {xs : List Rk} (q : Rk.Ow h v xs) : oneCell v = true := by
  rcases q with ⟨rfl, _⟩ | ⟨id, g, rfl, e⟩ <;> rfl
theorem Rk.Ow.rd {h : AH} {v : Value} {xs : List Rk} (q : Rk.Ow h v xs) : Rk.Rd h v xs := by
  rcases q with q | ⟨id, g, rfl, e⟩
  · exact .inl q
  · exact .inr ⟨id, g, _, rfl, e⟩
theorem Rk.Ow.keep {h h' : AH} {v : Value} {xs : List Rk} (q : Rk.Ow h v xs) (k : Keep h.length h h') : Rk.Ow h' v xs := by
  rcases q with q | ⟨id, g, rfl, e⟩
  · exact .inl q
  · exact .inr ⟨id, g, rfl, k.get e (lt_of_get e)⟩
theorem Rk.Rd.src {h : AH} {v : Value} {xs : List Rk} (q : Rk.Rd h v xs) : lenOf v = some xs.length ∧ srcCells h v xs.length 2 = some (Rk.R xs) := by
  rcases q with ⟨rfl, rfl⟩ | ⟨id, g, c, rfl, e⟩
  · exact ⟨rfl, rfl⟩
  · refine ⟨rfl, ?_⟩
    simp only [srcCells, rowAt_of e, Option.bind_some, cut]
    rw [if_pos (by rw [Rk.R_len]; omega)]
    simp only [List.drop_zero]
    rw [List.take_of_length_le (by rw [Rk.R_len]; omega)]
structure Ro where
  mk ::
  (name : Bs)
  (next : Int)
  (ms : Value)
  (rs : Value)
  (subj : Bs)
abbrev Ro.C (x : Ro) : List Value := [sV x.name, iV x.next, x.ms, x.rs, sV x.subj]
abbrev Ro.V (x : Ro) : Value := .agg ⟨[sV x.name, iV x.next, x.ms, x.rs, sV x.subj]⟩
structure Sa where
  mk ::
  (kind : Int)
  (room : Bs)
  (nick : Bs)
  (name : Bs)
  (id : Bs)
  (ref : Bs)
  (text : Bs)
  (num : Int)
  (frm : Int)
  (back : Int)
  deriving DecidableEq
abbrev Sa.C (x : Sa) : List Value := [iV x.kind, sV x.room, sV x.nick, sV x.name, sV x.id, sV x.ref, sV x.text, iV x.num, iV x.frm, iV x.back]
abbrev Sa.V (x : Sa) : Value := .agg ⟨[iV x.kind, sV x.room, sV x.nick, sV x.name, sV x.id, sV x.ref, sV x.text, iV x.num, iV x.frm, iV x.back]⟩
theorem Me.c0 (d : List Me) (x : Me) (r : List Me) : (Me.R (d ++ x :: r))[d.length * 3 + 0]? = some (sV x.user) := Me.cell d x r 0 (by decide)
theorem Me.c1 (d : List Me) (x : Me) (r : List Me) : (Me.R (d ++ x :: r))[d.length * 3 + 1]? = some (sV x.nick) := Me.cell d x r 1 (by decide)
theorem Me.c2 (d : List Me) (x : Me) (r : List Me) : (Me.R (d ++ x :: r))[d.length * 3 + 2]? = some (iV x.role) := Me.cell d x r 2 (by decide)
theorem Me.Rd.at {h : AH} {v : Value} {d r : List Me} {x : Me} (q : Me.Rd h v (d ++ x :: r)) : ∃ id g, ixAddr v (d.length : Int) 3 = some (pV id (d.length * 3) g) ∧ h[id]? = some (.row g 3 (Me.R (d ++ x :: r))) ∧ id < h.length := by
  rcases q with ⟨_, q⟩ | ⟨id, g, c, rfl, e⟩
  · simp at q
  · exact ⟨id, g, by rw [ixAddr_sl (by simp)]; simp, e, lt_of_get e⟩
theorem Rk.c0 (d : List Rk) (x : Rk) (r : List Rk) : (Rk.R (d ++ x :: r))[d.length * 2 + 0]? = some (sV x.user) := Rk.cell d x r 0 (by decide)
theorem Rk.c1 (d : List Rk) (x : Rk) (r : List Rk) : (Rk.R (d ++ x :: r))[d.length * 2 + 1]? = some (iV x.num) := Rk.cell d x r 1 (by decide)
theorem Rk.Rd.at {h : AH} {v : Value} {d r : List Rk} {x : Rk} (q : Rk.Rd h v (d ++ x :: r)) : ∃ id g, ixAddr v (d.length : Int) 2 = some (pV id (d.length * 2) g) ∧ h[id]? = some (.row g 2 (Rk.R (d ++ x :: r))) ∧ id < h.length := by
  rcases q with ⟨_, q⟩ | ⟨id, g, c, rfl, e⟩
  · simp at q
  · exact ⟨id, g, by rw [ixAddr_sl (by simp)]; simp, e, lt_of_get e⟩
theorem En.c0 (d : List En) (x : En) (r : List En) : (En.R (d ++ x :: r))[d.length * 9 + 0]? = some (sV x.room) := En.cell d x r 0 (by decide)
theorem En.c1 (d : List En) (x : En) (r : List En) : (En.R (d ++ x :: r))[d.length * 9 + 1]? = some (iV x.seq) := En.cell d x r 1 (by decide)
theorem En.c2 (d : List En) (x : En) (r : List En) : (En.R (d ++ x :: r))[d.length * 9 + 2]? = some (iV x.kind) := En.cell d x r 2 (by decide)
theorem En.c3 (d : List En) (x : En) (r : List En) : (En.R (d ++ x :: r))[d.length * 9 + 3]? = some (sV x.user) := En.cell d x r 3 (by decide)
theorem En.c4 (d : List En) (x : En) (r : List En) : (En.R (d ++ x :: r))[d.length * 9 + 4]? = some (sV x.nick) := En.cell d x r 4 (by decide)
theorem En.c5 (d : List En) (x : En) (r : List En) : (En.R (d ++ x :: r))[d.length * 9 + 5]? = some (sV x.text) := En.cell d x r 5 (by decide)
theorem En.c6 (d : List En) (x : En) (r : List En) : (En.R (d ++ x :: r))[d.length * 9 + 6]? = some (sV x.id) := En.cell d x r 6 (by decide)
theorem En.c7 (d : List En) (x : En) (r : List En) : (En.R (d ++ x :: r))[d.length * 9 + 7]? = some (sV x.ref) := En.cell d x r 7 (by decide)
theorem En.c8 (d : List En) (x : En) (r : List En) : (En.R (d ++ x :: r))[d.length * 9 + 8]? = some (iV x.num) := En.cell d x r 8 (by decide)
theorem En.Rd.at {h : AH} {v : Value} {d r : List En} {x : En} (q : En.Rd h v (d ++ x :: r)) : ∃ id g, ixAddr v (d.length : Int) 9 = some (pV id (d.length * 9) g) ∧ h[id]? = some (.row g 9 (En.R (d ++ x :: r))) ∧ id < h.length := by
  rcases q with ⟨_, q⟩ | ⟨id, g, c, rfl, e⟩
  · simp at q
  · exact ⟨id, g, by rw [ixAddr_sl (by simp)]; simp, e, lt_of_get e⟩
end Go.Abs
namespace Go.Abs
open Go.Proofs
set_option linter.unusedVariables false

/-! ### runs of which only something is known -/
/-- a run that answers something of which P is known -/
def Okr (P : Value → AH → Prop) (x : R) : Prop := ∃ v h, x = some (.ret v h) ∧ P v h
theorem Okr.ret {P : Value → AH → Prop} {v : Value} {h : AH} (p : P v h) : Okr P (some (.ret v h)) := ⟨v, h, rfl, p⟩
theorem Okr.mono {P Q : Value → AH → Prop} {x : R} (e : Okr P x) (hq : ∀ v h, P v h → Q v h) : Okr Q x := let ⟨v, h, e1, p⟩ := e; ⟨v, h, e1, hq v h p⟩
theorem okr_fn {P : Value → AH → Prop} {f : Nat} {F : Func} {c : Code} {rs : List ResultVar} {n : Nat} {l : Nat} {fr fr' : Frm} {h : AH} (hF : Try.prog.funcs[f]? = some F) (hb : F.body = some c) (hr : F.results.toList = rs) (hn : F.ntmps = n) (hf : padF n fr = fr')
    (e : Okr P (exec V0 (run V0) f l (retQ V0.P rs) panK c [] ⟨retQ V0.P rs, fun _ _ _ => none⟩ fr' h)) (hp : V0.prim f = none := by rfl) : Okr P (run V0 (.fn f) l fr h) :=
  let ⟨v, h', e1, p⟩ := e; ⟨v, h', run_fn hF hb hr hn hf e1 hp, p⟩
theorem okr_code {P : Value → AH → Prop} {f : Nat} {F : Func} {c : Code} {rs : List ResultVar} {l : Nat} {p : List Nat} {fr : Frm} {h : AH} (hF : Try.prog.funcs[f]? = some F) (hb : F.body = some c) (hr : F.results.toList = rs)
    (e : Okr P (goAt (run V0) f l (retQ V0.P rs) panK p c [] (retQ V0.P rs) (fun _ _ _ => none) fr h)) : Okr P (run V0 (.code f p) l fr h) :=
  let ⟨v, h', e1, p⟩ := e; ⟨v, h', run_code hF hb hr e1, p⟩
/-- a call whose answer is known in part -/
theorem okr_call {P Q : Value → AH → Prop} {x : R} {K Kp : Value → AH → R} (e : Okr Q x) (hk : ∀ v h, Q v h → Okr P (K v h)) :
    Okr P (match (generalizing := false) x with | some o => (match o with | .ret v h => K v h | .pan v h => Kp v h) | none => none) := by
  obtain ⟨v, h, rfl, q⟩ := e
  exact hk v h q
theorem okr_opt {α : Type} {P : Value → AH → Prop} {x : Option α} {K : α → R} {Q : α → Prop} (e : ∃ y, x = some y ∧ Q y) (hk : ∀ y, Q y → Okr P (K y)) : Okr P (match (generalizing := false) x with | some y => K y | none => none) := by
  obtain ⟨y, rfl, q⟩ := e
  exact hk y q
theorem okr_bool {P : Value → AH → Prop} {b : Bool} {X Y : R} (h1 : b = true → Okr P X) (h2 : b = false → Okr P Y) : Okr P (match (generalizing := false) b with | true => X | false => Y) := by
  cases b with
  | true => exact h1 rfl
  | false => exact h2 rfl
theorem HC1 {h : AH} {o : AObj} {j : Nat} (hj : j < h.length) : (h ++ [o])[j]? = h[j]? := List.getElem?_append_left hj
theorem HC2 {h : AH} {o : AObj} {j : Nat} (hj : j = h.length) : (h ++ [o])[j]? = some o := by subst hj; simp
theorem HC3 {h : AH} {o : AObj} {i j : Nat} (hij : i ≠ j) : (h.set i o)[j]? = h[j]? := List.getElem?_set_ne hij
theorem HC4 {h : AH} {o : AObj} {i j : Nat} (hij : i = j) (hi : i < h.length) : (h.set i o)[j]? = some o := by subst hij; exact List.getElem?_set_self hi
theorem LEo {a b : Nat} (q : a ≤ b) : (a ≤ b) = True := eq_true q
theorem Keep.ap {a h : AH} {o : AObj} (k : Keep a.length a h) : Keep a.length a (h ++ [o]) := k.trans (Keep.app _ _ k.1)
theorem Keep.st {n i : Nat} {a h : AH} {o : AObj} (hi : n ≤ i) (k : Keep n a h) : Keep n a (h.set i o) := k.trans (Keep.set _ _ _ hi)
theorem slV_new (h : AH) (n : Nat) : newS h n n = slV h.length 0 n n := rfl
/-- append, of which only the outcome is told -/
theorem app_ok {lim : Nat} {h : AH} {id g sz tg n k by' : Nat} {cs ds : List Value} {x : Value} (hl : lim ≤ id) (e : h[id]? = some (.row g tg cs)) (hn : n * sz = cs.length) (hx : lenOf x = some k ∧ srcCells h x k sz = some ds) (hb : (n + k) * by' ≤ 2 ^ 47)
    {Q : Value × AH → Prop} (hq : ∀ g', Q (slV id g' (n + k) (n + k), h.set id (.row g' tg (cs ++ ds)))) : ∃ y, app lim h (slV id g n n) x sz tg by' = some y ∧ Q y := by
  obtain ⟨hx, hs⟩ := hx
  by_cases h0 : k = 0
  · subst h0
    have hds : ds = [] := by
      have := srcCells_len hs hx (Nat.le_refl _)
      rw [Nat.zero_mul] at this
      exact List.eq_nil_of_length_eq_zero this
    subst hds
    refine ⟨_, ?_, hq g⟩
    rw [List.append_nil, set_same e]
    simp only [app, hx, Option.bind_some, if_true, Nat.add_zero]
  · refine ⟨_, ?_, hq (g + 1)⟩
    simp only [app, hx, Option.bind_some]
    rw [if_neg h0, hs, rowAt_of e]
    simp only [Option.bind_some]
    rw [if_neg (by omega), if_pos ⟨hl, True.intro, True.intro, hn, hb⟩]
def AppQ (h : AH) (id n k tg : Nat) (cs ds : List Value) (y : Value × AH) : Prop := ∃ g', y = (slV id g' (n + k) (n + k), h.set id (.row g' tg (cs ++ ds)))
theorem okr_app {lim : Nat} {h : AH} {id g sz tg n k by' : Nat} {cs ds : List Value} {x : Value} (hx : lenOf x = some k ∧ srcCells h x k sz = some ds) (e : h[id]? = some (.row g tg cs)) (hn : n * sz = cs.length) (hl : lim ≤ id) (hb : (n + k) * by' ≤ 2 ^ 47) :
    ∃ y, app lim h (slV id g n n) x sz tg by' = some y ∧ AppQ h id n k tg cs ds y :=
  app_ok hl e hn hx hb fun g' => ⟨g', rfl⟩
theorem src_new {h : AH} {i g n c sz tg : Nat} {ds : List Value} (e : h[i]? = some (.row g tg ds)) (hn : n * sz = ds.length) : lenOf (slV i g n c) = some n ∧ srcCells h (slV i g n c) n sz = some ds := by
  refine ⟨rfl, ?_⟩
  simp only [srcCells, rowAt_of e, Option.bind_some, cut]
  rw [if_pos (by omega), List.drop_zero, List.take_of_length_le (by omega)]
theorem src_keep {h h' : AH} {x : Value} {k sz : Nat} {ds : List Value} (q : lenOf x = some k ∧ srcCells h x k sz = some ds) (hk : Keep h.length h h') : lenOf x = some k ∧ srcCells h' x k sz = some ds := by
  refine ⟨q.1, ?_⟩
  have q2 := q.2
  have key : ∀ (id g : Nat) (r : Nat × List Value), rowAt h id g = some r → rowAt h' id g = some r := by
    intro id g r e
    have hl : id < h.length := by
      rcases Nat.lt_or_ge id h.length with hl | hl
      · exact hl
      · simp only [rowAt, List.getElem?_eq_none hl] at e; exact absurd e (by simp)
    rw [← e]
    simp only [rowAt, hk.2 id hl]
  cases x <;> try exact q2
  rename_i p n c
  cases p with
  | none => exact q2
  | some p =>
    rcases p with ⟨id, off, g⟩
    cases g with
    | none => exact q2
    | some g =>
      simp only [srcCells] at q2 ⊢
      cases hr : rowAt h id g with
      | none => rw [hr] at q2; simp at q2
      | some r => rw [hr] at q2; rw [key id g r hr]; exact q2
theorem Me.app1 {lim : Nat} {h : AH} {id g : Nat} {os : List Me} (y : Me) (e : h[id]? = some (.row g 3 (Me.R os))) (hl : lim ≤ id) (hb : os.length ≤ 2 ^ 30) :
    ∃ z, app lim (h ++ [AObj.row 0 3 (Me.C y)]) (slV id g os.length os.length) (slV h.length 0 1 1) 3 3 40 = some z ∧ ∃ g', z = (slV id g' (os.length + 1) (os.length + 1), (h ++ [AObj.row 0 3 (Me.C y)]).set id (.row g' 3 (Me.R (os ++ [y])))) := by
  have hi := lt_of_get e
  obtain ⟨z, e1, g', rfl⟩ := okr_app (lim := lim) (h := h ++ [AObj.row 0 3 (Me.C y)]) (id := id) (g := g) (tg := 3) (n := os.length) (k := 1) (by' := 40) (cs := Me.R os) (x := slV h.length 0 1 1) (ds := Me.C y) (src_new (i := h.length) (g := 0) (c := 1) (sz := 3) (tg := 3) (HC2 rfl) rfl) (by rw [HC1 hi, e]) (by rw [Me.R_len]; omega) hl (by omega)
  exact ⟨_, e1, g', by rw [Me.R_app, Me.R_one]⟩
theorem Rk.app1 {lim : Nat} {h : AH} {id g : Nat} {os : List Rk} (y : Rk) (e : h[id]? = some (.row g 2 (Rk.R os))) (hl : lim ≤ id) (hb : os.length ≤ 2 ^ 30) :
    ∃ z, app lim (h ++ [AObj.row 0 2 (Rk.C y)]) (slV id g os.length os.length) (slV h.length 0 1 1) 2 2 24 = some z ∧ ∃ g', z = (slV id g' (os.length + 1) (os.length + 1), (h ++ [AObj.row 0 2 (Rk.C y)]).set id (.row g' 2 (Rk.R (os ++ [y])))) := by
  have hi := lt_of_get e
  obtain ⟨z, e1, g', rfl⟩ := okr_app (lim := lim) (h := h ++ [AObj.row 0 2 (Rk.C y)]) (id := id) (g := g) (tg := 2) (n := os.length) (k := 1) (by' := 24) (cs := Rk.R os) (x := slV h.length 0 1 1) (ds := Rk.C y) (src_new (i := h.length) (g := 0) (c := 1) (sz := 2) (tg := 2) (HC2 rfl) rfl) (by rw [HC1 hi, e]) (by rw [Rk.R_len]; omega) hl (by omega)
  exact ⟨_, e1, g', by rw [Rk.R_app, Rk.R_one]⟩
theorem En.app1 {lim : Nat} {h : AH} {id g : Nat} {os : List En} (y : En) (e : h[id]? = some (.row g 9 (En.R os))) (hl : lim ≤ id) (hb : os.length ≤ 2 ^ 30) :
    ∃ z, app lim (h ++ [AObj.row 0 9 (En.C y)]) (slV id g os.length os.length) (slV h.length 0 1 1) 9 9 120 = some z ∧ ∃ g', z = (slV id g' (os.length + 1) (os.length + 1), (h ++ [AObj.row 0 9 (En.C y)]).set id (.row g' 9 (En.R (os ++ [y])))) := by
  have hi := lt_of_get e
  obtain ⟨z, e1, g', rfl⟩ := okr_app (lim := lim) (h := h ++ [AObj.row 0 9 (En.C y)]) (id := id) (g := g) (tg := 9) (n := os.length) (k := 1) (by' := 120) (cs := En.R os) (x := slV h.length 0 1 1) (ds := En.C y) (src_new (i := h.length) (g := 0) (c := 1) (sz := 9) (tg := 9) (HC2 rfl) rfl) (by rw [HC1 hi, e]) (by rw [En.R_len]; omega) hl (by omega)
  exact ⟨_, e1, g', by rw [En.R_app, En.R_one]⟩
theorem lenV_sl {i g n c : Nat} : lenV (slV i g n c) = some (n : Int) := rfl
theorem Me.app2 {lim : Nat} {h : AH} {id g no nh : Nat} {os : List Me} {cs ys : List Value} (y : Me) (e : h[id]? = some (.row g 3 cs)) (hc : cs = Me.R os) (hno : no = os.length) (hnh : nh = h.length) (hl : lim ≤ id) (hb : os.length ≤ 2 ^ 30) (hy : ys = Me.C y) :
    ∃ z, app lim (h ++ [AObj.row 0 3 ys]) (slV id g no no) (slV nh 0 1 1) 3 3 40 = some z ∧ ∃ g', z = (slV id g' (no + 1) (no + 1), (h ++ [AObj.row 0 3 ys]).set id (.row g' 3 (Me.R (os ++ [y])))) := by
  subst hc hno hnh hy
  exact Me.app1 y e hl hb
theorem Rk.app2 {lim : Nat} {h : AH} {id g no nh : Nat} {os : List Rk} {cs ys : List Value} (y : Rk) (e : h[id]? = some (.row g 2 cs)) (hc : cs = Rk.R os) (hno : no = os.length) (hnh : nh = h.length) (hl : lim ≤ id) (hb : os.length ≤ 2 ^ 30) (hy : ys = Rk.C y) :
    ∃ z, app lim (h ++ [AObj.row 0 2 ys]) (slV id g no no) (slV nh 0 1 1) 2 2 24 = some z ∧ ∃ g', z = (slV id g' (no + 1) (no + 1), (h ++ [AObj.row 0 2 ys]).set id (.row g' 2 (Rk.R (os ++ [y])))) := by
  subst hc hno hnh hy
  exact Rk.app1 y e hl hb
theorem En.app2 {lim : Nat} {h : AH} {id g no nh : Nat} {os : List En} {cs ys : List Value} (y : En) (e : h[id]? = some (.row g 9 cs)) (hc : cs = En.R os) (hno : no = os.length) (hnh : nh = h.length) (hl : lim ≤ id) (hb : os.length ≤ 2 ^ 30) (hy : ys = En.C y) :
    ∃ z, app lim (h ++ [AObj.row 0 9 ys]) (slV id g no no) (slV nh 0 1 1) 9 9 120 = some z ∧ ∃ g', z = (slV id g' (no + 1) (no + 1), (h ++ [AObj.row 0 9 ys]).set id (.row g' 9 (En.R (os ++ [y])))) := by
  subst hc hno hnh hy
  exact En.app1 y e hl hb
theorem HA0 (h L : AH) : (h ++ L)[h.length]? = L[0]? := by rw [List.getElem?_append_right (Nat.le_refl _), Nat.sub_self]
theorem HA1 (h L : AH) (k : Nat) : (h ++ L)[h.length + k]? = L[k]? := by rw [List.getElem?_append_right (by omega), Nat.add_sub_cancel_left]
theorem HS0 (h L : AH) (o : AObj) : (h ++ L).set h.length o = h ++ L.set 0 o := by rw [List.set_append_right _ _ (Nat.le_refl _), Nat.sub_self]
theorem HS1 (h L : AH) (k : Nat) (o : AObj) : (h ++ L).set (h.length + k) o = h ++ L.set k o := by rw [List.set_append_right _ _ (by omega), Nat.add_sub_cancel_left]
theorem HAn {h L : AH} {j : Nat} (q : j < h.length) : (h ++ L)[j]? = h[j]? := List.getElem?_append_left q
theorem HSn {h L : AH} {j : Nat} {o : AObj} (q : j < h.length) : (h ++ L).set j o = h.set j o ++ L := List.set_append_left _ _ q
theorem HB0 (h L : AH) (j : Nat) (o : AObj) : (h.set j o ++ L)[h.length]? = L[0]? := by rw [List.getElem?_append_right (by simp), List.length_set, Nat.sub_self]
theorem HB1 (h L : AH) (k j : Nat) (o : AObj) : (h.set j o ++ L)[h.length + k]? = L[k]? := by rw [List.getElem?_append_right (by simp), List.length_set, Nat.add_sub_cancel_left]
theorem HT0 (h L : AH) (j : Nat) (o o2 : AObj) : (h.set j o ++ L).set h.length o2 = h.set j o ++ L.set 0 o2 := by rw [List.set_append_right _ _ (by simp), List.length_set, Nat.sub_self]
theorem HT1 (h L : AH) (k j : Nat) (o o2 : AObj) : (h.set j o ++ L).set (h.length + k) o2 = h.set j o ++ L.set k o2 := by rw [List.set_append_right _ _ (by simp), List.length_set, Nat.add_sub_cancel_left]
theorem Me.app3 {lim : Nat} {h : AH} {id g g2 no nh : Nat} {os : List Me} {cs ys : List Value} (y : Me) (e : h[id]? = some (.row g 3 cs)) (e2 : h[nh]? = some (.row g2 3 ys)) (hc : cs = Me.R os) (hno : no = os.length) (hl : lim ≤ id) (hb : os.length ≤ 2 ^ 30) (hy : ys = Me.C y) :
    ∃ z, app lim h (slV id g no no) (slV nh g2 1 1) 3 3 40 = some z ∧ ∃ g', z = (slV id g' (no + 1) (no + 1), h.set id (.row g' 3 (Me.R (os ++ [y])))) := by
  subst hc hno hy
  obtain ⟨z, e1, g', rfl⟩ := okr_app (lim := lim) (id := id) (g := g) (tg := 3) (n := os.length) (k := 1) (by' := 40) (cs := Me.R os) (x := slV nh g2 1 1) (ds := Me.C y) (src_new (sz := 3) (tg := 3) e2 rfl) e (by rw [Me.R_len]; omega) hl (by omega)
  exact ⟨_, e1, g', by rw [Me.R_app, Me.R_one]⟩
theorem Rk.app3 {lim : Nat} {h : AH} {id g g2 no nh : Nat} {os : List Rk} {cs ys : List Value} (y : Rk) (e : h[id]? = some (.row g 2 cs)) (e2 : h[nh]? = some (.row g2 2 ys)) (hc : cs = Rk.R os) (hno : no = os.length) (hl : lim ≤ id) (hb : os.length ≤ 2 ^ 30) (hy : ys = Rk.C y) :
    ∃ z, app lim h (slV id g no no) (slV nh g2 1 1) 2 2 24 = some z ∧ ∃ g', z = (slV id g' (no + 1) (no + 1), h.set id (.row g' 2 (Rk.R (os ++ [y])))) := by
  subst hc hno hy
  obtain ⟨z, e1, g', rfl⟩ := okr_app (lim := lim) (id := id) (g := g) (tg := 2) (n := os.length) (k := 1) (by' := 24) (cs := Rk.R os) (x := slV nh g2 1 1) (ds := Rk.C y) (src_new (sz := 2) (tg := 2) e2 rfl) e (by rw [Rk.R_len]; omega) hl (by omega)
  exact ⟨_, e1, g', by rw [Rk.R_app, Rk.R_one]⟩
theorem En.app3 {lim : Nat} {h : AH} {id g g2 no nh : Nat} {os : List En} {cs ys : List Value} (y : En) (e : h[id]? = some (.row g 9 cs)) (e2 : h[nh]? = some (.row g2 9 ys)) (hc : cs = En.R os) (hno : no = os.length) (hl : lim ≤ id) (hb : os.length ≤ 2 ^ 30) (hy : ys = En.C y) :
    ∃ z, app lim h (slV id g no no) (slV nh g2 1 1) 9 9 120 = some z ∧ ∃ g', z = (slV id g' (no + 1) (no + 1), h.set id (.row g' 9 (En.R (os ++ [y])))) := by
  subst hc hno hy
  obtain ⟨z, e1, g', rfl⟩ := okr_app (lim := lim) (id := id) (g := g) (tg := 9) (n := os.length) (k := 1) (by' := 120) (cs := En.R os) (x := slV nh g2 1 1) (ds := En.C y) (src_new (sz := 9) (tg := 9) e2 rfl) e (by rw [En.R_len]; omega) hl (by omega)
  exact ⟨_, e1, g', by rw [En.R_app, En.R_one]⟩
theorem okr_stop {P : Value → AH → Prop} {x : R} {w : Fx x} (e : Okr P x) : Okr P (Stop x w) := e
theorem okr_if {P : Value → AH → Prop} {b : Bool} {X Y : R} {w : Fx X} {u : Fx Y} (h1 : b = true → Okr P X) (h2 : b = false → Okr P Y) : Okr P (onB b (Stop X w) (Stop Y u)) := by
  cases b with
  | true => exact h1 rfl
  | false => exact h2 rfl
theorem op_extract {V : Env} {C : Hnd} {lim : Nat} {pan : Value → AH → R} {fr : Frm} {h : AH} {act : Option Bool} {K : Slot → AH → R} (s : TypeId) (x : Operand) (i : Nat) : op1 V C lim pan fr h (.extract x i) s act K = use act (slot fr x) fun v => oE act (tupAt v i) undef fun v => K (mkS act v) h := rfl
theorem tupAt_mk (l : List Value) (i : Nat) : tupAt (.tuple ⟨l⟩) i = l[i]? := rfl
/-! ### bundles of rules about heaps and structures -/
theorem ZK : type_of% @HC1 ∧ type_of% @HC2 ∧ type_of% @HC3 ∧ type_of% @HC4 ∧ type_of% @LEo :=
  ⟨@HC1, @HC2, @HC3, @HC4, @LEo⟩
theorem ZH : type_of% @HA0 ∧ type_of% @HA1 ∧ type_of% @HS0 ∧ type_of% @HS1 ∧ type_of% @HB0 ∧ type_of% @HB1 ∧ type_of% @HT0 ∧ type_of% @HT1 ∧ type_of% @HAn ∧ type_of% @HSn ∧ type_of% @HC3 ∧ type_of% @HC4 ∧ type_of% @LEo ∧ type_of% @Nat.add_assoc ∧ type_of% @List.append_assoc.{0} :=
  ⟨@HA0, @HA1, @HS0, @HS1, @HB0, @HB1, @HT0, @HT1, @HAn, @HSn, @HC3, @HC4, @LEo, @Nat.add_assoc, @List.append_assoc⟩
theorem ZS : type_of% @Me.c0 ∧ type_of% @Me.c1 ∧ type_of% @Me.c2 ∧ type_of% @Me.get ∧ type_of% @Me.R_len ∧ type_of% @Rk.c0 ∧ type_of% @Rk.c1 ∧ type_of% @Rk.get ∧ type_of% @Rk.R_len ∧ type_of% @En.c0 ∧ type_of% @En.c1 ∧ type_of% @En.c2 ∧ type_of% @En.c3 ∧ type_of% @En.c4 ∧ type_of% @En.c5 ∧ type_of% @En.c6 ∧ type_of% @En.c7 ∧ type_of% @En.c8 ∧ type_of% @En.get ∧ type_of% @En.R_len ∧ type_of% @Bool.not_true ∧ type_of% @Bool.not_false ∧ type_of% @lenV_sl ∧ type_of% @tupAt_mk :=
  ⟨@Me.c0, @Me.c1, @Me.c2, @Me.get, @Me.R_len, @Rk.c0, @Rk.c1, @Rk.get, @Rk.R_len, @En.c0, @En.c1, @En.c2, @En.c3, @En.c4, @En.c5, @En.c6, @En.c7, @En.c8, @En.get, @En.R_len, @Bool.not_true, @Bool.not_false, @lenV_sl, @tupAt_mk⟩
theorem ZR : type_of% @Me.R_len ∧ type_of% @Rk.R_len ∧ type_of% @En.R_len :=
  ⟨@Me.R_len, @Rk.R_len, @En.R_len⟩
theorem dS {a b c} (h : drawS a b = some c) : drawS a b = some c := h
theorem dM {a b d c} (h : drawM a b d = some c) : drawM a b d = some c := h
theorem dO {a b : Option AObj} (h : a = b) : a = b := h
theorem dK {n : Nat} {a b : AH} (h : Keep n a b) : Keep n a b := h
end Go.Abs
namespace Go.Abs
open Go.Proofs
set_option maxRecDepth 100000
set_option linter.unusedSimpArgs false
set_option linter.unusedVariables false
set_option pp.maxSteps 20000
set_option pp.deepTerms true
/-! ### draws, with the heap told -/
abbrev rdO (va : Value) (p : Nat) : AObj := .row 0 2 [va, iV p]
structure OfQ (xs : List Bs) (H : AH) (id : Nat) (va : Value) (p : Nat) (v : Value) (h' : AH) : Prop where
  ex : ∃ x, v = sV x ∧ x ∈ xs
  k : h' = H.set id (rdO va (p + 1))
theorem okr_of {id : Nat} {va : Value} {n p l k i2 : Nat} {H : AH} {cs : List Value} (xs : List Bs) (r : Rd H id va n p) (hl : l ≤ id) (e : H[i2]? = some (.row 0 1 cs)) (hc : cs = sL xs) (hk : k = xs.length) (hi : i2 ≠ id) (h0 : 0 < xs.length) (hx : xs.length ≤ 2 ^ 20) (hn : n ≤ 2 ^ 62) (hp : p ≤ 2 ^ 40) :
    Okr (OfQ xs H id va p) (run V0 (.fn 54) l [S (pV id 0 0), S (slV i2 0 k k)] H) := by
  subst hc hk
  obtain ⟨x, h', a1, a2, a3⟩ := r54 id va n p l H i2 xs r hl e hi h0 hx hn hp
  exact ⟨_, _, a2, ⟨x, rfl, a1⟩, a3⟩
structure PickQ (K : Nat) (H : AH) (id : Nat) (va : Value) (p : Nat) (v : Value) (h' : AH) : Prop where
  ex : ∃ m : Nat, v = iV m ∧ m < K
  k : h' = H.set id (rdO va (p + 1))
theorem okr_pick {id : Nat} {va : Value} {n p l : Nat} {H : AH} (K : Nat) {k : Int} (r : Rd H id va n p) (hl : l ≤ id) (hk : k = K) (h0 : 0 < K) (hx : K ≤ 2 ^ 20) (hn : n ≤ 2 ^ 62) (hp : p ≤ 2 ^ 40) :
    Okr (PickQ K H id va p) (run V0 (.fn 77) l [S (pV id 0 0), S (iV k)] H) := by
  subst hk
  obtain ⟨m, h', a1, a2, a3⟩ := r77 id va n p K l H r hl h0 hx hn hp
  exact ⟨_, _, a1, ⟨m, rfl, a2⟩, a3⟩
structure OneQ (xs : List Int) (H : AH) (id : Nat) (va : Value) (p : Nat) (v : Value) (h' : AH) : Prop where
  ex : ∃ x, v = iV x ∧ x ∈ xs
  k : h' = H.set id (rdO va (p + 1))
theorem Rd.kp {h L : AH} {id : Nat} {va : Value} {n p : Nat} (r : Rd h id va n p) (p' : Nat) : Rd (h.set id (rdO va p') ++ L) id va n p' := by
  have hid := lt_of_get r.1
  exact (r.step p').keep (Keep.app _ _ (by rw [List.length_set]; omega))
theorem Rd.ap {h L : AH} {id : Nat} {va : Value} {n p : Nat} (r : Rd h id va n p) : Rd (h ++ L) id va n p := by
  have hid := lt_of_get r.1
  exact r.keep (Keep.app _ _ (by omega))
theorem okr_one {id : Nat} {va : Value} {n p l k i2 : Nat} {H : AH} {cs : List Value} (xs : List Int) (r : Rd H id va n p) (hl : l ≤ id) (e : H[i2]? = some (.row 0 1 cs)) (hc : cs = iL xs) (hk : k = xs.length) (hi : i2 ≠ id) (h0 : 0 < xs.length) (hx : xs.length ≤ 2 ^ 20) (hn : n ≤ 2 ^ 62) (hp : p ≤ 2 ^ 40) :
    Okr (OneQ xs H id va p) (run V0 (.fn 93) l [S (pV id 0 0), S (slV i2 0 k k)] H) := by
  subst hc hk
  obtain ⟨m, h', a1, a2, a3⟩ := r77 id va n p xs.length l H r hl h0 hx hn hp
  refine ⟨iV xs[m], h', run_fn Try.func93 rfl rfl rfl rfl ?_, ⟨xs[m], rfl, List.getElem_mem a2⟩, a3⟩
  have hix : ixAddr (slV i2 0 xs.length xs.length) (m : Int) 1 = some (pV i2 m 0) := by rw [ixAddr_sl a2]; simp
  have hld : ld h' (pV i2 m 0) = some (iV xs[m]) := ld_of (by rw [a3, List.getElem?_set_ne (Ne.symm hi), e]) (by simp [iL, a2])
  simp only [↓XX, ↓XD, ↓YX, ZB, Nat.reduceAdd, Nat.reducePow, ↓reduceIte, eq_self, Int.reduceEq, Nat.reduceEqDiff, Nat.reduceMul, Nat.reduceLeDiff, Try.f93, lenV, a1, hix, hld]
end Go.Abs
