/- The words of two texts are those of the one behind the other; what is drawn; and that the law FnWords answers true. For every input; no condition. -/
import Derived.Test.YtdhogmkdmbfijaaWordsA
namespace Go.Abs
set_option linter.unusedSimpArgs false

/-! ### words, as a plain law -/
/-- all words of a text, in order, small -/
def toksF : Nat → Bs → List Bs
  | 0, _ => []
  | _ + 1, [] => []
  | f + 1, b :: s => ((spanW (b :: s)).map lowB) :: toksF f ((b :: s).drop ((spanW (b :: s)).length + 1))
theorem wordsF_toks : ∀ (f : Nat) (s : Bs) (out : List Bs), wordsF f out s = (toksF f s).foldl addW out := by
  intro f
  induction f with
  | zero => intro s out; rfl
  | succ f ih =>
    intro s out
    cases s with
    | nil => rfl
    | cons b s => simp only [wordsF, toksF, List.foldl_cons]; exact ih _ _
theorem toksF_le : ∀ (f f' : Nat) (s : Bs), s.length ≤ f → s.length ≤ f' → toksF f s = toksF f' s := by
  intro f
  induction f with
  | zero => intro f' s h _; cases s with | nil => cases f' <;> rfl | cons _ _ => simp at h
  | succ f ih =>
    intro f' s h h'
    cases s with
    | nil => cases f' <;> rfl
    | cons b s =>
      cases f' with
      | zero => simp at h'
      | succ f' =>
        simp only [List.length_cons] at h h'
        simp only [toksF]
        have : ((b :: s).drop ((spanW (b :: s)).length + 1)).length ≤ s.length := by rw [List.length_drop, List.length_cons]; omega
        rw [ih f' _ (by omega) (by omega)]
def toks (s : Bs) : List Bs := toksF s.length s
theorem wordsL_toks (s : Bs) : wordsL s = (toks s).foldl addW [] := wordsF_toks _ _ _
theorem toks_cons (b : UInt8) (s : Bs) : toks (b :: s) = ((spanW (b :: s)).map lowB) :: toks ((b :: s).drop ((spanW (b :: s)).length + 1)) := by
  unfold toks
  simp only [List.length_cons, toksF]
  congr 1
  exact toksF_le _ _ _ (by rw [List.length_drop, List.length_cons]; omega) (Nat.le_refl _)
theorem spanW_stop (a r : Bs) (c : UInt8) (hc : wordI c.toNat = false) : spanW (a ++ c :: r) = spanW a := by
  unfold spanW
  induction a with
  | nil => simp [List.takeWhile_cons, hc]
  | cons b a ih =>
    rw [List.cons_append, List.takeWhile_cons, List.takeWhile_cons]
    split
    · rw [ih]
    · rfl
theorem toks_sep (b : Bs) (c : UInt8) (hc : wordI c.toNat = false) : ∀ (n : Nat) (a : Bs), a.length ≤ n → ∃ z, (z = [] ∨ z = [[]]) ∧ toks (a ++ c :: b) = toks a ++ z ++ toks b := by
  intro n
  induction n with
  | zero =>
    intro a ha
    obtain rfl : a = [] := by cases a with | nil => rfl | cons _ _ => simp at ha
    refine ⟨[[]], .inr rfl, ?_⟩
    rw [List.nil_append, toks_cons]
    have : spanW (c :: b) = [] := by simp [spanW, List.takeWhile_cons, hc]
    rw [this]; rfl
  | succ n ih =>
    intro a ha
    cases a with
    | nil =>
      refine ⟨[[]], .inr rfl, ?_⟩
      rw [List.nil_append, toks_cons]
      have : spanW (c :: b) = [] := by simp [spanW, List.takeWhile_cons, hc]
      rw [this]; rfl
    | cons x a =>
      rw [List.cons_append, toks_cons, toks_cons]
      have hsp : spanW (x :: (a ++ c :: b)) = spanW (x :: a) := spanW_stop (x :: a) b c hc
      rw [hsp]
      have hle := spanW_le (x :: a)
      by_cases hf : (spanW (x :: a)).length = (x :: a).length
      · refine ⟨[], .inl rfl, ?_⟩
        have h1 : (x :: (a ++ c :: b)).drop ((spanW (x :: a)).length + 1) = b := by
          rw [hf, show x :: (a ++ c :: b) = (x :: a) ++ c :: b from rfl, ← List.drop_drop, List.drop_left]; rfl
        have h2 : (x :: a).drop ((spanW (x :: a)).length + 1) = [] := List.drop_of_length_le (by omega)
        rw [h1, h2]; rfl
      · have h1 : (x :: (a ++ c :: b)).drop ((spanW (x :: a)).length + 1) = (x :: a).drop ((spanW (x :: a)).length + 1) ++ c :: b := by
          rw [show x :: (a ++ c :: b) = (x :: a) ++ c :: b from rfl, List.drop_append_of_le_length (by omega)]
        obtain ⟨z, hz, e⟩ := ih ((x :: a).drop ((spanW (x :: a)).length + 1)) (by rw [List.length_drop]; simp only [List.length_cons] at ha ⊢; omega)
        exact ⟨z, hz, by rw [h1, e]; simp⟩
/-- one text behind another -/
theorem words_two (a b : Bs) : wordsL (a ++ 32 :: b) = (toks b).foldl addW (wordsL a) := by
  obtain ⟨z, hz, e⟩ := toks_sep b 32 rfl a.length a (Nat.le_refl _)
  rw [wordsL_toks, e, List.foldl_append, List.foldl_append, ← wordsL_toks]
  rcases hz with rfl | rfl
  · rfl
  · simp only [List.foldl_cons, List.foldl_nil, addW_nil]
theorem foldl_addW (out : List Bs) : ∀ (r : List Bs), r.reverse.foldl addW out = out ++ (r.reverse.foldl addW []).filter (fun x => !decide (x ∈ out)) := by
  intro r
  induction r with
  | nil => simp
  | cons t r ih =>
    rw [List.reverse_cons, List.foldl_append, List.foldl_append, ih]
    simp only [List.foldl_cons, List.foldl_nil]
    generalize hW : r.reverse.foldl addW [] = W
    unfold addW
    by_cases h0 : t = []
    · simp [h0]
    · by_cases h1 : t ∈ W
      · have : t ∈ out ++ W.filter (fun x => !decide (x ∈ out)) := by
          by_cases h2 : t ∈ out
          · exact List.mem_append_left _ h2
          · exact List.mem_append_right _ (List.mem_filter.2 ⟨h1, by simp [h2]⟩)
        rw [if_pos (.inr this), if_pos (.inr h1)]
      · by_cases h2 : t ∈ out
        · rw [if_pos (.inr (List.mem_append_left _ h2)), if_neg (by simp [h0, h1])]
          simp [List.filter_append, h2]
        · have : ¬ t ∈ out ++ W.filter (fun x => !decide (x ∈ out)) := by
            intro q
            rcases List.mem_append.1 q with q | q
            · exact h2 q
            · exact h1 (List.mem_filter.1 q).1
          rw [if_neg (by simp only [h0, false_or]; exact this), if_neg (by simp [h0, h1])]
          simp [List.filter_append, h2]
theorem words_all (a b : Bs) : wordsL (a ++ 32 :: b) = wordsL a ++ (wordsL b).filter (fun x => !decide (x ∈ wordsL a)) := by
  rw [words_two]
  have := foldl_addW (wordsL a) (toks b).reverse
  rw [List.reverse_reverse] at this
  rw [this, ← wordsL_toks]
/-! ### what a word is -/
def isWord (x : Bs) : Prop := x ≠ [] ∧ ∀ c ∈ x, wordI c.toNat = true ∧ lowB c = c
theorem lowB_word (b : UInt8) (h : wordI b.toNat = true) : wordI (lowB b).toNat = true ∧ lowB (lowB b) = lowB b := by
  unfold lowB
  by_cases h1 : 65 ≤ b.toNat ∧ b.toNat ≤ 90
  · rw [if_pos h1]
    have h2 : (b + 32).toNat = b.toNat + 32 := by rw [UInt8.toNat_add]; have : (32 : UInt8).toNat = 32 := rfl; rw [this]; omega
    rw [h2, if_neg (by omega)]
    refine ⟨?_, rfl⟩
    unfold wordI
    have a1 : decide ((97 : Int) ≤ ((b.toNat + 32 : Nat) : Int)) = true := decide_eq_true (by omega)
    have a2 : decide (((b.toNat + 32 : Nat) : Int) ≤ 122) = true := decide_eq_true (by omega)
    rw [a1, a2]; rfl
  · rw [if_neg h1, if_neg h1]; exact ⟨h, rfl⟩
theorem spanW_all (s : Bs) : ∀ c ∈ spanW s, wordI c.toNat = true := by
  unfold spanW
  induction s with
  | nil => intro c hc; cases hc
  | cons b s ih =>
    intro c hc
    rw [List.takeWhile_cons] at hc
    split at hc
    · rename_i hb
      rcases List.mem_cons.1 hc with rfl | hc
      · exact hb
      · exact ih c hc
    · cases hc
theorem tok_ok (s : Bs) : (spanW s).map lowB = [] ∨ isWord ((spanW s).map lowB) := by
  by_cases h : (spanW s).map lowB = []
  · exact .inl h
  · refine .inr ⟨h, fun c hc => ?_⟩
    obtain ⟨b, hb, rfl⟩ := List.mem_map.1 hc
    exact lowB_word b (spanW_all s b hb)
theorem toksF_ok : ∀ (f : Nat) (s : Bs), ∀ x ∈ toksF f s, x = [] ∨ isWord x := by
  intro f
  induction f with
  | zero => intro s x hx; cases hx
  | succ f ih =>
    intro s x hx
    cases s with
    | nil => cases hx
    | cons b s =>
      simp only [toksF] at hx
      rcases List.mem_cons.1 hx with rfl | hx
      · exact tok_ok _
      · exact ih _ x hx
theorem foldl_ok : ∀ (ts out : List Bs), (∀ x ∈ ts, x = [] ∨ isWord x) → (∀ x ∈ out, isWord x) → ∀ x ∈ ts.foldl addW out, isWord x := by
  intro ts
  induction ts with
  | nil => intro out _ ho; exact ho
  | cons t ts ih =>
    intro out ht ho
    refine ih _ (fun x hx => ht x (List.mem_cons_of_mem _ hx)) ?_
    intro x hx
    unfold addW at hx
    split at hx
    · exact ho x hx
    · rename_i hq
      rcases List.mem_append.1 hx with hx | hx
      · exact ho x hx
      · rw [List.mem_singleton.1 hx]
        rcases ht t (List.mem_cons_self) with q | q
        · exact absurd (.inl q) hq
        · exact q
theorem words_ok (s : Bs) : ∀ x ∈ wordsL s, isWord x := by
  rw [wordsL_toks]
  exact foldl_ok _ [] (toksF_ok _ _) (by simp)
theorem words_one (x : Bs) (h : isWord x) : wordsL x = [x] := by
  obtain ⟨h0, h1⟩ := h
  have hs : spanW x = x := by
    have := spanW_app x [] (fun b hb => (h1 b hb).1)
    rw [List.append_nil] at this
    rw [this]; simp [spanW]
  have hl : x.map lowB = x := by
    have : x.map lowB = x.map (fun c => c) := List.map_congr_left fun c hc => (h1 c hc).2
    rw [this]; simp
  rw [wordsL_toks]
  cases x with
  | nil => exact absurd rfl h0
  | cons b s =>
    rw [toks_cons, hs, hl]
    have : (b :: s).drop ((b :: s).length + 1) = [] := List.drop_of_length_le (by omega)
    rw [this]
    show [b :: s].foldl addW [] = [b :: s]
    simp [addW]
theorem toksF_short : ∀ (f : Nat) (s : Bs), ∀ x ∈ toksF f s, x.length ≤ s.length := by
  intro f
  induction f with
  | zero => intro s x hx; cases hx
  | succ f ih =>
    intro s x hx
    cases s with
    | nil => cases hx
    | cons b s =>
      simp only [toksF] at hx
      rcases List.mem_cons.1 hx with rfl | hx
      · rw [List.length_map]; exact spanW_le _
      · have := ih _ x hx
        rw [List.length_drop] at this; omega
theorem foldl_sub : ∀ (ts out : List Bs), ∀ x ∈ ts.foldl addW out, x ∈ ts ∨ x ∈ out := by
  intro ts
  induction ts with
  | nil => intro out x hx; exact .inr hx
  | cons t ts ih =>
    intro out x hx
    rcases ih _ x hx with q | q
    · exact .inl (List.mem_cons_of_mem _ q)
    · unfold addW at q
      split at q
      · exact .inr q
      · rcases List.mem_append.1 q with q | q
        · exact .inr q
        · rw [List.mem_singleton.1 q]; exact .inl List.mem_cons_self
theorem words_short (s : Bs) : ∀ x ∈ wordsL s, x.length ≤ s.length := by
  intro x hx
  rw [wordsL_toks] at hx
  rcases foldl_sub _ _ x hx with q | q
  · exact toksF_short _ _ x q
  · cases q
end Go.Abs
namespace Go.Abs
open Go.Proofs
set_option maxRecDepth 100000
set_option linter.unusedSimpArgs false
set_option pp.maxSteps 20000

/-! ### draws -/
def RdB (h : AH) (va : Value) (n id : Nat) : Prop := (va = .slice none 0 0 ∧ n = 0) ∨ ∃ i g c bs, va = slV i g n c ∧ h[i]? = some (.row g 1 (u8c bs)) ∧ n ≤ bs.length ∧ i < id
def Rd (h : AH) (id : Nat) (va : Value) (n p : Nat) : Prop := h[id]? = some (.row 0 2 [va, iV p]) ∧ RdB h va n id
theorem RdB.len {h : AH} {va : Value} {n id : Nat} (r : RdB h va n id) : lenV va = some (n : Int) := by
  rcases r with ⟨rfl, rfl⟩ | ⟨i, g, c, bs, rfl, _⟩ <;> rfl
theorem RdB.get {h : AH} {va : Value} {n id : Nat} (r : RdB h va n id) (j : Nat) (hj : j < n) : ∃ p b, ixAddr va (j : Int) 1 = some p ∧ ld h p = some (.int .u8 ((b : Nat) : Int)) ∧ b < 256 := by
  rcases r with ⟨_, q⟩ | ⟨i, g, c, bs, rfl, e, hn, _⟩
  · omega
  · have hjb : j < bs.length := by omega
    refine ⟨pV i j g, (bs[j]).toNat, by rw [ixAddr_sl hj]; simp, ld_of e ?_, UInt8.toNat_lt _⟩
    simp [u8c, hjb]
theorem RdB.keep {h h' : AH} {va : Value} {n id : Nat} (r : RdB h va n id) (k : ∀ j, j < id → h'[j]? = h[j]?) : RdB h' va n id := by
  rcases r with q | ⟨i, g, c, bs, hv, e, hn, hi⟩
  · exact .inl q
  · exact .inr ⟨i, g, c, bs, hv, by rw [k i hi, e], hn, hi⟩
theorem Rd.keep {h h' : AH} {id : Nat} {va : Value} {n p : Nat} (r : Rd h id va n p) (k : Keep (id + 1) h h') : Rd h' id va n p :=
  ⟨by rw [k.2 id (by omega), r.1], r.2.keep fun j hj => k.2 j (by omega)⟩
theorem xor_nn (a b : Int) (ha : 0 ≤ a ∧ a < 2 ^ 62) (hb : 0 ≤ b ∧ b < 2 ^ 62) : 0 ≤ xorI .i64 a b := by
  unfold xorI
  have h1 : (BitVec.ofInt 64 a).toNat = a.toNat := by rw [BitVec.toNat_ofInt]; omega
  have h2 : (BitVec.ofInt 64 b).toNat = b.toNat := by rw [BitVec.toNat_ofInt]; omega
  have h3 : (BitVec.ofInt 64 a ^^^ BitVec.ofInt 64 b).toNat < 2 ^ 62 := by
    rw [BitVec.toNat_xor, h1, h2]
    exact Nat.xor_lt_two_pow (by omega) (by omega)
  have e : ((BitVec.ofInt IntKind.i64.bits a ^^^ BitVec.ofInt IntKind.i64.bits b).toNat : Int) = ((BitVec.ofInt 64 a ^^^ BitVec.ofInt 64 b).toNat : Int) := rfl
  rw [e, wrap64 (by omega)]
  omega
theorem tmod_nat (a b : Nat) : (a : Int).tmod (b : Int) = ((a % b : Nat) : Int) := by rw [Int.tmod_eq_emod_of_nonneg (by omega)]; rfl
theorem tdiv_nat (a b : Nat) : (a : Int).tdiv (b : Int) = ((a / b : Nat) : Int) := by rw [Int.tdiv_eq_ediv_of_nonneg (by omega)]; rfl
theorem tmod_range (a : Int) (k : Nat) (ha : 0 ≤ a) (hk : 0 < k) : ∃ m : Nat, a.tmod (k : Int) = (m : Int) ∧ m < k := by
  obtain ⟨n, rfl⟩ : ∃ n : Nat, a = n := ⟨a.toNat, by omega⟩
  exact ⟨n % k, tmod_nat n k, Nat.mod_lt _ hk⟩
/-- spec.l16Rd.pick -/
theorem r77 (id : Nat) (va : Value) (n p K : Nat) (l : Nat) (h : AH) (r : Rd h id va n p) (hl : l ≤ id) (hK : 0 < K) (hK2 : K ≤ 2 ^ 20) (hn : n ≤ 2 ^ 62) (hp : p ≤ 2 ^ 40) :
    ∃ m h', run V0 (.fn 77) l [S (pV id 0 0), S (iV K)] h = some (.ret (iV (m : Nat)) h') ∧ m < K ∧ h' = h.set id (.row 0 2 [va, iV (p + 1 : Nat)]) := by
  obtain ⟨e, rb⟩ := r
  have hlen := rb.len
  have l1 : ld h (pV id 1 0) = some (iV p) := ld_of e rfl
  have w1 : IntKind.i64.wrap ((p : Int) + 1) = ((p + 1 : Nat) : Int) := by rw [wrap64 (by omega)]; omega
  have w2 : IntKind.i64.wrap (((p + 1 : Nat) : Int) - 1) = (p : Int) := by rw [wrap64 (by omega)]; omega
  have hst : stN l h (pV id 1 0) [iV (p + 1 : Nat)] = some (h.set id (.row 0 2 [va, iV (p + 1 : Nat)])) := by
    rw [st1_of hl e (by simp) rfl]; rfl
  have e1 := get_set (.row 0 2 [va, iV (p + 1 : Nat)]) e
  have rb1 : RdB (h.set id (.row 0 2 [va, iV (p + 1 : Nat)])) va n id := rb.keep fun j hj => by rw [List.getElem?_set_ne (by omega)]
  generalize hh1 : h.set id (.row 0 2 [va, iV (p + 1 : Nat)]) = h1 at *
  have m1 : ld h1 (pV id 1 0) = some (iV (p + 1 : Nat)) := ld_of e1 rfl
  have m0 : ld h1 (pV id 0 0) = some va := ld_of e1 rfl
  have ha : ∀ k, addOff (pV id 0 0) k = some (pV id (0 + k) 0) := fun _ => rfl
  have hnn : nonNil (pV id 0 0) = some (pV id 0 0) := rfl
  have hK1 : decide ((K : Int) < 1) = false := decide_eq_false (by omega)
  have hK0 : ((K : Int) = 0) = False := eq_false (by omega)
  by_cases h0 : n = 0
  · subst h0
    refine ⟨0, h1, run_fn Try.func77 rfl rfl rfl rfl ?_, hK, rfl⟩
    have hz : ((((0 : Nat) : Int)) == 0) = true := rfl
    simp (disch := (refine _root_.id ?_; kernel_rfl)) only [↓XX, ↓XD, ↓YX, fg0, fs0, fg1, fs1, fg2, fs2, fg3, fs3, fg4, fs4, fg5, fs5, fg6, fs6, fg7, fs7, fg8, fs8, dstOf, padF, List.length_cons, List.length_nil, Nat.reduceAdd, Nat.zero_add, Nat.zero_mul, Nat.mul_one, Nat.reducePow, Nat.le_refl, and_self, ↓reduceIte, Option.bind_some, Option.map_some, cond_true, cond_false, eq_self, decide_true, convNum, Int.reduceEq, Option.getD_none, Option.getD_some, Option.isNone_some, Option.isNone_none, Option.isSome_some, Bool.or_true, Bool.true_or, Bool.false_or, Nat.reduceEqDiff, Nat.reduceMul, Nat.reduceLeDiff, Try.f77, ha, hnn, l1, w1, hst, m1, m0, hlen, hK1, hz]
    rfl
  · have hz : ((n : Int) == 0) = false := by simp; omega
    have hn0 : ((n : Int) = 0) = False := eq_false (by omega)
    by_cases h2 : p < n
    · obtain ⟨q, b, hq1, hq2, hb⟩ := rb1.get p h2
      have hlt : decide ((p : Int) < (n : Int)) = true := decide_eq_true (by omega)
      have wb : IntKind.i64.wrap ((b : Nat) : Int) = (b : Int) := wrap64 (by omega)
      refine ⟨b % K, h1, run_fn Try.func77 rfl rfl rfl rfl ?_, Nat.mod_lt _ hK, rfl⟩
      simp (disch := (refine _root_.id ?_; kernel_rfl)) only [↓XX, ↓XD, ↓YX, fg0, fs0, fg1, fs1, fg2, fs2, fg3, fs3, fg4, fs4, fg5, fs5, fg6, fs6, fg7, fs7, fg8, fs8, dstOf, padF, List.length_cons, List.length_nil, Nat.reduceAdd, Nat.zero_add, Nat.zero_mul, Nat.mul_one, Nat.reducePow, Nat.le_refl, and_self, ↓reduceIte, Option.bind_some, Option.map_some, cond_true, cond_false, eq_self, decide_true, convNum, Int.reduceEq, Option.getD_none, Option.getD_some, Option.isNone_some, Option.isNone_none, Option.isSome_some, Bool.or_true, Bool.true_or, Bool.false_or, Nat.reduceEqDiff, Nat.reduceMul, Nat.reduceLeDiff, Try.f77, ha, hnn, l1, w1, hst, m1, m0, hlen, hK1, hz, w2, hlt, hq1, hq2, wb, hK0, tmod_nat]
    · have hlt : decide ((p : Int) < (n : Int)) = false := decide_eq_false (by omega)
      have hnp : 0 < n := by omega
      obtain ⟨q1, b1, a1, c1, d1⟩ := rb1.get (p % n) (Nat.mod_lt _ hnp)
      obtain ⟨q2, b2, a2, c2, d2⟩ := rb1.get ((p * 7 + 3) % n) (Nat.mod_lt _ hnp)
      have x1 : IntKind.i64.wrap ((b1 : Nat) : Int) = (b1 : Int) := wrap64 (by omega)
      have x2 : IntKind.i64.wrap ((b2 : Nat) : Int) = (b2 : Int) := wrap64 (by omega)
      have x3 : IntKind.i64.wrap ((b1 : Int) * 131) = (b1 : Int) * 131 := wrap64 (by omega)
      have x4 : IntKind.i64.wrap ((b2 : Int) * 1117) = (b2 : Int) * 1117 := wrap64 (by omega)
      have x5 : IntKind.i64.wrap ((p : Int) * 7) = (p : Int) * 7 := wrap64 (by omega)
      have x6 : IntKind.i64.wrap ((p : Int) * 7 + 3) = ((p * 7 + 3 : Nat) : Int) := by rw [wrap64 (by omega)]; omega
      have x7 : IntKind.i64.wrap ((b1 : Int) * 131 + (b2 : Int) * 1117) = (b1 : Int) * 131 + (b2 : Int) * 1117 := wrap64 (by omega)
      have x8 : IntKind.i64.wrap ((p : Int) * 29) = (p : Int) * 29 := wrap64 (by omega)
      have x9 : IntKind.i64.wrap ((b1 : Int) * 131 + (b2 : Int) * 1117 + (p : Int) * 29) = (b1 : Int) * 131 + (b2 : Int) * 1117 + (p : Int) * 29 := wrap64 (by omega)
      have hdiv : p / n ≤ p := Nat.div_le_self _ _
      have hdv := tdiv_nat p n
      generalize p / n = pd at *
      have y1 : IntKind.i64.wrap (pd : Int) = (pd : Int) := wrap64 (by omega)
      have y2 : IntKind.i64.wrap ((pd : Int) * 53) = (pd : Int) * 53 := wrap64 (by omega)
      have y3 : IntKind.i64.wrap ((b1 : Int) * 131 + (b2 : Int) * 1117 + (p : Int) * 29 + (pd : Int) * 53) = ((b1 * 131 + b2 * 1117 + p * 29 + pd * 53 : Nat) : Int) := by rw [wrap64 (by omega)]; omega
      have hx : b1 * 131 + b2 * 1117 + p * 29 + pd * 53 ≤ 2 ^ 50 := by omega
      generalize b1 * 131 + b2 * 1117 + p * 29 + pd * 53 = x at *
      have hxd : x / 64 ≤ x := Nat.div_le_self _ _
      have z0 : IntKind.i64.wrap ((x : Int).tdiv 64) = ((x / 64 : Nat) : Int) := by
        have := tdiv_nat x 64
        rw [show ((64 : Nat) : Int) = 64 from rfl] at this
        rw [this, wrap64 (by omega)]
      have hxn := xor_nn (x : Int) ((x / 64 : Nat) : Int) (by omega) (by omega)
      obtain ⟨m, hm1, hm2⟩ := tmod_range _ K hxn hK
      refine ⟨m, h1, run_fn Try.func77 rfl rfl rfl rfl ?_, hm2, rfl⟩
      simp (disch := (refine _root_.id ?_; kernel_rfl)) only [↓XX, ↓XD, ↓YX, fg0, fs0, fg1, fs1, fg2, fs2, fg3, fs3, fg4, fs4, fg5, fs5, fg6, fs6, fg7, fs7, fg8, fs8, dstOf, padF, List.length_cons, List.length_nil, Nat.reduceAdd, Nat.zero_add, Nat.zero_mul, Nat.mul_one, Nat.reducePow, Nat.le_refl, and_self, ↓reduceIte, Option.bind_some, Option.map_some, cond_true, cond_false, eq_self, decide_true, convNum, Int.reduceEq, Option.getD_none, Option.getD_some, Option.isNone_some, Option.isNone_none, Option.isSome_some, Bool.or_true, Bool.true_or, Bool.false_or, Nat.reduceEqDiff, Nat.reduceMul, Nat.reduceLeDiff, Try.f77, ha, hnn, l1, w1, hst, m1, m0, hlen, hK1, hz, w2, hlt, hn0, tmod_nat, hdv, a1, c1, x1, x3, x5, x6, a2, c2, x2, x4, x7, x8, x9, y1, y2, y3, z0, hK0, hm1]
/-- spec.l16Rd.of -/
theorem r54 (id : Nat) (va : Value) (n p : Nat) (l : Nat) (h : AH) (i2 : Nat) (xs : List Bs) (r : Rd h id va n p) (hl : l ≤ id) (e : h[i2]? = some (.row 0 1 (sC xs))) (hi : i2 ≠ id) (h0 : 0 < xs.length) (hx : xs.length ≤ 2 ^ 20) (hn : n ≤ 2 ^ 62) (hp : p ≤ 2 ^ 40) :
    ∃ x h', x ∈ xs ∧ run V0 (.fn 54) l [S (pV id 0 0), S (slV i2 0 xs.length xs.length)] h = some (.ret (sV x) h') ∧ h' = h.set id (.row 0 2 [va, iV (p + 1 : Nat)]) := by
  obtain ⟨m, h', a1, a2, a3⟩ := r77 id va n p xs.length l h r hl h0 hx hn hp
  refine ⟨xs[m], h', List.getElem_mem a2, run_fn Try.func54 rfl rfl rfl rfl ?_, a3⟩
  have hix : ixAddr (slV i2 0 xs.length xs.length) (m : Int) 1 = some (pV i2 m 0) := by rw [ixAddr_sl a2]; simp
  have hld : ld h' (pV i2 m 0) = some (sV xs[m]) := ld_of (by rw [a3, List.getElem?_set_ne (Ne.symm hi), e]) (by simp [sC, a2])
  simp only [↓XX, ↓XD, ↓YX, fg0, fs0, fg1, fs1, fg2, fs2, fg3, fs3, fg4, fs4, fg5, fs5, fg6, fs6, fg7, fs7, fg8, fs8, dstOf, padF, List.length_cons, List.length_nil, Nat.reduceAdd, Nat.zero_add, Nat.zero_mul, Nat.mul_one, Nat.reducePow, Nat.le_refl, and_self, ↓reduceIte, Option.bind_some, Option.map_some, cond_true, cond_false, eq_self, decide_true, convNum, Int.reduceEq, Option.getD_none, Option.getD_some, Option.isNone_some, Option.isNone_none, Option.isSome_some, Bool.or_true, Bool.true_or, Bool.false_or, Nat.reduceEqDiff, Nat.reduceMul, Nat.reduceLeDiff, Try.f54, lenV, a1, hix, hld]
theorem Rd.step {h : AH} {id : Nat} {va : Value} {n p : Nat} (r : Rd h id va n p) (p' : Nat) : Rd (h.set id (.row 0 2 [va, iV p'])) id va n p' :=
  ⟨get_set _ r.1, r.2.keep fun j hj => by rw [List.getElem?_set_ne (by omega)]⟩
/-- one of a list that is laid for it -/
theorem r54n (id : Nat) (va : Value) (n p : Nat) (l : Nat) (h : AH) (xs : List Bs) (r : Rd h id va n p) (hl : l ≤ id) (h0 : 0 < xs.length) (hx : xs.length ≤ 2 ^ 20) (hb : ∀ x ∈ xs, x.length ≤ 64) (hn : n ≤ 2 ^ 62) (hp : p ≤ 2 ^ 40) :
    ∃ x h', run V0 (.fn 54) l [S (pV id 0 0), S (newS h xs.length xs.length)] (h ++ [.row 0 1 (sC xs)]) = some (.ret (sV x) h') ∧ x.length ≤ 64 ∧ Rd h' id va n (p + 1) ∧ Keep id h h' := by
  have hid := lt_of_get r.1
  have r' : Rd (h ++ [.row 0 1 (sC xs)]) id va n p := r.keep (Keep.app _ _ (by omega))
  obtain ⟨x, h', a1, a2, a3⟩ := r54 id va n p l (h ++ [.row 0 1 (sC xs)]) h.length xs r' hl (by simp) (by omega) h0 hx hn hp
  refine ⟨x, h', a2, hb x a1, ?_, ?_⟩
  · rw [a3]; exact r'.step (p + 1)
  · rw [a3]; exact (Keep.app _ _ (by omega)).trans (Keep.set _ _ _ (Nat.le_refl _))
def tx87 : List Bs := [[104, 105], [97, 32, 98], [104, 105, 32, 116, 104, 101, 114, 101], [], [60, 38, 62, 39, 34], [195, 169, 226, 130, 172, 240, 159, 152, 128], [120, 9, 121, 10, 122], [97, 124, 98, 92, 99], [116, 101, 110, 32, 49, 48], [72, 105], [110, 111], [105, 116, 32, 105, 115, 32, 97, 32, 103, 111, 111, 100, 32, 100, 97, 121, 32, 104, 101, 114, 101, 44, 32, 97, 108, 108, 32, 111, 102, 32, 117, 115, 32, 115, 97, 121, 32, 115, 111]]
def tx53 : List Bs := [[], [], [], [0], [195], [237, 160, 128], [244, 144, 128, 128], [192, 128], [11], [239, 191, 190], [226, 130]]
def tx18 : List Bs := [[], [32], [45]]
theorem r87 (id : Nat) (va : Value) (n p : Nat) (l : Nat) (h : AH) (r : Rd h id va n p) (hl : l ≤ id) (hn : n ≤ 2 ^ 62) (hp : p ≤ 2 ^ 40) :
    ∃ x h', run V0 (.fn 87) l [S (pV id 0 0)] h = some (.ret (sV x) h') ∧ x.length ≤ 64 ∧ Rd h' id va n (p + 1) ∧ Keep id h h' := by
  obtain ⟨x, h', a1, a2, a3, a4⟩ := r54n id va n p l h tx87 r hl (by decide) (by decide) (by decide) hn hp
  refine ⟨x, h', run_fn Try.func87 rfl rfl rfl rfl ?_, a2, a3, a4⟩
  simp only [sC, tx87, List.map_cons, List.map_nil, List.length_cons, List.length_nil, Nat.reduceAdd] at a1
  simp only [↓XX, ↓XD, ↓YX, fg0, fs0, fg1, fs1, fg2, fs2, fg3, fs3, fg4, fs4, fg5, fs5, fg6, fs6, fg7, fs7, fg8, fs8, dstOf, padF, List.length_cons, List.length_nil, Nat.reduceAdd, Nat.zero_add, Nat.zero_mul, Nat.mul_one, Nat.reducePow, Nat.le_refl, and_self, ↓reduceIte, Option.bind_some, Option.map_some, cond_true, cond_false, eq_self, decide_true, convNum, Int.reduceEq, Option.getD_none, Option.getD_some, Option.isNone_some, Option.isNone_none, Option.isSome_some, Bool.or_true, Bool.true_or, Bool.false_or, Nat.reduceEqDiff, Nat.reduceMul, Nat.reduceLeDiff, Try.f87, Nat.one_mul, Nat.reduceMul, Nat.reduceLeDiff, a1]
theorem r53 (id : Nat) (va : Value) (n p : Nat) (l : Nat) (h : AH) (r : Rd h id va n p) (hl : l ≤ id) (hn : n ≤ 2 ^ 62) (hp : p + 1 ≤ 2 ^ 40) :
    ∃ x h', run V0 (.fn 53) l [S (pV id 0 0)] h = some (.ret (sV x) h') ∧ x.length ≤ 128 ∧ Rd h' id va n (p + 2) ∧ Keep id h h' := by
  obtain ⟨x, h1, a1, a2, a3, a4⟩ := r87 id va n p l h r hl hn (by omega)
  obtain ⟨y, h2, b1, b2, b3, b4⟩ := r54n id va n (p + 1) l h1 tx53 a3 hl (by decide) (by decide) (by decide) hn (by omega)
  have hc := catA_B x y (by omega)
  refine ⟨x ++ y, h2, run_fn Try.func53 rfl rfl rfl rfl ?_, by simp; omega, b3, a4.trans b4⟩
  simp only [sC, tx53, List.map_cons, List.map_nil, List.length_cons, List.length_nil, Nat.reduceAdd] at b1
  simp only [↓XX, ↓XD, ↓YX, fg0, fs0, fg1, fs1, fg2, fs2, fg3, fs3, fg4, fs4, fg5, fs5, fg6, fs6, fg7, fs7, fg8, fs8, dstOf, padF, List.length_cons, List.length_nil, Nat.reduceAdd, Nat.zero_add, Nat.zero_mul, Nat.mul_one, Nat.reducePow, Nat.le_refl, and_self, ↓reduceIte, Option.bind_some, Option.map_some, cond_true, cond_false, eq_self, decide_true, convNum, Int.reduceEq, Option.getD_none, Option.getD_some, Option.isNone_some, Option.isNone_none, Option.isSome_some, Bool.or_true, Bool.true_or, Bool.false_or, Nat.reduceEqDiff, Nat.reduceMul, Nat.reduceLeDiff, Try.f53, Nat.one_mul, Nat.reduceMul, Nat.reduceLeDiff, a1, b1, hc]
/-- the code that is drawn from: an argument -/
def Cd (h : AH) (va : Value) (n : Nat) : Prop := (va = .slice none 0 0 ∧ n = 0) ∨ ∃ i bs, va = slV i 0 n n ∧ h[i]? = some (.row 0 1 (u8c bs)) ∧ n = bs.length
theorem Cd.len {h : AH} {va : Value} {n : Nat} (r : Cd h va n) : lenV va = some (n : Int) := by
  rcases r with ⟨rfl, rfl⟩ | ⟨i, bs, rfl, _⟩ <;> rfl
theorem Cd.keep {h h' : AH} {va : Value} {n : Nat} (r : Cd h va n) (k : Keep h.length h h') : Cd h' va n := by
  rcases r with q | ⟨i, bs, hv, e, hn⟩
  · exact .inl q
  · exact .inr ⟨i, bs, hv, k.get e (lt_of_get e), hn⟩
theorem Cd.rdb {h : AH} {va : Value} {n : Nat} (r : Cd h va n) (o : AObj) : RdB (h ++ [o]) va n h.length := by
  rcases r with q | ⟨i, bs, hv, e, hn⟩
  · exact .inl q
  · exact .inr ⟨i, 0, n, bs, hv, by rw [List.getElem?_append_left (lt_of_get e), e], by omega, lt_of_get e⟩
/-- spec.l16Open -/
theorem r52 (va : Value) (n l : Nat) (h : AH) (r : Cd h va n) (hn : n ≤ 2 ^ 62) :
    ∃ vb m h', run V0 (.fn 52) l [S va] h = some (.ret (pV h.length 0 0) h') ∧ Rd h' h.length vb m 0 ∧ m ≤ n ∧ Keep h.length h h' := by
  have hlen := r.len
  by_cases h2 : 2000 < n
  · have hgt : decide ((2000 : Int) < (n : Int)) = true := decide_eq_true (by omega)
    rcases r with ⟨rfl, rfl⟩ | ⟨i, bs, rfl, e, hb⟩
    · omega
    · have hcut : slCut h (slV i 0 n n) none (some (2000 : Int)) none 1 = some (slV i 0 2000 n) := by
        simp only [slCut, rowAt_of e, Option.bind_some, Option.getD_none, Option.getD_some]
        rw [if_pos ⟨by omega, by omega, trivial, by omega, Nat.le_refl _⟩]
        simp
      refine ⟨slV i 0 2000 n, 2000, h ++ [.row 0 2 [slV i 0 2000 n, iV 0]], run_fn Try.func52 rfl rfl rfl rfl ?_, ⟨by simp, ?_⟩, by omega, Keep.app _ _ (Nat.le_refl _)⟩
      · simp only [↓XX, ↓XD, ↓YX, fg0, fs0, fg1, fs1, fg2, fs2, fg3, fs3, fg4, fs4, fg5, fs5, fg6, fs6, fg7, fs7, fg8, fs8, dstOf, padF, List.length_cons, List.length_nil, Nat.reduceAdd, Nat.zero_add, Nat.zero_mul, Nat.mul_one, Nat.reducePow, Nat.le_refl, and_self, ↓reduceIte, Option.bind_some, Option.map_some, cond_true, cond_false, eq_self, decide_true, convNum, Int.reduceEq, Option.getD_none, Option.getD_some, Option.isNone_some, Option.isNone_none, Option.isSome_some, Bool.or_true, Bool.true_or, Bool.false_or, Nat.reduceEqDiff, Nat.reduceMul, Nat.reduceLeDiff, Try.f52, lenV, hgt, hcut]
        rfl
      · exact .inr ⟨i, 0, n, bs, rfl, by rw [List.getElem?_append_left (lt_of_get e), e], by omega, lt_of_get e⟩
  · have hgt : decide ((2000 : Int) < (n : Int)) = false := decide_eq_false (by omega)
    refine ⟨va, n, h ++ [.row 0 2 [va, iV 0]], run_fn Try.func52 rfl rfl rfl rfl ?_, ⟨by simp, r.rdb _⟩, Nat.le_refl _, Keep.app _ _ (Nat.le_refl _)⟩
    rcases r with ⟨rfl, rfl⟩ | ⟨i, bs, rfl, e, hb⟩
    · simp only [↓XX, ↓XD, ↓YX, fg0, fs0, fg1, fs1, fg2, fs2, fg3, fs3, fg4, fs4, fg5, fs5, fg6, fs6, fg7, fs7, fg8, fs8, dstOf, padF, List.length_cons, List.length_nil, Nat.reduceAdd, Nat.zero_add, Nat.zero_mul, Nat.mul_one, Nat.reducePow, Nat.le_refl, and_self, ↓reduceIte, Option.bind_some, Option.map_some, cond_true, cond_false, eq_self, decide_true, convNum, Int.reduceEq, Option.getD_none, Option.getD_some, Option.isNone_some, Option.isNone_none, Option.isSome_some, Bool.or_true, Bool.true_or, Bool.false_or, Nat.reduceEqDiff, Nat.reduceMul, Nat.reduceLeDiff, Try.f52, lenV, hgt]
      rfl
    · simp only [↓XX, ↓XD, ↓YX, fg0, fs0, fg1, fs1, fg2, fs2, fg3, fs3, fg4, fs4, fg5, fs5, fg6, fs6, fg7, fs7, fg8, fs8, dstOf, padF, List.length_cons, List.length_nil, Nat.reduceAdd, Nat.zero_add, Nat.zero_mul, Nat.mul_one, Nat.reducePow, Nat.le_refl, and_self, ↓reduceIte, Option.bind_some, Option.map_some, cond_true, cond_false, eq_self, decide_true, convNum, Int.reduceEq, Option.getD_none, Option.getD_some, Option.isNone_some, Option.isNone_none, Option.isSome_some, Bool.or_true, Bool.true_or, Bool.false_or, Nat.reduceEqDiff, Nat.reduceMul, Nat.reduceLeDiff, Try.f52, lenV, hgt]
      rfl
end Go.Abs
namespace Go.Abs
open Go.Proofs
set_option maxRecDepth 100000
set_option linter.unusedSimpArgs false
set_option pp.maxSteps 20000

/-- spec.DrawWordsOf -/
theorem r18 (va : Value) (n l : Nat) (h : AH) (r : Cd h va n) (hn : n ≤ 2 ^ 62) (hl : l ≤ h.length) :
    ∃ s h', run V0 (.fn 18) l [S va] h = some (.ret (sV s) h') ∧ s.length ≤ 320 ∧ Keep h.length h h' := by
  obtain ⟨vb, m, h1, a1, b1, c1, d1⟩ := r52 va n l h r hn
  obtain ⟨x, h2, a2, b2, c2, d2⟩ := r53 h.length vb m 0 l h1 b1 hl (by omega) (by omega)
  obtain ⟨y, h3, a3, b3, c3, d3⟩ := r54n h.length vb m 2 l h2 tx18 c2 hl (by decide) (by decide) (by decide) (by omega) (by omega)
  obtain ⟨z, h4, a4, b4, c4, d4⟩ := r53 h.length vb m 3 l h3 c3 hl (by omega) (by omega)
  have k1 := catA_B x y (by omega)
  have k2 := catA_B (x ++ y) z (by simp; omega)
  refine ⟨x ++ y ++ z, h4, run_fn Try.func18 rfl rfl rfl rfl ?_, by simp; omega, ((d1.trans d2).trans d3).trans d4⟩
  simp only [sC, tx18, List.map_cons, List.map_nil, List.length_cons, List.length_nil, Nat.reduceAdd] at a3
  simp only [↓XX, ↓XD, ↓YX, fg0, fs0, fg1, fs1, fg2, fs2, fg3, fs3, fg4, fs4, fg5, fs5, fg6, fs6, fg7, fs7, fg8, fs8, dstOf, padF, List.length_cons, List.length_nil, Nat.reduceAdd, Nat.zero_add, Nat.zero_mul, Nat.mul_one, Nat.reducePow, Nat.le_refl, and_self, ↓reduceIte, Option.bind_some, Option.map_some, cond_true, cond_false, eq_self, decide_true, convNum, Int.reduceEq, Option.getD_none, Option.getD_some, Option.isNone_some, Option.isNone_none, Option.isSome_some, Bool.or_true, Bool.true_or, Bool.false_or, Nat.reduceEqDiff, Nat.reduceMul, Nat.reduceLeDiff, Try.f18, Nat.one_mul, Nat.reduceMul, Nat.reduceLeDiff, a1, a2, a3, k1, a4, k2]
/-- hbTexts: its loop -/
theorem L19 (ia ga ca ib gb cb n l : Nat) (hn : n ≤ 2 ^ 40) (h : AH) (ma mb : List Bs) : ∀ (r r' d d' : List Bs), d.length = d'.length → d.length + r.length = n → r.length = r'.length → h[ia]? = some (.row ga 1 (sC (d ++ (r ++ ma)))) → h[ib]? = some (.row gb 1 (sC (d' ++ (r' ++ mb)))) →
    L19_0 l (slV ia ga n ca) (slV ib gb n cb) (iV d.length) h = some (.ret (.bool (decide (r = r'))) h) := by
  intro r
  induction r with
  | nil =>
    intro r' d d' hd hk hr ea eb
    obtain rfl : r' = [] := by cases r' with | nil => rfl | cons _ _ => simp at hr
    simp only [List.length_nil, Nat.add_zero] at hk
    refine run_code Try.func19 rfl rfl ?_
    have hlt : decide ((d.length : Int) < (n : Int)) = false := by rw [decide_eq_false_iff_not]; omega
    simp only [↓XX, ↓XD, ↓YX, fg0, fs0, fg1, fs1, fg2, fs2, fg3, fs3, fg4, fs4, fg5, fs5, fg6, fs6, fg7, fs7, fg8, fs8, dstOf, padF, List.length_cons, List.length_nil, Nat.reduceAdd, Nat.zero_add, Nat.zero_mul, Nat.mul_one, Nat.reducePow, Nat.le_refl, and_self, ↓reduceIte, Option.bind_some, Option.map_some, cond_true, cond_false, eq_self, decide_true, convNum, Int.reduceEq, Option.getD_none, Option.getD_some, Option.isNone_some, Option.isNone_none, Option.isSome_some, Bool.or_true, Bool.true_or, Bool.false_or, Nat.reduceEqDiff, Nat.reduceMul, Nat.reduceLeDiff, Try.f19, lenV, hlt]
  | cons x r ih =>
    intro r' d d' hd hk hr ea eb
    cases r' with
    | nil => simp at hr
    | cons y r' =>
      simp only [List.length_cons] at hk hr
      have hlt : decide ((d.length : Int) < (n : Int)) = true := by rw [decide_eq_true_iff]; omega
      have hia : ixAddr (slV ia ga n ca) (d.length : Int) 1 = some (pV ia d.length ga) := by rw [ixAddr_sl (by omega)]; simp
      have hib : ixAddr (slV ib gb n cb) (d.length : Int) 1 = some (pV ib d.length gb) := by rw [ixAddr_sl (by omega)]; simp
      have hla : ld h (pV ia d.length ga) = some (sV x) := ld_of ea (sC_get d _ _)
      have hlb : ld h (pV ib d.length gb) = some (sV y) := by rw [hd]; exact ld_of eb (sC_get d' _ _)
      have hw : IntKind.i64.wrap ((d.length : Int) + 1) = (((d ++ [x]).length : Nat) : Int) := natCast_succ_wrap (by omega) (by simp)
      have ih' := ih r' (d ++ [x]) (d' ++ [y]) (by simp [hd]) (by simp; omega) (by omega) (by simpa using ea) (by simpa using eb)
      refine run_code Try.func19 rfl rfl ?_
      by_cases hq : x = y
      · have hb : decide (B x = B y) = true := by rw [decB]; simp [hq]
        simp (disch := (refine _root_.id ?_; kernel_rfl)) only [↓XX, ↓XD, ↓YX, fg0, fs0, fg1, fs1, fg2, fs2, fg3, fs3, fg4, fs4, fg5, fs5, fg6, fs6, fg7, fs7, fg8, fs8, dstOf, padF, List.length_cons, List.length_nil, Nat.reduceAdd, Nat.zero_add, Nat.zero_mul, Nat.mul_one, Nat.reducePow, Nat.le_refl, and_self, ↓reduceIte, Option.bind_some, Option.map_some, cond_true, cond_false, eq_self, decide_true, convNum, Int.reduceEq, Option.getD_none, Option.getD_some, Option.isNone_some, Option.isNone_none, Option.isSome_some, Bool.or_true, Bool.true_or, Bool.false_or, Nat.reduceEqDiff, Nat.reduceMul, Nat.reduceLeDiff, Try.f19, lenV, hlt, hia, hib, hla, hlb, hb, hw, Bool.not_true]
        rw [ih', hq]
        simp
      · have hb : decide (B x = B y) = false := by rw [decB]; simp [hq]
        simp (disch := (refine _root_.id ?_; kernel_rfl)) only [↓XX, ↓XD, ↓YX, fg0, fs0, fg1, fs1, fg2, fs2, fg3, fs3, fg4, fs4, fg5, fs5, fg6, fs6, fg7, fs7, fg8, fs8, dstOf, padF, List.length_cons, List.length_nil, Nat.reduceAdd, Nat.zero_add, Nat.zero_mul, Nat.mul_one, Nat.reducePow, Nat.le_refl, and_self, ↓reduceIte, Option.bind_some, Option.map_some, cond_true, cond_false, eq_self, decide_true, convNum, Int.reduceEq, Option.getD_none, Option.getD_some, Option.isNone_some, Option.isNone_none, Option.isSome_some, Bool.or_true, Bool.true_or, Bool.false_or, Nat.reduceEqDiff, Nat.reduceMul, Nat.reduceLeDiff, Try.f19, lenV, hlt, hia, hib, hla, hlb, hb, hw, Bool.not_false]
        simp [hq]
theorem r19 (ia ga ca ib gb cb l : Nat) (xs ma mb : List Bs) (h : AH) (hn : xs.length ≤ 2 ^ 40) (ea : h[ia]? = some (.row ga 1 (sC (xs ++ ma)))) (eb : h[ib]? = some (.row gb 1 (sC (xs ++ mb)))) :
    run V0 (.fn 19) l [S (slV ia ga xs.length ca), S (slV ib gb xs.length cb)] h = some (.ret (.bool true) h) := by
  refine run_fn Try.func19 rfl rfl rfl rfl ?_
  have hb : ((xs.length : Int) != (xs.length : Int)) = false := by simp
  have := L19 ia ga ca ib gb cb xs.length l hn h ma mb xs xs [] [] rfl (by simp) rfl (by simpa using ea) (by simpa using eb)
  simp only [↓XX, ↓XD, ↓YX, fg0, fs0, fg1, fs1, fg2, fs2, fg3, fs3, fg4, fs4, fg5, fs5, fg6, fs6, fg7, fs7, fg8, fs8, dstOf, padF, List.length_cons, List.length_nil, Nat.reduceAdd, Nat.zero_add, Nat.zero_mul, Nat.mul_one, Nat.reducePow, Nat.le_refl, and_self, ↓reduceIte, Option.bind_some, Option.map_some, cond_true, cond_false, eq_self, decide_true, convNum, Int.reduceEq, Option.getD_none, Option.getD_some, Option.isNone_some, Option.isNone_none, Option.isSome_some, Bool.or_true, Bool.true_or, Bool.false_or, Nat.reduceEqDiff, Nat.reduceMul, Nat.reduceLeDiff, Try.f19, lenV, hb]
  refine this.trans ?_
  simp
section
variable (il gl ia ga na it gt : Nat) (xs ys : List Bs) (l : Nat) (h : AH)

/-- the count of what is new: its inner loop -/
theorem L4b (many : Int) (i : Nat) (t : Bs) (hx : xs.length ≤ 2 ^ 40) (hi : i < ys.length) (el : h[il]? = some (.row gl 1 (sC xs))) (et : h[it]? = some (.row gt 1 (sC ys))) (hti : ys[i]? = some t) (o : Out) : ∀ (r d : List Bs) (q : Bool), xs = d ++ r →
    L4_1 l (slV il gl xs.length xs.length) (slV ia ga na na) (slV it gt ys.length ys.length) (iV many) (iV i) (.bool (q || decide (t ∈ r))) (iV xs.length) h = some o →
    L4_1 l (slV il gl xs.length xs.length) (slV ia ga na na) (slV it gt ys.length ys.length) (iV many) (iV i) (.bool q) (iV d.length) h = some o := by
  intro r
  induction r with
  | nil =>
    intro d q hk e
    rw [List.append_nil] at hk
    subst hk
    simpa using e
  | cons x r ih =>
    intro d q hk e
    have hlen : d.length + 1 ≤ xs.length := by rw [hk]; simp
    have hlt : decide ((d.length : Int) < (xs.length : Int)) = true := by rw [decide_eq_true_iff]; omega
    have hia : ixAddr (slV il gl xs.length xs.length) (d.length : Int) 1 = some (pV il d.length gl) := by rw [ixAddr_sl (by omega)]; simp
    have hib : ixAddr (slV it gt ys.length ys.length) (i : Int) 1 = some (pV it i gt) := by rw [ixAddr_sl hi]; simp
    have hla : ld h (pV il d.length gl) = some (sV x) := ld_of el (by rw [hk]; exact sC_get d _ _)
    have hlb : ld h (pV it i gt) = some (sV t) := ld_of et (by simp only [sC, List.getElem?_map, hti]; rfl)
    have hw : IntKind.i64.wrap ((d.length : Int) + 1) = (((d ++ [x]).length : Nat) : Int) := natCast_succ_wrap (by omega) (by simp)
    have hnext := ih (d ++ [x]) (q || decide (x = t)) (by rw [hk]; simp) (by
      have : (q || decide (x = t) || decide (t ∈ r)) = (q || decide (t ∈ x :: r)) := by
        rw [Bool.or_assoc]; congr 1
        by_cases h1 : x = t
        · simp [h1]
        · have : ¬ t = x := fun e => h1 e.symm
          simp [h1, this]
      rw [this]; exact e)
    refine run_code Try.func4 rfl rfl ?_
    cases q with
    | true =>
      simp (disch := (refine _root_.id ?_; kernel_rfl)) only [↓XX, ↓XD, ↓YX, fg0, fs0, fg1, fs1, fg2, fs2, fg3, fs3, fg4, fs4, fg5, fs5, fg6, fs6, fg7, fs7, fg8, fs8, dstOf, padF, List.length_cons, List.length_nil, Nat.reduceAdd, Nat.zero_add, Nat.zero_mul, Nat.mul_one, Nat.reducePow, Nat.le_refl, and_self, ↓reduceIte, Option.bind_some, Option.map_some, cond_true, cond_false, eq_self, decide_true, convNum, Int.reduceEq, Option.getD_none, Option.getD_some, Option.isNone_some, Option.isNone_none, Option.isSome_some, Bool.or_true, Bool.true_or, Bool.false_or, Nat.reduceEqDiff, Nat.reduceMul, Nat.reduceLeDiff, Try.f4, lenV, hlt, hia, hib, hla, hlb, hw]
      exact hnext
    | false =>
      simp (disch := (refine _root_.id ?_; kernel_rfl)) only [↓XX, ↓XD, ↓YX, fg0, fs0, fg1, fs1, fg2, fs2, fg3, fs3, fg4, fs4, fg5, fs5, fg6, fs6, fg7, fs7, fg8, fs8, dstOf, padF, List.length_cons, List.length_nil, Nat.reduceAdd, Nat.zero_add, Nat.zero_mul, Nat.mul_one, Nat.reducePow, Nat.le_refl, and_self, ↓reduceIte, Option.bind_some, Option.map_some, cond_true, cond_false, eq_self, decide_true, convNum, Int.reduceEq, Option.getD_none, Option.getD_some, Option.isNone_some, Option.isNone_none, Option.isSome_some, Bool.or_true, Bool.true_or, Bool.false_or, Nat.reduceEqDiff, Nat.reduceMul, Nat.reduceLeDiff, Try.f4, lenV, hlt, hia, hib, hla, hlb, hw, decB]
      exact hnext
/-- .. its outer loop -/
theorem L4a (hx : xs.length ≤ 2 ^ 30) (hy : ys.length ≤ 2 ^ 30) (el : h[il]? = some (.row gl 1 (sC xs))) (et : h[it]? = some (.row gt 1 (sC ys))) (o : Out) : ∀ (r d : List Bs) (many : Nat), ys = d ++ r → many + r.length ≤ 2 ^ 40 →
    L4_2 l (slV il gl xs.length xs.length) (slV ia ga na na) (iV (many + (r.filter fun x => !decide (x ∈ xs)).length : Nat)) (iV 0) h = some o →
    L4_0 l (slV il gl xs.length xs.length) (slV ia ga na na) (slV it gt ys.length ys.length) (iV many) (iV d.length) h = some o := by
  intro r
  induction r with
  | nil =>
    intro d many hk hm e
    rw [List.append_nil] at hk
    have hlt : decide ((d.length : Int) < (ys.length : Int)) = false := by rw [decide_eq_false_iff_not, hk]; omega
    refine run_code Try.func4 rfl rfl ?_
    simp only [List.filter_nil, List.length_nil, Nat.add_zero] at e
    simp (disch := (refine _root_.id ?_; kernel_rfl)) only [↓XX, ↓XD, ↓YX, fg0, fs0, fg1, fs1, fg2, fs2, fg3, fs3, fg4, fs4, fg5, fs5, fg6, fs6, fg7, fs7, fg8, fs8, dstOf, padF, List.length_cons, List.length_nil, Nat.reduceAdd, Nat.zero_add, Nat.zero_mul, Nat.mul_one, Nat.reducePow, Nat.le_refl, and_self, ↓reduceIte, Option.bind_some, Option.map_some, cond_true, cond_false, eq_self, decide_true, convNum, Int.reduceEq, Option.getD_none, Option.getD_some, Option.isNone_some, Option.isNone_none, Option.isSome_some, Bool.or_true, Bool.true_or, Bool.false_or, Nat.reduceEqDiff, Nat.reduceMul, Nat.reduceLeDiff, Try.f4, lenV, hlt]
    exact e
  | cons t r ih =>
    intro d many hk hm e
    have hlen : d.length < ys.length := by rw [hk]; simp
    simp only [List.length_cons] at hm
    have hlt : decide ((d.length : Int) < (ys.length : Int)) = true := by rw [decide_eq_true_iff]; omega
    have hti : ys[d.length]? = some t := by rw [hk]; simp
    have hw : IntKind.i64.wrap ((d.length : Int) + 1) = (((d ++ [t]).length : Nat) : Int) := natCast_succ_wrap (by omega) (by simp)
    have hw2 : IntKind.i64.wrap ((many : Int) + 1) = ((many + 1 : Nat) : Int) := natCast_succ_wrap (by omega) rfl
    have hend : decide ((xs.length : Int) < (xs.length : Int)) = false := by rw [decide_eq_false_iff_not]; omega
    have hfin : L4_1 l (slV il gl xs.length xs.length) (slV ia ga na na) (slV it gt ys.length ys.length) (iV many) (iV d.length) (.bool (false || decide (t ∈ xs))) (iV xs.length) h = some o := by
      refine run_code Try.func4 rfl rfl ?_
      by_cases hq : t ∈ xs
      · have e2 := ih (d ++ [t]) many (by rw [hk]; simp) (by omega) (by rw [List.filter_cons] at e; simpa [hq] using e)
        simp (disch := (refine _root_.id ?_; kernel_rfl)) only [↓XX, ↓XD, ↓YX, fg0, fs0, fg1, fs1, fg2, fs2, fg3, fs3, fg4, fs4, fg5, fs5, fg6, fs6, fg7, fs7, fg8, fs8, dstOf, padF, List.length_cons, List.length_nil, Nat.reduceAdd, Nat.zero_add, Nat.zero_mul, Nat.mul_one, Nat.reducePow, Nat.le_refl, and_self, ↓reduceIte, Option.bind_some, Option.map_some, cond_true, cond_false, eq_self, decide_true, convNum, Int.reduceEq, Option.getD_none, Option.getD_some, Option.isNone_some, Option.isNone_none, Option.isSome_some, Bool.or_true, Bool.true_or, Bool.false_or, Nat.reduceEqDiff, Nat.reduceMul, Nat.reduceLeDiff, Try.f4, lenV, hend, decide_eq_true hq, Bool.not_true, hw]
        exact e2
      · have e2 := ih (d ++ [t]) (many + 1) (by rw [hk]; simp) (by omega) (by
          rw [List.filter_cons] at e
          simp only [hq, decide_false, Bool.not_false, if_true, List.length_cons] at e
          rw [show many + 1 + (r.filter fun x => !decide (x ∈ xs)).length = many + ((r.filter fun x => !decide (x ∈ xs)).length + 1) by omega]
          exact e)
        simp (disch := (refine _root_.id ?_; kernel_rfl)) only [↓XX, ↓XD, ↓YX, fg0, fs0, fg1, fs1, fg2, fs2, fg3, fs3, fg4, fs4, fg5, fs5, fg6, fs6, fg7, fs7, fg8, fs8, dstOf, padF, List.length_cons, List.length_nil, Nat.reduceAdd, Nat.zero_add, Nat.zero_mul, Nat.mul_one, Nat.reducePow, Nat.le_refl, and_self, ↓reduceIte, Option.bind_some, Option.map_some, cond_true, cond_false, eq_self, decide_true, convNum, Int.reduceEq, Option.getD_none, Option.getD_some, Option.isNone_some, Option.isNone_none, Option.isSome_some, Bool.or_true, Bool.true_or, Bool.false_or, Nat.reduceEqDiff, Nat.reduceMul, Nat.reduceLeDiff, Try.f4, lenV, hend, decide_eq_false hq, Bool.not_false, hw, hw2]
        exact e2
    have hin := L4b il gl ia ga na it gt xs ys l h many d.length t (by omega) hlen el et hti o xs [] false rfl hfin
    refine run_code Try.func4 rfl rfl ?_
    simp (disch := (refine _root_.id ?_; kernel_rfl)) only [↓XX, ↓XD, ↓YX, fg0, fs0, fg1, fs1, fg2, fs2, fg3, fs3, fg4, fs4, fg5, fs5, fg6, fs6, fg7, fs7, fg8, fs8, dstOf, padF, List.length_cons, List.length_nil, Nat.reduceAdd, Nat.zero_add, Nat.zero_mul, Nat.mul_one, Nat.reducePow, Nat.le_refl, and_self, ↓reduceIte, Option.bind_some, Option.map_some, cond_true, cond_false, eq_self, decide_true, convNum, Int.reduceEq, Option.getD_none, Option.getD_some, Option.isNone_some, Option.isNone_none, Option.isSome_some, Bool.or_true, Bool.true_or, Bool.false_or, Nat.reduceEqDiff, Nat.reduceMul, Nat.reduceLeDiff, Try.f4, lenV, hlt]
    exact hin
end
end Go.Abs
namespace Go.Abs
open Go.Proofs
set_option maxRecDepth 100000
set_option linter.unusedSimpArgs false
set_option pp.maxSteps 20000

/-- FnWords: its last loop -/
theorem L4c (il gl ia ga l : Nat) (xs ex : List Bs) (hx : xs.length ≤ 2 ^ 30) (hw : ∀ x ∈ xs, isWord x ∧ x.length ≤ 2 ^ 20) : ∀ (r d : List Bs) (h : AH), xs = d ++ r → h[il]? = some (.row gl 1 (sC xs)) → h[ia]? = some (.row ga 1 (sC (xs ++ ex))) →
    ∃ h', L4_2 l (slV il gl xs.length xs.length) (slV ia ga (xs ++ ex).length (xs ++ ex).length) (iV ((xs ++ ex).length : Nat)) (iV d.length) h = some (.ret (.bool true) h') := by
  intro r
  induction r with
  | nil =>
    intro d h hk el ea
    rw [List.append_nil] at hk
    have hlt : decide ((d.length : Int) < (xs.length : Int)) = false := by rw [decide_eq_false_iff_not, hk]; omega
    have heq : ((((xs ++ ex).length : Nat) : Int) == (((xs ++ ex).length : Nat) : Int)) = true := by simp
    have hcut : slCut h (slV ia ga (xs ++ ex).length (xs ++ ex).length) none (some (xs.length : Int)) none 1 = some (slV ia ga xs.length (xs ++ ex).length) := by
      simp only [slCut, rowAt_of ea, Option.bind_some, Option.getD_none, Option.getD_some]
      rw [if_pos ⟨by omega, by omega, trivial, by simp; omega, Nat.le_refl _⟩]
      simp
    have h19 := r19 ia ga (xs ++ ex).length il gl xs.length l xs ex [] h (by omega) ea (by simpa using el)
    refine ⟨h, run_code Try.func4 rfl rfl ?_⟩
    simp (disch := (refine _root_.id ?_; kernel_rfl)) only [↓XX, ↓XD, ↓YX, fg0, fs0, fg1, fs1, fg2, fs2, fg3, fs3, fg4, fs4, fg5, fs5, fg6, fs6, fg7, fs7, fg8, fs8, dstOf, padF, List.length_cons, List.length_nil, Nat.reduceAdd, Nat.zero_add, Nat.zero_mul, Nat.mul_one, Nat.reducePow, Nat.le_refl, and_self, ↓reduceIte, Option.bind_some, Option.map_some, cond_true, cond_false, eq_self, decide_true, convNum, Int.reduceEq, Option.getD_none, Option.getD_some, Option.isNone_some, Option.isNone_none, Option.isSome_some, Bool.or_true, Bool.true_or, Bool.false_or, Nat.reduceEqDiff, Nat.reduceMul, Nat.reduceLeDiff, Try.f4, lenV, hlt, heq, hcut, h19]
  | cons x r ih =>
    intro d h hk el ea
    have hlen : d.length + 1 ≤ xs.length := by rw [hk]; simp
    obtain ⟨hxw, hxl⟩ := hw x (by rw [hk]; simp)
    have hlt : decide ((d.length : Int) < (xs.length : Int)) = true := by rw [decide_eq_true_iff]; omega
    have hia : ixAddr (slV il gl xs.length xs.length) (d.length : Int) 1 = some (pV il d.length gl) := by rw [ixAddr_sl (by omega)]; simp
    have hla : ld h (pV il d.length gl) = some (sV x) := ld_of el (by rw [hk]; exact sC_get d _ _)
    have hne : decide (B x = B []) = false := by rw [decB]; exact decide_eq_false hxw.1
    have hwr : IntKind.i64.wrap ((d.length : Int) + 1) = (((d ++ [x]).length : Nat) : Int) := natCast_succ_wrap (by omega) (by simp)
    obtain ⟨i1, g1, h1, a1, b1, c1, k1⟩ := r14 x (by omega) h.length h (Nat.le_refl _)
    rw [words_one x hxw] at a1 b1
    have b1' : (h1 ++ [AObj.row 0 1 [sV x]])[i1]? = some (.row g1 1 (sC ([x] ++ []))) := by rw [List.getElem?_append_left (lt_of_get b1), b1]; rfl
    have b2' : (h1 ++ [AObj.row 0 1 [sV x]])[h1.length]? = some (.row 0 1 (sC ([x] ++ []))) := by simp [sC]
    have h19 := r19 i1 g1 [x].length h1.length 0 [x].length l [x] [] [] (h1 ++ [AObj.row 0 1 [sV x]]) (by simp only [List.length_cons, List.length_nil]; omega) b1' b2'
    have kk : Keep h.length h (h1 ++ [AObj.row 0 1 [sV x]]) := k1.trans (Keep.app _ _ k1.1)
    obtain ⟨h', e⟩ := ih (d ++ [x]) (h1 ++ [AObj.row 0 1 [sV x]]) (by rw [hk]; simp) (kk.get el (lt_of_get el)) (kk.get ea (lt_of_get ea))
    refine ⟨h', run_code Try.func4 rfl rfl ?_⟩
    simp only [List.length_cons, List.length_nil, Nat.zero_add] at a1 h19
    simp (disch := (refine _root_.id ?_; kernel_rfl)) only [↓XX, ↓XD, ↓YX, fg0, fs0, fg1, fs1, fg2, fs2, fg3, fs3, fg4, fs4, fg5, fs5, fg6, fs6, fg7, fs7, fg8, fs8, dstOf, padF, List.length_cons, List.length_nil, Nat.reduceAdd, Nat.zero_add, Nat.zero_mul, Nat.mul_one, Nat.reducePow, Nat.le_refl, and_self, ↓reduceIte, Option.bind_some, Option.map_some, cond_true, cond_false, eq_self, decide_true, convNum, Int.reduceEq, Option.getD_none, Option.getD_some, Option.isNone_some, Option.isNone_none, Option.isSome_some, Bool.or_true, Bool.true_or, Bool.false_or, Nat.reduceEqDiff, Nat.reduceMul, Nat.reduceLeDiff, Try.f4, lenV, hlt, hia, hla, hne, a1, newS, Nat.one_mul, Nat.reduceLeDiff, h19, Bool.not_true, hwr]
    exact e
/-- FnWords, run -/
theorem r4 (va vb : Value) (na nb l : Nat) (h : AH) (ra : Cd h va na) (rb : Cd h vb nb) (hl : l ≤ h.length) : ∃ h', run V0 (.fn 4) l [S va, S vb] h = some (.ret (.bool true) h') := by
  have lena := ra.len
  have lenb := rb.len
  cases g1 : decide ((1048576 : Int) < (na : Int)) with
  | true =>
    refine ⟨h, run_fn Try.func4 rfl rfl rfl rfl ?_⟩
    simp only [↓XX, ↓XD, ↓YX, fg0, fs0, fg1, fs1, fg2, fs2, fg3, fs3, fg4, fs4, fg5, fs5, fg6, fs6, fg7, fs7, fg8, fs8, dstOf, padF, List.length_cons, List.length_nil, Nat.reduceAdd, Nat.zero_add, Nat.zero_mul, Nat.mul_one, Nat.reducePow, Nat.le_refl, and_self, ↓reduceIte, Option.bind_some, Option.map_some, cond_true, cond_false, eq_self, decide_true, convNum, Int.reduceEq, Option.getD_none, Option.getD_some, Option.isNone_some, Option.isNone_none, Option.isSome_some, Bool.or_true, Bool.true_or, Bool.false_or, Nat.reduceEqDiff, Nat.reduceMul, Nat.reduceLeDiff, Try.f4, lena, lenb, g1]
  | false =>
    cases g2 : decide ((1048576 : Int) < (nb : Int)) with
    | true =>
      refine ⟨h, run_fn Try.func4 rfl rfl rfl rfl ?_⟩
      simp only [↓XX, ↓XD, ↓YX, fg0, fs0, fg1, fs1, fg2, fs2, fg3, fs3, fg4, fs4, fg5, fs5, fg6, fs6, fg7, fs7, fg8, fs8, dstOf, padF, List.length_cons, List.length_nil, Nat.reduceAdd, Nat.zero_add, Nat.zero_mul, Nat.mul_one, Nat.reducePow, Nat.le_refl, and_self, ↓reduceIte, Option.bind_some, Option.map_some, cond_true, cond_false, eq_self, decide_true, convNum, Int.reduceEq, Option.getD_none, Option.getD_some, Option.isNone_some, Option.isNone_none, Option.isSome_some, Bool.or_true, Bool.true_or, Bool.false_or, Nat.reduceEqDiff, Nat.reduceMul, Nat.reduceLeDiff, Try.f4, lena, lenb, g1, g2]
    | false =>
      have hna : na ≤ 2 ^ 62 := by have := of_decide_eq_false g1; omega
      have hnb : nb ≤ 2 ^ 62 := by have := of_decide_eq_false g2; omega
      obtain ⟨a, h1, a1, b1, k1⟩ := r18 va na l h ra hna hl
      have hh1 := k1.1
      obtain ⟨b, h2, a2, b2, k2⟩ := r18 vb nb l h1 (rb.keep k1) hnb (by omega)
      have hh2 := k2.1
      obtain ⟨i3, g3, h3, a3, b3, c3, k3⟩ := r14 a (by omega) l h2 (by omega)
      have hh3 := k3.1
      obtain ⟨i4, g4, h4, a4, b4, c4, k4⟩ := r13 a (by omega) l h3 (by omega)
      have hh4 := k4.1
      have b3' := k4.get b3 (lt_of_get b3)
      have hwa := wordsL_len a
      have hwb := wordsL_len b
      have h19 := r19 i3 g3 (wordsL a).length i4 g4 (wordsL a).length l (wordsL a) [] [] h4 (by omega) (by simpa using b3') (by simpa using b4)
      have hc1 := catA_B a [32] (by simp; omega)
      have hc2 := catA_B (a ++ [32]) b (by simp; omega)
      have hab : a ++ [32] ++ b = a ++ 32 :: b := by simp
      rw [hab] at hc2
      obtain ⟨i5, g5, h5, a5, b5, c5, k5⟩ := r14 (a ++ 32 :: b) (by simp; omega) l h4 (by omega)
      have hh5 := k5.1
      rw [words_all] at a5 b5
      obtain ⟨i6, g6, h6, a6, b6, c6, k6⟩ := r14 b (by omega) l h5 (by omega)
      have b3f := k6.get (k5.get b3' (lt_of_get b3')) (by have := lt_of_get b3; omega)
      have b5f := k6.get b5 (lt_of_get b5)
      obtain ⟨h', e⟩ := L4c i3 g3 i5 g5 l (wordsL a) ((wordsL b).filter fun x => !decide (x ∈ wordsL a)) (by omega) (fun x hx => ⟨words_ok a x hx, by
        have : ∀ (s : Bs), ∀ x ∈ wordsL s, x.length ≤ s.length := fun s x hx => words_short s x hx
        have := this a x hx; omega⟩) (wordsL a) [] h6 rfl b3f b5f
      have e2 := L4a i3 g3 i5 g5 (wordsL a ++ (wordsL b).filter fun x => !decide (x ∈ wordsL a)).length i6 g6 (wordsL a) (wordsL b) l h6 (by omega) (by omega) b3f b6 _ (wordsL b) [] (wordsL a).length rfl (by omega) (by
        rw [← List.length_append]; exact e)
      refine ⟨h', run_fn Try.func4 rfl rfl rfl rfl ?_⟩
      have hl3 : lenV (slV i3 g3 (wordsL a).length (wordsL a).length) = some ((wordsL a).length : Int) := rfl
      simp only [↓XX, ↓XD, ↓YX, fg0, fs0, fg1, fs1, fg2, fs2, fg3, fs3, fg4, fs4, fg5, fs5, fg6, fs6, fg7, fs7, fg8, fs8, dstOf, padF, List.length_cons, List.length_nil, Nat.reduceAdd, Nat.zero_add, Nat.zero_mul, Nat.mul_one, Nat.reducePow, Nat.le_refl, and_self, ↓reduceIte, Option.bind_some, Option.map_some, cond_true, cond_false, eq_self, decide_true, convNum, Int.reduceEq, Option.getD_none, Option.getD_some, Option.isNone_some, Option.isNone_none, Option.isSome_some, Bool.or_true, Bool.true_or, Bool.false_or, Nat.reduceEqDiff, Nat.reduceMul, Nat.reduceLeDiff, Try.f4, lena, lenb, g1, g2, a1, a2, a3, a4, h19, Bool.not_true, hc1, hc2, a5, a6, hl3]
      exact e2
end Go.Abs
