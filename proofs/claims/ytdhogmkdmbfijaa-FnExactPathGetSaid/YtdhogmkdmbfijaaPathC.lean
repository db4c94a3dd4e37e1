/- What PathGet computes, in the program and in the reference, and that the law FnExactPathGet answers true. For every text; no condition. -/
import Derived.Test.YtdhogmkdmbfijaaPathB
namespace Go.Abs
open Go.Proofs
set_option linter.unusedSimpArgs false
/-! ### how the reference reads a path: plain -/
def nmB (b : UInt8) : Bool := nameI b.toNat || ((b.toNat : Int) == 42)
def cutA (s : Bs) (c : UInt8) : Bs := s.takeWhile fun b => b != c
def cutR (s : Bs) (c : UInt8) : Bs := s.dropWhile fun b => b != c
theorem cut_eq (s : Bs) (c : UInt8) : cutA s c ++ cutR s c = s := List.takeWhile_append_dropWhile
def cut1 (s : Bs) (c : UInt8) : List Bs := if cutR s c = [] then [s] else [cutA s c, (cutR s c).tail]
def stL (s t : Bs) : Bool := decide (t.length ≤ s.length) && decide (s.take t.length = t)
/-- where a step's name begins -/
def atN (s : Bs) : Nat := if stL s [47, 47] then 2 else 0
def nmS (s : Bs) : Bs := (s.drop (atN s)).takeWhile nmB
def afS (s : Bs) : Bs := (s.drop (atN s)).dropWhile nmB
def stepS (s : Bs) : St × Nat :=
  let x : St := ⟨stL s [47, 47], nmS s, [], []⟩
  let n := atN s + (nmS s).length
  bif (afS s).head? != some 91 then (x, n)
  else
    let t := (afS s).tail
    bif (cutR t 61).isEmpty then (⟨x.deep, x.name, t, []⟩, 0)
    else bif !stL (cutR t 61).tail [39] then (⟨x.deep, x.name, cutA t 61, []⟩, 0)
    else
      let u := ((cutR t 61).tail).drop 1
      bif (cutR u 39).isEmpty then (⟨x.deep, x.name, cutA t 61, u⟩, 0)
      else bif !stL (cutR u 39).tail [93] then (⟨x.deep, x.name, cutA t 61, cutA u 39⟩, 0)
      else (⟨x.deep, x.name, cutA t 61, cutA u 39⟩, n + (cutA t 61).length + (cutA u 39).length + 5)
def stripP (s : Bs) : Bs := if s.head? = some 47 ∧ s.tail ≠ [] ∧ s.tail.head? ≠ some 47 then s.tail else s
def getS : Nat → Bs → List St → Option (List St)
  | 0, _, out => some out
  | f + 1, s, out => if s = [] then some out else if (stepS s).2 = 0 then none else getS f (stripP (s.drop (stepS s).2)) (out ++ [(stepS s).1])
theorem nm_no {b : UInt8} (h : nmB b = true) : b ≠ 47 ∧ b ≠ 91 := by
  refine ⟨?_, ?_⟩ <;> rintro rfl <;> exact absurd h (by decide)
theorem take_at {p : UInt8 → Bool} : ∀ (d : Bs) (r : Bs), (∀ x ∈ d, p x = true) → (r = [] ∨ ∃ b t, r = b :: t ∧ p b = false) → (d ++ r).takeWhile p = d ∧ (d ++ r).dropWhile p = r
  | [], r, _, hr => by
    rcases hr with rfl | ⟨b, t, rfl, hb⟩
    · exact ⟨rfl, rfl⟩
    · simp [List.takeWhile, List.dropWhile, hb]
  | x :: d, r, h, hr => by
    have ih := take_at d r (fun y hy => h y (by simp [hy])) hr
    have hx := h x (by simp)
    simp only [List.cons_append, List.takeWhile, List.dropWhile, hx]
    exact ⟨by rw [ih.1], ih.2⟩
theorem st_nm {x : St} (h : stOkL x = true) : ∀ b ∈ x.name, nmB b = true := by
  unfold stOkL at h
  simp only [Bool.and_eq_true, Bool.or_eq_true, decide_eq_true_eq] at h
  intro b hb
  unfold nmB
  rcases h.1 with q | q
  · rw [q] at hb; simp at hb; subst hb; rfl
  · rw [name_all q b hb]; rfl
theorem sep_at (x : St) (N : Bs) (h0 : N ≠ []) (h : N.head? ≠ some 47) : stL (stSep 0 x ++ N) [47, 47] = x.deep ∧ (stSep 0 x ++ N).drop (atN (stSep 0 x ++ N)) = N ∧ atN (stSep 0 x ++ N) = (stSep 0 x).length := by
  obtain ⟨b, t, rfl⟩ : ∃ b t, N = b :: t := by cases N with | nil => exact absurd rfl h0 | cons b t => exact ⟨b, t, rfl⟩
  have hb : b ≠ 47 := by intro q; apply h; rw [List.head?_cons, q]
  have key : stL (stSep 0 x ++ b :: t) [47, 47] = x.deep := by
    unfold stSep stL
    cases hd : x.deep with
    | true => simp
    | false =>
      rw [if_neg (by simp), if_neg (by omega), List.nil_append]
      cases t with
      | nil => simp
      | cons c t => simp [hb]
  have hat : atN (stSep 0 x ++ b :: t) = (stSep 0 x).length := by
    unfold atN
    rw [key]
    unfold stSep
    cases x.deep <;> simp
  exact ⟨key, by rw [hat, List.drop_left' rfl], hat⟩
theorem cut_there (c : UInt8) (a r : Bs) (h : ∀ x ∈ a, x ≠ c) : cutA (a ++ c :: r) c = a ∧ cutR (a ++ c :: r) c = c :: r :=
  take_at a (c :: r) (fun x hx => by simp [h x hx]) (.inr ⟨c, r, rfl, by simp⟩)
theorem step_text (x : St) (ok : stOkL x = true) (rest : Bs) (hr : rest = [] ∨ ∃ r, rest = 47 :: r) : stepS (stText 0 x ++ rest) = (x, (stText 0 x).length) := by
  obtain ⟨hn, ns⟩ := st_name ok
  have hN : stText 0 x ++ rest = stSep 0 x ++ (x.name ++ (stTail x ++ rest)) := by unfold stText; simp [List.append_assoc]
  have h0 : x.name ++ (stTail x ++ rest) ≠ [] := by simp [hn]
  have hh : (x.name ++ (stTail x ++ rest)).head? ≠ some 47 := by
    cases hx : x.name with
    | nil => exact absurd hx hn
    | cons b t =>
      have := (ns b (by rw [hx]; simp)).1
      simp only [List.cons_append, List.head?_cons]
      intro q; injection q with q; exact this q
  obtain ⟨s1, s2, s3⟩ := sep_at x _ h0 hh
  have hlen : (stText 0 x).length = (stSep 0 x).length + x.name.length + (stTail x).length := by unfold stText; simp; omega
  rcases st_attr ok with ⟨q1, q2⟩ | ⟨q1, q2, q3⟩
  · have ht : stTail x = [] := by unfold stTail; rw [if_pos q1]
    have hw := take_at (p := nmB) x.name rest (st_nm ok) (by
      rcases hr with rfl | ⟨r, rfl⟩
      · exact .inl rfl
      · exact .inr ⟨47, r, rfl, by decide⟩)
    have e1 : nmS (stText 0 x ++ rest) = x.name := by unfold nmS; rw [hN, s2, ht, List.nil_append, hw.1]
    have e2 : afS (stText 0 x ++ rest) = rest := by unfold afS; rw [hN, s2, ht, List.nil_append, hw.2]
    have e3 : rest.head? ≠ some 91 := by rcases hr with rfl | ⟨r, rfl⟩ <;> simp
    have e4 : stL (stText 0 x ++ rest) [47, 47] = x.deep := by rw [hN]; exact s1
    have e5 : atN (stText 0 x ++ rest) = (stSep 0 x).length := by rw [hN]; exact s3
    unfold stepS
    simp only
    rw [e1, e2, show (rest.head? != some 91) = true by simpa using e3, cond_true, e4, e5, hlen, ht]
    cases x
    simp only at q1 q2
    subst q1 q2
    rfl
  · have ht : stTail x ++ rest = 91 :: (x.attr ++ 61 :: 39 :: (x.text ++ 39 :: 93 :: rest)) := by
      unfold stTail; rw [if_neg q1]; simp
    have htl : (stTail x).length = x.attr.length + x.text.length + 5 := by unfold stTail; rw [if_neg q1]; simp; omega
    have hw := take_at (p := nmB) x.name (stTail x ++ rest) (st_nm ok) (by rw [ht]; exact .inr ⟨91, _, rfl, by decide⟩)
    have e1 : nmS (stText 0 x ++ rest) = x.name := by unfold nmS; rw [hN, s2, hw.1]
    have e2 : afS (stText 0 x ++ rest) = 91 :: (x.attr ++ 61 :: 39 :: (x.text ++ 39 :: 93 :: rest)) := by unfold afS; rw [hN, s2, hw.2, ht]
    have e4 : stL (stText 0 x ++ rest) [47, 47] = x.deep := by rw [hN]; exact s1
    have e5 : atN (stText 0 x ++ rest) = (stSep 0 x).length := by rw [hN]; exact s3
    obtain ⟨c1, c2⟩ := cut_there 61 x.attr (39 :: (x.text ++ 39 :: 93 :: rest)) q2
    obtain ⟨c3, c4⟩ := cut_there 39 x.text (93 :: rest) q3
    unfold stepS
    simp only
    rw [e1, e2, e4, e5]
    simp only [List.head?_cons, bne_self_eq_false, cond_false, List.tail_cons]
    rw [c2, show (61 :: 39 :: (x.text ++ 39 :: 93 :: rest) : Bs).isEmpty = false from rfl, cond_false, List.tail_cons, show stL (39 :: (x.text ++ 39 :: 93 :: rest)) [39] = true by simp [stL], Bool.not_true, cond_false, List.drop_succ_cons, List.drop_zero, c4, show (39 :: 93 :: rest : Bs).isEmpty = false from rfl, cond_false, List.tail_cons, show stL (93 :: rest) [93] = true by simp [stL], Bool.not_true, cond_false, c1, c3, hlen, htl]
    congr 1
    omega
theorem path_pos : ∀ (r : List St) (i : Nat), pathL r (i + 1) = pathL r 1
  | [], i => rfl
  | x :: r, i => by
    rw [path_head, path_head, path_pos r (i + 1), path_pos r 1]
    have : stSep (i + 1) x = stSep 1 x := by unfold stSep; simp
    rw [this]
theorem strip_path (L : List St) (ok : ∀ x ∈ L, stOkL x = true) : stripP (pathL L 1) = pathL L 0 := by
  cases L with
  | nil => rfl
  | cons x r =>
    obtain ⟨hn, ns⟩ := st_name (ok x (by simp))
    rw [path_head, path_head, path_pos r 1, path_pos r 0]
    obtain ⟨b, t, hb⟩ : ∃ b t, x.name = b :: t := by
      cases hx : x.name with
      | nil => exact absurd hx hn
      | cons b t => exact ⟨b, t, rfl⟩
    have h47 := (ns b (by rw [hb]; simp)).1
    cases hd : x.deep with
    | true =>
      have h1 : stSep 1 x = [47, 47] := by unfold stSep; rw [hd]; rfl
      have h2 : stSep 0 x = [47, 47] := by unfold stSep; rw [hd]; rfl
      rw [h1, h2]
      unfold stripP
      rw [if_neg]
      rintro ⟨_, _, h⟩
      exact h rfl
    | false =>
      have h1 : stSep 1 x = [47] := by unfold stSep; rw [hd]; rfl
      have h2 : stSep 0 x = [] := by unfold stSep; rw [hd]; rfl
      rw [h1, h2, hb]
      unfold stripP
      rw [if_pos ⟨rfl, by simp, by simp [h47]⟩]
      rfl
theorem get_path : ∀ (L : List St) (f : Nat) (out : List St), (∀ x ∈ L, stOkL x = true) → L.length ≤ f → getS f (pathL L 0) out = some (out ++ L)
  | [], f, out, _, _ => by
    have : pathL [] 0 = [] := rfl
    rw [this, List.append_nil]
    cases f with
    | zero => rfl
    | succ f => rw [getS, if_pos rfl]
  | x :: L, f, out, ok, hf => by
    cases f with
    | zero => simp at hf
    | succ f =>
      have okx := ok x (by simp)
      obtain ⟨hn, _⟩ := st_name okx
      have hp : pathL (x :: L) 0 = stText 0 x ++ pathL L 1 := rfl
      have hpos : 0 < (stText 0 x).length := by
        have := List.length_pos_iff.2 hn
        unfold stText
        simp only [List.length_append]
        omega
      have hst := step_text x okx (pathL L 1) (path_slash L 0)
      rw [hp, getS, if_neg (by intro q; have := congrArg List.length q; rw [List.length_append, List.length_nil] at this; omega), hst, if_neg (by simp only; omega)]
      simp only
      rw [List.drop_left' rfl, strip_path L (fun y hy => ok y (by simp [hy])), get_path L f _ (fun y hy => ok y (by simp [hy])) (by simpa using hf)]
      simp
theorem stL_len {s t : Bs} (h : stL s t = true) : t.length ≤ s.length := by
  unfold stL at h
  rw [Bool.and_eq_true] at h
  exact of_decide_eq_true h.1
theorem at_le (s : Bs) : atN s + (nmS s).length + (afS s).length = s.length := by
  have h1 : atN s ≤ s.length := by
    unfold atN
    split
    · rename_i h; have := stL_len h; simpa using this
    · omega
  have h2 : nmS s ++ afS s = s.drop (atN s) := List.takeWhile_append_dropWhile
  have h3 := congrArg List.length h2
  rw [List.length_append, List.length_drop] at h3
  omega
theorem cut_sum (s : Bs) (c : UInt8) : (cutA s c).length + (cutR s c).length = s.length := by
  have := congrArg List.length (cut_eq s c)
  rwa [List.length_append] at this
theorem ne_len {s : Bs} (h : s.isEmpty = false) : 1 + s.tail.length = s.length := by
  cases s with
  | nil => cases h
  | cons b t => simp; omega
theorem step_le (s : Bs) : (stepS s).2 ≤ s.length := by
  have h1 := at_le s
  unfold stepS
  simp only
  cases q1 : ((afS s).head? != some 91) with
  | true => rw [cond_true]; simp only; omega
  | false =>
    rw [cond_false]
    have ha : 1 + (afS s).tail.length = (afS s).length := by
      refine ne_len ?_
      cases h : afS s with
      | nil => rw [h] at q1; cases q1
      | cons b t => rfl
    have c1 := cut_sum (afS s).tail 61
    cases q2 : (cutR (afS s).tail 61).isEmpty with
    | true => rw [cond_true]; exact Nat.zero_le _
    | false =>
      have n1 := ne_len q2
      rw [cond_false]
      cases q3 : stL (cutR (afS s).tail 61).tail [39] with
      | false => rw [Bool.not_false, cond_true]; exact Nat.zero_le _
      | true =>
        have l1 := stL_len q3
        rw [List.length_singleton] at l1
        have d1 : (((cutR (afS s).tail 61).tail).drop 1).length + 1 = (cutR (afS s).tail 61).tail.length := by rw [List.length_drop]; omega
        have c2 := cut_sum (((cutR (afS s).tail 61).tail).drop 1) 39
        rw [Bool.not_true, cond_false]
        cases q4 : (cutR (((cutR (afS s).tail 61).tail).drop 1) 39).isEmpty with
        | true => rw [cond_true]; exact Nat.zero_le _
        | false =>
          have n2 := ne_len q4
          rw [cond_false]
          cases q5 : stL (cutR (((cutR (afS s).tail 61).tail).drop 1) 39).tail [93] with
          | false => rw [Bool.not_false, cond_true]; exact Nat.zero_le _
          | true =>
            have l2 := stL_len q5
            rw [List.length_singleton] at l2
            rw [Bool.not_true, cond_false]
            simp only
            omega
end Go.Abs
namespace Go.Abs
open Go.Proofs
set_option maxRecDepth 100000
set_option linter.unusedSimpArgs false
set_option linter.unusedVariables false
set_option pp.maxSteps 20000
set_option pp.deepTerms true
theorem r129 (s t : Bs) (l : Nat) (h : AH) : run V0 (.fn 129) l [S (sV s), S (sV t)] h = some (.ret (.bool (stL s t)) h) := by
  have z1 := size_B s
  have z2 := size_B t
  refine run_fn Try.func129 rfl rfl rfl rfl ?_
  unfold stL
  by_cases hq : t.length ≤ s.length
  · have hlt : decide (((B t).size : Int) ≤ ((B s).size : Int)) = true := decide_eq_true (by omega)
    have hc : strCut (B s) 0 ((B t).size : Int) = some (B (s.take t.length)) := by rw [z2]; exact cut_to' s t.length hq
    have b1 := decB (s.take t.length) t
    simp only [↓XX, ↓XD, ↓YX, ZB, Nat.reduceAdd, Nat.reducePow, ↓reduceIte, eq_self, Int.reduceEq, Nat.reduceEqDiff, Nat.reduceMul, Nat.reduceLeDiff, Try.f129, hlt, hc, b1, decide_eq_true hq, Bool.true_and]
  · have hlt : decide (((B t).size : Int) ≤ ((B s).size : Int)) = false := decide_eq_false (by omega)
    simp only [↓XX, ↓XD, ↓YX, ZB, Nat.reduceAdd, Nat.reducePow, ↓reduceIte, eq_self, Int.reduceEq, Nat.reduceEqDiff, Nat.reduceMul, Nat.reduceLeDiff, Try.f129, hlt, decide_eq_false hq, Bool.false_and]
theorem Sl.app3 {lim : Nat} {h : AH} {id g g2 no nh : Nat} {os : List Bs} {cs ys : List Value} (y : Bs) (e : h[id]? = some (.row g 1 cs)) (e2 : h[nh]? = some (.row g2 1 ys)) (hc : cs = sL os) (hno : no = os.length) (hl : lim ≤ id) (hb : os.length ≤ 2 ^ 30) (hy : ys = [sV y]) :
    ∃ z, app lim h (slV id g no no) (slV nh g2 1 1) 1 1 16 = some z ∧ ∃ g', z = (slV id g' (no + 1) (no + 1), h.set id (.row g' 1 (sL (os ++ [y])))) := by
  subst hc hno hy
  obtain ⟨z, e1, g', rfl⟩ := okr_app (lim := lim) (id := id) (g := g) (tg := 1) (n := os.length) (k := 1) (by' := 16) (cs := sL os) (x := slV nh g2 1 1) (ds := [sV y]) (src_new (sz := 1) (tg := 1) e2 rfl) e (by rw [sL_len]; omega) hl (by omega)
  exact ⟨_, e1, g', by rw [sL_app]; rfl⟩
def CuQ (H0 : AH) (xs : List Bs) (v : Value) (h' : AH) : Prop := ∃ i g, v = slV i g xs.length xs.length ∧ h'[i]? = some (.row g 1 (sL xs)) ∧ Keep H0.length H0 h'
theorem cut_none {s : Bs} {c : UInt8} (h : ∀ x ∈ s, x ≠ c) : cut1 s c = [s] := by
  have := take_at (p := fun b => b != c) s [] (fun x hx => by simp [h x hx]) (.inl rfl)
  rw [List.append_nil] at this
  unfold cut1 cutR
  rw [this.2, if_pos rfl]
theorem cut_two {d r : Bs} {c : UInt8} (h : ∀ x ∈ d, x ≠ c) : cut1 (d ++ c :: r) c = [d, r] := by
  obtain ⟨h1, h2⟩ := cut_there c d r h
  unfold cut1
  rw [h1, h2, if_neg (by simp)]; rfl
/-- spec.l1Cut, at one place at most: its loop -/
theorem L131 (s : Bs) (c : UInt8) (hs : s.length ≤ 2 ^ 30) (l iO : Nat) (H0 : AH) (hl : l ≤ iO) (hi0 : H0.length ≤ iO) :
    ∀ (r d : Bs) (i : Int) (h : AH), d ++ r = s → i = d.length → (∀ x ∈ d, x ≠ c) → Keep H0.length H0 h → h[iO]? = some (.row 0 1 []) →
      Okr (CuQ H0 (cut1 s c)) (L131_0 l (sV s) (.int .u8 c.toNat) (iV 1) (slV iO 0 0 0) (iV 0) (iV i) h) := by
  have hsz := size_B s
  have h01 : decide (((0 : Nat) : Int) < 1) = true := rfl
  have h11 : decide (((1 : Nat) : Int) < 1) = false := rfl
  have h12 : decide (((0 + 1 : Nat) : Int) < 1) = false := rfl
  intro r
  induction r with
  | nil =>
    rintro d i h hd rfl hno k e
    rw [List.append_nil] at hd
    subst hd
    have hO := lt_of_get e
    have hlt : decide ((d.length : Int) < ((B d).size : Int)) = false := decide_eq_false (by omega)
    have hc : strCut (B d) 0 ((B d).size : Int) = some (B d) := by have := cut_from' d 0 (by omega); simpa using this
    rw [cut_none hno]
    refine okr_code Try.func131 rfl rfl ?_
    simp (dsimp := false) (disch := (first | (refine dS ?_; kernel_rfl) | (refine dM ?_; kernel_rfl) | (refine dO ?_; simp (disch := ((try simp only [ZL]) <;> omega)) only [ZK, ZL]; done) | (refine dK ?_; (repeat first | exact Keep.refl _ _ | exact Keep.app _ _ (Nat.le_refl _) | assumption | refine Keep.ap ?_ | refine Keep.st (by first | omega | (simp only [ZL]; omega)) ?_); done) | ((try simp only [ZL]) <;> omega) | fail)) only [XOB, ↓XXs, ↓XD, ↓YX, ZB, Nat.reduceAdd, Nat.reducePow, ↓reduceIte, eq_self, Int.reduceEq, Nat.reduceEqDiff, Nat.reduceMul, Nat.reduceLeDiff, Int.reduceBEq, Int.reduceLT, Try.f131, ↓XH2, XRN, ZC, ZE, ZH, eq_self, Nat.reduceLeDiff, Nat.reduceBEq, slV_new, reduceIte, ↓op_extract, tupAt_mk, lenV_sl, Bool.not_true, Bool.not_false, hlt, hc]
    refine okr_opt (Sl.app3 (os := []) d (by simp (disch := (first | (refine dS ?_; kernel_rfl) | (refine dM ?_; kernel_rfl) | (refine dO ?_; simp (disch := ((try simp only [ZL]) <;> omega)) only [ZK, ZL]; done) | (refine dK ?_; (repeat first | exact Keep.refl _ _ | exact Keep.app _ _ (Nat.le_refl _) | assumption | refine Keep.ap ?_ | refine Keep.st (by first | omega | (simp only [ZL]; omega)) ?_); done) | ((try simp only [ZL]) <;> omega) | fail)) only [↓XH2, XRN, ZC, ZE, ZH, eq_self, Nat.reduceLeDiff, Nat.reduceBEq, e]; rfl) (by simp (disch := (first | (refine dS ?_; kernel_rfl) | (refine dM ?_; kernel_rfl) | (refine dO ?_; simp (disch := ((try simp only [ZL]) <;> omega)) only [ZK, ZL]; done) | (refine dK ?_; (repeat first | exact Keep.refl _ _ | exact Keep.app _ _ (Nat.le_refl _) | assumption | refine Keep.ap ?_ | refine Keep.st (by first | omega | (simp only [ZL]; omega)) ?_); done) | ((try simp only [ZL]) <;> omega) | fail)) only [↓XH2, XRN, ZC, ZE, ZH, eq_self, Nat.reduceLeDiff, Nat.reduceBEq] <;> rfl) rfl rfl (by omega) (by simp) rfl) ?_
    rintro _ ⟨g4, rfl⟩
    simp (dsimp := false) (disch := (first | (refine dS ?_; kernel_rfl) | (refine dM ?_; kernel_rfl) | (refine dO ?_; simp (disch := ((try simp only [ZL]) <;> omega)) only [ZK, ZL]; done) | (refine dK ?_; (repeat first | exact Keep.refl _ _ | exact Keep.app _ _ (Nat.le_refl _) | assumption | refine Keep.ap ?_ | refine Keep.st (by first | omega | (simp only [ZL]; omega)) ?_); done) | ((try simp only [ZL]) <;> omega) | fail)) only [XOB, ↓XXs, ↓XD, ↓YX, ZB, Nat.reduceAdd, Nat.reducePow, ↓reduceIte, eq_self, Int.reduceEq, Nat.reduceEqDiff, Nat.reduceMul, Nat.reduceLeDiff, Int.reduceBEq, Int.reduceLT, Try.f131, ↓XH2, XRN, ZC, ZE, ZH, eq_self, Nat.reduceLeDiff, Nat.reduceBEq, slV_new, reduceIte, ↓op_extract, tupAt_mk, lenV_sl, Bool.not_true, Bool.not_false, hlt, hc]
    with_reducible refine Okr.ret ?_
    exact ⟨iO, g4, rfl, by simp (disch := (first | (refine dS ?_; kernel_rfl) | (refine dM ?_; kernel_rfl) | (refine dO ?_; simp (disch := ((try simp only [ZL]) <;> omega)) only [ZK, ZL]; done) | (refine dK ?_; (repeat first | exact Keep.refl _ _ | exact Keep.app _ _ (Nat.le_refl _) | assumption | refine Keep.ap ?_ | refine Keep.st (by first | omega | (simp only [ZL]; omega)) ?_); done) | ((try simp only [ZL]) <;> omega) | fail)) only [↓XH2, XRN, ZC, ZE, ZH, eq_self, Nat.reduceLeDiff, Nat.reduceBEq], k.trans ((Keep.set h iO _ hi0).trans (Keep.app _ _ (by have := k.1; simp; omega)))⟩
  | cons b r ih =>
    rintro d i h hd rfl hno k e
    have hO := lt_of_get e
    have hk := k.1
    have hll : d.length + r.length + 1 = s.length := by rw [← hd]; simp; omega
    have hlt : decide ((d.length : Int) < ((B s).size : Int)) = true := decide_eq_true (by omega)
    have hat : strAt (B s) (d.length : Int) = some (b.toNat : Int) := by rw [← hd]; exact strAt_mid d b r
    have hw : IntKind.i64.wrap ((d.length : Int) + 1) = ((d.length + 1 : Nat) : Int) := natCast_succ_wrap (by omega) rfl
    refine okr_code Try.func131 rfl rfl ?_
    by_cases hb : b = c
    · subst hb
      have hbb : ((b.toNat : Int) == (b.toNat : Int)) = true := by simp
      have hc : strCut (B s) 0 (d.length : Int) = some (B d) := by rw [cut_to' s d.length (by omega), ← hd, List.take_left' rfl]
      have hc2 : strCut (B s) ((d.length + 1 : Nat) : Int) ((B s).size : Int) = some (B r) := by
        rw [cut_from' s (d.length + 1) (by omega), ← hd, ← List.drop_drop, List.drop_left' rfl]; rfl
      rw [← hd, cut_two hno, hd]
      simp (dsimp := false) (disch := (first | (refine dS ?_; kernel_rfl) | (refine dM ?_; kernel_rfl) | (refine dO ?_; simp (disch := ((try simp only [ZL]) <;> omega)) only [ZK, ZL]; done) | (refine dK ?_; (repeat first | exact Keep.refl _ _ | exact Keep.app _ _ (Nat.le_refl _) | assumption | refine Keep.ap ?_ | refine Keep.st (by first | omega | (simp only [ZL]; omega)) ?_); done) | ((try simp only [ZL]) <;> omega) | fail)) only [XOB, ↓XXs, ↓XD, ↓YX, ZB, Nat.reduceAdd, Nat.reducePow, ↓reduceIte, eq_self, Int.reduceEq, Nat.reduceEqDiff, Nat.reduceMul, Nat.reduceLeDiff, Int.reduceBEq, Int.reduceLT, Try.f131, ↓XH2, XRN, ZC, ZE, ZH, eq_self, Nat.reduceLeDiff, Nat.reduceBEq, slV_new, reduceIte, ↓op_extract, tupAt_mk, lenV_sl, Bool.not_true, Bool.not_false, h01, hlt, hat, hw, hbb, hc]
      refine okr_opt (Sl.app3 (os := []) d (by simp (disch := (first | (refine dS ?_; kernel_rfl) | (refine dM ?_; kernel_rfl) | (refine dO ?_; simp (disch := ((try simp only [ZL]) <;> omega)) only [ZK, ZL]; done) | (refine dK ?_; (repeat first | exact Keep.refl _ _ | exact Keep.app _ _ (Nat.le_refl _) | assumption | refine Keep.ap ?_ | refine Keep.st (by first | omega | (simp only [ZL]; omega)) ?_); done) | ((try simp only [ZL]) <;> omega) | fail)) only [↓XH2, XRN, ZC, ZE, ZH, eq_self, Nat.reduceLeDiff, Nat.reduceBEq, e]; rfl) (by simp (disch := (first | (refine dS ?_; kernel_rfl) | (refine dM ?_; kernel_rfl) | (refine dO ?_; simp (disch := ((try simp only [ZL]) <;> omega)) only [ZK, ZL]; done) | (refine dK ?_; (repeat first | exact Keep.refl _ _ | exact Keep.app _ _ (Nat.le_refl _) | assumption | refine Keep.ap ?_ | refine Keep.st (by first | omega | (simp only [ZL]; omega)) ?_); done) | ((try simp only [ZL]) <;> omega) | fail)) only [↓XH2, XRN, ZC, ZE, ZH, eq_self, Nat.reduceLeDiff, Nat.reduceBEq] <;> rfl) rfl rfl (by omega) (by simp) rfl) ?_
      rintro _ ⟨g4, rfl⟩
      simp (dsimp := false) (disch := (first | (refine dS ?_; kernel_rfl) | (refine dM ?_; kernel_rfl) | (refine dO ?_; simp (disch := ((try simp only [ZL]) <;> omega)) only [ZK, ZL]; done) | (refine dK ?_; (repeat first | exact Keep.refl _ _ | exact Keep.app _ _ (Nat.le_refl _) | assumption | refine Keep.ap ?_ | refine Keep.st (by first | omega | (simp only [ZL]; omega)) ?_); done) | ((try simp only [ZL]) <;> omega) | fail)) only [XOB, ↓XXs, ↓XD, ↓YX, ZB, Nat.reduceAdd, Nat.reducePow, ↓reduceIte, eq_self, Int.reduceEq, Nat.reduceEqDiff, Nat.reduceMul, Nat.reduceLeDiff, Int.reduceBEq, Int.reduceLT, Try.f131, ↓XH2, XRN, ZC, ZE, ZH, eq_self, Nat.reduceLeDiff, Nat.reduceBEq, slV_new, reduceIte, ↓op_extract, tupAt_mk, lenV_sl, Bool.not_true, Bool.not_false, h01, hlt, hat, hw, hbb, hc]
      refine okr_code Try.func131 rfl rfl ?_
      cases q : decide (((d.length + 1 : Nat) : Int) < ((B s).size : Int)) with
      | true =>
        simp (dsimp := false) (disch := (first | (refine dS ?_; kernel_rfl) | (refine dM ?_; kernel_rfl) | (refine dO ?_; simp (disch := ((try simp only [ZL]) <;> omega)) only [ZK, ZL]; done) | (refine dK ?_; (repeat first | exact Keep.refl _ _ | exact Keep.app _ _ (Nat.le_refl _) | assumption | refine Keep.ap ?_ | refine Keep.st (by first | omega | (simp only [ZL]; omega)) ?_); done) | ((try simp only [ZL]) <;> omega) | fail)) only [XOB, ↓XXs, ↓XD, ↓YX, ZB, Nat.reduceAdd, Nat.reducePow, ↓reduceIte, eq_self, Int.reduceEq, Nat.reduceEqDiff, Nat.reduceMul, Nat.reduceLeDiff, Int.reduceBEq, Int.reduceLT, Try.f131, ↓XH2, XRN, ZC, ZE, ZH, eq_self, Nat.reduceLeDiff, Nat.reduceBEq, slV_new, reduceIte, ↓op_extract, tupAt_mk, lenV_sl, Bool.not_true, Bool.not_false, h11, h12, q, hc2]
        refine okr_opt (Sl.app3 (os := [d]) r (by simp (disch := (first | (refine dS ?_; kernel_rfl) | (refine dM ?_; kernel_rfl) | (refine dO ?_; simp (disch := ((try simp only [ZL]) <;> omega)) only [ZK, ZL]; done) | (refine dK ?_; (repeat first | exact Keep.refl _ _ | exact Keep.app _ _ (Nat.le_refl _) | assumption | refine Keep.ap ?_ | refine Keep.st (by first | omega | (simp only [ZL]; omega)) ?_); done) | ((try simp only [ZL]) <;> omega) | fail)) only [↓XH2, XRN, ZC, ZE, ZH, eq_self, Nat.reduceLeDiff, Nat.reduceBEq] <;> rfl) (by simp (disch := (first | (refine dS ?_; kernel_rfl) | (refine dM ?_; kernel_rfl) | (refine dO ?_; simp (disch := ((try simp only [ZL]) <;> omega)) only [ZK, ZL]; done) | (refine dK ?_; (repeat first | exact Keep.refl _ _ | exact Keep.app _ _ (Nat.le_refl _) | assumption | refine Keep.ap ?_ | refine Keep.st (by first | omega | (simp only [ZL]; omega)) ?_); done) | ((try simp only [ZL]) <;> omega) | fail)) only [↓XH2, XRN, ZC, ZE, ZH, eq_self, Nat.reduceLeDiff, Nat.reduceBEq] <;> rfl) rfl rfl (by omega) (by simp) rfl) ?_
        rintro _ ⟨g5, rfl⟩
        simp (dsimp := false) (disch := (first | (refine dS ?_; kernel_rfl) | (refine dM ?_; kernel_rfl) | (refine dO ?_; simp (disch := ((try simp only [ZL]) <;> omega)) only [ZK, ZL]; done) | (refine dK ?_; (repeat first | exact Keep.refl _ _ | exact Keep.app _ _ (Nat.le_refl _) | assumption | refine Keep.ap ?_ | refine Keep.st (by first | omega | (simp only [ZL]; omega)) ?_); done) | ((try simp only [ZL]) <;> omega) | fail)) only [XOB, ↓XXs, ↓XD, ↓YX, ZB, Nat.reduceAdd, Nat.reducePow, ↓reduceIte, eq_self, Int.reduceEq, Nat.reduceEqDiff, Nat.reduceMul, Nat.reduceLeDiff, Int.reduceBEq, Int.reduceLT, Try.f131, ↓XH2, XRN, ZC, ZE, ZH, eq_self, Nat.reduceLeDiff, Nat.reduceBEq, slV_new, reduceIte, ↓op_extract, tupAt_mk, lenV_sl, Bool.not_true, Bool.not_false, h11, h12, q, hc2]
        with_reducible refine Okr.ret ?_
        exact ⟨iO, g5, rfl, by simp (disch := (first | (refine dS ?_; kernel_rfl) | (refine dM ?_; kernel_rfl) | (refine dO ?_; simp (disch := ((try simp only [ZL]) <;> omega)) only [ZK, ZL]; done) | (refine dK ?_; (repeat first | exact Keep.refl _ _ | exact Keep.app _ _ (Nat.le_refl _) | assumption | refine Keep.ap ?_ | refine Keep.st (by first | omega | (simp only [ZL]; omega)) ?_); done) | ((try simp only [ZL]) <;> omega) | fail)) only [↓XH2, XRN, ZC, ZE, ZH, eq_self, Nat.reduceLeDiff, Nat.reduceBEq], k.trans ((Keep.set h iO _ hi0).trans (Keep.app _ _ (by simp; omega)))⟩
      | false =>
        simp (dsimp := false) (disch := (first | (refine dS ?_; kernel_rfl) | (refine dM ?_; kernel_rfl) | (refine dO ?_; simp (disch := ((try simp only [ZL]) <;> omega)) only [ZK, ZL]; done) | (refine dK ?_; (repeat first | exact Keep.refl _ _ | exact Keep.app _ _ (Nat.le_refl _) | assumption | refine Keep.ap ?_ | refine Keep.st (by first | omega | (simp only [ZL]; omega)) ?_); done) | ((try simp only [ZL]) <;> omega) | fail)) only [XOB, ↓XXs, ↓XD, ↓YX, ZB, Nat.reduceAdd, Nat.reducePow, ↓reduceIte, eq_self, Int.reduceEq, Nat.reduceEqDiff, Nat.reduceMul, Nat.reduceLeDiff, Int.reduceBEq, Int.reduceLT, Try.f131, ↓XH2, XRN, ZC, ZE, ZH, eq_self, Nat.reduceLeDiff, Nat.reduceBEq, slV_new, reduceIte, ↓op_extract, tupAt_mk, lenV_sl, Bool.not_true, Bool.not_false, h11, h12, q, hc2]
        refine okr_opt (Sl.app3 (os := [d]) r (by simp (disch := (first | (refine dS ?_; kernel_rfl) | (refine dM ?_; kernel_rfl) | (refine dO ?_; simp (disch := ((try simp only [ZL]) <;> omega)) only [ZK, ZL]; done) | (refine dK ?_; (repeat first | exact Keep.refl _ _ | exact Keep.app _ _ (Nat.le_refl _) | assumption | refine Keep.ap ?_ | refine Keep.st (by first | omega | (simp only [ZL]; omega)) ?_); done) | ((try simp only [ZL]) <;> omega) | fail)) only [↓XH2, XRN, ZC, ZE, ZH, eq_self, Nat.reduceLeDiff, Nat.reduceBEq] <;> rfl) (by simp (disch := (first | (refine dS ?_; kernel_rfl) | (refine dM ?_; kernel_rfl) | (refine dO ?_; simp (disch := ((try simp only [ZL]) <;> omega)) only [ZK, ZL]; done) | (refine dK ?_; (repeat first | exact Keep.refl _ _ | exact Keep.app _ _ (Nat.le_refl _) | assumption | refine Keep.ap ?_ | refine Keep.st (by first | omega | (simp only [ZL]; omega)) ?_); done) | ((try simp only [ZL]) <;> omega) | fail)) only [↓XH2, XRN, ZC, ZE, ZH, eq_self, Nat.reduceLeDiff, Nat.reduceBEq] <;> rfl) rfl rfl (by omega) (by simp) rfl) ?_
        rintro _ ⟨g5, rfl⟩
        simp (dsimp := false) (disch := (first | (refine dS ?_; kernel_rfl) | (refine dM ?_; kernel_rfl) | (refine dO ?_; simp (disch := ((try simp only [ZL]) <;> omega)) only [ZK, ZL]; done) | (refine dK ?_; (repeat first | exact Keep.refl _ _ | exact Keep.app _ _ (Nat.le_refl _) | assumption | refine Keep.ap ?_ | refine Keep.st (by first | omega | (simp only [ZL]; omega)) ?_); done) | ((try simp only [ZL]) <;> omega) | fail)) only [XOB, ↓XXs, ↓XD, ↓YX, ZB, Nat.reduceAdd, Nat.reducePow, ↓reduceIte, eq_self, Int.reduceEq, Nat.reduceEqDiff, Nat.reduceMul, Nat.reduceLeDiff, Int.reduceBEq, Int.reduceLT, Try.f131, ↓XH2, XRN, ZC, ZE, ZH, eq_self, Nat.reduceLeDiff, Nat.reduceBEq, slV_new, reduceIte, ↓op_extract, tupAt_mk, lenV_sl, Bool.not_true, Bool.not_false, h11, h12, q, hc2]
        with_reducible refine Okr.ret ?_
        exact ⟨iO, g5, rfl, by simp (disch := (first | (refine dS ?_; kernel_rfl) | (refine dM ?_; kernel_rfl) | (refine dO ?_; simp (disch := ((try simp only [ZL]) <;> omega)) only [ZK, ZL]; done) | (refine dK ?_; (repeat first | exact Keep.refl _ _ | exact Keep.app _ _ (Nat.le_refl _) | assumption | refine Keep.ap ?_ | refine Keep.st (by first | omega | (simp only [ZL]; omega)) ?_); done) | ((try simp only [ZL]) <;> omega) | fail)) only [↓XH2, XRN, ZC, ZE, ZH, eq_self, Nat.reduceLeDiff, Nat.reduceBEq], k.trans ((Keep.set h iO _ hi0).trans (Keep.app _ _ (by simp; omega)))⟩
    · have hbb : ((b.toNat : Int) == (c.toNat : Int)) = false := by
        rw [beq_eq_false_iff_ne]
        intro q
        exact hb (UInt8.toNat_inj.1 (by omega))
      simp (dsimp := false) (disch := (first | (refine dS ?_; kernel_rfl) | (refine dM ?_; kernel_rfl) | (refine dO ?_; simp (disch := ((try simp only [ZL]) <;> omega)) only [ZK, ZL]; done) | (refine dK ?_; (repeat first | exact Keep.refl _ _ | exact Keep.app _ _ (Nat.le_refl _) | assumption | refine Keep.ap ?_ | refine Keep.st (by first | omega | (simp only [ZL]; omega)) ?_); done) | ((try simp only [ZL]) <;> omega) | fail)) only [XOB, ↓XXs, ↓XD, ↓YX, ZB, Nat.reduceAdd, Nat.reducePow, ↓reduceIte, eq_self, Int.reduceEq, Nat.reduceEqDiff, Nat.reduceMul, Nat.reduceLeDiff, Int.reduceBEq, Int.reduceLT, Try.f131, ↓XH2, XRN, ZC, ZE, ZH, eq_self, Nat.reduceLeDiff, Nat.reduceBEq, slV_new, reduceIte, ↓op_extract, tupAt_mk, lenV_sl, Bool.not_true, Bool.not_false, h01, hlt, hat, hw, hbb]
      exact ih (d ++ [b]) ((d.length + 1 : Nat) : Int) h (by simp [hd]) (by simp) (fun x hx => by
        rcases List.mem_append.1 hx with hx | hx
        · exact hno x hx
        · rw [List.mem_singleton] at hx; subst hx; exact hb) k e
theorem r131 (s : Bs) (c : UInt8) (hs : s.length ≤ 2 ^ 30) (l : Nat) (h : AH) (hl : l ≤ h.length) : Okr (CuQ h (cut1 s c)) (run V0 (.fn 131) l [S (sV s), S (.int .u8 c.toNat), S (iV 1)] h) := by
  refine okr_fn Try.func131 rfl rfl rfl rfl ?_
  simp (dsimp := false) (disch := (first | (refine dS ?_; kernel_rfl) | (refine dM ?_; kernel_rfl) | (refine dO ?_; simp (disch := ((try simp only [ZL]) <;> omega)) only [ZK, ZL]; done) | (refine dK ?_; (repeat first | exact Keep.refl _ _ | exact Keep.app _ _ (Nat.le_refl _) | assumption | refine Keep.ap ?_ | refine Keep.st (by first | omega | (simp only [ZL]; omega)) ?_); done) | ((try simp only [ZL]) <;> omega) | fail)) only [XOB, ↓XXs, ↓XD, ↓YX, ZB, Nat.reduceAdd, Nat.reducePow, ↓reduceIte, eq_self, Int.reduceEq, Nat.reduceEqDiff, Nat.reduceMul, Nat.reduceLeDiff, Int.reduceBEq, Int.reduceLT, Try.f131, ↓XH2, XRN, ZC, ZE, ZH, eq_self, Nat.reduceLeDiff, Nat.reduceBEq, slV_new, reduceIte, ↓op_extract, tupAt_mk, lenV_sl, Bool.not_true, Bool.not_false]
  exact L131 s c hs l h.length h hl (Nat.le_refl _) s [] 0 _ rfl rfl (by simp) (Keep.app _ _ (Nat.le_refl _)) (by simp)
theorem cutS_mid (p d r : Bs) : strCut (B (p ++ (d ++ r))) (p.length : Int) ((p.length + d.length : Nat) : Int) = some (B d) := by
  rw [strCut_B _ _ _ (by omega) (by simp), ← List.append_assoc]
  congr 2
  rw [List.take_left' (by simp), List.drop_left' rfl]
/-- spec.l12Step: its loop goes on to the name's end -/
theorem L109n (s : Bs) (hs : s.length ≤ 2 ^ 30) (l : Nat) (v2 v4 v6 : Value) (h : AH) :
    ∀ (r d : Bs) (i : Int), d ++ r = s → i = d.length → ∀ P, Okr P (L109_0 l (sV s) v2 v4 (iV ((d.length + (r.takeWhile nmB).length : Nat) : Int)) v6 h) → Okr P (L109_0 l (sV s) v2 v4 (iV i) v6 h) := by
  have hsz := size_B s
  intro r
  induction r with
  | nil =>
    rintro d i hd rfl P o
    simpa using o
  | cons b r ih =>
    rintro d i hd rfl P o
    have hll : d.length + r.length + 1 = s.length := by rw [← hd]; simp; omega
    cases hb : nmB b with
    | false =>
      rw [List.takeWhile_cons, hb] at o
      simpa using o
    | true =>
      rw [List.takeWhile_cons, hb] at o
      have hlt : decide ((d.length : Int) < ((B s).size : Int)) = true := decide_eq_true (by omega)
      have hat : strAt (B s) (d.length : Int) = some (b.toNat : Int) := by rw [← hd]; exact strAt_mid d b r
      have hw : IntKind.i64.wrap ((d.length : Int) + 1) = ((d.length + 1 : Nat) : Int) := natCast_succ_wrap (by omega) rfl
      have a1 := r130 (b.toNat : Int) l h
      have i1 := ih (d ++ [b]) ((d.length + 1 : Nat) : Int) (by simp [hd]) (by simp) P (by
        have e : (d ++ [b]).length + (r.takeWhile nmB).length = d.length + (b :: r.takeWhile nmB).length := by simp; omega
        rw [e]; simpa using o)
      unfold nmB at hb
      refine okr_code Try.func109 rfl rfl ?_
      cases q : nameI (b.toNat : Int) with
      | true =>
        rw [q] at a1
        simp (dsimp := false) (disch := (first | (refine dS ?_; kernel_rfl) | (refine dM ?_; kernel_rfl) | (refine dO ?_; simp (disch := ((try simp only [ZL]) <;> omega)) only [ZK, ZL]; done) | (refine dK ?_; (repeat first | exact Keep.refl _ _ | exact Keep.app _ _ (Nat.le_refl _) | assumption | refine Keep.ap ?_ | refine Keep.st (by first | omega | (simp only [ZL]; omega)) ?_); done) | ((try simp only [ZL]) <;> omega) | fail)) only [XOB, ↓XXs, ↓XD, ↓YX, ZB, Nat.reduceAdd, Nat.reducePow, ↓reduceIte, eq_self, Int.reduceEq, Nat.reduceEqDiff, Nat.reduceMul, Nat.reduceLeDiff, Int.reduceBEq, Int.reduceLT, Try.f109, ↓XH2, XRN, ZC, ZE, ZH, eq_self, Nat.reduceLeDiff, Nat.reduceBEq, slV_new, reduceIte, ↓op_extract, tupAt_mk, lenV_sl, Bool.not_true, Bool.not_false, hlt, hat, hw, a1]
        exact i1
      | false =>
        rw [q, Bool.false_or] at hb
        rw [q] at a1
        simp (dsimp := false) (disch := (first | (refine dS ?_; kernel_rfl) | (refine dM ?_; kernel_rfl) | (refine dO ?_; simp (disch := ((try simp only [ZL]) <;> omega)) only [ZK, ZL]; done) | (refine dK ?_; (repeat first | exact Keep.refl _ _ | exact Keep.app _ _ (Nat.le_refl _) | assumption | refine Keep.ap ?_ | refine Keep.st (by first | omega | (simp only [ZL]; omega)) ?_); done) | ((try simp only [ZL]) <;> omega) | fail)) only [XOB, ↓XXs, ↓XD, ↓YX, ZB, Nat.reduceAdd, Nat.reducePow, ↓reduceIte, eq_self, Int.reduceEq, Nat.reduceEqDiff, Nat.reduceMul, Nat.reduceLeDiff, Int.reduceBEq, Int.reduceLT, Try.f109, ↓XH2, XRN, ZC, ZE, ZH, eq_self, Nat.reduceLeDiff, Nat.reduceBEq, slV_new, reduceIte, ↓op_extract, tupAt_mk, lenV_sl, Bool.not_true, Bool.not_false, hlt, hat, hw, a1, hb]
        exact i1
/-- what a step is: what is read, and how many bytes -/
def SpQ (H0 : AH) (s : Bs) (v : Value) (h' : AH) : Prop := v = .tuple ⟨[stV (stepS s).1, iV ((stepS s).2 : Int)]⟩ ∧ Keep H0.length H0 h'
theorem af_head (s : Bs) : (afS s = []) ∨ ∃ b t, afS s = b :: t ∧ nmB b = false := by
  unfold afS
  generalize s.drop (atN s) = r
  induction r with
  | nil => exact .inl rfl
  | cons b r ih =>
    rw [List.dropWhile_cons]
    cases hb : nmB b with
    | true => rw [if_pos rfl]; exact ih
    | false => rw [if_neg (by simp)]; exact .inr ⟨b, r, rfl, hb⟩
theorem r109 (s : Bs) (hs : s.length ≤ 2 ^ 20) (l : Nat) (h : AH) (hl : l ≤ h.length) : Okr (SpQ h s) (run V0 (.fn 109) l [S (sV s)] h) := by
  have hsz := size_B s
  have hle := at_le s
  have a0 := r129 s [47, 47] l
  have hcat : s.take (atN s) ++ (nmS s ++ afS s) = s := by
    have : nmS s ++ afS s = s.drop (atN s) := List.takeWhile_append_dropWhile
    rw [this, List.take_append_drop]
  have htk : (s.take (atN s)).length = atN s := by rw [List.length_take]; omega
  have hgo := fun v2 v4 (h : AH) P => L109n s (by omega) l v2 v4 (iV (atN s : Int)) h (s.drop (atN s)) (s.take (atN s)) (atN s : Int) (List.take_append_drop _ _) (by rw [htk]) P
  have hnm : ((s.drop (atN s)).takeWhile nmB).length = (nmS s).length := rfl
  rw [htk, hnm] at hgo
  have hcm : strCut (B s) (atN s : Int) ((atN s + (nmS s).length : Nat) : Int) = some (B (nmS s)) := by
    have := cutS_mid (s.take (atN s)) (nmS s) (afS s)
    rw [hcat, htk] at this
    exact this
  refine okr_fn Try.func109 rfl rfl rfl rfl ?_
  have main : ∀ (dp : Bool), stL s [47, 47] = dp → ∀ (h2 : AH), Keep h.length h h2 → h2[h.length + 1]? = some (.row 0 4 (stC ⟨dp, [], [], []⟩)) → h2[h.length]? = some (.row 0 4 (stC ⟨false, [], [], []⟩)) →
      Okr (SpQ h s) (L109_0 l (sV s) (pV h.length 0 0) (pV (h.length + 1) 0 0) (iV (atN s : Int)) (iV (atN s : Int)) h2) := by
    rintro dp hdp h2 k2 e2 e0
    refine hgo _ _ h2 _ ?_
    refine okr_code Try.func109 rfl rfl ?_
    have hk2 := k2.1
    have h01 := lt_of_get e2
    have hlh2 : l ≤ h2.length := by omega
    have hst0 : stL s [47, 47] = dp := hdp
    have h1d : s.drop (atN s + (nmS s).length) = afS s := by
      rw [← List.drop_drop, show s.drop (atN s) = nmS s ++ afS s from (List.takeWhile_append_dropWhile).symm, List.drop_left' rfl]
    have htl0 : (s.take (atN s) ++ nmS s).length = atN s + (nmS s).length := by rw [List.length_append, htk]
    generalize hA : atN s + (nmS s).length = A at *
    rcases af_head s with ha | ⟨b, t, ha, hb⟩
    · have hal : (afS s).length = 0 := by rw [ha]; rfl
      have hlt : decide (((A : Nat) : Int) < ((B s).size : Int)) = false := decide_eq_false (by omega)
      have heq : (((A : Nat) : Int) == ((B s).size : Int)) = true := by rw [beq_iff_eq]; omega
      have hst : stepS s = (⟨dp, nmS s, [], []⟩, A) := by
        rw [← hA]
        unfold stepS
        simp only
        rw [ha, hst0]; rfl
      unfold SpQ
      rw [hst]
      simp (dsimp := false) (disch := (first | (refine dS ?_; kernel_rfl) | (refine dM ?_; kernel_rfl) | (refine dO ?_; simp (disch := ((try simp only [ZL]) <;> omega)) only [ZK, ZL]; done) | (refine dK ?_; (repeat first | exact Keep.refl _ _ | exact Keep.app _ _ (Nat.le_refl _) | assumption | refine Keep.ap ?_ | refine Keep.st (by first | omega | (simp only [ZL]; omega)) ?_); done) | ((try simp only [ZL]) <;> omega) | fail)) only [XOB, ↓XXs, ↓XD, ↓YX, ZB, Nat.reduceAdd, Nat.reducePow, ↓reduceIte, eq_self, Int.reduceEq, Nat.reduceEqDiff, Nat.reduceMul, Nat.reduceLeDiff, Int.reduceBEq, Int.reduceLT, Try.f109, ↓XH2, XRN, ZC, ZE, ZH, eq_self, Nat.reduceLeDiff, Nat.reduceBEq, slV_new, reduceIte, ↓op_extract, tupAt_mk, lenV_sl, Bool.not_true, Bool.not_false, hlt, heq, hcm, e2, e0, h01, hlh2]
      with_reducible refine Okr.ret ?_
      refine ⟨rfl, k2.trans ?_⟩
      exact (Keep.set h2 _ _ (by omega)).trans (Keep.set _ _ _ (by omega))
    · have hal : (afS s).length = t.length + 1 := by rw [ha]; rfl
      have hlt : decide (((A : Nat) : Int) < ((B s).size : Int)) = true := decide_eq_true (by omega)
      have heq : (((A : Nat) : Int) == ((B s).size : Int)) = false := by rw [beq_eq_false_iff_ne]; omega
      have hat : strAt (B s) ((A : Nat) : Int) = some (b.toNat : Int) := by
        have := strAt_mid (s.take (atN s) ++ nmS s) b t
        rw [List.append_assoc, ← ha, hcat, htl0] at this
        exact this
      have a1 := r130 (b.toNat : Int) l h2
      have hb' := hb
      unfold nmB at hb'
      rw [Bool.or_eq_false_iff] at hb'
      rw [hb'.1] at a1
      have hb42 := hb'.2
      by_cases h91 : b = 91
      · subst h91
        have hne : (((91 : UInt8).toNat : Int) != 91) = false := rfl
        have htl : (afS s).tail = t := by rw [ha]; rfl
        have hh91 : ((afS s).head? != some 91) = false := by rw [ha]; rfl
        have hwA : IntKind.i64.wrap (((A : Nat) : Int) + 1) = ((A + 1 : Nat) : Int) := natCast_succ_wrap (by omega) rfl
        have hct : strCut (B s) ((A + 1 : Nat) : Int) ((B s).size : Int) = some (B t) := by
          rw [cut_from' s _ (by omega)]
          rw [← List.drop_drop, h1d, ha]; rfl
        simp (dsimp := false) (disch := (first | (refine dS ?_; kernel_rfl) | (refine dM ?_; kernel_rfl) | (refine dO ?_; simp (disch := ((try simp only [ZL]) <;> omega)) only [ZK, ZL]; done) | (refine dK ?_; (repeat first | exact Keep.refl _ _ | exact Keep.app _ _ (Nat.le_refl _) | assumption | refine Keep.ap ?_ | refine Keep.st (by first | omega | (simp only [ZL]; omega)) ?_); done) | ((try simp only [ZL]) <;> omega) | fail)) only [XOB, ↓XXs, ↓XD, ↓YX, ZB, Nat.reduceAdd, Nat.reducePow, ↓reduceIte, eq_self, Int.reduceEq, Nat.reduceEqDiff, Nat.reduceMul, Nat.reduceLeDiff, Int.reduceBEq, Int.reduceLT, Try.f109, ↓XH2, XRN, ZC, ZE, ZH, eq_self, Nat.reduceLeDiff, Nat.reduceBEq, slV_new, reduceIte, ↓op_extract, tupAt_mk, lenV_sl, Bool.not_true, Bool.not_false, hlt, heq, hat, a1, hb42, hne, hcm, e2, e0, h01, hlh2, hwA, hct]
        have kA : Keep h.length h (h2.set (h.length + 1) (.row 0 4 (stC ⟨dp, nmS s, [], []⟩))) := k2.trans (Keep.set _ _ _ (by omega))
        refine okr_call (r131 t 61 (by omega) l (h2.set (h.length + 1) (.row 0 4 (stC ⟨dp, nmS s, [], []⟩))) (by rw [List.length_set]; omega)) ?_
        rintro _ h3 ⟨iw, gw, rfl, e3, k3⟩
        have hk3 := k3.1
        rw [List.length_set] at hk3
        have eX3 : h3[h.length + 1]? = some (.row 0 4 (stC ⟨dp, nmS s, [], []⟩)) := k3.get (by simp (disch := (first | (refine dS ?_; kernel_rfl) | (refine dM ?_; kernel_rfl) | (refine dO ?_; simp (disch := ((try simp only [ZL]) <;> omega)) only [ZK, ZL]; done) | (refine dK ?_; (repeat first | exact Keep.refl _ _ | exact Keep.app _ _ (Nat.le_refl _) | assumption | refine Keep.ap ?_ | refine Keep.st (by first | omega | (simp only [ZL]; omega)) ?_); done) | ((try simp only [ZL]) <;> omega) | fail)) only [↓XH2, XRN, ZC, ZE, ZH, eq_self, Nat.reduceLeDiff, Nat.reduceBEq]) (by simp; omega)
        have eR3 : h3[h.length]? = some (.row 0 4 (stC ⟨false, [], [], []⟩)) := k3.get (by simp (disch := (first | (refine dS ?_; kernel_rfl) | (refine dM ?_; kernel_rfl) | (refine dO ?_; simp (disch := ((try simp only [ZL]) <;> omega)) only [ZK, ZL]; done) | (refine dK ?_; (repeat first | exact Keep.refl _ _ | exact Keep.app _ _ (Nat.le_refl _) | assumption | refine Keep.ap ?_ | refine Keep.st (by first | omega | (simp only [ZL]; omega)) ?_); done) | ((try simp only [ZL]) <;> omega) | fail)) only [↓XH2, XRN, ZC, ZE, ZH, eq_self, Nat.reduceLeDiff, Nat.reduceBEq, e0]) (by simp; omega)
        have kk3 : Keep h.length h h3 := kA.trans (k3.le (by simp; omega))
        have hX3 := lt_of_get eX3
        have hR3 := lt_of_get eR3
        have hw3 := lt_of_get e3
        have hlh3 : l ≤ h3.length := by omega
        have hwne : ¬ iw = h.length + 1 := by
          intro q
          rw [q, eX3] at e3
          injection e3 with e3; injection e3 with _ e4 _
          cases e4
        have hwne2 : ¬ iw = h.length := by
          intro q
          rw [q, eR3] at e3
          injection e3 with e3; injection e3 with _ e4 _
          cases e4
        have hc61 := cut_sum t 61
        unfold cut1 at e3 ⊢
        cases hcR : cutR t 61 with
        | nil =>
          rw [hcR, if_pos rfl] at e3
          rw [if_pos rfl]
          have hst : stepS s = (⟨dp, nmS s, t, []⟩, 0) := by
            unfold stepS
            simp only
            rw [hh91, cond_false, htl, hcR, hst0]; rfl
          unfold SpQ
          rw [hst]
          have hx0 : ixAddr (slV iw gw 1 1) 0 1 = some (pV iw 0 gw) := rfl
          have h12 : decide (((1 : Nat) : Int) < 2) = true := rfl
          have hs0 : (sL [t])[0]? = some (sV t) := rfl
          have hx1n : ixAddr (slV iw gw 1 1) 1 1 = none := rfl
          have hld : ∀ H, ld H (slV iw gw 1 1) = none := fun _ => rfl
          simp only [List.length_singleton]
          simp (dsimp := false) (disch := (first | (refine dS ?_; kernel_rfl) | (refine dM ?_; kernel_rfl) | (refine dO ?_; simp (disch := ((try simp only [ZL]) <;> omega)) only [ZK, ZL]; done) | (refine dK ?_; (repeat first | exact Keep.refl _ _ | exact Keep.app _ _ (Nat.le_refl _) | assumption | refine Keep.ap ?_ | refine Keep.st (by first | omega | (simp only [ZL]; omega)) ?_); done) | ((try simp only [ZL]) <;> omega) | fail)) only [XOB, ↓XXs, ↓XD, ↓YX, ZB, Nat.reduceAdd, Nat.reducePow, ↓reduceIte, eq_self, Int.reduceEq, Nat.reduceEqDiff, Nat.reduceMul, Nat.reduceLeDiff, Int.reduceBEq, Int.reduceLT, Try.f109, ↓XH2, XRN, ZC, ZE, ZH, eq_self, Nat.reduceLeDiff, Nat.reduceBEq, slV_new, reduceIte, ↓op_extract, tupAt_mk, lenV_sl, Bool.not_true, Bool.not_false, eX3, eR3, hX3, hR3, hw3, hlh3, hwne, hwne2, e3, hx0, h12, hs0, hx1n, hld]
          with_reducible refine Okr.ret ?_
          refine ⟨rfl, kk3.trans ?_⟩
          exact (Keep.set h3 _ _ (by omega)).trans (Keep.set _ _ _ (by omega))
        | cons c0 b1 =>
          rw [hcR, if_neg (by simp)] at e3
          rw [if_neg (by simp)]
          rw [hcR] at hc61
          simp only [List.length_cons, List.tail_cons] at hc61 e3 ⊢
          have hx0 : ixAddr (slV iw gw 2 2) 0 1 = some (pV iw 0 gw) := rfl
          have hx1 : ixAddr (slV iw gw 2 2) 1 1 = some (pV iw 1 gw) := rfl
          have h12 : decide (((2 : Nat) : Int) < 2) = false := rfl
          have hs0 : (sL [cutA t 61, b1])[0]? = some (sV (cutA t 61)) := rfl
          have hs1 : (sL [cutA t 61, b1])[1]? = some (sV b1) := rfl
          have a3 := r129 b1 [39] l
          simp only [List.length_nil, Nat.zero_add]
          cases hq1 : stL b1 [39] with
          | false =>
            rw [hq1] at a3
            have hst : stepS s = (⟨dp, nmS s, cutA t 61, []⟩, 0) := by
              unfold stepS
              simp only
              rw [hh91, cond_false, htl, hcR, hst0, List.isEmpty_cons, cond_false, List.tail_cons, hq1]; rfl
            unfold SpQ
            rw [hst]
            simp (dsimp := false) (disch := (first | (refine dS ?_; kernel_rfl) | (refine dM ?_; kernel_rfl) | (refine dO ?_; simp (disch := ((try simp only [ZL]) <;> omega)) only [ZK, ZL]; done) | (refine dK ?_; (repeat first | exact Keep.refl _ _ | exact Keep.app _ _ (Nat.le_refl _) | assumption | refine Keep.ap ?_ | refine Keep.st (by first | omega | (simp only [ZL]; omega)) ?_); done) | ((try simp only [ZL]) <;> omega) | fail)) only [XOB, ↓XXs, ↓XD, ↓YX, ZB, Nat.reduceAdd, Nat.reducePow, ↓reduceIte, eq_self, Int.reduceEq, Nat.reduceEqDiff, Nat.reduceMul, Nat.reduceLeDiff, Int.reduceBEq, Int.reduceLT, Try.f109, ↓XH2, XRN, ZC, ZE, ZH, eq_self, Nat.reduceLeDiff, Nat.reduceBEq, slV_new, reduceIte, ↓op_extract, tupAt_mk, lenV_sl, Bool.not_true, Bool.not_false, eX3, eR3, hX3, hR3, hw3, hlh3, hwne, hwne2, e3, hx0, hx1, h12, hs0, hs1, a3]
            with_reducible refine Okr.ret ?_
            refine ⟨rfl, kk3.trans ?_⟩
            exact (Keep.set h3 _ _ (by omega)).trans (Keep.set _ _ _ (by omega))
          | true =>
            rw [hq1] at a3
            have hl1 := stL_len hq1
            rw [List.length_singleton] at hl1
            have hc1 : strCut (B b1) 1 ((B b1).size : Int) = some (B (b1.drop 1)) := cut_from' b1 1 hl1
            simp (dsimp := false) (disch := (first | (refine dS ?_; kernel_rfl) | (refine dM ?_; kernel_rfl) | (refine dO ?_; simp (disch := ((try simp only [ZL]) <;> omega)) only [ZK, ZL]; done) | (refine dK ?_; (repeat first | exact Keep.refl _ _ | exact Keep.app _ _ (Nat.le_refl _) | assumption | refine Keep.ap ?_ | refine Keep.st (by first | omega | (simp only [ZL]; omega)) ?_); done) | ((try simp only [ZL]) <;> omega) | fail)) only [XOB, ↓XXs, ↓XD, ↓YX, ZB, Nat.reduceAdd, Nat.reducePow, ↓reduceIte, eq_self, Int.reduceEq, Nat.reduceEqDiff, Nat.reduceMul, Nat.reduceLeDiff, Int.reduceBEq, Int.reduceLT, Try.f109, ↓XH2, XRN, ZC, ZE, ZH, eq_self, Nat.reduceLeDiff, Nat.reduceBEq, slV_new, reduceIte, ↓op_extract, tupAt_mk, lenV_sl, Bool.not_true, Bool.not_false, eX3, eR3, hX3, hR3, hw3, hlh3, hwne, hwne2, e3, hx0, hx1, h12, hs0, hs1, a3, hc1]
            have hd1 : (b1.drop 1).length + 1 = b1.length := by rw [List.length_drop]; omega
            have kB : Keep h.length h (h3.set (h.length + 1) (.row 0 4 (stC ⟨dp, nmS s, cutA t 61, []⟩))) := kk3.trans (Keep.set _ _ _ (by omega))
            refine okr_call (r131 (b1.drop 1) 39 (by omega) l (h3.set (h.length + 1) (.row 0 4 (stC ⟨dp, nmS s, cutA t 61, []⟩))) (by rw [List.length_set]; omega)) ?_
            rintro _ h4 ⟨iv, gv, rfl, e4, k4⟩
            have hk4 := k4.1
            rw [List.length_set] at hk4
            have eX4 : h4[h.length + 1]? = some (.row 0 4 (stC ⟨dp, nmS s, cutA t 61, []⟩)) := k4.get (by simp (disch := (first | (refine dS ?_; kernel_rfl) | (refine dM ?_; kernel_rfl) | (refine dO ?_; simp (disch := ((try simp only [ZL]) <;> omega)) only [ZK, ZL]; done) | (refine dK ?_; (repeat first | exact Keep.refl _ _ | exact Keep.app _ _ (Nat.le_refl _) | assumption | refine Keep.ap ?_ | refine Keep.st (by first | omega | (simp only [ZL]; omega)) ?_); done) | ((try simp only [ZL]) <;> omega) | fail)) only [↓XH2, XRN, ZC, ZE, ZH, eq_self, Nat.reduceLeDiff, Nat.reduceBEq]) (by simp; omega)
            have eR4 : h4[h.length]? = some (.row 0 4 (stC ⟨false, [], [], []⟩)) := k4.get (by simp (disch := (first | (refine dS ?_; kernel_rfl) | (refine dM ?_; kernel_rfl) | (refine dO ?_; simp (disch := ((try simp only [ZL]) <;> omega)) only [ZK, ZL]; done) | (refine dK ?_; (repeat first | exact Keep.refl _ _ | exact Keep.app _ _ (Nat.le_refl _) | assumption | refine Keep.ap ?_ | refine Keep.st (by first | omega | (simp only [ZL]; omega)) ?_); done) | ((try simp only [ZL]) <;> omega) | fail)) only [↓XH2, XRN, ZC, ZE, ZH, eq_self, Nat.reduceLeDiff, Nat.reduceBEq, eR3]) (by simp; omega)
            have eW4 : h4[iw]? = some (.row gw 1 (sL [cutA t 61, b1])) := k4.get (by simp (disch := (first | (refine dS ?_; kernel_rfl) | (refine dM ?_; kernel_rfl) | (refine dO ?_; simp (disch := ((try simp only [ZL]) <;> omega)) only [ZK, ZL]; done) | (refine dK ?_; (repeat first | exact Keep.refl _ _ | exact Keep.app _ _ (Nat.le_refl _) | assumption | refine Keep.ap ?_ | refine Keep.st (by first | omega | (simp only [ZL]; omega)) ?_); done) | ((try simp only [ZL]) <;> omega) | fail)) only [↓XH2, XRN, ZC, ZE, ZH, eq_self, Nat.reduceLeDiff, Nat.reduceBEq, e3]) (by simp; omega)
            have kk4 : Keep h.length h h4 := kB.trans (k4.le (by simp; omega))
            have hX4 := lt_of_get eX4
            have hR4 := lt_of_get eR4
            have hv4 := lt_of_get e4
            have hw4 := lt_of_get eW4
            have hlh4 : l ≤ h4.length := by omega
            have hvne : ¬ iv = h.length + 1 := by
              intro q
              rw [q, eX4] at e4
              injection e4 with e4; injection e4 with _ e5 _
              cases e5
            have hvne2 : ¬ iv = h.length := by
              intro q
              rw [q, eR4] at e4
              injection e4 with e4; injection e4 with _ e5 _
              cases e5
            have hc39 := cut_sum (b1.drop 1) 39
            unfold cut1 at e4 ⊢
            cases hcV : cutR (b1.drop 1) 39 with
            | nil =>
              rw [hcV, if_pos rfl] at e4
              rw [if_pos rfl]
              have hst : stepS s = (⟨dp, nmS s, cutA t 61, b1.drop 1⟩, 0) := by
                unfold stepS
                simp only
                rw [hh91, cond_false, htl, hcR, hst0, List.isEmpty_cons, cond_false, List.tail_cons, hq1, Bool.not_true, cond_false, hcV]; rfl
              unfold SpQ
              rw [hst]
              have hy0 : ixAddr (slV iv gv 1 1) 0 1 = some (pV iv 0 gv) := rfl
              have h12v : decide (((1 : Nat) : Int) < 2) = true := rfl
              have ht0 : (sL [b1.drop 1])[0]? = some (sV (b1.drop 1)) := rfl
              have hy1n : ixAddr (slV iv gv 1 1) 1 1 = none := rfl
              have hld : ∀ H, ld H (slV iv gv 1 1) = none := fun _ => rfl
              simp only [List.length_singleton]
              simp (dsimp := false) (disch := (first | (refine dS ?_; kernel_rfl) | (refine dM ?_; kernel_rfl) | (refine dO ?_; simp (disch := ((try simp only [ZL]) <;> omega)) only [ZK, ZL]; done) | (refine dK ?_; (repeat first | exact Keep.refl _ _ | exact Keep.app _ _ (Nat.le_refl _) | assumption | refine Keep.ap ?_ | refine Keep.st (by first | omega | (simp only [ZL]; omega)) ?_); done) | ((try simp only [ZL]) <;> omega) | fail)) only [XOB, ↓XXs, ↓XD, ↓YX, ZB, Nat.reduceAdd, Nat.reducePow, ↓reduceIte, eq_self, Int.reduceEq, Nat.reduceEqDiff, Nat.reduceMul, Nat.reduceLeDiff, Int.reduceBEq, Int.reduceLT, Try.f109, ↓XH2, XRN, ZC, ZE, ZH, eq_self, Nat.reduceLeDiff, Nat.reduceBEq, slV_new, reduceIte, ↓op_extract, tupAt_mk, lenV_sl, Bool.not_true, Bool.not_false, eX4, eR4, eW4, hX4, hR4, hv4, hw4, hlh4, hvne, hvne2, hwne, hwne2, e4, hy0, h12v, ht0, hy1n, hld]
              with_reducible refine Okr.ret ?_
              refine ⟨rfl, kk4.trans ?_⟩
              exact (Keep.set h4 _ _ (by omega)).trans (Keep.set _ _ _ (by omega))
            | cons c1 b2 =>
              rw [hcV, if_neg (by simp)] at e4
              rw [if_neg (by simp)]
              rw [hcV] at hc39
              simp only [List.length_cons, List.tail_cons] at hc39 e4 ⊢
              have hy0 : ixAddr (slV iv gv 2 2) 0 1 = some (pV iv 0 gv) := rfl
              have hy1 : ixAddr (slV iv gv 2 2) 1 1 = some (pV iv 1 gv) := rfl
              have ht0 : (sL [cutA (b1.drop 1) 39, b2])[0]? = some (sV (cutA (b1.drop 1) 39)) := rfl
              have ht1 : (sL [cutA (b1.drop 1) 39, b2])[1]? = some (sV b2) := rfl
              have a4 := r129 b2 [93] l
              simp only [List.length_nil, Nat.zero_add]
              cases hq2 : stL b2 [93] with
              | false =>
                rw [hq2] at a4
                have hst : stepS s = (⟨dp, nmS s, cutA t 61, cutA (b1.drop 1) 39⟩, 0) := by
                  unfold stepS
                  simp only
                  rw [hh91, cond_false, htl, hcR, hst0, List.isEmpty_cons, cond_false, List.tail_cons, hq1, Bool.not_true, cond_false, hcV, List.isEmpty_cons, cond_false, List.tail_cons, hq2]; rfl
                unfold SpQ
                rw [hst]
                simp (dsimp := false) (disch := (first | (refine dS ?_; kernel_rfl) | (refine dM ?_; kernel_rfl) | (refine dO ?_; simp (disch := ((try simp only [ZL]) <;> omega)) only [ZK, ZL]; done) | (refine dK ?_; (repeat first | exact Keep.refl _ _ | exact Keep.app _ _ (Nat.le_refl _) | assumption | refine Keep.ap ?_ | refine Keep.st (by first | omega | (simp only [ZL]; omega)) ?_); done) | ((try simp only [ZL]) <;> omega) | fail)) only [XOB, ↓XXs, ↓XD, ↓YX, ZB, Nat.reduceAdd, Nat.reducePow, ↓reduceIte, eq_self, Int.reduceEq, Nat.reduceEqDiff, Nat.reduceMul, Nat.reduceLeDiff, Int.reduceBEq, Int.reduceLT, Try.f109, ↓XH2, XRN, ZC, ZE, ZH, eq_self, Nat.reduceLeDiff, Nat.reduceBEq, slV_new, reduceIte, ↓op_extract, tupAt_mk, lenV_sl, Bool.not_true, Bool.not_false, eX4, eR4, eW4, hX4, hR4, hv4, hw4, hlh4, hvne, hvne2, hwne, hwne2, e4, hy0, hy1, h12, ht0, ht1, a4]
                with_reducible refine Okr.ret ?_
                refine ⟨rfl, kk4.trans ?_⟩
                exact (Keep.set h4 _ _ (by omega)).trans (Keep.set _ _ _ (by omega))
              | true =>
                rw [hq2] at a4
                have hst : stepS s = (⟨dp, nmS s, cutA t 61, cutA (b1.drop 1) 39⟩, A + (cutA t 61).length + (cutA (b1.drop 1) 39).length + 5) := by
                  rw [← hA]
                  unfold stepS
                  simp only
                  rw [hh91, cond_false, htl, hcR, hst0, List.isEmpty_cons, cond_false, List.tail_cons, hq1, Bool.not_true, cond_false, hcV, List.isEmpty_cons, cond_false, List.tail_cons, hq2]; rfl
                have z1 := size_B (cutA t 61)
                have z2 := size_B (cutA (b1.drop 1) 39)
                have hw1 : IntKind.i64.wrap ((A : Int) + ((B (cutA t 61)).size : Int)) = ((A + (cutA t 61).length : Nat) : Int) := by rw [wrap64 (by omega)]; omega
                have hw2 : IntKind.i64.wrap (((A + (cutA t 61).length : Nat) : Int) + ((B (cutA (b1.drop 1) 39)).size : Int)) = ((A + (cutA t 61).length + (cutA (b1.drop 1) 39).length : Nat) : Int) := by rw [wrap64 (by omega)]; omega
                have hw3 : IntKind.i64.wrap (((A + (cutA t 61).length + (cutA (b1.drop 1) 39).length : Nat) : Int) + 5) = ((A + (cutA t 61).length + (cutA (b1.drop 1) 39).length + 5 : Nat) : Int) := by rw [wrap64 (by omega)]; omega
                generalize hA1 : A + (cutA t 61).length = A1 at *
                generalize hA2 : A1 + (cutA (b1.drop 1) 39).length = A2 at *
                generalize hA3 : A2 + 5 = A3 at *
                unfold SpQ
                rw [hst]
                simp (dsimp := false) (disch := (first | (refine dS ?_; kernel_rfl) | (refine dM ?_; kernel_rfl) | (refine dO ?_; simp (disch := ((try simp only [ZL]) <;> omega)) only [ZK, ZL]; done) | (refine dK ?_; (repeat first | exact Keep.refl _ _ | exact Keep.app _ _ (Nat.le_refl _) | assumption | refine Keep.ap ?_ | refine Keep.st (by first | omega | (simp only [ZL]; omega)) ?_); done) | ((try simp only [ZL]) <;> omega) | fail)) only [XOB, ↓XXs, ↓XD, ↓YX, ZB, Nat.reduceAdd, Nat.reducePow, ↓reduceIte, eq_self, Int.reduceEq, Nat.reduceEqDiff, Nat.reduceMul, Nat.reduceLeDiff, Int.reduceBEq, Int.reduceLT, Try.f109, ↓XH2, XRN, ZC, ZE, ZH, eq_self, Nat.reduceLeDiff, Nat.reduceBEq, slV_new, reduceIte, ↓op_extract, tupAt_mk, lenV_sl, Bool.not_true, Bool.not_false, eX4, eR4, eW4, hX4, hR4, hv4, hw4, hlh4, hvne, hvne2, hwne, hwne2, e4, hx0, hs0, hy0, hy1, h12, ht0, ht1, a4, hw1, hw2, hw3]
                with_reducible refine Okr.ret ?_
                refine ⟨rfl, kk4.trans ?_⟩
                exact (Keep.set h4 _ _ (by omega)).trans (Keep.set _ _ _ (by omega))
      · have hne : ((b.toNat : Int) != 91) = true := by
          rw [bne_iff_ne]
          intro q
          exact h91 (UInt8.toNat_inj.1 (by have : (91 : UInt8).toNat = 91 := rfl; omega))
        have hst : stepS s = (⟨dp, nmS s, [], []⟩, A) := by
          rw [← hA]
          unfold stepS
          simp only
          rw [ha, show ((b :: t : Bs).head? != some 91) = true by simpa using h91, cond_true, hst0]
        unfold SpQ
        rw [hst]
        simp (dsimp := false) (disch := (first | (refine dS ?_; kernel_rfl) | (refine dM ?_; kernel_rfl) | (refine dO ?_; simp (disch := ((try simp only [ZL]) <;> omega)) only [ZK, ZL]; done) | (refine dK ?_; (repeat first | exact Keep.refl _ _ | exact Keep.app _ _ (Nat.le_refl _) | assumption | refine Keep.ap ?_ | refine Keep.st (by first | omega | (simp only [ZL]; omega)) ?_); done) | ((try simp only [ZL]) <;> omega) | fail)) only [XOB, ↓XXs, ↓XD, ↓YX, ZB, Nat.reduceAdd, Nat.reducePow, ↓reduceIte, eq_self, Int.reduceEq, Nat.reduceEqDiff, Nat.reduceMul, Nat.reduceLeDiff, Int.reduceBEq, Int.reduceLT, Try.f109, ↓XH2, XRN, ZC, ZE, ZH, eq_self, Nat.reduceLeDiff, Nat.reduceBEq, slV_new, reduceIte, ↓op_extract, tupAt_mk, lenV_sl, Bool.not_true, Bool.not_false, hlt, heq, hat, a1, hb42, hne, hcm, e2, e0, h01, hlh2]
        with_reducible refine Okr.ret ?_
        refine ⟨rfl, k2.trans ?_⟩
        exact (Keep.set h2 _ _ (by omega)).trans (Keep.set _ _ _ (by omega))
  cases hdp : stL s [47, 47] with
  | true =>
    rw [hdp] at a0
    have hat2 : atN s = 2 := by unfold atN; rw [hdp]; rfl
    have := main true hdp
    rw [hat2] at this
    simp (dsimp := false) (disch := (first | (refine dS ?_; kernel_rfl) | (refine dM ?_; kernel_rfl) | (refine dO ?_; simp (disch := ((try simp only [ZL]) <;> omega)) only [ZK, ZL]; done) | (refine dK ?_; (repeat first | exact Keep.refl _ _ | exact Keep.app _ _ (Nat.le_refl _) | assumption | refine Keep.ap ?_ | refine Keep.st (by first | omega | (simp only [ZL]; omega)) ?_); done) | ((try simp only [ZL]) <;> omega) | fail)) only [XOB, ↓XXs, ↓XD, ↓YX, ZB, Nat.reduceAdd, Nat.reducePow, ↓reduceIte, eq_self, Int.reduceEq, Nat.reduceEqDiff, Nat.reduceMul, Nat.reduceLeDiff, Int.reduceBEq, Int.reduceLT, Try.f109, ↓XH2, XRN, ZC, ZE, ZH, eq_self, Nat.reduceLeDiff, Nat.reduceBEq, slV_new, reduceIte, ↓op_extract, tupAt_mk, lenV_sl, Bool.not_true, Bool.not_false, a0]
    exact this _ (Keep.app _ _ (Nat.le_refl _)) (by simp (disch := (first | (refine dS ?_; kernel_rfl) | (refine dM ?_; kernel_rfl) | (refine dO ?_; simp (disch := ((try simp only [ZL]) <;> omega)) only [ZK, ZL]; done) | (refine dK ?_; (repeat first | exact Keep.refl _ _ | exact Keep.app _ _ (Nat.le_refl _) | assumption | refine Keep.ap ?_ | refine Keep.st (by first | omega | (simp only [ZL]; omega)) ?_); done) | ((try simp only [ZL]) <;> omega) | fail)) only [↓XH2, XRN, ZC, ZE, ZH, eq_self, Nat.reduceLeDiff, Nat.reduceBEq] <;> rfl) (by simp (disch := (first | (refine dS ?_; kernel_rfl) | (refine dM ?_; kernel_rfl) | (refine dO ?_; simp (disch := ((try simp only [ZL]) <;> omega)) only [ZK, ZL]; done) | (refine dK ?_; (repeat first | exact Keep.refl _ _ | exact Keep.app _ _ (Nat.le_refl _) | assumption | refine Keep.ap ?_ | refine Keep.st (by first | omega | (simp only [ZL]; omega)) ?_); done) | ((try simp only [ZL]) <;> omega) | fail)) only [↓XH2, XRN, ZC, ZE, ZH, eq_self, Nat.reduceLeDiff, Nat.reduceBEq] <;> rfl)
  | false =>
    rw [hdp] at a0
    have hat0 : atN s = 0 := by unfold atN; rw [hdp]; rfl
    have := main false hdp
    rw [hat0] at this
    simp (dsimp := false) (disch := (first | (refine dS ?_; kernel_rfl) | (refine dM ?_; kernel_rfl) | (refine dO ?_; simp (disch := ((try simp only [ZL]) <;> omega)) only [ZK, ZL]; done) | (refine dK ?_; (repeat first | exact Keep.refl _ _ | exact Keep.app _ _ (Nat.le_refl _) | assumption | refine Keep.ap ?_ | refine Keep.st (by first | omega | (simp only [ZL]; omega)) ?_); done) | ((try simp only [ZL]) <;> omega) | fail)) only [XOB, ↓XXs, ↓XD, ↓YX, ZB, Nat.reduceAdd, Nat.reducePow, ↓reduceIte, eq_self, Int.reduceEq, Nat.reduceEqDiff, Nat.reduceMul, Nat.reduceLeDiff, Int.reduceBEq, Int.reduceLT, Try.f109, ↓XH2, XRN, ZC, ZE, ZH, eq_self, Nat.reduceLeDiff, Nat.reduceBEq, slV_new, reduceIte, ↓op_extract, tupAt_mk, lenV_sl, Bool.not_true, Bool.not_false, a0]
    exact this _ (Keep.app _ _ (Nat.le_refl _)) (by simp (disch := (first | (refine dS ?_; kernel_rfl) | (refine dM ?_; kernel_rfl) | (refine dO ?_; simp (disch := ((try simp only [ZL]) <;> omega)) only [ZK, ZL]; done) | (refine dK ?_; (repeat first | exact Keep.refl _ _ | exact Keep.app _ _ (Nat.le_refl _) | assumption | refine Keep.ap ?_ | refine Keep.st (by first | omega | (simp only [ZL]; omega)) ?_); done) | ((try simp only [ZL]) <;> omega) | fail)) only [↓XH2, XRN, ZC, ZE, ZH, eq_self, Nat.reduceLeDiff, Nat.reduceBEq] <;> rfl) (by simp (disch := (first | (refine dS ?_; kernel_rfl) | (refine dM ?_; kernel_rfl) | (refine dO ?_; simp (disch := ((try simp only [ZL]) <;> omega)) only [ZK, ZL]; done) | (refine dK ?_; (repeat first | exact Keep.refl _ _ | exact Keep.app _ _ (Nat.le_refl _) | assumption | refine Keep.ap ?_ | refine Keep.st (by first | omega | (simp only [ZL]; omega)) ?_); done) | ((try simp only [ZL]) <;> omega) | fail)) only [↓XH2, XRN, ZC, ZE, ZH, eq_self, Nat.reduceLeDiff, Nat.reduceBEq] <;> rfl)
end Go.Abs
namespace Go.Abs
open Go.Proofs
set_option maxRecDepth 100000
set_option linter.unusedSimpArgs false
set_option linter.unusedVariables false
set_option pp.maxSteps 20000
set_option pp.deepTerms true
theorem bcond_fst {α β : Type} (b : Bool) (x y : α × β) : (bif b then x else y).1 = bif b then x.1 else y.1 := by cases b <;> rfl
theorem step_fit (s : Bs) (hs : s.length ≤ 2 ^ 20) : Fit20 (stepS s).1 := by
  have h1 := at_le s
  have c1 := cut_sum (afS s).tail 61
  have ht : (afS s).tail.length ≤ (afS s).length := by rw [List.length_tail]; omega
  have c2 := cut_sum (((cutR (afS s).tail 61).tail).drop 1) 39
  have h3 : (((cutR (afS s).tail 61).tail).drop 1).length ≤ (cutR (afS s).tail 61).length := by rw [List.length_drop, List.length_tail]; omega
  unfold stepS
  simp only
  cases ((afS s).head? != some 91) with
  | true => rw [cond_true]; exact ⟨by simp only; omega, by simp, by simp⟩
  | false =>
    rw [cond_false]
    cases (cutR (afS s).tail 61).isEmpty with
    | true => rw [cond_true]; exact ⟨by simp only; omega, by simp only; omega, by simp⟩
    | false =>
      rw [cond_false]
      cases stL (cutR (afS s).tail 61).tail [39] with
      | false => rw [Bool.not_false, cond_true]; exact ⟨by simp only; omega, by simp only; omega, by simp⟩
      | true =>
        rw [Bool.not_true, cond_false]
        cases (cutR (((cutR (afS s).tail 61).tail).drop 1) 39).isEmpty with
        | true => rw [cond_true]; exact ⟨by simp only; omega, by simp only; omega, by simp only; omega⟩
        | false =>
          rw [cond_false]
          cases stL (cutR (((cutR (afS s).tail 61).tail).drop 1) 39).tail [93] with
          | false => rw [Bool.not_false, cond_true]; exact ⟨by simp only; omega, by simp only; omega, by simp only; omega⟩
          | true => rw [Bool.not_true, cond_false]; exact ⟨by simp only; omega, by simp only; omega, by simp only; omega⟩
theorem strip_len (s : Bs) : (stripP s).length ≤ s.length := by
  unfold stripP
  split
  · rw [List.length_tail]; omega
  · exact Nat.le_refl _
/-- what spec.l12Get leaves -/
def GsQ (H0 : AH) (o : Option (List St)) (v : Value) (h' : AH) : Prop :=
  Keep H0.length H0 h' ∧ ((o = none ∧ v = .tuple ⟨[.slice none 0 0, .bool false]⟩) ∨ ∃ L, o = some L ∧ (∀ x ∈ L, Fit20 x) ∧ L.length ≤ 2 ^ 20 ∧ ∃ i g, v = .tuple ⟨[slV i g L.length L.length, .bool true]⟩ ∧ h'[i]? = some (.row g 4 (stR L)) ∧ H0.length ≤ i)
theorem L78e (l : Nat) (H0 : AH) (out : List St) (ho : out.length ≤ 2 ^ 20) (fo : ∀ x ∈ out, Fit20 x) (iO gO no : Nat) (h : AH) (k : Keep H0.length H0 h) (hiO : H0.length ≤ iO) (eO : h[iO]? = some (.row gO 4 (stR out))) (hno : no = out.length) :
    Okr (GsQ H0 (some out)) (L78_0 l (sV []) (slV iO gO no no) h) := by
  subst hno
  have hz : decide ((0 : Int) < ((B []).size : Int)) = false := rfl
  refine okr_code Try.func78 rfl rfl ?_
  simp (dsimp := false) (disch := (first | (refine dS ?_; kernel_rfl) | (refine dM ?_; kernel_rfl) | (refine dO ?_; simp (disch := ((try simp only [ZL]) <;> omega)) only [ZK, ZL]; done) | (refine dK ?_; (repeat first | exact Keep.refl _ _ | exact Keep.app _ _ (Nat.le_refl _) | assumption | refine Keep.ap ?_ | refine Keep.st (by first | omega | (simp only [ZL]; omega)) ?_); done) | ((try simp only [ZL]) <;> omega) | fail)) only [XOB, ↓XXs, ↓XD, ↓YX, ZB, Nat.reduceAdd, Nat.reducePow, ↓reduceIte, eq_self, Int.reduceEq, Nat.reduceEqDiff, Nat.reduceMul, Nat.reduceLeDiff, Int.reduceBEq, Int.reduceLT, Try.f78, ↓XH2, XRN, ZC, ZE, ZH, eq_self, Nat.reduceLeDiff, Nat.reduceBEq, slV_new, reduceIte, ↓op_extract, tupAt_mk, lenV_sl, Bool.not_true, Bool.not_false, hz]
  with_reducible refine Okr.ret ?_
  exact ⟨k, .inr ⟨out, rfl, fo, ho, iO, gO, rfl, eO, hiO⟩⟩
theorem L78 (l : Nat) (H0 : AH) (hl : l ≤ H0.length) :
    ∀ (f : Nat) (r : Bs) (out : List St), r.length ≤ f → r.length ≤ 2 ^ 20 → out.length + r.length ≤ 2 ^ 20 → (∀ x ∈ out, Fit20 x) → ∀ (iO gO no : Nat) (h : AH), Keep H0.length H0 h → H0.length ≤ iO → h[iO]? = some (.row gO 4 (stR out)) → no = out.length →
      Okr (GsQ H0 (getS f r out)) (L78_0 l (sV r) (slV iO gO no no) h) := by
  intro f
  induction f with
  | zero =>
    rintro r out hr hr2 ho fo iO gO no h k hiO eO hno
    obtain rfl : r = [] := List.length_eq_zero_iff.1 (by omega)
    exact L78e l H0 out (by omega) fo iO gO no h k hiO eO hno
  | succ f ih =>
    rintro r out hr hr2 ho fo iO gO no h k hiO eO hno
    by_cases hz : r = []
    · subst hz
      have : getS (f + 1) [] out = some out := by rw [getS, if_pos rfl]
      rw [this]
      exact L78e l H0 out (by omega) fo iO gO no h k hiO eO hno
    · subst hno
      have hk := k.1
      have hO := lt_of_get eO
      have hlh : l ≤ h.length := by omega
      have hsz := size_B r
      have hpos : 0 < r.length := List.length_pos_iff.2 hz
      have hgt : decide ((0 : Int) < ((B r).size : Int)) = true := decide_eq_true (by omega)
      have hle := step_le r
      have hfx := step_fit r hr2
      have hge : getS (f + 1) r out = if (stepS r).2 = 0 then none else getS f (stripP (r.drop (stepS r).2)) (out ++ [(stepS r).1]) := by rw [getS, if_neg hz]
      rw [hge]
      refine okr_code Try.func78 rfl rfl ?_
      simp (dsimp := false) (disch := (first | (refine dS ?_; kernel_rfl) | (refine dM ?_; kernel_rfl) | (refine dO ?_; simp (disch := ((try simp only [ZL]) <;> omega)) only [ZK, ZL]; done) | (refine dK ?_; (repeat first | exact Keep.refl _ _ | exact Keep.app _ _ (Nat.le_refl _) | assumption | refine Keep.ap ?_ | refine Keep.st (by first | omega | (simp only [ZL]; omega)) ?_); done) | ((try simp only [ZL]) <;> omega) | fail)) only [XOB, ↓XXs, ↓XD, ↓YX, ZB, Nat.reduceAdd, Nat.reducePow, ↓reduceIte, eq_self, Int.reduceEq, Nat.reduceEqDiff, Nat.reduceMul, Nat.reduceLeDiff, Int.reduceBEq, Int.reduceLT, Try.f78, ↓XH2, XRN, ZC, ZE, ZH, eq_self, Nat.reduceLeDiff, Nat.reduceBEq, slV_new, reduceIte, ↓op_extract, tupAt_mk, lenV_sl, Bool.not_true, Bool.not_false, hgt]
      refine okr_call (r109 r hr2 l h hlh) ?_
      rintro _ h1 ⟨rfl, k1⟩
      have hk1 := k1.1
      have eO1 := k1.get eO hO
      have hO1 := lt_of_get eO1
      have hlh1 : l ≤ h1.length := by omega
      by_cases hn : (stepS r).2 = 0
      · rw [if_pos hn]
        have heq : (((stepS r).2 : Int) == 0) = true := by rw [hn]; rfl
        simp (dsimp := false) (disch := (first | (refine dS ?_; kernel_rfl) | (refine dM ?_; kernel_rfl) | (refine dO ?_; simp (disch := ((try simp only [ZL]) <;> omega)) only [ZK, ZL]; done) | (refine dK ?_; (repeat first | exact Keep.refl _ _ | exact Keep.app _ _ (Nat.le_refl _) | assumption | refine Keep.ap ?_ | refine Keep.st (by first | omega | (simp only [ZL]; omega)) ?_); done) | ((try simp only [ZL]) <;> omega) | fail)) only [XOB, ↓XXs, ↓XD, ↓YX, ZB, Nat.reduceAdd, Nat.reducePow, ↓reduceIte, eq_self, Int.reduceEq, Nat.reduceEqDiff, Nat.reduceMul, Nat.reduceLeDiff, Int.reduceBEq, Int.reduceLT, Try.f78, ↓XH2, XRN, ZC, ZE, ZH, eq_self, Nat.reduceLeDiff, Nat.reduceBEq, slV_new, reduceIte, ↓op_extract, tupAt_mk, lenV_sl, Bool.not_true, Bool.not_false, hgt, heq, hlh1]
        with_reducible refine Okr.ret ?_
        exact ⟨k.trans ((k1.le hk).trans (Keep.app _ _ (by omega))), .inl ⟨rfl, rfl⟩⟩
      · rw [if_neg hn]
        have heq : (((stepS r).2 : Int) == 0) = false := by rw [beq_eq_false_iff_ne]; omega
        have hcf := cut_from' r (stepS r).2 hle
        have hdl : (r.drop (stepS r).2).length + (stepS r).2 = r.length := by rw [List.length_drop]; omega
        generalize hN : (stepS r).2 = N at *
        generalize hX : (stepS r).1 = x at *
        simp (dsimp := false) (disch := (first | (refine dS ?_; kernel_rfl) | (refine dM ?_; kernel_rfl) | (refine dO ?_; simp (disch := ((try simp only [ZL]) <;> omega)) only [ZK, ZL]; done) | (refine dK ?_; (repeat first | exact Keep.refl _ _ | exact Keep.app _ _ (Nat.le_refl _) | assumption | refine Keep.ap ?_ | refine Keep.st (by first | omega | (simp only [ZL]; omega)) ?_); done) | ((try simp only [ZL]) <;> omega) | fail)) only [XOB, ↓XXs, ↓XD, ↓YX, ZB, Nat.reduceAdd, Nat.reducePow, ↓reduceIte, eq_self, Int.reduceEq, Nat.reduceEqDiff, Nat.reduceMul, Nat.reduceLeDiff, Int.reduceBEq, Int.reduceLT, Try.f78, ↓XH2, XRN, ZC, ZE, ZH, eq_self, Nat.reduceLeDiff, Nat.reduceBEq, slV_new, reduceIte, ↓op_extract, tupAt_mk, lenV_sl, Bool.not_true, Bool.not_false, hgt, heq, hlh1, hcf]
        refine okr_opt (St.app3 (os := out) x (by simp (disch := (first | (refine dS ?_; kernel_rfl) | (refine dM ?_; kernel_rfl) | (refine dO ?_; simp (disch := ((try simp only [ZL]) <;> omega)) only [ZK, ZL]; done) | (refine dK ?_; (repeat first | exact Keep.refl _ _ | exact Keep.app _ _ (Nat.le_refl _) | assumption | refine Keep.ap ?_ | refine Keep.st (by first | omega | (simp only [ZL]; omega)) ?_); done) | ((try simp only [ZL]) <;> omega) | fail)) only [↓XH2, XRN, ZC, ZE, ZH, eq_self, Nat.reduceLeDiff, Nat.reduceBEq, eO1]) (by simp (disch := (first | (refine dS ?_; kernel_rfl) | (refine dM ?_; kernel_rfl) | (refine dO ?_; simp (disch := ((try simp only [ZL]) <;> omega)) only [ZK, ZL]; done) | (refine dK ?_; (repeat first | exact Keep.refl _ _ | exact Keep.app _ _ (Nat.le_refl _) | assumption | refine Keep.ap ?_ | refine Keep.st (by first | omega | (simp only [ZL]; omega)) ?_); done) | ((try simp only [ZL]) <;> omega) | fail)) only [↓XH2, XRN, ZC, ZE, ZH, eq_self, Nat.reduceLeDiff, Nat.reduceBEq] <;> rfl) rfl rfl (by omega) (by omega) rfl) ?_
        rintro _ ⟨g4, rfl⟩
        have kk : Keep H0.length H0 (h1.set iO (.row g4 4 (stR (out ++ [x]))) ++ [AObj.row 0 4 (stC x), AObj.row 0 4 (stC x)]) := k.trans ((k1.le hk).trans ((Keep.set h1 iO _ hiO).trans (Keep.app _ _ (by simp; omega))))
        have fo' : ∀ y ∈ out ++ [x], Fit20 y := fun y hy => by
          rcases List.mem_append.1 hy with hy | hy
          · exact fo y hy
          · rw [List.mem_singleton] at hy; subst hy; exact hfx
        generalize hR : r.drop N = r2 at *
        have hs2 := size_B r2
        rcases r2 with _ | ⟨b, _ | ⟨c, t⟩⟩
        · have h1lt : decide ((1 : Int) < ((B []).size : Int)) = false := rfl
          simp (dsimp := false) (disch := (first | (refine dS ?_; kernel_rfl) | (refine dM ?_; kernel_rfl) | (refine dO ?_; simp (disch := ((try simp only [ZL]) <;> omega)) only [ZK, ZL]; done) | (refine dK ?_; (repeat first | exact Keep.refl _ _ | exact Keep.app _ _ (Nat.le_refl _) | assumption | refine Keep.ap ?_ | refine Keep.st (by first | omega | (simp only [ZL]; omega)) ?_); done) | ((try simp only [ZL]) <;> omega) | fail)) only [XOB, ↓XXs, ↓XD, ↓YX, ZB, Nat.reduceAdd, Nat.reducePow, ↓reduceIte, eq_self, Int.reduceEq, Nat.reduceEqDiff, Nat.reduceMul, Nat.reduceLeDiff, Int.reduceBEq, Int.reduceLT, Try.f78, ↓XH2, XRN, ZC, ZE, ZH, eq_self, Nat.reduceLeDiff, Nat.reduceBEq, slV_new, reduceIte, ↓op_extract, tupAt_mk, lenV_sl, Bool.not_true, Bool.not_false, h1lt]
          exact ih (stripP []) (out ++ [x]) (by simp [stripP]) (by simp [stripP]) (by simp [stripP]; omega) fo' iO g4 _ _ kk hiO (by simp (disch := (first | (refine dS ?_; kernel_rfl) | (refine dM ?_; kernel_rfl) | (refine dO ?_; simp (disch := ((try simp only [ZL]) <;> omega)) only [ZK, ZL]; done) | (refine dK ?_; (repeat first | exact Keep.refl _ _ | exact Keep.app _ _ (Nat.le_refl _) | assumption | refine Keep.ap ?_ | refine Keep.st (by first | omega | (simp only [ZL]; omega)) ?_); done) | ((try simp only [ZL]) <;> omega) | fail)) only [↓XH2, XRN, ZC, ZE, ZH, eq_self, Nat.reduceLeDiff, Nat.reduceBEq]) (by simp)
        · have h1lt : decide ((1 : Int) < ((B [b]).size : Int)) = false := decide_eq_false (by rw [size_B]; simp)
          have hsp : stripP [b] = [b] := by unfold stripP; rw [if_neg]; rintro ⟨_, q, _⟩; exact q rfl
          rw [hsp]
          simp only [List.length_singleton] at hdl
          simp (dsimp := false) (disch := (first | (refine dS ?_; kernel_rfl) | (refine dM ?_; kernel_rfl) | (refine dO ?_; simp (disch := ((try simp only [ZL]) <;> omega)) only [ZK, ZL]; done) | (refine dK ?_; (repeat first | exact Keep.refl _ _ | exact Keep.app _ _ (Nat.le_refl _) | assumption | refine Keep.ap ?_ | refine Keep.st (by first | omega | (simp only [ZL]; omega)) ?_); done) | ((try simp only [ZL]) <;> omega) | fail)) only [XOB, ↓XXs, ↓XD, ↓YX, ZB, Nat.reduceAdd, Nat.reducePow, ↓reduceIte, eq_self, Int.reduceEq, Nat.reduceEqDiff, Nat.reduceMul, Nat.reduceLeDiff, Int.reduceBEq, Int.reduceLT, Try.f78, ↓XH2, XRN, ZC, ZE, ZH, eq_self, Nat.reduceLeDiff, Nat.reduceBEq, slV_new, reduceIte, ↓op_extract, tupAt_mk, lenV_sl, Bool.not_true, Bool.not_false, h1lt]
          exact ih [b] (out ++ [x]) (by simp; omega) (by simp) (by simp; omega) fo' iO g4 _ _ kk hiO (by simp (disch := (first | (refine dS ?_; kernel_rfl) | (refine dM ?_; kernel_rfl) | (refine dO ?_; simp (disch := ((try simp only [ZL]) <;> omega)) only [ZK, ZL]; done) | (refine dK ?_; (repeat first | exact Keep.refl _ _ | exact Keep.app _ _ (Nat.le_refl _) | assumption | refine Keep.ap ?_ | refine Keep.st (by first | omega | (simp only [ZL]; omega)) ?_); done) | ((try simp only [ZL]) <;> omega) | fail)) only [↓XH2, XRN, ZC, ZE, ZH, eq_self, Nat.reduceLeDiff, Nat.reduceBEq]) (by simp)
        · have h1lt : decide ((1 : Int) < ((B (b :: c :: t)).size : Int)) = true := decide_eq_true (by rw [size_B]; simp; omega)
          have ha0 : strAt (B (b :: c :: t)) 0 = some (b.toNat : Int) := strAt_0 b _
          have ha1 : strAt (B (b :: c :: t)) 1 = some (c.toNat : Int) := strAt_mid [b] c t
          have hc1 : strCut (B (b :: c :: t)) 1 ((B (b :: c :: t)).size : Int) = some (B (c :: t)) := cut_from' (b :: c :: t) 1 (by simp)
          simp only [List.length_cons] at hdl
          have e47 : ∀ z : UInt8, ((z.toNat : Int) == 47) = decide (z = 47) := by
            intro z
            by_cases hz : z = 47
            · subst hz; rfl
            · rw [decide_eq_false hz, beq_eq_false_iff_ne]
              intro q
              exact hz (UInt8.toNat_inj.1 (by have : (47 : UInt8).toNat = 47 := rfl; omega))
          have hb47 := e47 b
          have hc47 : ((c.toNat : Int) != 47) = !decide (c = 47) := by rw [bne, e47]
          cases qb : decide (b = 47) with
          | false =>
            rw [qb] at hb47
            have hsp : stripP (b :: c :: t) = b :: c :: t := by unfold stripP; rw [if_neg]; rintro ⟨q, _⟩; injection q with q; exact of_decide_eq_false qb q
            rw [hsp]
            simp (dsimp := false) (disch := (first | (refine dS ?_; kernel_rfl) | (refine dM ?_; kernel_rfl) | (refine dO ?_; simp (disch := ((try simp only [ZL]) <;> omega)) only [ZK, ZL]; done) | (refine dK ?_; (repeat first | exact Keep.refl _ _ | exact Keep.app _ _ (Nat.le_refl _) | assumption | refine Keep.ap ?_ | refine Keep.st (by first | omega | (simp only [ZL]; omega)) ?_); done) | ((try simp only [ZL]) <;> omega) | fail)) only [XOB, ↓XXs, ↓XD, ↓YX, ZB, Nat.reduceAdd, Nat.reducePow, ↓reduceIte, eq_self, Int.reduceEq, Nat.reduceEqDiff, Nat.reduceMul, Nat.reduceLeDiff, Int.reduceBEq, Int.reduceLT, Try.f78, ↓XH2, XRN, ZC, ZE, ZH, eq_self, Nat.reduceLeDiff, Nat.reduceBEq, slV_new, reduceIte, ↓op_extract, tupAt_mk, lenV_sl, Bool.not_true, Bool.not_false, h1lt, ha0, ha1, hc1, hb47, hc47]
            exact ih (b :: c :: t) (out ++ [x]) (by simp only [List.length_cons]; omega) (by simp only [List.length_cons]; omega) (by simp only [List.length_cons, List.length_append, List.length_nil]; omega) fo' iO g4 _ _ kk hiO (by simp (disch := (first | (refine dS ?_; kernel_rfl) | (refine dM ?_; kernel_rfl) | (refine dO ?_; simp (disch := ((try simp only [ZL]) <;> omega)) only [ZK, ZL]; done) | (refine dK ?_; (repeat first | exact Keep.refl _ _ | exact Keep.app _ _ (Nat.le_refl _) | assumption | refine Keep.ap ?_ | refine Keep.st (by first | omega | (simp only [ZL]; omega)) ?_); done) | ((try simp only [ZL]) <;> omega) | fail)) only [↓XH2, XRN, ZC, ZE, ZH, eq_self, Nat.reduceLeDiff, Nat.reduceBEq]) (by simp)
          | true =>
            rw [qb] at hb47
            cases qc : decide (c = 47) with
            | true =>
              rw [qc] at hc47
              have hsp : stripP (b :: c :: t) = b :: c :: t := by unfold stripP; rw [if_neg]; rintro ⟨_, _, q⟩; apply q; rw [List.tail_cons, List.head?_cons, of_decide_eq_true qc]
              rw [hsp]
              simp (dsimp := false) (disch := (first | (refine dS ?_; kernel_rfl) | (refine dM ?_; kernel_rfl) | (refine dO ?_; simp (disch := ((try simp only [ZL]) <;> omega)) only [ZK, ZL]; done) | (refine dK ?_; (repeat first | exact Keep.refl _ _ | exact Keep.app _ _ (Nat.le_refl _) | assumption | refine Keep.ap ?_ | refine Keep.st (by first | omega | (simp only [ZL]; omega)) ?_); done) | ((try simp only [ZL]) <;> omega) | fail)) only [XOB, ↓XXs, ↓XD, ↓YX, ZB, Nat.reduceAdd, Nat.reducePow, ↓reduceIte, eq_self, Int.reduceEq, Nat.reduceEqDiff, Nat.reduceMul, Nat.reduceLeDiff, Int.reduceBEq, Int.reduceLT, Try.f78, ↓XH2, XRN, ZC, ZE, ZH, eq_self, Nat.reduceLeDiff, Nat.reduceBEq, slV_new, reduceIte, ↓op_extract, tupAt_mk, lenV_sl, Bool.not_true, Bool.not_false, h1lt, ha0, ha1, hc1, hb47, hc47]
              exact ih (b :: c :: t) (out ++ [x]) (by simp only [List.length_cons]; omega) (by simp only [List.length_cons]; omega) (by simp only [List.length_cons, List.length_append, List.length_nil]; omega) fo' iO g4 _ _ kk hiO (by simp (disch := (first | (refine dS ?_; kernel_rfl) | (refine dM ?_; kernel_rfl) | (refine dO ?_; simp (disch := ((try simp only [ZL]) <;> omega)) only [ZK, ZL]; done) | (refine dK ?_; (repeat first | exact Keep.refl _ _ | exact Keep.app _ _ (Nat.le_refl _) | assumption | refine Keep.ap ?_ | refine Keep.st (by first | omega | (simp only [ZL]; omega)) ?_); done) | ((try simp only [ZL]) <;> omega) | fail)) only [↓XH2, XRN, ZC, ZE, ZH, eq_self, Nat.reduceLeDiff, Nat.reduceBEq]) (by simp)
            | false =>
              rw [qc] at hc47
              have hsp : stripP (b :: c :: t) = c :: t := by
                unfold stripP
                rw [if_pos ⟨by rw [List.head?_cons, of_decide_eq_true qb], by simp, by rw [List.tail_cons, List.head?_cons]; intro q; injection q with q; exact of_decide_eq_false qc q⟩]
                rfl
              rw [hsp]
              simp (dsimp := false) (disch := (first | (refine dS ?_; kernel_rfl) | (refine dM ?_; kernel_rfl) | (refine dO ?_; simp (disch := ((try simp only [ZL]) <;> omega)) only [ZK, ZL]; done) | (refine dK ?_; (repeat first | exact Keep.refl _ _ | exact Keep.app _ _ (Nat.le_refl _) | assumption | refine Keep.ap ?_ | refine Keep.st (by first | omega | (simp only [ZL]; omega)) ?_); done) | ((try simp only [ZL]) <;> omega) | fail)) only [XOB, ↓XXs, ↓XD, ↓YX, ZB, Nat.reduceAdd, Nat.reducePow, ↓reduceIte, eq_self, Int.reduceEq, Nat.reduceEqDiff, Nat.reduceMul, Nat.reduceLeDiff, Int.reduceBEq, Int.reduceLT, Try.f78, ↓XH2, XRN, ZC, ZE, ZH, eq_self, Nat.reduceLeDiff, Nat.reduceBEq, slV_new, reduceIte, ↓op_extract, tupAt_mk, lenV_sl, Bool.not_true, Bool.not_false, h1lt, ha0, ha1, hc1, hb47, hc47]
              exact ih (c :: t) (out ++ [x]) (by simp only [List.length_cons]; omega) (by simp only [List.length_cons]; omega) (by simp only [List.length_cons, List.length_append, List.length_nil]; omega) fo' iO g4 _ _ kk hiO (by simp (disch := (first | (refine dS ?_; kernel_rfl) | (refine dM ?_; kernel_rfl) | (refine dO ?_; simp (disch := ((try simp only [ZL]) <;> omega)) only [ZK, ZL]; done) | (refine dK ?_; (repeat first | exact Keep.refl _ _ | exact Keep.app _ _ (Nat.le_refl _) | assumption | refine Keep.ap ?_ | refine Keep.st (by first | omega | (simp only [ZL]; omega)) ?_); done) | ((try simp only [ZL]) <;> omega) | fail)) only [↓XH2, XRN, ZC, ZE, ZH, eq_self, Nat.reduceLeDiff, Nat.reduceBEq]) (by simp)
end Go.Abs
namespace Go.Abs
open Go.Proofs
set_option maxRecDepth 100000
set_option linter.unusedSimpArgs false
set_option linter.unusedVariables false
set_option pp.maxSteps 20000
set_option pp.deepTerms true
def goodO (s : Bs) : Option (List St) → Bool
  | none => false
  | some L => goodL s L
def gotS (s : Bs) : Bool := decide (s.length ≤ 160) && goodO s (getS s.length s [])
theorem path_count : ∀ (L : List St) (i : Nat), (∀ x ∈ L, stOkL x = true) → L.length ≤ (pathL L i).length
  | [], i, _ => Nat.zero_le _
  | x :: L, i, ok => by
    have := path_count L (i + 1) (fun y hy => ok y (by simp [hy]))
    have hn := List.length_pos_iff.2 (st_name (ok x (by simp))).1
    rw [path_head]
    simp only [List.length_append, List.length_cons]
    omega
theorem good_is {s : Bs} {L : List St} (h : goodL s L = true) : okL L = true ∧ pathL L 0 = s := by
  unfold goodL at h
  rw [Bool.and_eq_true] at h
  exact ⟨h.1, of_decide_eq_true h.2⟩
theorem got_get {s : Bs} (h : gotL s = true) : getS s.length s [] = some (readL s) := by
  unfold gotL at h
  rw [Bool.and_eq_true] at h
  obtain ⟨h1, h2⟩ := good_is h.2
  have h3 := okL_all h1
  have := get_path (readL s) s.length [] h3 (by have := path_count (readL s) 0 h3; rw [h2] at this; exact this)
  rw [h2, List.nil_append] at this
  exact this
theorem got_same (s : Bs) : gotS s = gotL s := by
  cases q : gotL s with
  | true =>
    have h := got_get q
    unfold gotL at q
    rw [Bool.and_eq_true] at q
    unfold gotS
    rw [h, q.1]
    exact q.2
  | false =>
    cases q2 : gotS s with
    | false => rfl
    | true =>
      unfold gotS at q2
      rw [Bool.and_eq_true] at q2
      cases hg : getS s.length s [] with
      | none => rw [hg] at q2; exact absurd q2.2 (by simp [goodO])
      | some L =>
        rw [hg] at q2
        obtain ⟨h1, h2⟩ := good_is q2.2
        have := got_back h1
        rw [h2, q2.1, q] at this
        exact absurd this (by simp)
theorem r40 (s : Bs) (hs : s.length ≤ 2 ^ 60) (l : Nat) (h : AH) (hl : l ≤ h.length) : Okr (GotQ h s) (run V0 (.fn 40) l [S (sV s)] h) := by
  have hsz := size_B s
  have hgs := got_same s
  refine okr_fn Try.func40 rfl rfl rfl rfl ?_
  by_cases hq : s.length ≤ 160
  · have hlt : decide ((160 : Int) < ((B s).size : Int)) = false := decide_eq_false (by omega)
    have hgq : gotS s = goodO s (getS s.length s []) := by unfold gotS; rw [decide_eq_true hq, Bool.true_and]
    simp (dsimp := false) (disch := (first | (refine dS ?_; kernel_rfl) | (refine dM ?_; kernel_rfl) | (refine dO ?_; simp (disch := ((try simp only [ZL]) <;> omega)) only [ZK, ZL]; done) | (refine dK ?_; (repeat first | exact Keep.refl _ _ | exact Keep.app _ _ (Nat.le_refl _) | assumption | refine Keep.ap ?_ | refine Keep.st (by first | omega | (simp only [ZL]; omega)) ?_); done) | ((try simp only [ZL]) <;> omega) | fail)) only [XOB, ↓XXs, ↓XD, ↓YX, ZB, Nat.reduceAdd, Nat.reducePow, ↓reduceIte, eq_self, Int.reduceEq, Nat.reduceEqDiff, Nat.reduceMul, Nat.reduceLeDiff, Int.reduceBEq, Int.reduceLT, Try.f40, ↓XH2, XRN, ZC, ZE, ZH, eq_self, Nat.reduceLeDiff, Nat.reduceBEq, slV_new, reduceIte, ↓op_extract, tupAt_mk, lenV_sl, Bool.not_true, Bool.not_false, hlt]
    have key : Okr (GsQ h (getS s.length s [])) (run V0 (.fn 78) l [S (sV s)] h) := by
      refine okr_fn Try.func78 rfl rfl rfl rfl ?_
      simp (dsimp := false) (disch := (first | (refine dS ?_; kernel_rfl) | (refine dM ?_; kernel_rfl) | (refine dO ?_; simp (disch := ((try simp only [ZL]) <;> omega)) only [ZK, ZL]; done) | (refine dK ?_; (repeat first | exact Keep.refl _ _ | exact Keep.app _ _ (Nat.le_refl _) | assumption | refine Keep.ap ?_ | refine Keep.st (by first | omega | (simp only [ZL]; omega)) ?_); done) | ((try simp only [ZL]) <;> omega) | fail)) only [XOB, ↓XXs, ↓XD, ↓YX, ZB, Nat.reduceAdd, Nat.reducePow, ↓reduceIte, eq_self, Int.reduceEq, Nat.reduceEqDiff, Nat.reduceMul, Nat.reduceLeDiff, Int.reduceBEq, Int.reduceLT, Try.f78, ↓XH2, XRN, ZC, ZE, ZH, eq_self, Nat.reduceLeDiff, Nat.reduceBEq, slV_new, reduceIte, ↓op_extract, tupAt_mk, lenV_sl, Bool.not_true, Bool.not_false]
      exact L78 l h hl s.length s [] (Nat.le_refl _) (by omega) (by simp; omega) (by simp) h.length 0 0 _ (Keep.app _ _ (Nat.le_refl _)) (Nat.le_refl _) (by simp (disch := (first | (refine dS ?_; kernel_rfl) | (refine dM ?_; kernel_rfl) | (refine dO ?_; simp (disch := ((try simp only [ZL]) <;> omega)) only [ZK, ZL]; done) | (refine dK ?_; (repeat first | exact Keep.refl _ _ | exact Keep.app _ _ (Nat.le_refl _) | assumption | refine Keep.ap ?_ | refine Keep.st (by first | omega | (simp only [ZL]; omega)) ?_); done) | ((try simp only [ZL]) <;> omega) | fail)) only [↓XH2, XRN, ZC, ZE, ZH, eq_self, Nat.reduceLeDiff, Nat.reduceBEq]; rfl) rfl
    refine okr_call key ?_
    rintro v h1 ⟨k1, ⟨hn, rfl⟩ | ⟨L, hL, fL, nL, i1, g1, rfl, e1, hi1⟩⟩
    · rw [hn] at hgq
      simp (dsimp := false) (disch := (first | (refine dS ?_; kernel_rfl) | (refine dM ?_; kernel_rfl) | (refine dO ?_; simp (disch := ((try simp only [ZL]) <;> omega)) only [ZK, ZL]; done) | (refine dK ?_; (repeat first | exact Keep.refl _ _ | exact Keep.app _ _ (Nat.le_refl _) | assumption | refine Keep.ap ?_ | refine Keep.st (by first | omega | (simp only [ZL]; omega)) ?_); done) | ((try simp only [ZL]) <;> omega) | fail)) only [XOB, ↓XXs, ↓XD, ↓YX, ZB, Nat.reduceAdd, Nat.reducePow, ↓reduceIte, eq_self, Int.reduceEq, Nat.reduceEqDiff, Nat.reduceMul, Nat.reduceLeDiff, Int.reduceBEq, Int.reduceLT, Try.f40, ↓XH2, XRN, ZC, ZE, ZH, eq_self, Nat.reduceLeDiff, Nat.reduceBEq, slV_new, reduceIte, ↓op_extract, tupAt_mk, lenV_sl, Bool.not_true, Bool.not_false, hlt]
      with_reducible refine Okr.ret ?_
      exact ⟨k1, .inr ⟨by rw [← hgs, hgq]; rfl, rfl⟩⟩
    · rw [hL] at hgq
      have hk1 := k1.1
      have hpl := pathL_len L 0 fL
      obtain ⟨h2, a2, k2⟩ := r56 i1 g1 L.length l L h1 (by omega) (fun x hx => (fL x hx).f60) e1
      rw [show (L.all stOkL && inI L.length 1 5) = okL L from rfl] at a2
      have hk2 := k2.1
      have e2 := k2.get e1 (lt_of_get e1)
      obtain ⟨h3, a3, k3⟩ := r63 i1 g1 L.length l L h2 (by omega) (by omega) e2 (by omega)
      have e3 := k3.get e2 (lt_of_get e2)
      have b1 := decB (pathL L 0) s
      cases q1 : okL L with
      | false =>
        rw [q1] at a2
        simp (dsimp := false) (disch := (first | (refine dS ?_; kernel_rfl) | (refine dM ?_; kernel_rfl) | (refine dO ?_; simp (disch := ((try simp only [ZL]) <;> omega)) only [ZK, ZL]; done) | (refine dK ?_; (repeat first | exact Keep.refl _ _ | exact Keep.app _ _ (Nat.le_refl _) | assumption | refine Keep.ap ?_ | refine Keep.st (by first | omega | (simp only [ZL]; omega)) ?_); done) | ((try simp only [ZL]) <;> omega) | fail)) only [XOB, ↓XXs, ↓XD, ↓YX, ZB, Nat.reduceAdd, Nat.reducePow, ↓reduceIte, eq_self, Int.reduceEq, Nat.reduceEqDiff, Nat.reduceMul, Nat.reduceLeDiff, Int.reduceBEq, Int.reduceLT, Try.f40, ↓XH2, XRN, ZC, ZE, ZH, eq_self, Nat.reduceLeDiff, Nat.reduceBEq, slV_new, reduceIte, ↓op_extract, tupAt_mk, lenV_sl, Bool.not_true, Bool.not_false, hlt, a2, a3, b1]
        with_reducible refine Okr.ret ?_
        exact ⟨k1.trans (k2.le hk1), .inr ⟨by rw [← hgs, hgq]; simp [goodO, goodL, q1], rfl⟩⟩
      | true =>
        rw [q1] at a2
        cases q2 : decide (pathL L 0 = s) with
        | false =>
          rw [q2] at b1
          simp (dsimp := false) (disch := (first | (refine dS ?_; kernel_rfl) | (refine dM ?_; kernel_rfl) | (refine dO ?_; simp (disch := ((try simp only [ZL]) <;> omega)) only [ZK, ZL]; done) | (refine dK ?_; (repeat first | exact Keep.refl _ _ | exact Keep.app _ _ (Nat.le_refl _) | assumption | refine Keep.ap ?_ | refine Keep.st (by first | omega | (simp only [ZL]; omega)) ?_); done) | ((try simp only [ZL]) <;> omega) | fail)) only [XOB, ↓XXs, ↓XD, ↓YX, ZB, Nat.reduceAdd, Nat.reducePow, ↓reduceIte, eq_self, Int.reduceEq, Nat.reduceEqDiff, Nat.reduceMul, Nat.reduceLeDiff, Int.reduceBEq, Int.reduceLT, Try.f40, ↓XH2, XRN, ZC, ZE, ZH, eq_self, Nat.reduceLeDiff, Nat.reduceBEq, slV_new, reduceIte, ↓op_extract, tupAt_mk, lenV_sl, Bool.not_true, Bool.not_false, hlt, a2, a3, b1]
          with_reducible refine Okr.ret ?_
          refine ⟨k1.trans ((k2.trans (k3.le hk2)).le hk1), .inr ⟨?_, rfl⟩⟩
          rw [← hgs, hgq]
          show goodL s L = _
          unfold goodL
          rw [q1, q2]; rfl
        | true =>
          rw [q2] at b1
          simp (dsimp := false) (disch := (first | (refine dS ?_; kernel_rfl) | (refine dM ?_; kernel_rfl) | (refine dO ?_; simp (disch := ((try simp only [ZL]) <;> omega)) only [ZK, ZL]; done) | (refine dK ?_; (repeat first | exact Keep.refl _ _ | exact Keep.app _ _ (Nat.le_refl _) | assumption | refine Keep.ap ?_ | refine Keep.st (by first | omega | (simp only [ZL]; omega)) ?_); done) | ((try simp only [ZL]) <;> omega) | fail)) only [XOB, ↓XXs, ↓XD, ↓YX, ZB, Nat.reduceAdd, Nat.reducePow, ↓reduceIte, eq_self, Int.reduceEq, Nat.reduceEqDiff, Nat.reduceMul, Nat.reduceLeDiff, Int.reduceBEq, Int.reduceLT, Try.f40, ↓XH2, XRN, ZC, ZE, ZH, eq_self, Nat.reduceLeDiff, Nat.reduceBEq, slV_new, reduceIte, ↓op_extract, tupAt_mk, lenV_sl, Bool.not_true, Bool.not_false, hlt, a2, a3, b1]
          have hgt : gotL s = true := by
            rw [← hgs, hgq]
            show goodL s L = _
            unfold goodL
            rw [q1, q2]; rfl
          have hLr : L = readL s := by
            have := got_get hgt
            rw [hL] at this
            injection this
          subst hLr
          with_reducible refine Okr.ret ?_
          exact ⟨k1.trans ((k2.trans (k3.le hk2)).le hk1), .inl ⟨hgt, i1, g1, rfl, e3, hi1⟩⟩
  · have hlt : decide ((160 : Int) < ((B s).size : Int)) = true := decide_eq_true (by omega)
    simp (dsimp := false) (disch := (first | (refine dS ?_; kernel_rfl) | (refine dM ?_; kernel_rfl) | (refine dO ?_; simp (disch := ((try simp only [ZL]) <;> omega)) only [ZK, ZL]; done) | (refine dK ?_; (repeat first | exact Keep.refl _ _ | exact Keep.app _ _ (Nat.le_refl _) | assumption | refine Keep.ap ?_ | refine Keep.st (by first | omega | (simp only [ZL]; omega)) ?_); done) | ((try simp only [ZL]) <;> omega) | fail)) only [XOB, ↓XXs, ↓XD, ↓YX, ZB, Nat.reduceAdd, Nat.reducePow, ↓reduceIte, eq_self, Int.reduceEq, Nat.reduceEqDiff, Nat.reduceMul, Nat.reduceLeDiff, Int.reduceBEq, Int.reduceLT, Try.f40, ↓XH2, XRN, ZC, ZE, ZH, eq_self, Nat.reduceLeDiff, Nat.reduceBEq, slV_new, reduceIte, ↓op_extract, tupAt_mk, lenV_sl, Bool.not_true, Bool.not_false, hlt]
    with_reducible refine Okr.ret ?_
    refine ⟨Keep.refl _ _, .inr ⟨?_, rfl⟩⟩
    unfold gotL
    rw [decide_eq_false hq, Bool.false_and]
theorem path_tiny : ∀ (L : List St) (i : Nat), (∀ x ∈ L, Fa x) → (pathL L i).length ≤ 31 * L.length
  | [], i, _ => Nat.zero_le _
  | x :: L, i, h => by
    have ih := path_tiny L (i + 1) (fun y hy => h y (by simp [hy]))
    have hx := h x (by simp)
    have h1 := stSep_len i x
    have h2 := stTail_len x
    have h3 := hx.1.1
    have h4 := hx.2.1.1
    have h5 := hx.2.2.1
    rw [path_head]
    simp only [List.length_append, List.length_cons]
    omega
structure DrawG (H : AH) (v : Value) (h' : AH) : Prop where
  ex : ∃ s, v = sV s ∧ As s ∧ s.length ≤ 2 ^ 26
  k : Keep H.length H h'
theorem cat_ofB {a b c : Bs} (e : a ++ b = c) (h : c.length ≤ 2 ^ 62) : catA (B a) (B b) = some (B c) := cat_of e h
theorem as_take {s : Bs} (h : As s) (k : Nat) : As (s.take k) := fun b hb => h b (List.mem_of_mem_take hb)
theorem as_drop {s : Bs} (h : As s) (k : Nat) : As (s.drop k) := fun b hb => h b (List.mem_of_mem_drop hb)
theorem r39 (va : Value) (n l : Nat) (h : AH) (r : Cd h va n) (hl : l ≤ h.length) (hn : n ≤ 2 ^ 62) :
    Okr (DrawG h) (run V0 (.fn 39) l [S va] h) := by
  refine okr_fn Try.func39 rfl rfl rfl rfl ?_
  obtain ⟨vb, m, h1, a1, r1, hm, k1⟩ := r52 va n l h r hn
  have hid1 := lt_of_get r1.1
  simp (dsimp := false) (disch := (first | (refine dS ?_; kernel_rfl) | (refine dM ?_; kernel_rfl) | (refine dO ?_; simp (disch := ((try simp only [ZL]) <;> omega)) only [ZK, ZL]; done) | (refine dK ?_; (repeat first | exact Keep.refl _ _ | exact Keep.app _ _ (Nat.le_refl _) | assumption | refine Keep.ap ?_ | refine Keep.st (by first | omega | (simp only [ZL]; omega)) ?_); done) | ((try simp only [ZL]) <;> omega) | fail)) only [XOB, ↓XXs, ↓XD, ↓YX, ZB, Nat.reduceAdd, Nat.reducePow, ↓reduceIte, eq_self, Int.reduceEq, Nat.reduceEqDiff, Nat.reduceMul, Nat.reduceLeDiff, Int.reduceBEq, Int.reduceLT, Try.f39, ↓XH2, XRN, ZC, ZE, ZH, eq_self, Nat.reduceLeDiff, Nat.reduceBEq, slV_new, reduceIte, ↓op_extract, tupAt_mk, lenV_sl, Bool.not_true, Bool.not_false, a1]
  refine okr_call (r69 r1 hl (by omega) (by omega)) ?_
  rintro _ h2 ⟨⟨i1, g1, L, rfl, e1, hi1, fL, h6⟩, ⟨p2, hp2, r2⟩, kx⟩
  have hk1 := k1.1
  have hk2 := kx.1
  have hpl := path_tiny L 0 fL
  have hpu := putL_le L
  have hid2 := lt_of_get r2.1
  obtain ⟨h3, a3, k3⟩ := r25 i1 g1 L.length l L h2 (by omega) (by omega) (fun x hx => (fL x hx).f20.f60) e1 (by omega)
  have hk3 := k3.1
  have r3 := r2.keep (k3.le (by omega))
  have ha := put_as fL
  have hsz := size_B (putL L)
  generalize hs : putL L = s at *
  have hw : IntKind.i64.wrap (((B s).size : Int) + 1) = ((s.length + 1 : Nat) : Int) := by rw [hsz]; exact natCast_succ_wrap (by omega) rfl
  try simp (dsimp := false) (disch := (first | (refine dS ?_; kernel_rfl) | (refine dM ?_; kernel_rfl) | (refine dO ?_; simp (disch := ((try simp only [ZL]) <;> omega)) only [ZK, ZL]; done) | (refine dK ?_; (repeat first | exact Keep.refl _ _ | exact Keep.app _ _ (Nat.le_refl _) | assumption | refine Keep.ap ?_ | refine Keep.st (by first | omega | (simp only [ZL]; omega)) ?_); done) | ((try simp only [ZL]) <;> omega) | fail)) only [XOB, ↓XXs, ↓XD, ↓YX, ZB, Nat.reduceAdd, Nat.reducePow, ↓reduceIte, eq_self, Int.reduceEq, Nat.reduceEqDiff, Nat.reduceMul, Nat.reduceLeDiff, Int.reduceBEq, Int.reduceLT, Try.f39, ↓XH2, XRN, ZC, ZE, ZH, eq_self, Nat.reduceLeDiff, Nat.reduceBEq, slV_new, reduceIte, ↓op_extract, tupAt_mk, lenV_sl, Bool.not_true, Bool.not_false, a1, a3, hw]
  refine okr_call (okr_pick (s.length + 1) r3 hl rfl (by omega) (by omega) (by omega) (by omega)) ?_
  rintro _ _ ⟨⟨k, rfl, hk⟩, rfl⟩
  try simp (dsimp := false) (disch := (first | (refine dS ?_; kernel_rfl) | (refine dM ?_; kernel_rfl) | (refine dO ?_; simp (disch := ((try simp only [ZL]) <;> omega)) only [ZK, ZL]; done) | (refine dK ?_; (repeat first | exact Keep.refl _ _ | exact Keep.app _ _ (Nat.le_refl _) | assumption | refine Keep.ap ?_ | refine Keep.st (by first | omega | (simp only [ZL]; omega)) ?_); done) | ((try simp only [ZL]) <;> omega) | fail)) only [XOB, ↓XXs, ↓XD, ↓YX, ZB, Nat.reduceAdd, Nat.reducePow, ↓reduceIte, eq_self, Int.reduceEq, Nat.reduceEqDiff, Nat.reduceMul, Nat.reduceLeDiff, Int.reduceBEq, Int.reduceLT, Try.f39, ↓XH2, XRN, ZC, ZE, ZH, eq_self, Nat.reduceLeDiff, Nat.reduceBEq, slV_new, reduceIte, ↓op_extract, tupAt_mk, lenV_sl, Bool.not_true, Bool.not_false, a1, a3, hw]
  have r4 : Rd (h3.set h.length (rdO vb (p2 + 1))) h.length vb m (p2 + 1) := r3.step (p2 + 1)
  refine okr_call (okr_pick 5 r4 hl rfl (by simp) (by simp) (by omega) (by omega)) ?_
  rintro _ _ ⟨⟨q, rfl, hq⟩, rfl⟩
  try simp (dsimp := false) (disch := (first | (refine dS ?_; kernel_rfl) | (refine dM ?_; kernel_rfl) | (refine dO ?_; simp (disch := ((try simp only [ZL]) <;> omega)) only [ZK, ZL]; done) | (refine dK ?_; (repeat first | exact Keep.refl _ _ | exact Keep.app _ _ (Nat.le_refl _) | assumption | refine Keep.ap ?_ | refine Keep.st (by first | omega | (simp only [ZL]; omega)) ?_); done) | ((try simp only [ZL]) <;> omega) | fail)) only [XOB, ↓XXs, ↓XD, ↓YX, ZB, Nat.reduceAdd, Nat.reducePow, ↓reduceIte, eq_self, Int.reduceEq, Nat.reduceEqDiff, Nat.reduceMul, Nat.reduceLeDiff, Int.reduceBEq, Int.reduceLT, Try.f39, ↓XH2, XRN, ZC, ZE, ZH, eq_self, Nat.reduceLeDiff, Nat.reduceBEq, slV_new, reduceIte, ↓op_extract, tupAt_mk, lenV_sl, Bool.not_true, Bool.not_false, a1, a3, hw]
  have kall : ∀ (o : AObj) (Ls : AH), Keep h.length h ((h3.set h.length o) ++ Ls) := fun o Ls =>
    k1.trans ((Keep.ofKX kx (by omega) (Nat.le_refl _)).trans ((k3.le (by omega)).trans ((Keep.set h3 h.length o (Nat.le_refl _)).trans (Keep.app _ _ (by simp; omega)))))
  have kall0 : ∀ (o : AObj), Keep h.length h (h3.set h.length o) := fun o =>
    k1.trans ((Keep.ofKX kx (by omega) (Nat.le_refl _)).trans ((k3.le (by omega)).trans (Keep.set h3 h.length o (Nat.le_refl _))))
  have hct := cut_to' s k (by omega)
  have hcf := cut_from' s k (by omega)
  refine okr_if (fun t0 => ?_) (fun t0 => ?_)
  · try simp (dsimp := false) (disch := (first | (refine dS ?_; kernel_rfl) | (refine dM ?_; kernel_rfl) | (refine dO ?_; simp (disch := ((try simp only [ZL]) <;> omega)) only [ZK, ZL]; done) | (refine dK ?_; (repeat first | exact Keep.refl _ _ | exact Keep.app _ _ (Nat.le_refl _) | assumption | refine Keep.ap ?_ | refine Keep.st (by first | omega | (simp only [ZL]; omega)) ?_); done) | ((try simp only [ZL]) <;> omega) | fail)) only [XOB, ↓XXs, ↓XD, ↓YX, ZB, Nat.reduceAdd, Nat.reducePow, ↓reduceIte, eq_self, Int.reduceEq, Nat.reduceEqDiff, Nat.reduceMul, Nat.reduceLeDiff, Int.reduceBEq, Int.reduceLT, Try.f39, ↓XH2, XRN, ZC, ZE, ZH, eq_self, Nat.reduceLeDiff, Nat.reduceBEq, slV_new, reduceIte, ↓op_extract, tupAt_mk, lenV_sl, Bool.not_true, Bool.not_false, a1, t0, hct, hcf]
    have r5 : Rd (h3.set h.length (rdO vb (p2 + 2))) h.length vb m (p2 + 2) := r3.step (p2 + 2)
    refine okr_call (okr_of [_, _, _, _, _, _] r5.ap hl (by simp (disch := (first | (refine dS ?_; kernel_rfl) | (refine dM ?_; kernel_rfl) | (refine dO ?_; simp (disch := ((try simp only [ZL]) <;> omega)) only [ZK, ZL]; done) | (refine dK ?_; (repeat first | exact Keep.refl _ _ | exact Keep.app _ _ (Nat.le_refl _) | assumption | refine Keep.ap ?_ | refine Keep.st (by first | omega | (simp only [ZL]; omega)) ?_); done) | ((try simp only [ZL]) <;> omega) | fail)) only [↓XH2, XRN, ZC, ZE, ZH, eq_self, Nat.reduceLeDiff, Nat.reduceBEq] <;> rfl) rfl rfl (by simp; omega) (by simp) (by simp) (by omega) (by omega)) ?_
    rintro _ _ ⟨⟨x, rfl, hx⟩, rfl⟩
    have fx := sm_of hx rfl
    have l1 : (s.take k ++ x).length ≤ 2 ^ 26 := by have := fx.1; rw [List.length_append, List.length_take]; omega
    have l2 : (s.take k ++ x ++ s.drop k).length ≤ 2 ^ 26 := by have := fx.1; rw [List.length_append, List.length_append, List.length_take, List.length_drop]; omega
    have c1 : catA (B (s.take k)) (B x) = some (B (s.take k ++ x)) := cat_ofB rfl (by omega)
    have c2 : catA (B (s.take k ++ x)) (B (s.drop k)) = some (B (s.take k ++ x ++ s.drop k)) := cat_ofB rfl (by omega)
    try simp (dsimp := false) (disch := (first | (refine dS ?_; kernel_rfl) | (refine dM ?_; kernel_rfl) | (refine dO ?_; simp (disch := ((try simp only [ZL]) <;> omega)) only [ZK, ZL]; done) | (refine dK ?_; (repeat first | exact Keep.refl _ _ | exact Keep.app _ _ (Nat.le_refl _) | assumption | refine Keep.ap ?_ | refine Keep.st (by first | omega | (simp only [ZL]; omega)) ?_); done) | ((try simp only [ZL]) <;> omega) | fail)) only [XOB, ↓XXs, ↓XD, ↓YX, ZB, Nat.reduceAdd, Nat.reducePow, ↓reduceIte, eq_self, Int.reduceEq, Nat.reduceEqDiff, Nat.reduceMul, Nat.reduceLeDiff, Int.reduceBEq, Int.reduceLT, Try.f39, ↓XH2, XRN, ZC, ZE, ZH, eq_self, Nat.reduceLeDiff, Nat.reduceBEq, slV_new, reduceIte, ↓op_extract, tupAt_mk, lenV_sl, Bool.not_true, Bool.not_false, a1, t0, hct, hcf, c1, c2]
    with_reducible refine Okr.ret ?_
    exact ⟨⟨_, rfl, as_app (as_take ha k) (as_app fx.2 (as_drop ha k)), by have := l2; rw [List.append_assoc] at this; exact this⟩, kall _ _⟩
  · try simp (dsimp := false) (disch := (first | (refine dS ?_; kernel_rfl) | (refine dM ?_; kernel_rfl) | (refine dO ?_; simp (disch := ((try simp only [ZL]) <;> omega)) only [ZK, ZL]; done) | (refine dK ?_; (repeat first | exact Keep.refl _ _ | exact Keep.app _ _ (Nat.le_refl _) | assumption | refine Keep.ap ?_ | refine Keep.st (by first | omega | (simp only [ZL]; omega)) ?_); done) | ((try simp only [ZL]) <;> omega) | fail)) only [XOB, ↓XXs, ↓XD, ↓YX, ZB, Nat.reduceAdd, Nat.reducePow, ↓reduceIte, eq_self, Int.reduceEq, Nat.reduceEqDiff, Nat.reduceMul, Nat.reduceLeDiff, Int.reduceBEq, Int.reduceLT, Try.f39, ↓XH2, XRN, ZC, ZE, ZH, eq_self, Nat.reduceLeDiff, Nat.reduceBEq, slV_new, reduceIte, ↓op_extract, tupAt_mk, lenV_sl, Bool.not_true, Bool.not_false, a1, t0, hct, hcf]
    refine okr_if (fun t1 => ?_) (fun t1 => ?_)
    · try simp (dsimp := false) (disch := (first | (refine dS ?_; kernel_rfl) | (refine dM ?_; kernel_rfl) | (refine dO ?_; simp (disch := ((try simp only [ZL]) <;> omega)) only [ZK, ZL]; done) | (refine dK ?_; (repeat first | exact Keep.refl _ _ | exact Keep.app _ _ (Nat.le_refl _) | assumption | refine Keep.ap ?_ | refine Keep.st (by first | omega | (simp only [ZL]; omega)) ?_); done) | ((try simp only [ZL]) <;> omega) | fail)) only [XOB, ↓XXs, ↓XD, ↓YX, ZB, Nat.reduceAdd, Nat.reducePow, ↓reduceIte, eq_self, Int.reduceEq, Nat.reduceEqDiff, Nat.reduceMul, Nat.reduceLeDiff, Int.reduceBEq, Int.reduceLT, Try.f39, ↓XH2, XRN, ZC, ZE, ZH, eq_self, Nat.reduceLeDiff, Nat.reduceBEq, slV_new, reduceIte, ↓op_extract, tupAt_mk, lenV_sl, Bool.not_true, Bool.not_false, a1, t0, t1, hct, hcf]
      with_reducible refine Okr.ret ?_
      exact ⟨⟨_, rfl, as_take ha k, by rw [List.length_take]; omega⟩, kall0 _⟩
    · try simp (dsimp := false) (disch := (first | (refine dS ?_; kernel_rfl) | (refine dM ?_; kernel_rfl) | (refine dO ?_; simp (disch := ((try simp only [ZL]) <;> omega)) only [ZK, ZL]; done) | (refine dK ?_; (repeat first | exact Keep.refl _ _ | exact Keep.app _ _ (Nat.le_refl _) | assumption | refine Keep.ap ?_ | refine Keep.st (by first | omega | (simp only [ZL]; omega)) ?_); done) | ((try simp only [ZL]) <;> omega) | fail)) only [XOB, ↓XXs, ↓XD, ↓YX, ZB, Nat.reduceAdd, Nat.reducePow, ↓reduceIte, eq_self, Int.reduceEq, Nat.reduceEqDiff, Nat.reduceMul, Nat.reduceLeDiff, Int.reduceBEq, Int.reduceLT, Try.f39, ↓XH2, XRN, ZC, ZE, ZH, eq_self, Nat.reduceLeDiff, Nat.reduceBEq, slV_new, reduceIte, ↓op_extract, tupAt_mk, lenV_sl, Bool.not_true, Bool.not_false, a1, t0, t1, hct, hcf]
      with_reducible refine Okr.ret ?_
      exact ⟨⟨_, rfl, ha, by omega⟩, kall0 _⟩
end Go.Abs
namespace Go.Abs
open Go.Proofs
set_option maxRecDepth 100000
set_option linter.unusedSimpArgs false
set_option pp.maxSteps 20000

/-! ### marks -/
def digF : Nat → Nat → Bs → Bs
  | 0, _, out => out
  | f + 1, k, out => if k = 0 then out else digF f (k / 10) (UInt8.ofNat (48 + k % 10) :: out)
def markT (k : Nat) : Bs := 109 :: digF k k []
theorem dig_int (k : Nat) : IntKind.u8.wrap (IntKind.i64.wrap (48 + (k : Int).tmod 10)) = ((UInt8.ofNat (48 + k % 10)).toNat : Int) := by
  have h1 : (k : Int).tmod 10 = ((k % 10 : Nat) : Int) := by rw [Int.tmod_eq_emod_of_nonneg (by omega)]; omega
  have h2 : k % 10 < 10 := Nat.mod_lt _ (by omega)
  rw [h1, wrap64 (by omega), wrap8 (by omega)]
  simp only [UInt8.toNat_ofNat']
  omega
theorem div_int (k : Nat) (hk : k ≤ 2 ^ 40) : IntKind.i64.wrap ((k : Int).tdiv 10) = ((k / 10 : Nat) : Int) := by
  have h1 : (k : Int).tdiv 10 = ((k / 10 : Nat) : Int) := by rw [Int.tdiv_eq_ediv_of_nonneg (by omega)]; omega
  rw [h1, wrap64 (by omega)]
theorem L51 (l n0 : Nat) : ∀ (f k : Nat) (out : Bs) (h : AH), k ≤ f → k + out.length ≤ 2 ^ 40 → n0 ≤ h.length →
    ∃ h', L51_0 l (iV k) (sV out) h = some (.ret (sV (109 :: digF f k out)) h') ∧ Keep n0 h h' := by
  intro f
  induction f with
  | zero =>
    intro k out h hk hb hh
    obtain rfl : k = 0 := by omega
    refine ⟨h, run_code Try.func51 rfl rfl ?_, Keep.refl _ _⟩
    have hc := catA_B [109] out (by simp; omega)
    have hlt : decide ((0 : Int) < ((0 : Nat) : Int)) = false := rfl
    simp only [↓XX, ↓XD, ↓YX, ZB, Nat.reduceAdd, Nat.reducePow, ↓reduceIte, eq_self, Int.reduceEq, Nat.reduceEqDiff, Nat.reduceMul, Nat.reduceLeDiff, Try.f51, hlt, hc, digF, List.singleton_append]
  | succ f ih =>
    intro k out h hk hb hh
    by_cases h0 : k = 0
    · subst h0
      refine ⟨h, run_code Try.func51 rfl rfl ?_, Keep.refl _ _⟩
      have hc := catA_B [109] out (by simp; omega)
      have hlt : decide ((0 : Int) < ((0 : Nat) : Int)) = false := rfl
      simp only [↓XX, ↓XD, ↓YX, ZB, Nat.reduceAdd, Nat.reducePow, ↓reduceIte, eq_self, Int.reduceEq, Nat.reduceEqDiff, Nat.reduceMul, Nat.reduceLeDiff, Try.f51, hlt, hc, digF, List.singleton_append]
    · have hlt : decide ((0 : Int) < (k : Int)) = true := by rw [decide_eq_true_iff]; omega
      obtain ⟨h', e, kp⟩ := ih (k / 10) (UInt8.ofNat (48 + k % 10) :: out) (h ++ [.row 0 25769803777 [.int .u8 ((UInt8.ofNat (48 + k % 10)).toNat : Int)]]) (by omega) (by simp only [List.length_cons]; omega) (by simp; omega)
      refine ⟨h', run_code Try.func51 rfl rfl ?_, (Keep.app _ _ hh).trans kp⟩
      have hb2 : b2s (h ++ [AObj.row 0 25769803777 [.int .u8 ((UInt8.ofNat (48 + k % 10)).toNat : Int)]]) (newS h 1 1) = some (B [UInt8.ofNat (48 + k % 10)]) :=
        b2s_of (sz := 25769803777) (s := [UInt8.ofNat (48 + k % 10)]) (by simp [u8c]) rfl
      have hc := catA_B [UInt8.ofNat (48 + k % 10)] out (by simp; omega)
      simp only [↓XX, ↓XD, ↓YX, ZB, Nat.reduceAdd, Nat.reducePow, ↓reduceIte, eq_self, Int.reduceEq, Nat.reduceEqDiff, Nat.reduceMul, Nat.reduceLeDiff, Try.f51, hlt, dig_int, div_int k (by omega), hb2, hc, digF, List.singleton_append, h0]
      exact e
theorem r51 (k : Nat) (h0 : 0 < k) (hk : k ≤ 2 ^ 40) (l : Nat) (h : AH) : ∃ h', run V0 (.fn 51) l [S (iV k)] h = some (.ret (sV (markT k)) h') ∧ Keep h.length h h' := by
  obtain ⟨h', e, kp⟩ := L51 l h.length k k [] h (Nat.le_refl _) (by simpa using hk) (Nat.le_refl _)
  refine ⟨h', run_fn Try.func51 rfl rfl rfl rfl ?_, kp⟩
  have hle : decide ((k : Int) ≤ 0) = false := by rw [decide_eq_false_iff_not]; omega
  simp only [↓XX, ↓XD, ↓YX, ZB, Nat.reduceAdd, Nat.reducePow, ↓reduceIte, eq_self, Int.reduceEq, Nat.reduceEqDiff, Nat.reduceMul, Nat.reduceLeDiff, Try.f51, hle]
  exact e

theorem St.set (d : List St) (x y : St) (r : List St) (j : Nat) (v : Value) (hj : j < 4) (hy : (stC x).set j v = (stC y)) : (stR (d ++ x :: r)).set (d.length * 4 + j) v = stR (d ++ y :: r) := by
  rw [stR_app, stR_cons, stR_app, stR_cons]
  have := set_in (stR d) (stC x) (stR r) j v hj
  rw [stR_len, Nat.mul_comm] at this
  rw [this, hy]
def markSt (k : Nat) : St := ⟨(k : Int).tmod 3 == 0, markT (k + 1), markT (k + 2), markT (k + 3)⟩
def marksS : Nat → Nat → List St
  | _, 0 => []
  | k, n + 1 => markSt k :: marksS (k + 4) n
theorem marksS_len : ∀ (n k : Nat), (marksS k n).length = n
  | 0, _ => rfl
  | n + 1, k => by simp [marksS, marksS_len n]
/-- markStleS: its loop -/
theorem L41 (id g c n l : Nat) (ma : List St) (hl : l ≤ id) (n0 : Nat) (hn : n ≤ 2 ^ 30) : ∀ (r d : List St) (k : Nat) (h : AH), n0 ≤ h.length → d.length + r.length = n → 0 < k → k + 4 * r.length ≤ 2 ^ 39 → h[id]? = some (.row g 4 (stR (d ++ (r ++ ma)))) →
    ∃ h', L41_0 l (slV id g n c) (iV k) (iV d.length) h = some (.ret (iV (k + 4 * r.length : Nat)) h') ∧ h'[id]? = some (.row g 4 (stR (d ++ (marksS k r.length ++ ma)))) ∧ KX n0 id h h' := by
  intro r
  induction r with
  | nil =>
    intro d k h h0 hk h1 hb e
    simp only [List.length_nil, Nat.add_zero] at hk
    refine ⟨h, run_code Try.func41 rfl rfl ?_, by simpa [marksS] using e, KX.refl _ _ _⟩
    have hlt : decide ((d.length : Int) < (n : Int)) = false := by rw [decide_eq_false_iff_not]; omega
    simp only [↓XX, ↓XD, ↓YX, ZB, Nat.reduceAdd, Nat.reducePow, ↓reduceIte, eq_self, Int.reduceEq, Nat.reduceEqDiff, Nat.reduceMul, Nat.reduceLeDiff, Try.f41, lenV, hlt, Nat.mul_zero, Nat.add_zero]
  | cons x r ih =>
    intro d k h h0 hk h1 hb e
    simp only [List.length_cons] at hk hb
    have hlt : decide ((d.length : Int) < (n : Int)) = true := by rw [decide_eq_true_iff]; omega
    have hix : ixAddr (slV id g n c) (d.length : Int) 4 = some (pV id (d.length * 4) g) := by rw [ixAddr_sl (by omega)]; simp
    have ha : ∀ j, addOff (pV id (d.length * 4) g) j = some (pV id (d.length * 4 + j) g) := fun _ => rfl
    have hw : IntKind.i64.wrap ((d.length : Int) + 1) = (((d ++ [markSt k]).length : Nat) : Int) := natCast_succ_wrap (by omega) (by simp)
    have w1 : IntKind.i64.wrap ((k : Int) + 1) = ((k + 1 : Nat) : Int) := natCast_succ_wrap (by omega) rfl
    have w2 : IntKind.i64.wrap (((k + 1 : Nat) : Int) + 1) = ((k + 2 : Nat) : Int) := natCast_succ_wrap (by omega) rfl
    have w3 : IntKind.i64.wrap (((k + 2 : Nat) : Int) + 1) = ((k + 3 : Nat) : Int) := natCast_succ_wrap (by omega) rfl
    have w4 : IntKind.i64.wrap (((k + 3 : Nat) : Int) + 1) = ((k + 4 : Nat) : Int) := natCast_succ_wrap (by omega) rfl
    obtain ⟨xq, xr, xu, xk⟩ := x
    have hlen : ∀ (y : St) (j : Nat), j < 4 → d.length * 4 + j < (stR (d ++ y :: (r ++ ma))).length := fun y j hj => by rw [stR_len]; simp; omega
    have s0 := st1_of (v := .bool ((k : Int).tmod 3 == 0)) hl e (hlen _ 0 (by omega)) rfl
    rw [List.cons_append, St.set d ⟨xq, xr, xu, xk⟩ ⟨(k : Int).tmod 3 == 0, xr, xu, xk⟩ (r ++ ma) 0 _ (by omega) rfl] at s0
    have e0 := get_set (.row g 4 (stR (d ++ ⟨(k : Int).tmod 3 == 0, xr, xu, xk⟩ :: (r ++ ma)))) e
    generalize hA : h.set id (.row g 4 (stR (d ++ ⟨(k : Int).tmod 3 == 0, xr, xu, xk⟩ :: (r ++ ma)))) = A at *
    have kA : KX n0 id h A := by rw [← hA]; exact KX.set _ _ _ _
    obtain ⟨B1, a1, k1⟩ := r51 (k + 1) (by omega) (by omega) l A
    have e1 := k1.get e0 (lt_of_get e0)
    have s1 := st1_of (v := sV (markT (k + 1))) hl e1 (hlen _ 1 (by omega)) rfl
    rw [St.set d ⟨(k : Int).tmod 3 == 0, xr, xu, xk⟩ ⟨(k : Int).tmod 3 == 0, markT (k + 1), xu, xk⟩ (r ++ ma) 1 _ (by omega) rfl] at s1
    have e1' := get_set (.row g 4 (stR (d ++ ⟨(k : Int).tmod 3 == 0, markT (k + 1), xu, xk⟩ :: (r ++ ma)))) e1
    have hAid := lt_of_get e0
    have kB : KX n0 id h (B1.set id (.row g 4 (stR (d ++ ⟨(k : Int).tmod 3 == 0, markT (k + 1), xu, xk⟩ :: (r ++ ma))))) := (kA.trans (k1.kx (Nat.le_trans h0 kA.1))).trans (KX.set _ _ _ _)
    generalize hB : B1.set id (.row g 4 (stR (d ++ ⟨(k : Int).tmod 3 == 0, markT (k + 1), xu, xk⟩ :: (r ++ ma)))) = B at *
    obtain ⟨C1, a2, k2⟩ := r51 (k + 2) (by omega) (by omega) l B
    have e2 := k2.get e1' (lt_of_get e1')
    have s2 := st1_of (v := sV (markT (k + 2))) hl e2 (hlen _ 2 (by omega)) rfl
    rw [St.set d ⟨(k : Int).tmod 3 == 0, markT (k + 1), xu, xk⟩ ⟨(k : Int).tmod 3 == 0, markT (k + 1), markT (k + 2), xk⟩ (r ++ ma) 2 _ (by omega) rfl] at s2
    have e2' := get_set (.row g 4 (stR (d ++ ⟨(k : Int).tmod 3 == 0, markT (k + 1), markT (k + 2), xk⟩ :: (r ++ ma)))) e2
    have hBid := lt_of_get e1'
    have kC : KX n0 id h (C1.set id (.row g 4 (stR (d ++ ⟨(k : Int).tmod 3 == 0, markT (k + 1), markT (k + 2), xk⟩ :: (r ++ ma))))) := (kB.trans (k2.kx (Nat.le_trans h0 kB.1))).trans (KX.set _ _ _ _)
    generalize hC : C1.set id (.row g 4 (stR (d ++ ⟨(k : Int).tmod 3 == 0, markT (k + 1), markT (k + 2), xk⟩ :: (r ++ ma)))) = C at *
    obtain ⟨D1, a3, k3⟩ := r51 (k + 3) (by omega) (by omega) l C
    have e3 := k3.get e2' (lt_of_get e2')
    have s3 := st1_of (v := sV (markT (k + 3))) hl e3 (hlen _ 3 (by omega)) rfl
    rw [St.set d ⟨(k : Int).tmod 3 == 0, markT (k + 1), markT (k + 2), xk⟩ (markSt k) (r ++ ma) 3 (sV (markT (k + 3))) (by omega) rfl] at s3
    have e3' := get_set (.row g 4 (stR (d ++ markSt k :: (r ++ ma)))) e3
    have hCid := lt_of_get e2'
    have kD : KX n0 id h (D1.set id (.row g 4 (stR (d ++ markSt k :: (r ++ ma))))) := (kC.trans (k3.kx (Nat.le_trans h0 kC.1))).trans (KX.set _ _ _ _)
    obtain ⟨h', i1, i2, i3⟩ := ih (d ++ [markSt k]) (k + 4) _ (Nat.le_trans h0 kD.1) (by simp; omega) (by omega) (by omega) (by rw [e3']; simp)
    refine ⟨h', run_code Try.func41 rfl rfl ?_, by simpa only [marksS, List.length_cons, List.append_assoc, List.singleton_append, List.cons_append, List.nil_append] using i2, kD.trans i3⟩
    have hx0 : d.length * 4 + 0 = d.length * 4 := rfl
    simp only [hx0] at s0
    have ha0 : addOff (pV id (d.length * 4) g) 0 = some (pV id (d.length * 4) g) := rfl
    simp only [↓XX, ↓XD, ↓YX, ZB, Nat.reduceAdd, Nat.reducePow, ↓reduceIte, eq_self, Int.reduceEq, Nat.reduceEqDiff, Nat.reduceMul, Nat.reduceLeDiff, Try.f41, lenV, hlt, hix, ha0, ha, s0, w1, a1, s1, w2, a2, s2, w3, a3, s3, w4, hw]
    rw [i1]
    congr 3; omega
/-- a slice of rules, with cells behind it -/
def St.Rt (h : AH) (l : Nat) (v : Value) (xs : List St) : Prop :=
  (v = .slice none 0 0 ∧ xs = []) ∨ ∃ id g c ma, v = slV id g xs.length c ∧ h[id]? = some (.row g 4 (stR (xs ++ ma))) ∧ l ≤ id
theorem St.Rt.kx {h h' : AH} {l ix : Nat} {v : Value} {xs : List St} (q : St.Rt h l v xs) (k : KX h.length ix h h') (hi : ix < l) : St.Rt h' l v xs := by
  rcases q with q | ⟨id, g, c, ma, rfl, e, hl⟩
  · exact .inl q
  · exact .inr ⟨id, g, c, ma, rfl, k.get e (lt_of_get e) (by omega), hl⟩
theorem r41s (id g c l k : Nat) (xs ma : List St) (h : AH) (e : h[id]? = some (.row g 4 (stR (xs ++ ma)))) (hl : l ≤ id) (hn : xs.length ≤ 2 ^ 30) (h1 : 0 < k) (hb : k ≤ 2 ^ 30) :
    ∃ h', run V0 (.fn 41) l [S (slV id g xs.length c), S (iV k)] h = some (.ret (iV (k + 4 * xs.length : Nat)) h') ∧ h'[id]? = some (.row g 4 (stR (marksS k xs.length ++ ma))) ∧ KX h.length id h h' := by
  obtain ⟨h', i1, i2, i3⟩ := L41 id g c xs.length l ma hl h.length hn xs [] k h (Nat.le_refl _) (by simp) h1 (by omega) e
  refine ⟨h', run_fn Try.func41 rfl rfl rfl rfl ?_, i2, i3⟩
  simp only [↓XX, ↓XD, ↓YX, ZB, Nat.reduceAdd, Nat.reducePow, ↓reduceIte, eq_self, Int.reduceEq, Nat.reduceEqDiff, Nat.reduceMul, Nat.reduceLeDiff, Try.f41]
  exact i1
theorem r41 (v : Value) (l lo k : Nat) (xs : List St) (h : AH) (q : St.Rt h lo v xs) (hl : l ≤ lo) (hn : xs.length ≤ 2 ^ 30) (h1 : 0 < k) (hb : k ≤ 2 ^ 30) :
    ∃ h', run V0 (.fn 41) l [S v, S (iV k)] h = some (.ret (iV (k + 4 * xs.length : Nat)) h') ∧ St.Rt h' lo v (marksS k xs.length) ∧ ∃ ix, lo ≤ ix ∧ KX h.length ix h h' := by
  rcases q with ⟨rfl, rfl⟩ | ⟨id, g, c, ma, rfl, e, hl2⟩
  · refine ⟨h, run_fn Try.func41 rfl rfl rfl rfl ?_, .inl ⟨rfl, rfl⟩, lo, Nat.le_refl _, KX.refl _ _ _⟩
    have e0 : L41_0 l (.slice none 0 0) (iV k) (iV 0) h = some (.ret (iV k) h) := by
      refine run_code Try.func41 rfl rfl ?_
      have hlt : decide ((0 : Int) < 0) = false := rfl
      simp only [↓XX, ↓XD, ↓YX, ZB, Nat.reduceAdd, Nat.reducePow, ↓reduceIte, eq_self, Int.reduceEq, Nat.reduceEqDiff, Nat.reduceMul, Nat.reduceLeDiff, Try.f41, lenV, Int.natCast_zero, hlt]
    simp only [↓XX, ↓XD, ↓YX, ZB, Nat.reduceAdd, Nat.reducePow, ↓reduceIte, eq_self, Int.reduceEq, Nat.reduceEqDiff, Nat.reduceMul, Nat.reduceLeDiff, Try.f41]
    exact e0
  · obtain ⟨h', i1, i2, i3⟩ := r41s id g c l k xs ma h e (by omega) hn h1 hb
    exact ⟨h', i1, .inr ⟨id, g, c, ma, by rw [marksS_len], i2, hl2⟩, id, hl2, i3⟩
theorem cell_of_take {L c : List Value} {a k i : Nat} (h : (L.drop a).take k = c) (hi : i < k) : L[a + i]? = c[i]? := by
  rw [← h, List.getElem?_take, if_pos hi, List.getElem?_drop]
/-- heldRuleS: its loop -/
theorem L42 (id g c n l : Nat) (ma : List St) (hn : n ≤ 2 ^ 30) : ∀ (m : Nat) (d : List St) (k : Nat) (h : AH), d.length + m = n → 0 < k → k + 4 * m ≤ 2 ^ 39 → h[id]? = some (.row g 4 (stR (d ++ (marksS k m ++ ma)))) →
    ∃ h', L42_0 l (slV id g n c) (iV k) (iV d.length) h = some (.ret (iV (k + 4 * m : Nat)) h') ∧ Keep h.length h h' := by
  intro m
  induction m with
  | zero =>
    intro d k h hk h1 hb e
    refine ⟨h, run_code Try.func42 rfl rfl ?_, Keep.refl _ _⟩
    have hlt : decide ((d.length : Int) < (n : Int)) = false := by rw [decide_eq_false_iff_not]; omega
    simp only [↓XX, ↓XD, ↓YX, ZB, Nat.reduceAdd, Nat.reducePow, ↓reduceIte, eq_self, Int.reduceEq, Nat.reduceEqDiff, Nat.reduceMul, Nat.reduceLeDiff, Try.f42, lenV, hlt, Nat.mul_zero, Nat.add_zero]
  | succ m ih =>
    intro d k h hk h1 hb e
    have hlt : decide ((d.length : Int) < (n : Int)) = true := by rw [decide_eq_true_iff]; omega
    have hix : ixAddr (slV id g n c) (d.length : Int) 4 = some (pV id (d.length * 4) g) := by rw [ixAddr_sl (by omega)]; simp
    have ha : ∀ j, addOff (pV id (d.length * 4) g) j = some (pV id (d.length * 4 + j) g) := fun _ => rfl
    have ha0 : addOff (pV id (d.length * 4) g) 0 = some (pV id (d.length * 4) g) := rfl
    have hw : IntKind.i64.wrap ((d.length : Int) + 1) = (((d ++ [markSt k]).length : Nat) : Int) := natCast_succ_wrap (by omega) (by simp)
    have w1 : IntKind.i64.wrap ((k : Int) + 1) = ((k + 1 : Nat) : Int) := natCast_succ_wrap (by omega) rfl
    have w2 : IntKind.i64.wrap (((k + 1 : Nat) : Int) + 1) = ((k + 2 : Nat) : Int) := natCast_succ_wrap (by omega) rfl
    have w3 : IntKind.i64.wrap (((k + 2 : Nat) : Int) + 1) = ((k + 3 : Nat) : Int) := natCast_succ_wrap (by omega) rfl
    have w4 : IntKind.i64.wrap (((k + 3 : Nat) : Int) + 1) = ((k + 4 : Nat) : Int) := natCast_succ_wrap (by omega) rfl
    have cell : ∀ j, j < 4 → (stR (d ++ (markSt k :: marksS (k + 4) m ++ ma)))[d.length * 4 + j]? = (stC (markSt k))[j]? := fun j hj => cell_of_take (st_get d (markSt k) _) hj
    obtain ⟨A1, a1, k1⟩ := r51 (k + 1) (by omega) (by omega) h.length h
    have e1 := k1.get e (lt_of_get e)
    obtain ⟨A2, a2, k2⟩ := r51 (k + 2) (by omega) (by omega) A1.length A1
    have e2 := k2.get e1 (lt_of_get e1)
    have ld0 : ld h (pV id (d.length * 4) g) = some (.bool ((k : Int).tmod 3 == 0)) := ld_of e (cell 0 (by omega))
    have ld1 : ld h (pV id (d.length * 4 + 1) g) = some (sV (markT (k + 1))) := ld_of e (cell 1 (by omega))
    have ld2 : ld A1 (pV id (d.length * 4 + 2) g) = some (sV (markT (k + 2))) := ld_of e1 (cell 2 (by omega))
    have ld3 : ld A2 (pV id (d.length * 4 + 3) g) = some (sV (markT (k + 3))) := ld_of e2 (cell 3 (by omega))
    obtain ⟨A3, a3, k3⟩ := r51 (k + 3) (by omega) (by omega) A2.length A2
    have e3 := k3.get e2 (lt_of_get e2)
    have hb0 : (!(((k : Int).tmod 3 == 0) == ((k : Int).tmod 3 == 0))) = false := by simp
    obtain ⟨h', i1, i2⟩ := ih (d ++ [markSt k]) (k + 4) A3 (by simp; omega) (by omega) (by omega) (by rw [e3]; simp [marksS])
    refine ⟨h', run_code Try.func42 rfl rfl ?_, k1.trans ((k2.trans ((k3.trans (i2.le k3.1)).le k2.1)).le k1.1)⟩
    simp (disch := (refine _root_.id ?_; kernel_rfl)) only [↓XX, ↓XD, ↓YX, ZB, Nat.reduceAdd, Nat.reducePow, ↓reduceIte, eq_self, Int.reduceEq, Nat.reduceEqDiff, Nat.reduceMul, Nat.reduceLeDiff, Try.f42, lenV, hlt, hix, ha0, ha, ld0, w1, ld1, a1, w2, ld2, a2, w3, ld3, a3, w4, hw, hb0, decide_true, Bool.not_true]
    rw [i1]
    have hq : k + 4 + 4 * m = k + 4 * (m + 1) := by omega
    rw [hq]
theorem r42 (v : Value) (l lo k m : Nat) (h : AH) (q : St.Rt h lo v (marksS k m)) (hn : m ≤ 2 ^ 30) (h1 : 0 < k) (hb : k ≤ 2 ^ 30) :
    ∃ h', run V0 (.fn 42) l [S v, S (iV k)] h = some (.ret (iV (k + 4 * m : Nat)) h') ∧ Keep h.length h h' := by
  rcases q with ⟨rfl, q⟩ | ⟨id, g, c, ma, rfl, e, hl⟩
  · have hm : m = 0 := by have := marksS_len m k; rw [q] at this; simpa using this.symm
    subst hm
    refine ⟨h, run_fn Try.func42 rfl rfl rfl rfl ?_, Keep.refl _ _⟩
    have e0 : L42_0 l (.slice none 0 0) (iV k) (iV 0) h = some (.ret (iV k) h) := by
      refine run_code Try.func42 rfl rfl ?_
      have hlt : decide ((0 : Int) < 0) = false := rfl
      simp only [↓XX, ↓XD, ↓YX, ZB, Nat.reduceAdd, Nat.reducePow, ↓reduceIte, eq_self, Int.reduceEq, Nat.reduceEqDiff, Nat.reduceMul, Nat.reduceLeDiff, Try.f42, lenV, Int.natCast_zero, hlt]
    simp only [↓XX, ↓XD, ↓YX, ZB, Nat.reduceAdd, Nat.reducePow, ↓reduceIte, eq_self, Int.reduceEq, Nat.reduceEqDiff, Nat.reduceMul, Nat.reduceLeDiff, Try.f42]
    exact e0
  · rw [marksS_len]
    obtain ⟨h', i1, i2⟩ := L42 id g c m l ma hn m [] k h (by simp) h1 (by omega) e
    refine ⟨h', run_fn Try.func42 rfl rfl rfl rfl ?_, i2⟩
    simp only [↓XX, ↓XD, ↓YX, ZB, Nat.reduceAdd, Nat.reducePow, ↓reduceIte, eq_self, Int.reduceEq, Nat.reduceEqDiff, Nat.reduceMul, Nat.reduceLeDiff, Try.f42]
    exact i1
theorem St.Rt.len {h : AH} {l : Nat} {v : Value} {xs : List St} (r : St.Rt h l v xs) : lenV v = some (xs.length : Int) := by
  rcases r with ⟨rfl, rfl⟩ | ⟨id, g, c, _, rfl, _⟩ <;> rfl
theorem St.Rt.get {h : AH} {l : Nat} {v : Value} {d r : List St} {x : St} (q : St.Rt h l v (d ++ x :: r)) : ∃ p, ixAddr v (d.length : Int) 4 = some p ∧ Abs.ldN h p 4 = some (stC x) := by
  rcases q with ⟨_, q⟩ | ⟨id, g, c, ma, rfl, e, _⟩
  · simp at q
  · refine ⟨pV id (d.length * 4) g, by rw [ixAddr_sl (by simp)]; simp, ?_⟩
    rw [List.append_assoc, List.cons_append] at e
    exact ldN_st e
theorem St.Rt.keep {h h' : AH} {l : Nat} {v : Value} {xs : List St} (q : St.Rt h l v xs) (k : Keep h.length h h') : St.Rt h' l v xs := by
  rcases q with q | ⟨id, g, c, ma, rfl, e, hl⟩
  · exact .inl q
  · exact .inr ⟨id, g, c, ma, rfl, k.get e (lt_of_get e), hl⟩
/-- eqRuleS: its loop, with cells behind -/
theorem L24t (va vb : Value) (n l : Nat) (hn : n ≤ 2 ^ 40) (la lb : Nat) : ∀ (r r' d d' : List St) (h : AH), d.length = d'.length → d.length + r.length = n → r.length = r'.length → St.Rt h la va (d ++ r) → St.Rt h lb vb (d' ++ r') →
    ∃ h', L24_0 l va vb (iV d.length) h = some (.ret (.bool (decide (r = r'))) h') ∧ Keep h.length h h' := by
  intro r
  induction r with
  | nil =>
    intro r' d d' h hd hk hr ea eb
    obtain rfl : r' = [] := by cases r' with | nil => rfl | cons _ _ => simp at hr
    simp only [List.length_nil, Nat.add_zero] at hk
    have lenA := ea.len
    refine ⟨h, run_code Try.func24 rfl rfl ?_, Keep.refl _ _⟩
    have hlt : decide ((d.length : Int) < ((d ++ []).length : Int)) = false := by rw [decide_eq_false_iff_not, List.append_nil]; omega
    simp only [↓XX, ↓XD, ↓YX, ZB, Nat.reduceAdd, Nat.reducePow, ↓reduceIte, eq_self, Int.reduceEq, Nat.reduceEqDiff, Nat.reduceMul, Nat.reduceLeDiff, Try.f24, lenA, hlt, decide_true]
  | cons x r ih =>
    intro r' d d' h hd hk hr ea eb
    cases r' with
    | nil => simp at hr
    | cons y r' =>
      simp only [List.length_cons] at hk hr
      have lenA := ea.len
      have hlt : decide ((d.length : Int) < ((d ++ x :: r).length : Int)) = true := by rw [decide_eq_true_iff]; simp; omega
      obtain ⟨pa, hia, hla⟩ := ea.get
      obtain ⟨pb, hib, hlb⟩ := eb.get
      rw [← hd] at hib
      have hw : IntKind.i64.wrap ((d.length : Int) + 1) = (((d ++ [x]).length : Nat) : Int) := natCast_succ_wrap (by omega) (by simp)
      have h62 := r62 x y l h
      have kp : Keep h.length h (h ++ [.row 0 4 (stC x)] ++ [.row 0 4 (stC y)]) := (Keep.app _ _ (Nat.le_refl _)).trans (Keep.app _ _ (by simp))
      by_cases hq : x = y
      · rw [decide_eq_true hq] at h62
        obtain ⟨h', i1, i2⟩ := ih r' (d ++ [x]) (d' ++ [y]) (h ++ [.row 0 4 (stC x)] ++ [.row 0 4 (stC y)]) (by simp [hd]) (by simp; omega) (by omega) (by simpa using ea.keep kp) (by simpa using eb.keep kp)
        refine ⟨h', run_code Try.func24 rfl rfl ?_, kp.trans (i2.le kp.1)⟩
        simp (disch := (refine _root_.id ?_; kernel_rfl)) only [↓XX, ↓XD, ↓YX, ZB, Nat.reduceAdd, Nat.reducePow, ↓reduceIte, eq_self, Int.reduceEq, Nat.reduceEqDiff, Nat.reduceMul, Nat.reduceLeDiff, Try.f24, lenA, hlt, hia, hib, hla, hlb, h62, hw, Bool.not_true]
        rw [i1]; simp [hq]
      · rw [decide_eq_false hq] at h62
        refine ⟨_, run_code Try.func24 rfl rfl ?_, kp⟩
        simp (disch := (refine _root_.id ?_; kernel_rfl)) only [↓XX, ↓XD, ↓YX, ZB, Nat.reduceAdd, Nat.reducePow, ↓reduceIte, eq_self, Int.reduceEq, Nat.reduceEqDiff, Nat.reduceMul, Nat.reduceLeDiff, Try.f24, lenA, hlt, hia, hib, hla, hlb, h62, hw, Bool.not_false]
        simp [hq]
theorem r24t (va vb : Value) (l la lb : Nat) (xs ys : List St) (h : AH) (hn : xs.length ≤ 2 ^ 40) (ea : St.Rt h la va xs) (eb : St.Rt h lb vb ys) :
    ∃ h', run V0 (.fn 24) l [S va, S vb] h = some (.ret (.bool (decide (xs = ys))) h') ∧ Keep h.length h h' := by
  have lenA := ea.len
  have lenB := eb.len
  by_cases hy : xs.length = ys.length
  · obtain ⟨h', i1, i2⟩ := L24t va vb xs.length l hn la lb xs ys [] [] h rfl (by simp) hy ea eb
    refine ⟨h', run_fn Try.func24 rfl rfl rfl rfl ?_, i2⟩
    have hb : ((xs.length : Int) != (ys.length : Int)) = false := by simp [hy]
    simp only [↓XX, ↓XD, ↓YX, ZB, Nat.reduceAdd, Nat.reducePow, ↓reduceIte, eq_self, Int.reduceEq, Nat.reduceEqDiff, Nat.reduceMul, Nat.reduceLeDiff, Try.f24, lenA, lenB, hb]
    exact i1
  · refine ⟨h, run_fn Try.func24 rfl rfl rfl rfl ?_, Keep.refl _ _⟩
    have hb : ((xs.length : Int) != (ys.length : Int)) = true := by simp; omega
    have : xs ≠ ys := fun e => hy (by rw [e])
    simp only [↓XX, ↓XD, ↓YX, ZB, Nat.reduceAdd, Nat.reducePow, ↓reduceIte, eq_self, Int.reduceEq, Nat.reduceEqDiff, Nat.reduceMul, Nat.reduceLeDiff, Try.f24, lenA, lenB, hb]
    simp [this]
end Go.Abs
namespace Go.Abs
open Go.Proofs
set_option maxRecDepth 100000
set_option linter.unusedSimpArgs false
set_option linter.unusedVariables false
set_option pp.maxSteps 20000
set_option pp.deepTerms true
def ansP (s : Bs) : List St := if gotL s = true then readL s else []
theorem ansP_len (s : Bs) : (ansP s).length ≤ 5 := by
  unfold ansP
  by_cases hg : gotL s = true
  · rw [if_pos hg]
    unfold gotL at hg
    rw [Bool.and_eq_true] at hg
    have ok := (good_is hg.2).1
    unfold okL inI at ok
    simp only [Bool.and_eq_true, decide_eq_true_eq] at ok
    have := ok.2
    omega
  · rw [if_neg hg]; simp
theorem own_rtS {h : AH} {i g lo : Nat} {L : List St} (e : h[i]? = some (.row g 4 (stR L))) (hl : lo ≤ i) : St.Rt h lo (slV i g L.length L.length) L := .inr ⟨i, g, L.length, [], rfl, by simpa using e, hl⟩
theorem an_got {H0 : AH} {s : Bs} {v : Value} {h' : AH} (q : GotQ H0 s v h') : Keep H0.length H0 h' ∧ ∃ gv, v = .tuple ⟨[gv, .bool (gotL s)]⟩ ∧ St.Rt h' H0.length gv (ansP s) := by
  obtain ⟨k, q⟩ := q
  unfold ansP
  rcases q with ⟨hg, i, g, rfl, e, hi⟩ | ⟨hg, rfl⟩
  · rw [hg, if_pos rfl]; exact ⟨k, _, rfl, own_rtS e hi⟩
  · rw [hg, if_neg (by simp)]; exact ⟨k, _, rfl, .inl ⟨rfl, rfl⟩⟩
theorem an_s (s : Bs) (hs : s.length ≤ 2 ^ 60) (l : Nat) (h : AH) (hl : l ≤ h.length) : ∃ gv h', run V0 (.fn 40) l [S (sV s)] h = some (.ret (.tuple ⟨[gv, .bool (gotL s)]⟩) h') ∧ Keep h.length h h' ∧ St.Rt h' h.length gv (ansP s) := by
  obtain ⟨v, h', e, q⟩ := r40 s hs l h hl
  obtain ⟨k, gv, rfl, t⟩ := an_got q
  exact ⟨gv, h', e, k, t⟩
theorem an_i (s : Bs) (hs : s.length ≤ 2 ^ 60) (l : Nat) (h : AH) (hl : l ≤ h.length) : ∃ gv h', run V0 (.fn 33) l [S (sV s)] h = some (.ret (.tuple ⟨[gv, .bool (gotL s)]⟩) h') ∧ Keep h.length h h' ∧ St.Rt h' h.length gv (ansP s) := by
  obtain ⟨v, h', e, q⟩ := r33 s hs l h hl
  obtain ⟨k, gv, rfl, t⟩ := an_got q
  exact ⟨gv, h', e, k, t⟩
theorem r11 (s : Bs) (l : Nat) (h : AH) (hl : l ≤ h.length) : ∃ h', run V0 (.fn 11) l [S (sV s)] h = some (.ret (.bool true) h') := by
  have hsz := size_B s
  by_cases hs : s.length ≤ 2 ^ 20
  · have hgt : decide ((1048576 : Int) < ((B s).size : Int)) = false := decide_eq_false (by omega)
    have h8 := ansP_len s
    have hbb : (gotL s == gotL s) = true := by simp
    obtain ⟨w, h1, a1, k1, t1⟩ := an_s s (by omega) l h hl
    have hk1 := k1.1
    obtain ⟨gv, h2, a2, k2, t2⟩ := an_i s (by omega) l h1 (by omega)
    have hk2 := k2.1
    obtain ⟨h3, a3, k3⟩ := r24t gv w l h1.length h.length (ansP s) (ansP s) h2 (by omega) t2 (t1.keep k2)
    rw [decide_eq_true rfl] at a3
    have hk3 := k3.1
    have t3 := t2.keep k3
    obtain ⟨h4, a4, t4, ix, hix, x4⟩ := r41 gv l h1.length 1 (ansP s) h3 t3 (by omega) (by omega) (by omega) (by omega)
    have hk4 := x4.1
    obtain ⟨h5, a5, k5⟩ := r42 gv l h1.length 1 (ansP s).length h4 t4 (by omega) (by omega) (by omega)
    have hk5 := k5.1
    have t5 := t4.keep k5
    have W5 : Keep h1.length h1 h5 := k2.trans ((k3.le hk2).trans ((Keep.ofKX x4 (by omega) (by omega)).trans (k5.le (by omega))))
    obtain ⟨gw, h6, a6, k6, t6⟩ := an_i s (by omega) l h5 (by omega)
    have hk6 := k6.1
    obtain ⟨h7, a7, k7⟩ := r24t gw w l h5.length h.length (ansP s) (ansP s) h6 (by omega) t6 ((t1.keep W5).keep k6)
    rw [decide_eq_true rfl] at a7
    obtain ⟨h8', a8, k8⟩ := r42 gv l h1.length 1 (ansP s).length h7 ((t5.keep k6).keep k7) (by omega) (by omega) (by omega)
    have hm0 : decide (((1 + 4 * (ansP s).length : Nat) : Int) < 0) = false := decide_eq_false (by omega)
    have hme : (((1 + 4 * (ansP s).length : Nat) : Int) != ((1 + 4 * (ansP s).length : Nat) : Int)) = false := by simp
    have c1 : ((1 : Nat) : Int) = 1 := rfl
    rw [c1] at a4 a5 a8
    refine ⟨h8', run_fn Try.func11 rfl rfl rfl rfl ?_⟩
    simp only [↓XX, ↓XD, ↓YX, ZB, Nat.reduceAdd, Nat.reducePow, ↓reduceIte, eq_self, Int.reduceEq, Nat.reduceEqDiff, Nat.reduceMul, Nat.reduceLeDiff, Try.f11, ↓op_extract, tupAt_mk, List.getElem?_cons_zero, List.getElem?_cons_succ, hgt, a1, a2, a3, hbb, a4, a5, hm0, hme, a6, a7, a8, Bool.not_true]
  · have hgt : decide ((1048576 : Int) < ((B s).size : Int)) = true := decide_eq_true (by omega)
    refine ⟨h, run_fn Try.func11 rfl rfl rfl rfl ?_⟩
    simp only [↓XX, ↓XD, ↓YX, ZB, Nat.reduceAdd, Nat.reducePow, ↓reduceIte, eq_self, Int.reduceEq, Nat.reduceEqDiff, Nat.reduceMul, Nat.reduceLeDiff, Try.f11, hgt]
theorem rz11 (va : Value) (s : Bs) (l : Nat) (h : AH) (e : va = sV s) (hl : l ≤ h.length) : ∃ h', run V0 (.fn 11) l [S va] h = some (.ret (.bool true) h') := by
  subst e
  exact r11 s l h hl
end Go.Abs
