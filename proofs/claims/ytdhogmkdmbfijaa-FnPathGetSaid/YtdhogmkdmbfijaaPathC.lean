/- What PathGet computes, in the program and in the reference, and that the law FnPathGet answers true. For every code; no condition. -/
import Derived.Test.YtdhogmkdmbfijaaPathB
namespace Go.Abs
open Go.Proofs
set_option linter.unusedSimpArgs false
/-! ### how the reference reads a path: plain -/
def nmB (b : UInt8) : Bool := nameI b.toNat || ((b.toNat : Int) == 42)
def cutA (s : Bs) (c : UInt8) : Bs := s.takeWhile fun b => b != c
def cutR (s : Bs) (c : UInt8) : Bs := s.dropWhile fun b => b != c
theorem cut_eq (s : Bs) (c : UInt8) : cutA s c ++ cutR s c = s := List.takeWhile_append_dropWhile
def cut1 (s : Bs) (c : UInt8) : List Bs := if cutR s c = [] then [s] else [cutA s c, (cutR s c).tail]
def stL (s t : Bs) : Bool := decide (t.length ≤ s.length) && decide (s.take t.length = t)
/-- where a step's name begins -/
def atN (s : Bs) : Nat := if stL s [47, 47] then 2 else 0
def nmS (s : Bs) : Bs := (s.drop (atN s)).takeWhile nmB
def afS (s : Bs) : Bs := (s.drop (atN s)).dropWhile nmB
def stepS (s : Bs) : St × Nat :=
  let x : St := ⟨stL s [47, 47], nmS s, [], []⟩
  let n := atN s + (nmS s).length
  bif (afS s).head? != some 91 then (x, n)
  else
    let t := (afS s).tail
    bif (cutR t 61).isEmpty then (⟨x.deep, x.name, t, []⟩, 0)
    else bif !stL (cutR t 61).tail [39] then (⟨x.deep, x.name, cutA t 61, []⟩, 0)
    else
      let u := ((cutR t 61).tail).drop 1
      bif (cutR u 39).isEmpty then (⟨x.deep, x.name, cutA t 61, u⟩, 0)
      else bif !stL (cutR u 39).tail [93] then (⟨x.deep, x.name, cutA t 61, cutA u 39⟩, 0)
      else (⟨x.deep, x.name, cutA t 61, cutA u 39⟩, n + (cutA t 61).length + (cutA u 39).length + 5)
def stripP (s : Bs) : Bs := if s.head? = some 47 ∧ s.tail ≠ [] ∧ s.tail.head? ≠ some 47 then s.tail else s
def getS : Nat → Bs → List St → Option (List St)
  | 0, _, out => some out
  | f + 1, s, out => if s = [] then some out else if (stepS s).2 = 0 then none else getS f (stripP (s.drop (stepS s).2)) (out ++ [(stepS s).1])
theorem nm_no {b : UInt8} (h : nmB b = true) : b ≠ 47 ∧ b ≠ 91 := by
  refine ⟨?_, ?_⟩ <;> rintro rfl <;> exact absurd h (by decide)
theorem take_at {p : UInt8 → Bool} : ∀ (d : Bs) (r : Bs), (∀ x ∈ d, p x = true) → (r = [] ∨ ∃ b t, r = b :: t ∧ p b = false) → (d ++ r).takeWhile p = d ∧ (d ++ r).dropWhile p = r
  | [], r, _, hr => by
    rcases hr with rfl | ⟨b, t, rfl, hb⟩
    · exact ⟨rfl, rfl⟩
    · simp [List.takeWhile, List.dropWhile, hb]
  | x :: d, r, h, hr => by
    have ih := take_at d r (fun y hy => h y (by simp [hy])) hr
    have hx := h x (by simp)
    simp only [List.cons_append, List.takeWhile, List.dropWhile, hx]
    exact ⟨by rw [ih.1], ih.2⟩
theorem st_nm {x : St} (h : stOkL x = true) : ∀ b ∈ x.name, nmB b = true := by
  unfold stOkL at h
  simp only [Bool.and_eq_true, Bool.or_eq_true, decide_eq_true_eq] at h
  intro b hb
  unfold nmB
  rcases h.1 with q | q
  · rw [q] at hb; simp at hb; subst hb; rfl
  · rw [name_all q b hb]; rfl
theorem sep_at (x : St) (N : Bs) (h0 : N ≠ []) (h : N.head? ≠ some 47) : stL (stSep 0 x ++ N) [47, 47] = x.deep ∧ (stSep 0 x ++ N).drop (atN (stSep 0 x ++ N)) = N ∧ atN (stSep 0 x ++ N) = (stSep 0 x).length := by
  obtain ⟨b, t, rfl⟩ : ∃ b t, N = b :: t := by cases N with | nil => exact absurd rfl h0 | cons b t => exact ⟨b, t, rfl⟩
  have hb : b ≠ 47 := by intro q; apply h; rw [List.head?_cons, q]
  have key : stL (stSep 0 x ++ b :: t) [47, 47] = x.deep := by
    unfold stSep stL
    cases hd : x.deep with
    | true => simp
    | false =>
      rw [if_neg (by simp), if_neg (by omega), List.nil_append]
      cases t with
      | nil => simp
      | cons c t => simp [hb]
  have hat : atN (stSep 0 x ++ b :: t) = (stSep 0 x).length := by
    unfold atN
    rw [key]
    unfold stSep
    cases x.deep <;> simp
  exact ⟨key, by rw [hat, List.drop_left' rfl], hat⟩
theorem cut_there (c : UInt8) (a r : Bs) (h : ∀ x ∈ a, x ≠ c) : cutA (a ++ c :: r) c = a ∧ cutR (a ++ c :: r) c = c :: r :=
  take_at a (c :: r) (fun x hx => by simp [h x hx]) (.inr ⟨c, r, rfl, by simp⟩)
theorem step_text (x : St) (ok : stOkL x = true) (rest : Bs) (hr : rest = [] ∨ ∃ r, rest = 47 :: r) : stepS (stText 0 x ++ rest) = (x, (stText 0 x).length) := by
  obtain ⟨hn, ns⟩ := st_name ok
  have hN : stText 0 x ++ rest = stSep 0 x ++ (x.name ++ (stTail x ++ rest)) := by unfold stText; simp [List.append_assoc]
  have h0 : x.name ++ (stTail x ++ rest) ≠ [] := by simp [hn]
  have hh : (x.name ++ (stTail x ++ rest)).head? ≠ some 47 := by
    cases hx : x.name with
    | nil => exact absurd hx hn
    | cons b t =>
      have := (ns b (by rw [hx]; simp)).1
      simp only [List.cons_append, List.head?_cons]
      intro q; injection q with q; exact this q
  obtain ⟨s1, s2, s3⟩ := sep_at x _ h0 hh
  have hlen : (stText 0 x).length = (stSep 0 x).length + x.name.length + (stTail x).length := by unfold stText; simp; omega
  rcases st_attr ok with ⟨q1, q2⟩ | ⟨q1, q2, q3⟩
  · have ht : stTail x = [] := by unfold stTail; rw [if_pos q1]
    have hw := take_at (p := nmB) x.name rest (st_nm ok) (by
      rcases hr with rfl | ⟨r, rfl⟩
      · exact .inl rfl
      · exact .inr ⟨47, r, rfl, by decide⟩)
    have e1 : nmS (stText 0 x ++ rest) = x.name := by unfold nmS; rw [hN, s2, ht, List.nil_append, hw.1]
    have e2 : afS (stText 0 x ++ rest) = rest := by unfold afS; rw [hN, s2, ht, List.nil_append, hw.2]
    have e3 : rest.head? ≠ some 91 := by rcases hr with rfl | ⟨r, rfl⟩ <;> simp
    have e4 : stL (stText 0 x ++ rest) [47, 47] = x.deep := by rw [hN]; exact s1
    have e5 : atN (stText 0 x ++ rest) = (stSep 0 x).length := by rw [hN]; exact s3
    unfold stepS
    simp only
    rw [e1, e2, show (rest.head? != some 91) = true by simpa using e3, cond_true, e4, e5, hlen, ht]
    cases x
    simp only at q1 q2
    subst q1 q2
    rfl
  · have ht : stTail x ++ rest = 91 :: (x.attr ++ 61 :: 39 :: (x.text ++ 39 :: 93 :: rest)) := by
      unfold stTail; rw [if_neg q1]; simp
    have htl : (stTail x).length = x.attr.length + x.text.length + 5 := by unfold stTail; rw [if_neg q1]; simp; omega
    have hw := take_at (p := nmB) x.name (stTail x ++ rest) (st_nm ok) (by rw [ht]; exact .inr ⟨91, _, rfl, by decide⟩)
    have e1 : nmS (stText 0 x ++ rest) = x.name := by unfold nmS; rw [hN, s2, hw.1]
    have e2 : afS (stText 0 x ++ rest) = 91 :: (x.attr ++ 61 :: 39 :: (x.text ++ 39 :: 93 :: rest)) := by unfold afS; rw [hN, s2, hw.2, ht]
    have e4 : stL (stText 0 x ++ rest) [47, 47] = x.deep := by rw [hN]; exact s1
    have e5 : atN (stText 0 x ++ rest) = (stSep 0 x).length := by rw [hN]; exact s3
    obtain ⟨c1, c2⟩ := cut_there 61 x.attr (39 :: (x.text ++ 39 :: 93 :: rest)) q2
    obtain ⟨c3, c4⟩ := cut_there 39 x.text (93 :: rest) q3
    unfold stepS
    simp only
    rw [e1, e2, e4, e5]
    simp only [List.head?_cons, bne_self_eq_false, cond_false, List.tail_cons]
    rw [c2, show (61 :: 39 :: (x.text ++ 39 :: 93 :: rest) : Bs).isEmpty = false from rfl, cond_false, List.tail_cons, show stL (39 :: (x.text ++ 39 :: 93 :: rest)) [39] = true by simp [stL], Bool.not_true, cond_false, List.drop_succ_cons, List.drop_zero, c4, show (39 :: 93 :: rest : Bs).isEmpty = false from rfl, cond_false, List.tail_cons, show stL (93 :: rest) [93] = true by simp [stL], Bool.not_true, cond_false, c1, c3, hlen, htl]
    congr 1
    omega
theorem path_pos : ∀ (r : List St) (i : Nat), pathL r (i + 1) = pathL r 1
  | [], i => rfl
  | x :: r, i => by
    rw [path_head, path_head, path_pos r (i + 1), path_pos r 1]
    have : stSep (i + 1) x = stSep 1 x := by unfold stSep; simp
    rw [this]
theorem strip_path (L : List St) (ok : ∀ x ∈ L, stOkL x = true) : stripP (pathL L 1) = pathL L 0 := by
  cases L with
  | nil => rfl
  | cons x r =>
    obtain ⟨hn, ns⟩ := st_name (ok x (by simp))
    rw [path_head, path_head, path_pos r 1, path_pos r 0]
    obtain ⟨b, t, hb⟩ : ∃ b t, x.name = b :: t := by
      cases hx : x.name with
      | nil => exact absurd hx hn
      | cons b t => exact ⟨b, t, rfl⟩
    have h47 := (ns b (by rw [hb]; simp)).1
    cases hd : x.deep with
    | true =>
      have h1 : stSep 1 x = [47, 47] := by unfold stSep; rw [hd]; rfl
      have h2 : stSep 0 x = [47, 47] := by unfold stSep; rw [hd]; rfl
      rw [h1, h2]
      unfold stripP
      rw [if_neg]
      rintro ⟨_, _, h⟩
      exact h rfl
    | false =>
      have h1 : stSep 1 x = [47] := by unfold stSep; rw [hd]; rfl
      have h2 : stSep 0 x = [] := by unfold stSep; rw [hd]; rfl
      rw [h1, h2, hb]
      unfold stripP
      rw [if_pos ⟨rfl, by simp, by simp [h47]⟩]
      rfl
theorem get_path : ∀ (L : List St) (f : Nat) (out : List St), (∀ x ∈ L, stOkL x = true) → L.length ≤ f → getS f (pathL L 0) out = some (out ++ L)
  | [], f, out, _, _ => by
    have : pathL [] 0 = [] := rfl
    rw [this, List.append_nil]
    cases f with
    | zero => rfl
    | succ f => rw [getS, if_pos rfl]
  | x :: L, f, out, ok, hf => by
    cases f with
    | zero => simp at hf
    | succ f =>
      have okx := ok x (by simp)
      obtain ⟨hn, _⟩ := st_name okx
      have hp : pathL (x :: L) 0 = stText 0 x ++ pathL L 1 := rfl
      have hpos : 0 < (stText 0 x).length := by
        have := List.length_pos_iff.2 hn
        unfold stText
        simp only [List.length_append]
        omega
      have hst := step_text x okx (pathL L 1) (path_slash L 0)
      rw [hp, getS, if_neg (by intro q; have := congrArg List.length q; rw [List.length_append, List.length_nil] at this; omega), hst, if_neg (by simp only; omega)]
      simp only
      rw [List.drop_left' rfl, strip_path L (fun y hy => ok y (by simp [hy])), get_path L f _ (fun y hy => ok y (by simp [hy])) (by simpa using hf)]
      simp
theorem stL_len {s t : Bs} (h : stL s t = true) : t.length ≤ s.length := by
  unfold stL at h
  rw [Bool.and_eq_true] at h
  exact of_decide_eq_true h.1
theorem at_le (s : Bs) : atN s + (nmS s).length + (afS s).length = s.length := by
  have h1 : atN s ≤ s.length := by
    unfold atN
    split
    · rename_i h; have := stL_len h; simpa using this
    · omega
  have h2 : nmS s ++ afS s = s.drop (atN s) := List.takeWhile_append_dropWhile
  have h3 := congrArg List.length h2
  rw [List.length_append, List.length_drop] at h3
  omega
theorem cut_sum (s : Bs) (c : UInt8) : (cutA s c).length + (cutR s c).length = s.length := by
  have := congrArg List.length (cut_eq s c)
  rwa [List.length_append] at this
theorem ne_len {s : Bs} (h : s.isEmpty = false) : 1 + s.tail.length = s.length := by
  cases s with
  | nil => cases h
  | cons b t => simp; omega
theorem step_le (s : Bs) : (stepS s).2 ≤ s.length := by
  have h1 := at_le s
  unfold stepS
  simp only
  cases q1 : ((afS s).head? != some 91) with
  | true => rw [cond_true]; simp only; omega
  | false =>
    rw [cond_false]
    have ha : 1 + (afS s).tail.length = (afS s).length := by
      refine ne_len ?_
      cases h : afS s with
      | nil => rw [h] at q1; cases q1
      | cons b t => rfl
    have c1 := cut_sum (afS s).tail 61
    cases q2 : (cutR (afS s).tail 61).isEmpty with
    | true => rw [cond_true]; exact Nat.zero_le _
    | false =>
      have n1 := ne_len q2
      rw [cond_false]
      cases q3 : stL (cutR (afS s).tail 61).tail [39] with
      | false => rw [Bool.not_false, cond_true]; exact Nat.zero_le _
      | true =>
        have l1 := stL_len q3
        rw [List.length_singleton] at l1
        have d1 : (((cutR (afS s).tail 61).tail).drop 1).length + 1 = (cutR (afS s).tail 61).tail.length := by rw [List.length_drop]; omega
        have c2 := cut_sum (((cutR (afS s).tail 61).tail).drop 1) 39
        rw [Bool.not_true, cond_false]
        cases q4 : (cutR (((cutR (afS s).tail 61).tail).drop 1) 39).isEmpty with
        | true => rw [cond_true]; exact Nat.zero_le _
        | false =>
          have n2 := ne_len q4
          rw [cond_false]
          cases q5 : stL (cutR (((cutR (afS s).tail 61).tail).drop 1) 39).tail [93] with
          | false => rw [Bool.not_false, cond_true]; exact Nat.zero_le _
          | true =>
            have l2 := stL_len q5
            rw [List.length_singleton] at l2
            rw [Bool.not_true, cond_false]
            simp only
            omega
end Go.Abs
namespace Go.Abs
open Go.Proofs
set_option maxRecDepth 100000
set_option linter.unusedSimpArgs false
set_option linter.unusedVariables false
set_option pp.maxSteps 20000
set_option pp.deepTerms true
theorem r129 (s t : Bs) (l : Nat) (h : AH) : run V0 (.fn 129) l [S (sV s), S (sV t)] h = some (.ret (.bool (stL s t)) h) := by
  have z1 := size_B s
  have z2 := size_B t
  refine run_fn Try.func129 rfl rfl rfl rfl ?_
  unfold stL
  by_cases hq : t.length ≤ s.length
  · have hlt : decide (((B t).size : Int) ≤ ((B s).size : Int)) = true := decide_eq_true (by omega)
    have hc : strCut (B s) 0 ((B t).size : Int) = some (B (s.take t.length)) := by rw [z2]; exact cut_to' s t.length hq
    have b1 := decB (s.take t.length) t
    simp only [↓XX, ↓XD, ↓YX, ZB, Nat.reduceAdd, Nat.reducePow, ↓reduceIte, eq_self, Int.reduceEq, Nat.reduceEqDiff, Nat.reduceMul, Nat.reduceLeDiff, Try.f129, hlt, hc, b1, decide_eq_true hq, Bool.true_and]
  · have hlt : decide (((B t).size : Int) ≤ ((B s).size : Int)) = false := decide_eq_false (by omega)
    simp only [↓XX, ↓XD, ↓YX, ZB, Nat.reduceAdd, Nat.reducePow, ↓reduceIte, eq_self, Int.reduceEq, Nat.reduceEqDiff, Nat.reduceMul, Nat.reduceLeDiff, Try.f129, hlt, decide_eq_false hq, Bool.false_and]
theorem Sl.app3 {lim : Nat} {h : AH} {id g g2 no nh : Nat} {os : List Bs} {cs ys : List Value} (y : Bs) (e : h[id]? = some (.row g 1 cs)) (e2 : h[nh]? = some (.row g2 1 ys)) (hc : cs = sL os) (hno : no = os.length) (hl : lim ≤ id) (hb : os.length ≤ 2 ^ 30) (hy : ys = [sV y]) :
    ∃ z, app lim h (slV id g no no) (slV nh g2 1 1) 1 1 16 = some z ∧ ∃ g', z = (slV id g' (no + 1) (no + 1), h.set id (.row g' 1 (sL (os ++ [y])))) := by
  subst hc hno hy
  obtain ⟨z, e1, g', rfl⟩ := okr_app (lim := lim) (id := id) (g := g) (tg := 1) (n := os.length) (k := 1) (by' := 16) (cs := sL os) (x := slV nh g2 1 1) (ds := [sV y]) (src_new (sz := 1) (tg := 1) e2 rfl) e (by rw [sL_len]; omega) hl (by omega)
  exact ⟨_, e1, g', by rw [sL_app]; rfl⟩
def CuQ (H0 : AH) (xs : List Bs) (v : Value) (h' : AH) : Prop := ∃ i g, v = slV i g xs.length xs.length ∧ h'[i]? = some (.row g 1 (sL xs)) ∧ Keep H0.length H0 h'
theorem cut_none {s : Bs} {c : UInt8} (h : ∀ x ∈ s, x ≠ c) : cut1 s c = [s] := by
  have := take_at (p := fun b => b != c) s [] (fun x hx => by simp [h x hx]) (.inl rfl)
  rw [List.append_nil] at this
  unfold cut1 cutR
  rw [this.2, if_pos rfl]
theorem cut_two {d r : Bs} {c : UInt8} (h : ∀ x ∈ d, x ≠ c) : cut1 (d ++ c :: r) c = [d, r] := by
  obtain ⟨h1, h2⟩ := cut_there c d r h
  unfold cut1
  rw [h1, h2, if_neg (by simp)]; rfl
/-- spec.l1Cut, at one place at most: its loop -/
theorem L131 (s : Bs) (c : UInt8) (hs : s.length ≤ 2 ^ 30) (l iO : Nat) (H0 : AH) (hl : l ≤ iO) (hi0 : H0.length ≤ iO) :
    ∀ (r d : Bs) (i : Int) (h : AH), d ++ r = s → i = d.length → (∀ x ∈ d, x ≠ c) → Keep H0.length H0 h → h[iO]? = some (.row 0 1 []) →
      Okr (CuQ H0 (cut1 s c)) (L131_0 l (sV s) (.int .u8 c.toNat) (iV 1) (slV iO 0 0 0) (iV 0) (iV i) h) := by
  have hsz := size_B s
  have h01 : decide (((0 : Nat) : Int) < 1) = true := rfl
  have h11 : decide (((1 : Nat) : Int) < 1) = false := rfl
  have h12 : decide (((0 + 1 : Nat) : Int) < 1) = false := rfl
  intro r
  induction r with
  | nil =>
    rintro d i h hd rfl hno k e
    rw [List.append_nil] at hd
    subst hd
    have hO := lt_of_get e
    have hlt : decide ((d.length : Int) < ((B d).size : Int)) = false := decide_eq_false (by omega)
    have hc : strCut (B d) 0 ((B d).size : Int) = some (B d) := by have := cut_from' d 0 (by omega); simpa using this
    rw [cut_none hno]
    refine okr_code Try.func131 rfl rfl ?_
    simp (dsimp := false) (disch := (first | (refine dS ?_; kernel_rfl) | (refine dM ?_; kernel_rfl) | (refine dO ?_; simp (disch := ((try simp only [ZL]) <;> omega)) only [ZK, ZL]; done) | (refine dK ?_; (repeat first | exact Keep.refl _ _ | exact Keep.app _ _ (Nat.le_refl _) | assumption | refine Keep.ap ?_ | refine Keep.st (by first | omega | (simp only [ZL]; omega)) ?_); done) | ((try simp only [ZL]) <;> omega) | fail)) only [XOB, ↓XXs, ↓XD, ↓YX, ZB, Nat.reduceAdd, Nat.reducePow, ↓reduceIte, eq_self, Int.reduceEq, Nat.reduceEqDiff, Nat.reduceMul, Nat.reduceLeDiff, Int.reduceBEq, Int.reduceLT, Try.f131, ↓XH2, XRN, ZC, ZE, ZH, eq_self, Nat.reduceLeDiff, Nat.reduceBEq, slV_new, reduceIte, ↓op_extract, tupAt_mk, lenV_sl, Bool.not_true, Bool.not_false, hlt, hc]
    refine okr_opt (Sl.app3 (os := []) d (by simp (disch := (first | (refine dS ?_; kernel_rfl) | (refine dM ?_; kernel_rfl) | (refine dO ?_; simp (disch := ((try simp only [ZL]) <;> omega)) only [ZK, ZL]; done) | (refine dK ?_; (repeat first | exact Keep.refl _ _ | exact Keep.app _ _ (Nat.le_refl _) | assumption | refine Keep.ap ?_ | refine Keep.st (by first | omega | (simp only [ZL]; omega)) ?_); done) | ((try simp only [ZL]) <;> omega) | fail)) only [↓XH2, XRN, ZC, ZE, ZH, eq_self, Nat.reduceLeDiff, Nat.reduceBEq, e]; rfl) (by simp (disch := (first | (refine dS ?_; kernel_rfl) | (refine dM ?_; kernel_rfl) | (refine dO ?_; simp (disch := ((try simp only [ZL]) <;> omega)) only [ZK, ZL]; done) | (refine dK ?_; (repeat first | exact Keep.refl _ _ | exact Keep.app _ _ (Nat.le_refl _) | assumption | refine Keep.ap ?_ | refine Keep.st (by first | omega | (simp only [ZL]; omega)) ?_); done) | ((try simp only [ZL]) <;> omega) | fail)) only [↓XH2, XRN, ZC, ZE, ZH, eq_self, Nat.reduceLeDiff, Nat.reduceBEq] <;> rfl) rfl rfl (by omega) (by simp) rfl) ?_
    rintro _ ⟨g4, rfl⟩
    simp (dsimp := false) (disch := (first | (refine dS ?_; kernel_rfl) | (refine dM ?_; kernel_rfl) | (refine dO ?_; simp (disch := ((try simp only [ZL]) <;> omega)) only [ZK, ZL]; done) | (refine dK ?_; (repeat first | exact Keep.refl _ _ | exact Keep.app _ _ (Nat.le_refl _) | assumption | refine Keep.ap ?_ | refine Keep.st (by first | omega | (simp only [ZL]; omega)) ?_); done) | ((try simp only [ZL]) <;> omega) | fail)) only [XOB, ↓XXs, ↓XD, ↓YX, ZB, Nat.reduceAdd, Nat.reducePow, ↓reduceIte, eq_self, Int.reduceEq, Nat.reduceEqDiff, Nat.reduceMul, Nat.reduceLeDiff, Int.reduceBEq, Int.reduceLT, Try.f131, ↓XH2, XRN, ZC, ZE, ZH, eq_self, Nat.reduceLeDiff, Nat.reduceBEq, slV_new, reduceIte, ↓op_extract, tupAt_mk, lenV_sl, Bool.not_true, Bool.not_false, hlt, hc]
    with_reducible refine Okr.ret ?_
    exact ⟨iO, g4, rfl, by simp (disch := (first | (refine dS ?_; kernel_rfl) | (refine dM ?_; kernel_rfl) | (refine dO ?_; simp (disch := ((try simp only [ZL]) <;> omega)) only [ZK, ZL]; done) | (refine dK ?_; (repeat first | exact Keep.refl _ _ | exact Keep.app _ _ (Nat.le_refl _) | assumption | refine Keep.ap ?_ | refine Keep.st (by first | omega | (simp only [ZL]; omega)) ?_); done) | ((try simp only [ZL]) <;> omega) | fail)) only [↓XH2, XRN, ZC, ZE, ZH, eq_self, Nat.reduceLeDiff, Nat.reduceBEq], k.trans ((Keep.set h iO _ hi0).trans (Keep.app _ _ (by have := k.1; simp; omega)))⟩
  | cons b r ih =>
    rintro d i h hd rfl hno k e
    have hO := lt_of_get e
    have hk := k.1
    have hll : d.length + r.length + 1 = s.length := by rw [← hd]; simp; omega
    have hlt : decide ((d.length : Int) < ((B s).size : Int)) = true := decide_eq_true (by omega)
    have hat : strAt (B s) (d.length : Int) = some (b.toNat : Int) := by rw [← hd]; exact strAt_mid d b r
    have hw : IntKind.i64.wrap ((d.length : Int) + 1) = ((d.length + 1 : Nat) : Int) := natCast_succ_wrap (by omega) rfl
    refine okr_code Try.func131 rfl rfl ?_
    by_cases hb : b = c
    · subst hb
      have hbb : ((b.toNat : Int) == (b.toNat : Int)) = true := by simp
      have hc : strCut (B s) 0 (d.length : Int) = some (B d) := by rw [cut_to' s d.length (by omega), ← hd, List.take_left' rfl]
      have hc2 : strCut (B s) ((d.length + 1 : Nat) : Int) ((B s).size : Int) = some (B r) := by
        rw [cut_from' s (d.length + 1) (by omega), ← hd, ← List.drop_drop, List.drop_left' rfl]; rfl
      rw [← hd, cut_two hno, hd]
      simp (dsimp := false) (disch := (first | (refine dS ?_; kernel_rfl) | (refine dM ?_; kernel_rfl) | (refine dO ?_; simp (disch := ((try simp only [ZL]) <;> omega)) only [ZK, ZL]; done) | (refine dK ?_; (repeat first | exact Keep.refl _ _ | exact Keep.app _ _ (Nat.le_refl _) | assumption | refine Keep.ap ?_ | refine Keep.st (by first | omega | (simp only [ZL]; omega)) ?_); done) | ((try simp only [ZL]) <;> omega) | fail)) only [XOB, ↓XXs, ↓XD, ↓YX, ZB, Nat.reduceAdd, Nat.reducePow, ↓reduceIte, eq_self, Int.reduceEq, Nat.reduceEqDiff, Nat.reduceMul, Nat.reduceLeDiff, Int.reduceBEq, Int.reduceLT, Try.f131, ↓XH2, XRN, ZC, ZE, ZH, eq_self, Nat.reduceLeDiff, Nat.reduceBEq, slV_new, reduceIte, ↓op_extract, tupAt_mk, lenV_sl, Bool.not_true, Bool.not_false, h01, hlt, hat, hw, hbb, hc]
      refine okr_opt (Sl.app3 (os := []) d (by simp (disch := (first | (refine dS ?_; kernel_rfl) | (refine dM ?_; kernel_rfl) | (refine dO ?_; simp (disch := ((try simp only [ZL]) <;> omega)) only [ZK, ZL]; done) | (refine dK ?_; (repeat first | exact Keep.refl _ _ | exact Keep.app _ _ (Nat.le_refl _) | assumption | refine Keep.ap ?_ | refine Keep.st (by first | omega | (simp only [ZL]; omega)) ?_); done) | ((try simp only [ZL]) <;> omega) | fail)) only [↓XH2, XRN, ZC, ZE, ZH, eq_self, Nat.reduceLeDiff, Nat.reduceBEq, e]; rfl) (by simp (disch := (first | (refine dS ?_; kernel_rfl) | (refine dM ?_; kernel_rfl) | (refine dO ?_; simp (disch := ((try simp only [ZL]) <;> omega)) only [ZK, ZL]; done) | (refine dK ?_; (repeat first | exact Keep.refl _ _ | exact Keep.app _ _ (Nat.le_refl _) | assumption | refine Keep.ap ?_ | refine Keep.st (by first | omega | (simp only [ZL]; omega)) ?_); done) | ((try simp only [ZL]) <;> omega) | fail)) only [↓XH2, XRN, ZC, ZE, ZH, eq_self, Nat.reduceLeDiff, Nat.reduceBEq] <;> rfl) rfl rfl (by omega) (by simp) rfl) ?_
      rintro _ ⟨g4, rfl⟩
      simp (dsimp := false) (disch := (first | (refine dS ?_; kernel_rfl) | (refine dM ?_; kernel_rfl) | (refine dO ?_; simp (disch := ((try simp only [ZL]) <;> omega)) only [ZK, ZL]; done) | (refine dK ?_; (repeat first | exact Keep.refl _ _ | exact Keep.app _ _ (Nat.le_refl _) | assumption | refine Keep.ap ?_ | refine Keep.st (by first | omega | (simp only [ZL]; omega)) ?_); done) | ((try simp only [ZL]) <;> omega) | fail)) only [XOB, ↓XXs, ↓XD, ↓YX, ZB, Nat.reduceAdd, Nat.reducePow, ↓reduceIte, eq_self, Int.reduceEq, Nat.reduceEqDiff, Nat.reduceMul, Nat.reduceLeDiff, Int.reduceBEq, Int.reduceLT, Try.f131, ↓XH2, XRN, ZC, ZE, ZH, eq_self, Nat.reduceLeDiff, Nat.reduceBEq, slV_new, reduceIte, ↓op_extract, tupAt_mk, lenV_sl, Bool.not_true, Bool.not_false, h01, hlt, hat, hw, hbb, hc]
      refine okr_code Try.func131 rfl rfl ?_
      cases q : decide (((d.length + 1 : Nat) : Int) < ((B s).size : Int)) with
      | true =>
        simp (dsimp := false) (disch := (first | (refine dS ?_; kernel_rfl) | (refine dM ?_; kernel_rfl) | (refine dO ?_; simp (disch := ((try simp only [ZL]) <;> omega)) only [ZK, ZL]; done) | (refine dK ?_; (repeat first | exact Keep.refl _ _ | exact Keep.app _ _ (Nat.le_refl _) | assumption | refine Keep.ap ?_ | refine Keep.st (by first | omega | (simp only [ZL]; omega)) ?_); done) | ((try simp only [ZL]) <;> omega) | fail)) only [XOB, ↓XXs, ↓XD, ↓YX, ZB, Nat.reduceAdd, Nat.reducePow, ↓reduceIte, eq_self, Int.reduceEq, Nat.reduceEqDiff, Nat.reduceMul, Nat.reduceLeDiff, Int.reduceBEq, Int.reduceLT, Try.f131, ↓XH2, XRN, ZC, ZE, ZH, eq_self, Nat.reduceLeDiff, Nat.reduceBEq, slV_new, reduceIte, ↓op_extract, tupAt_mk, lenV_sl, Bool.not_true, Bool.not_false, h11, h12, q, hc2]
        refine okr_opt (Sl.app3 (os := [d]) r (by simp (disch := (first | (refine dS ?_; kernel_rfl) | (refine dM ?_; kernel_rfl) | (refine dO ?_; simp (disch := ((try simp only [ZL]) <;> omega)) only [ZK, ZL]; done) | (refine dK ?_; (repeat first | exact Keep.refl _ _ | exact Keep.app _ _ (Nat.le_refl _) | assumption | refine Keep.ap ?_ | refine Keep.st (by first | omega | (simp only [ZL]; omega)) ?_); done) | ((try simp only [ZL]) <;> omega) | fail)) only [↓XH2, XRN, ZC, ZE, ZH, eq_self, Nat.reduceLeDiff, Nat.reduceBEq] <;> rfl) (by simp (disch := (first | (refine dS ?_; kernel_rfl) | (refine dM ?_; kernel_rfl) | (refine dO ?_; simp (disch := ((try simp only [ZL]) <;> omega)) only [ZK, ZL]; done) | (refine dK ?_; (repeat first | exact Keep.refl _ _ | exact Keep.app _ _ (Nat.le_refl _) | assumption | refine Keep.ap ?_ | refine Keep.st (by first | omega | (simp only [ZL]; omega)) ?_); done) | ((try simp only [ZL]) <;> omega) | fail)) only [↓XH2, XRN, ZC, ZE, ZH, eq_self, Nat.reduceLeDiff, Nat.reduceBEq] <;> rfl) rfl rfl (by omega) (by simp) rfl) ?_
        rintro _ ⟨g5, rfl⟩
        simp (dsimp := false) (disch := (first | (refine dS ?_; kernel_rfl) | (refine dM ?_; kernel_rfl) | (refine dO ?_; simp (disch := ((try simp only [ZL]) <;> omega)) only [ZK, ZL]; done) | (refine dK ?_; (repeat first | exact Keep.refl _ _ | exact Keep.app _ _ (Nat.le_refl _) | assumption | refine Keep.ap ?_ | refine Keep.st (by first | omega | (simp only [ZL]; omega)) ?_); done) | ((try simp only [ZL]) <;> omega) | fail)) only [XOB, ↓XXs, ↓XD, ↓YX, ZB, Nat.reduceAdd, Nat.reducePow, ↓reduceIte, eq_self, Int.reduceEq, Nat.reduceEqDiff, Nat.reduceMul, Nat.reduceLeDiff, Int.reduceBEq, Int.reduceLT, Try.f131, ↓XH2, XRN, ZC, ZE, ZH, eq_self, Nat.reduceLeDiff, Nat.reduceBEq, slV_new, reduceIte, ↓op_extract, tupAt_mk, lenV_sl, Bool.not_true, Bool.not_false, h11, h12, q, hc2]
        with_reducible refine Okr.ret ?_
        exact ⟨iO, g5, rfl, by simp (disch := (first | (refine dS ?_; kernel_rfl) | (refine dM ?_; kernel_rfl) | (refine dO ?_; simp (disch := ((try simp only [ZL]) <;> omega)) only [ZK, ZL]; done) | (refine dK ?_; (repeat first | exact Keep.refl _ _ | exact Keep.app _ _ (Nat.le_refl _) | assumption | refine Keep.ap ?_ | refine Keep.st (by first | omega | (simp only [ZL]; omega)) ?_); done) | ((try simp only [ZL]) <;> omega) | fail)) only [↓XH2, XRN, ZC, ZE, ZH, eq_self, Nat.reduceLeDiff, Nat.reduceBEq], k.trans ((Keep.set h iO _ hi0).trans (Keep.app _ _ (by simp; omega)))⟩
      | false =>
        simp (dsimp := false) (disch := (first | (refine dS ?_; kernel_rfl) | (refine dM ?_; kernel_rfl) | (refine dO ?_; simp (disch := ((try simp only [ZL]) <;> omega)) only [ZK, ZL]; done) | (refine dK ?_; (repeat first | exact Keep.refl _ _ | exact Keep.app _ _ (Nat.le_refl _) | assumption | refine Keep.ap ?_ | refine Keep.st (by first | omega | (simp only [ZL]; omega)) ?_); done) | ((try simp only [ZL]) <;> omega) | fail)) only [XOB, ↓XXs, ↓XD, ↓YX, ZB, Nat.reduceAdd, Nat.reducePow, ↓reduceIte, eq_self, Int.reduceEq, Nat.reduceEqDiff, Nat.reduceMul, Nat.reduceLeDiff, Int.reduceBEq, Int.reduceLT, Try.f131, ↓XH2, XRN, ZC, ZE, ZH, eq_self, Nat.reduceLeDiff, Nat.reduceBEq, slV_new, reduceIte, ↓op_extract, tupAt_mk, lenV_sl, Bool.not_true, Bool.not_false, h11, h12, q, hc2]
        refine okr_opt (Sl.app3 (os := [d]) r (by simp (disch := (first | (refine dS ?_; kernel_rfl) | (refine dM ?_; kernel_rfl) | (refine dO ?_; simp (disch := ((try simp only [ZL]) <;> omega)) only [ZK, ZL]; done) | (refine dK ?_; (repeat first | exact Keep.refl _ _ | exact Keep.app _ _ (Nat.le_refl _) | assumption | refine Keep.ap ?_ | refine Keep.st (by first | omega | (simp only [ZL]; omega)) ?_); done) | ((try simp only [ZL]) <;> omega) | fail)) only [↓XH2, XRN, ZC, ZE, ZH, eq_self, Nat.reduceLeDiff, Nat.reduceBEq] <;> rfl) (by simp (disch := (first | (refine dS ?_; kernel_rfl) | (refine dM ?_; kernel_rfl) | (refine dO ?_; simp (disch := ((try simp only [ZL]) <;> omega)) only [ZK, ZL]; done) | (refine dK ?_; (repeat first | exact Keep.refl _ _ | exact Keep.app _ _ (Nat.le_refl _) | assumption | refine Keep.ap ?_ | refine Keep.st (by first | omega | (simp only [ZL]; omega)) ?_); done) | ((try simp only [ZL]) <;> omega) | fail)) only [↓XH2, XRN, ZC, ZE, ZH, eq_self, Nat.reduceLeDiff, Nat.reduceBEq] <;> rfl) rfl rfl (by omega) (by simp) rfl) ?_
        rintro _ ⟨g5, rfl⟩
        simp (dsimp := false) (disch := (first | (refine dS ?_; kernel_rfl) | (refine dM ?_; kernel_rfl) | (refine dO ?_; simp (disch := ((try simp only [ZL]) <;> omega)) only [ZK, ZL]; done) | (refine dK ?_; (repeat first | exact Keep.refl _ _ | exact Keep.app _ _ (Nat.le_refl _) | assumption | refine Keep.ap ?_ | refine Keep.st (by first | omega | (simp only [ZL]; omega)) ?_); done) | ((try simp only [ZL]) <;> omega) | fail)) only [XOB, ↓XXs, ↓XD, ↓YX, ZB, Nat.reduceAdd, Nat.reducePow, ↓reduceIte, eq_self, Int.reduceEq, Nat.reduceEqDiff, Nat.reduceMul, Nat.reduceLeDiff, Int.reduceBEq, Int.reduceLT, Try.f131, ↓XH2, XRN, ZC, ZE, ZH, eq_self, Nat.reduceLeDiff, Nat.reduceBEq, slV_new, reduceIte, ↓op_extract, tupAt_mk, lenV_sl, Bool.not_true, Bool.not_false, h11, h12, q, hc2]
        with_reducible refine Okr.ret ?_
        exact ⟨iO, g5, rfl, by simp (disch := (first | (refine dS ?_; kernel_rfl) | (refine dM ?_; kernel_rfl) | (refine dO ?_; simp (disch := ((try simp only [ZL]) <;> omega)) only [ZK, ZL]; done) | (refine dK ?_; (repeat first | exact Keep.refl _ _ | exact Keep.app _ _ (Nat.le_refl _) | assumption | refine Keep.ap ?_ | refine Keep.st (by first | omega | (simp only [ZL]; omega)) ?_); done) | ((try simp only [ZL]) <;> omega) | fail)) only [↓XH2, XRN, ZC, ZE, ZH, eq_self, Nat.reduceLeDiff, Nat.reduceBEq], k.trans ((Keep.set h iO _ hi0).trans (Keep.app _ _ (by simp; omega)))⟩
    · have hbb : ((b.toNat : Int) == (c.toNat : Int)) = false := by
        rw [beq_eq_false_iff_ne]
        intro q
        exact hb (UInt8.toNat_inj.1 (by omega))
      simp (dsimp := false) (disch := (first | (refine dS ?_; kernel_rfl) | (refine dM ?_; kernel_rfl) | (refine dO ?_; simp (disch := ((try simp only [ZL]) <;> omega)) only [ZK, ZL]; done) | (refine dK ?_; (repeat first | exact Keep.refl _ _ | exact Keep.app _ _ (Nat.le_refl _) | assumption | refine Keep.ap ?_ | refine Keep.st (by first | omega | (simp only [ZL]; omega)) ?_); done) | ((try simp only [ZL]) <;> omega) | fail)) only [XOB, ↓XXs, ↓XD, ↓YX, ZB, Nat.reduceAdd, Nat.reducePow, ↓reduceIte, eq_self, Int.reduceEq, Nat.reduceEqDiff, Nat.reduceMul, Nat.reduceLeDiff, Int.reduceBEq, Int.reduceLT, Try.f131, ↓XH2, XRN, ZC, ZE, ZH, eq_self, Nat.reduceLeDiff, Nat.reduceBEq, slV_new, reduceIte, ↓op_extract, tupAt_mk, lenV_sl, Bool.not_true, Bool.not_false, h01, hlt, hat, hw, hbb]
      exact ih (d ++ [b]) ((d.length + 1 : Nat) : Int) h (by simp [hd]) (by simp) (fun x hx => by
        rcases List.mem_append.1 hx with hx | hx
        · exact hno x hx
        · rw [List.mem_singleton] at hx; subst hx; exact hb) k e
theorem r131 (s : Bs) (c : UInt8) (hs : s.length ≤ 2 ^ 30) (l : Nat) (h : AH) (hl : l ≤ h.length) : Okr (CuQ h (cut1 s c)) (run V0 (.fn 131) l [S (sV s), S (.int .u8 c.toNat), S (iV 1)] h) := by
  refine okr_fn Try.func131 rfl rfl rfl rfl ?_
  simp (dsimp := false) (disch := (first | (refine dS ?_; kernel_rfl) | (refine dM ?_; kernel_rfl) | (refine dO ?_; simp (disch := ((try simp only [ZL]) <;> omega)) only [ZK, ZL]; done) | (refine dK ?_; (repeat first | exact Keep.refl _ _ | exact Keep.app _ _ (Nat.le_refl _) | assumption | refine Keep.ap ?_ | refine Keep.st (by first | omega | (simp only [ZL]; omega)) ?_); done) | ((try simp only [ZL]) <;> omega) | fail)) only [XOB, ↓XXs, ↓XD, ↓YX, ZB, Nat.reduceAdd, Nat.reducePow, ↓reduceIte, eq_self, Int.reduceEq, Nat.reduceEqDiff, Nat.reduceMul, Nat.reduceLeDiff, Int.reduceBEq, Int.reduceLT, Try.f131, ↓XH2, XRN, ZC, ZE, ZH, eq_self, Nat.reduceLeDiff, Nat.reduceBEq, slV_new, reduceIte, ↓op_extract, tupAt_mk, lenV_sl, Bool.not_true, Bool.not_false]
  exact L131 s c hs l h.length h hl (Nat.le_refl _) s [] 0 _ rfl rfl (by simp) (Keep.app _ _ (Nat.le_refl _)) (by simp)
theorem cutS_mid (p d r : Bs) : strCut (B (p ++ (d ++ r))) (p.length : Int) ((p.length + d.length : Nat) : Int) = some (B d) := by
  rw [strCut_B _ _ _ (by omega) (by simp), ← List.append_assoc]
  congr 2
  rw [List.take_left' (by simp), List.drop_left' rfl]
/-- spec.l12Step: its loop goes on to the name's end -/
theorem L109n (s : Bs) (hs : s.length ≤ 2 ^ 30) (l : Nat) (v2 v4 v6 : Value) (h : AH) :
    ∀ (r d : Bs) (i : Int), d ++ r = s → i = d.length → ∀ P, Okr P (L109_0 l (sV s) v2 v4 (iV ((d.length + (r.takeWhile nmB).length : Nat) : Int)) v6 h) → Okr P (L109_0 l (sV s) v2 v4 (iV i) v6 h) := by
  have hsz := size_B s
  intro r
  induction r with
  | nil =>
    rintro d i hd rfl P o
    simpa using o
  | cons b r ih =>
    rintro d i hd rfl P o
    have hll : d.length + r.length + 1 = s.length := by rw [← hd]; simp; omega
    cases hb : nmB b with
    | false =>
      rw [List.takeWhile_cons, hb] at o
      simpa using o
    | true =>
      rw [List.takeWhile_cons, hb] at o
      have hlt : decide ((d.length : Int) < ((B s).size : Int)) = true := decide_eq_true (by omega)
      have hat : strAt (B s) (d.length : Int) = some (b.toNat : Int) := by rw [← hd]; exact strAt_mid d b r
      have hw : IntKind.i64.wrap ((d.length : Int) + 1) = ((d.length + 1 : Nat) : Int) := natCast_succ_wrap (by omega) rfl
      have a1 := r130 (b.toNat : Int) l h
      have i1 := ih (d ++ [b]) ((d.length + 1 : Nat) : Int) (by simp [hd]) (by simp) P (by
        have e : (d ++ [b]).length + (r.takeWhile nmB).length = d.length + (b :: r.takeWhile nmB).length := by simp; omega
        rw [e]; simpa using o)
      unfold nmB at hb
      refine okr_code Try.func109 rfl rfl ?_
      cases q : nameI (b.toNat : Int) with
      | true =>
        rw [q] at a1
        simp (dsimp := false) (disch := (first | (refine dS ?_; kernel_rfl) | (refine dM ?_; kernel_rfl) | (refine dO ?_; simp (disch := ((try simp only [ZL]) <;> omega)) only [ZK, ZL]; done) | (refine dK ?_; (repeat first | exact Keep.refl _ _ | exact Keep.app _ _ (Nat.le_refl _) | assumption | refine Keep.ap ?_ | refine Keep.st (by first | omega | (simp only [ZL]; omega)) ?_); done) | ((try simp only [ZL]) <;> omega) | fail)) only [XOB, ↓XXs, ↓XD, ↓YX, ZB, Nat.reduceAdd, Nat.reducePow, ↓reduceIte, eq_self, Int.reduceEq, Nat.reduceEqDiff, Nat.reduceMul, Nat.reduceLeDiff, Int.reduceBEq, Int.reduceLT, Try.f109, ↓XH2, XRN, ZC, ZE, ZH, eq_self, Nat.reduceLeDiff, Nat.reduceBEq, slV_new, reduceIte, ↓op_extract, tupAt_mk, lenV_sl, Bool.not_true, Bool.not_false, hlt, hat, hw, a1]
        exact i1
      | false =>
        rw [q, Bool.false_or] at hb
        rw [q] at a1
        simp (dsimp := false) (disch := (first | (refine dS ?_; kernel_rfl) | (refine dM ?_; kernel_rfl) | (refine dO ?_; simp (disch := ((try simp only [ZL]) <;> omega)) only [ZK, ZL]; done) | (refine dK ?_; (repeat first | exact Keep.refl _ _ | exact Keep.app _ _ (Nat.le_refl _) | assumption | refine Keep.ap ?_ | refine Keep.st (by first | omega | (simp only [ZL]; omega)) ?_); done) | ((try simp only [ZL]) <;> omega) | fail)) only [XOB, ↓XXs, ↓XD, ↓YX, ZB, Nat.reduceAdd, Nat.reducePow, ↓reduceIte, eq_self, Int.reduceEq, Nat.reduceEqDiff, Nat.reduceMul, Nat.reduceLeDiff, Int.reduceBEq, Int.reduceLT, Try.f109, ↓XH2, XRN, ZC, ZE, ZH, eq_self, Nat.reduceLeDiff, Nat.reduceBEq, slV_new, reduceIte, ↓op_extract, tupAt_mk, lenV_sl, Bool.not_true, Bool.not_false, hlt, hat, hw, a1, hb]
        exact i1
/-- what a step is: what is read, and how many bytes -/
def SpQ (H0 : AH) (s : Bs) (v : Value) (h' : AH) : Prop := v = .tuple ⟨[stV (stepS s).1, iV ((stepS s).2 : Int)]⟩ ∧ Keep H0.length H0 h'
theorem af_head (s : Bs) : (afS s = []) ∨ ∃ b t, afS s = b :: t ∧ nmB b = false := by
  unfold afS
  generalize s.drop (atN s) = r
  induction r with
  | nil => exact .inl rfl
  | cons b r ih =>
    rw [List.dropWhile_cons]
    cases hb : nmB b with
    | true => rw [if_pos rfl]; exact ih
    | false => rw [if_neg (by simp)]; exact .inr ⟨b, r, rfl, hb⟩
theorem r109 (s : Bs) (hs : s.length ≤ 2 ^ 20) (l : Nat) (h : AH) (hl : l ≤ h.length) : Okr (SpQ h s) (run V0 (.fn 109) l [S (sV s)] h) := by
  have hsz := size_B s
  have hle := at_le s
  have a0 := r129 s [47, 47] l
  have hcat : s.take (atN s) ++ (nmS s ++ afS s) = s := by
    have : nmS s ++ afS s = s.drop (atN s) := List.takeWhile_append_dropWhile
    rw [this, List.take_append_drop]
  have htk : (s.take (atN s)).length = atN s := by rw [List.length_take]; omega
  have hgo := fun v2 v4 (h : AH) P => L109n s (by omega) l v2 v4 (iV (atN s : Int)) h (s.drop (atN s)) (s.take (atN s)) (atN s : Int) (List.take_append_drop _ _) (by rw [htk]) P
  have hnm : ((s.drop (atN s)).takeWhile nmB).length = (nmS s).length := rfl
  rw [htk, hnm] at hgo
  have hcm : strCut (B s) (atN s : Int) ((atN s + (nmS s).length : Nat) : Int) = some (B (nmS s)) := by
    have := cutS_mid (s.take (atN s)) (nmS s) (afS s)
    rw [hcat, htk] at this
    exact this
  refine okr_fn Try.func109 rfl rfl rfl rfl ?_
  have main : ∀ (dp : Bool), stL s [47, 47] = dp → ∀ (h2 : AH), Keep h.length h h2 → h2[h.length + 1]? = some (.row 0 4 (stC ⟨dp, [], [], []⟩)) → h2[h.length]? = some (.row 0 4 (stC ⟨false, [], [], []⟩)) →
      Okr (SpQ h s) (L109_0 l (sV s) (pV h.length 0 0) (pV (h.length + 1) 0 0) (iV (atN s : Int)) (iV (atN s : Int)) h2) := by
    rintro dp hdp h2 k2 e2 e0
    refine hgo _ _ h2 _ ?_
    refine okr_code Try.func109 rfl rfl ?_
    have hk2 := k2.1
    have h01 := lt_of_get e2
    have hlh2 : l ≤ h2.length := by omega
    have hst0 : stL s [47, 47] = dp := hdp
    have h1d : s.drop (atN s + (nmS s).length) = afS s := by
      rw [← List.drop_drop, show s.drop (atN s) = nmS s ++ afS s from (List.takeWhile_append_dropWhile).symm, List.drop_left' rfl]
    have htl0 : (s.take (atN s) ++ nmS s).length = atN s + (nmS s).length := by rw [List.length_append, htk]
    generalize hA : atN s + (nmS s).length = A at *
    rcases af_head s with ha | ⟨b, t, ha, hb⟩
    · have hal : (afS s).length = 0 := by rw [ha]; rfl
      have hlt : decide (((A : Nat) : Int) < ((B s).size : Int)) = false := decide_eq_false (by omega)
      have heq : (((A : Nat) : Int) == ((B s).size : Int)) = true := by rw [beq_iff_eq]; omega
      have hst : stepS s = (⟨dp, nmS s, [], []⟩, A) := by
        rw [← hA]
        unfold stepS
        simp only
        rw [ha, hst0]; rfl
      unfold SpQ
      rw [hst]
      simp (dsimp := false) (disch := (first | (refine dS ?_; kernel_rfl) | (refine dM ?_; kernel_rfl) | (refine dO ?_; simp (disch := ((try simp only [ZL]) <;> omega)) only [ZK, ZL]; done) | (refine dK ?_; (repeat first | exact Keep.refl _ _ | exact Keep.app _ _ (Nat.le_refl _) | assumption | refine Keep.ap ?_ | refine Keep.st (by first | omega | (simp only [ZL]; omega)) ?_); done) | ((try simp only [ZL]) <;> omega) | fail)) only [XOB, ↓XXs, ↓XD, ↓YX, ZB, Nat.reduceAdd, Nat.reducePow, ↓reduceIte, eq_self, Int.reduceEq, Nat.reduceEqDiff, Nat.reduceMul, Nat.reduceLeDiff, Int.reduceBEq, Int.reduceLT, Try.f109, ↓XH2, XRN, ZC, ZE, ZH, eq_self, Nat.reduceLeDiff, Nat.reduceBEq, slV_new, reduceIte, ↓op_extract, tupAt_mk, lenV_sl, Bool.not_true, Bool.not_false, hlt, heq, hcm, e2, e0, h01, hlh2]
      with_reducible refine Okr.ret ?_
      refine ⟨rfl, k2.trans ?_⟩
      exact (Keep.set h2 _ _ (by omega)).trans (Keep.set _ _ _ (by omega))
    · have hal : (afS s).length = t.length + 1 := by rw [ha]; rfl
      have hlt : decide (((A : Nat) : Int) < ((B s).size : Int)) = true := decide_eq_true (by omega)
      have heq : (((A : Nat) : Int) == ((B s).size : Int)) = false := by rw [beq_eq_false_iff_ne]; omega
      have hat : strAt (B s) ((A : Nat) : Int) = some (b.toNat : Int) := by
        have := strAt_mid (s.take (atN s) ++ nmS s) b t
        rw [List.append_assoc, ← ha, hcat, htl0] at this
        exact this
      have a1 := r130 (b.toNat : Int) l h2
      have hb' := hb
      unfold nmB at hb'
      rw [Bool.or_eq_false_iff] at hb'
      rw [hb'.1] at a1
      have hb42 := hb'.2
      by_cases h91 : b = 91
      · subst h91
        have hne : (((91 : UInt8).toNat : Int) != 91) = false := rfl
        have htl : (afS s).tail = t := by rw [ha]; rfl
        have hh91 : ((afS s).head? != some 91) = false := by rw [ha]; rfl
        have hwA : IntKind.i64.wrap (((A : Nat) : Int) + 1) = ((A + 1 : Nat) : Int) := natCast_succ_wrap (by omega) rfl
        have hct : strCut (B s) ((A + 1 : Nat) : Int) ((B s).size : Int) = some (B t) := by
          rw [cut_from' s _ (by omega)]
          rw [← List.drop_drop, h1d, ha]; rfl
        simp (dsimp := false) (disch := (first | (refine dS ?_; kernel_rfl) | (refine dM ?_; kernel_rfl) | (refine dO ?_; simp (disch := ((try simp only [ZL]) <;> omega)) only [ZK, ZL]; done) | (refine dK ?_; (repeat first | exact Keep.refl _ _ | exact Keep.app _ _ (Nat.le_refl _) | assumption | refine Keep.ap ?_ | refine Keep.st (by first | omega | (simp only [ZL]; omega)) ?_); done) | ((try simp only [ZL]) <;> omega) | fail)) only [XOB, ↓XXs, ↓XD, ↓YX, ZB, Nat.reduceAdd, Nat.reducePow, ↓reduceIte, eq_self, Int.reduceEq, Nat.reduceEqDiff, Nat.reduceMul, Nat.reduceLeDiff, Int.reduceBEq, Int.reduceLT, Try.f109, ↓XH2, XRN, ZC, ZE, ZH, eq_self, Nat.reduceLeDiff, Nat.reduceBEq, slV_new, reduceIte, ↓op_extract, tupAt_mk, lenV_sl, Bool.not_true, Bool.not_false, hlt, heq, hat, a1, hb42, hne, hcm, e2, e0, h01, hlh2, hwA, hct]
        have kA : Keep h.length h (h2.set (h.length + 1) (.row 0 4 (stC ⟨dp, nmS s, [], []⟩))) := k2.trans (Keep.set _ _ _ (by omega))
        refine okr_call (r131 t 61 (by omega) l (h2.set (h.length + 1) (.row 0 4 (stC ⟨dp, nmS s, [], []⟩))) (by rw [List.length_set]; omega)) ?_
        rintro _ h3 ⟨iw, gw, rfl, e3, k3⟩
        have hk3 := k3.1
        rw [List.length_set] at hk3
        have eX3 : h3[h.length + 1]? = some (.row 0 4 (stC ⟨dp, nmS s, [], []⟩)) := k3.get (by simp (disch := (first | (refine dS ?_; kernel_rfl) | (refine dM ?_; kernel_rfl) | (refine dO ?_; simp (disch := ((try simp only [ZL]) <;> omega)) only [ZK, ZL]; done) | (refine dK ?_; (repeat first | exact Keep.refl _ _ | exact Keep.app _ _ (Nat.le_refl _) | assumption | refine Keep.ap ?_ | refine Keep.st (by first | omega | (simp only [ZL]; omega)) ?_); done) | ((try simp only [ZL]) <;> omega) | fail)) only [↓XH2, XRN, ZC, ZE, ZH, eq_self, Nat.reduceLeDiff, Nat.reduceBEq]) (by simp; omega)
        have eR3 : h3[h.length]? = some (.row 0 4 (stC ⟨false, [], [], []⟩)) := k3.get (by simp (disch := (first | (refine dS ?_; kernel_rfl) | (refine dM ?_; kernel_rfl) | (refine dO ?_; simp (disch := ((try simp only [ZL]) <;> omega)) only [ZK, ZL]; done) | (refine dK ?_; (repeat first | exact Keep.refl _ _ | exact Keep.app _ _ (Nat.le_refl _) | assumption | refine Keep.ap ?_ | refine Keep.st (by first | omega | (simp only [ZL]; omega)) ?_); done) | ((try simp only [ZL]) <;> omega) | fail)) only [↓XH2, XRN, ZC, ZE, ZH, eq_self, Nat.reduceLeDiff, Nat.reduceBEq, e0]) (by simp; omega)
        have kk3 : Keep h.length h h3 := kA.trans (k3.le (by simp; omega))
        have hX3 := lt_of_get eX3
        have hR3 := lt_of_get eR3
        have hw3 := lt_of_get e3
        have hlh3 : l ≤ h3.length := by omega
        have hwne : ¬ iw = h.length + 1 := by
          intro q
          rw [q, eX3] at e3
          injection e3 with e3; injection e3 with _ e4 _
          cases e4
        have hwne2 : ¬ iw = h.length := by
          intro q
          rw [q, eR3] at e3
          injection e3 with e3; injection e3 with _ e4 _
          cases e4
        have hc61 := cut_sum t 61
        unfold cut1 at e3 ⊢
        cases hcR : cutR t 61 with
        | nil =>
          rw [hcR, if_pos rfl] at e3
          rw [if_pos rfl]
          have hst : stepS s = (⟨dp, nmS s, t, []⟩, 0) := by
            unfold stepS
            simp only
            rw [hh91, cond_false, htl, hcR, hst0]; rfl
          unfold SpQ
          rw [hst]
          have hx0 : ixAddr (slV iw gw 1 1) 0 1 = some (pV iw 0 gw) := rfl
          have h12 : decide (((1 : Nat) : Int) < 2) = true := rfl
          have hs0 : (sL [t])[0]? = some (sV t) := rfl
          have hx1n : ixAddr (slV iw gw 1 1) 1 1 = none := rfl
          have hld : ∀ H, ld H (slV iw gw 1 1) = none := fun _ => rfl
          simp only [List.length_singleton]
          simp (dsimp := false) (disch := (first | (refine dS ?_; kernel_rfl) | (refine dM ?_; kernel_rfl) | (refine dO ?_; simp (disch := ((try simp only [ZL]) <;> omega)) only [ZK, ZL]; done) | (refine dK ?_; (repeat first | exact Keep.refl _ _ | exact Keep.app _ _ (Nat.le_refl _) | assumption | refine Keep.ap ?_ | refine Keep.st (by first | omega | (simp only [ZL]; omega)) ?_); done) | ((try simp only [ZL]) <;> omega) | fail)) only [XOB, ↓XXs, ↓XD, ↓YX, ZB, Nat.reduceAdd, Nat.reducePow, ↓reduceIte, eq_self, Int.reduceEq, Nat.reduceEqDiff, Nat.reduceMul, Nat.reduceLeDiff, Int.reduceBEq, Int.reduceLT, Try.f109, ↓XH2, XRN, ZC, ZE, ZH, eq_self, Nat.reduceLeDiff, Nat.reduceBEq, slV_new, reduceIte, ↓op_extract, tupAt_mk, lenV_sl, Bool.not_true, Bool.not_false, eX3, eR3, hX3, hR3, hw3, hlh3, hwne, hwne2, e3, hx0, h12, hs0, hx1n, hld]
          with_reducible refine Okr.ret ?_
          refine ⟨rfl, kk3.trans ?_⟩
          exact (Keep.set h3 _ _ (by omega)).trans (Keep.set _ _ _ (by omega))
        | cons c0 b1 =>
          rw [hcR, if_neg (by simp)] at e3
          rw [if_neg (by simp)]
          rw [hcR] at hc61
          simp only [List.length_cons, List.tail_cons] at hc61 e3 ⊢
          have hx0 : ixAddr (slV iw gw 2 2) 0 1 = some (pV iw 0 gw) := rfl
          have hx1 : ixAddr (slV iw gw 2 2) 1 1 = some (pV iw 1 gw) := rfl
          have h12 : decide (((2 : Nat) : Int) < 2) = false := rfl
          have hs0 : (sL [cutA t 61, b1])[0]? = some (sV (cutA t 61)) := rfl
          have hs1 : (sL [cutA t 61, b1])[1]? = some (sV b1) := rfl
          have a3 := r129 b1 [39] l
          simp only [List.length_nil, Nat.zero_add]
          cases hq1 : stL b1 [39] with
          | false =>
            rw [hq1] at a3
            have hst : stepS s = (⟨dp, nmS s, cutA t 61, []⟩, 0) := by
              unfold stepS
              simp only
              rw [hh91, cond_false, htl, hcR, hst0, List.isEmpty_cons, cond_false, List.tail_cons, hq1]; rfl
            unfold SpQ
            rw [hst]
            simp (dsimp := false) (disch := (first | (refine dS ?_; kernel_rfl) | (refine dM ?_; kernel_rfl) | (refine dO ?_; simp (disch := ((try simp only [ZL]) <;> omega)) only [ZK, ZL]; done) | (refine dK ?_; (repeat first | exact Keep.refl _ _ | exact Keep.app _ _ (Nat.le_refl _) | assumption | refine Keep.ap ?_ | refine Keep.st (by first | omega | (simp only [ZL]; omega)) ?_); done) | ((try simp only [ZL]) <;> omega) | fail)) only [XOB, ↓XXs, ↓XD, ↓YX, ZB, Nat.reduceAdd, Nat.reducePow, ↓reduceIte, eq_self, Int.reduceEq, Nat.reduceEqDiff, Nat.reduceMul, Nat.reduceLeDiff, Int.reduceBEq, Int.reduceLT, Try.f109, ↓XH2, XRN, ZC, ZE, ZH, eq_self, Nat.reduceLeDiff, Nat.reduceBEq, slV_new, reduceIte, ↓op_extract, tupAt_mk, lenV_sl, Bool.not_true, Bool.not_false, eX3, eR3, hX3, hR3, hw3, hlh3, hwne, hwne2, e3, hx0, hx1, h12, hs0, hs1, a3]
            with_reducible refine Okr.ret ?_
            refine ⟨rfl, kk3.trans ?_⟩
            exact (Keep.set h3 _ _ (by omega)).trans (Keep.set _ _ _ (by omega))
          | true =>
            rw [hq1] at a3
            have hl1 := stL_len hq1
            rw [List.length_singleton] at hl1
            have hc1 : strCut (B b1) 1 ((B b1).size : Int) = some (B (b1.drop 1)) := cut_from' b1 1 hl1
            simp (dsimp := false) (disch := (first | (refine dS ?_; kernel_rfl) | (refine dM ?_; kernel_rfl) | (refine dO ?_; simp (disch := ((try simp only [ZL]) <;> omega)) only [ZK, ZL]; done) | (refine dK ?_; (repeat first | exact Keep.refl _ _ | exact Keep.app _ _ (Nat.le_refl _) | assumption | refine Keep.ap ?_ | refine Keep.st (by first | omega | (simp only [ZL]; omega)) ?_); done) | ((try simp only [ZL]) <;> omega) | fail)) only [XOB, ↓XXs, ↓XD, ↓YX, ZB, Nat.reduceAdd, Nat.reducePow, ↓reduceIte, eq_self, Int.reduceEq, Nat.reduceEqDiff, Nat.reduceMul, Nat.reduceLeDiff, Int.reduceBEq, Int.reduceLT, Try.f109, ↓XH2, XRN, ZC, ZE, ZH, eq_self, Nat.reduceLeDiff, Nat.reduceBEq, slV_new, reduceIte, ↓op_extract, tupAt_mk, lenV_sl, Bool.not_true, Bool.not_false, eX3, eR3, hX3, hR3, hw3, hlh3, hwne, hwne2, e3, hx0, hx1, h12, hs0, hs1, a3, hc1]
            have hd1 : (b1.drop 1).length + 1 = b1.length := by rw [List.length_drop]; omega
            have kB : Keep h.length h (h3.set (h.length + 1) (.row 0 4 (stC ⟨dp, nmS s, cutA t 61, []⟩))) := kk3.trans (Keep.set _ _ _ (by omega))
            refine okr_call (r131 (b1.drop 1) 39 (by omega) l (h3.set (h.length + 1) (.row 0 4 (stC ⟨dp, nmS s, cutA t 61, []⟩))) (by rw [List.length_set]; omega)) ?_
            rintro _ h4 ⟨iv, gv, rfl, e4, k4⟩
            have hk4 := k4.1
            rw [List.length_set] at hk4
            have eX4 : h4[h.length + 1]? = some (.row 0 4 (stC ⟨dp, nmS s, cutA t 61, []⟩)) := k4.get (by simp (disch := (first | (refine dS ?_; kernel_rfl) | (refine dM ?_; kernel_rfl) | (refine dO ?_; simp (disch := ((try simp only [ZL]) <;> omega)) only [ZK, ZL]; done) | (refine dK ?_; (repeat first | exact Keep.refl _ _ | exact Keep.app _ _ (Nat.le_refl _) | assumption | refine Keep.ap ?_ | refine Keep.st (by first | omega | (simp only [ZL]; omega)) ?_); done) | ((try simp only [ZL]) <;> omega) | fail)) only [↓XH2, XRN, ZC, ZE, ZH, eq_self, Nat.reduceLeDiff, Nat.reduceBEq]) (by simp; omega)
            have eR4 : h4[h.length]? = some (.row 0 4 (stC ⟨false, [], [], []⟩)) := k4.get (by simp (disch := (first | (refine dS ?_; kernel_rfl) | (refine dM ?_; kernel_rfl) | (refine dO ?_; simp (disch := ((try simp only [ZL]) <;> omega)) only [ZK, ZL]; done) | (refine dK ?_; (repeat first | exact Keep.refl _ _ | exact Keep.app _ _ (Nat.le_refl _) | assumption | refine Keep.ap ?_ | refine Keep.st (by first | omega | (simp only [ZL]; omega)) ?_); done) | ((try simp only [ZL]) <;> omega) | fail)) only [↓XH2, XRN, ZC, ZE, ZH, eq_self, Nat.reduceLeDiff, Nat.reduceBEq, eR3]) (by simp; omega)
            have eW4 : h4[iw]? = some (.row gw 1 (sL [cutA t 61, b1])) := k4.get (by simp (disch := (first | (refine dS ?_; kernel_rfl) | (refine dM ?_; kernel_rfl) | (refine dO ?_; simp (disch := ((try simp only [ZL]) <;> omega)) only [ZK, ZL]; done) | (refine dK ?_; (repeat first | exact Keep.refl _ _ | exact Keep.app _ _ (Nat.le_refl _) | assumption | refine Keep.ap ?_ | refine Keep.st (by first | omega | (simp only [ZL]; omega)) ?_); done) | ((try simp only [ZL]) <;> omega) | fail)) only [↓XH2, XRN, ZC, ZE, ZH, eq_self, Nat.reduceLeDiff, Nat.reduceBEq, e3]) (by simp; omega)
            have kk4 : Keep h.length h h4 := kB.trans (k4.le (by simp; omega))
            have hX4 := lt_of_get eX4
            have hR4 := lt_of_get eR4
            have hv4 := lt_of_get e4
            have hw4 := lt_of_get eW4
            have hlh4 : l ≤ h4.length := by omega
            have hvne : ¬ iv = h.length + 1 := by
              intro q
              rw [q, eX4] at e4
              injection e4 with e4; injection e4 with _ e5 _
              cases e5
            have hvne2 : ¬ iv = h.length := by
              intro q
              rw [q, eR4] at e4
              injection e4 with e4; injection e4 with _ e5 _
              cases e5
            have hc39 := cut_sum (b1.drop 1) 39
            unfold cut1 at e4 ⊢
            cases hcV : cutR (b1.drop 1) 39 with
            | nil =>
              rw [hcV, if_pos rfl] at e4
              rw [if_pos rfl]
              have hst : stepS s = (⟨dp, nmS s, cutA t 61, b1.drop 1⟩, 0) := by
                unfold stepS
                simp only
                rw [hh91, cond_false, htl, hcR, hst0, List.isEmpty_cons, cond_false, List.tail_cons, hq1, Bool.not_true, cond_false, hcV]; rfl
              unfold SpQ
              rw [hst]
              have hy0 : ixAddr (slV iv gv 1 1) 0 1 = some (pV iv 0 gv) := rfl
              have h12v : decide (((1 : Nat) : Int) < 2) = true := rfl
              have ht0 : (sL [b1.drop 1])[0]? = some (sV (b1.drop 1)) := rfl
              have hy1n : ixAddr (slV iv gv 1 1) 1 1 = none := rfl
              have hld : ∀ H, ld H (slV iv gv 1 1) = none := fun _ => rfl
              simp only [List.length_singleton]
              simp (dsimp := false) (disch := (first | (refine dS ?_; kernel_rfl) | (refine dM ?_; kernel_rfl) | (refine dO ?_; simp (disch := ((try simp only [ZL]) <;> omega)) only [ZK, ZL]; done) | (refine dK ?_; (repeat first | exact Keep.refl _ _ | exact Keep.app _ _ (Nat.le_refl _) | assumption | refine Keep.ap ?_ | refine Keep.st (by first | omega | (simp only [ZL]; omega)) ?_); done) | ((try simp only [ZL]) <;> omega) | fail)) only [XOB, ↓XXs, ↓XD, ↓YX, ZB, Nat.reduceAdd, Nat.reducePow, ↓reduceIte, eq_self, Int.reduceEq, Nat.reduceEqDiff, Nat.reduceMul, Nat.reduceLeDiff, Int.reduceBEq, Int.reduceLT, Try.f109, ↓XH2, XRN, ZC, ZE, ZH, eq_self, Nat.reduceLeDiff, Nat.reduceBEq, slV_new, reduceIte, ↓op_extract, tupAt_mk, lenV_sl, Bool.not_true, Bool.not_false, eX4, eR4, eW4, hX4, hR4, hv4, hw4, hlh4, hvne, hvne2, hwne, hwne2, e4, hy0, h12v, ht0, hy1n, hld]
              with_reducible refine Okr.ret ?_
              refine ⟨rfl, kk4.trans ?_⟩
              exact (Keep.set h4 _ _ (by omega)).trans (Keep.set _ _ _ (by omega))
            | cons c1 b2 =>
              rw [hcV, if_neg (by simp)] at e4
              rw [if_neg (by simp)]
              rw [hcV] at hc39
              simp only [List.length_cons, List.tail_cons] at hc39 e4 ⊢
              have hy0 : ixAddr (slV iv gv 2 2) 0 1 = some (pV iv 0 gv) := rfl
              have hy1 : ixAddr (slV iv gv 2 2) 1 1 = some (pV iv 1 gv) := rfl
              have ht0 : (sL [cutA (b1.drop 1) 39, b2])[0]? = some (sV (cutA (b1.drop 1) 39)) := rfl
              have ht1 : (sL [cutA (b1.drop 1) 39, b2])[1]? = some (sV b2) := rfl
              have a4 := r129 b2 [93] l
              simp only [List.length_nil, Nat.zero_add]
              cases hq2 : stL b2 [93] with
              | false =>
                rw [hq2] at a4
                have hst : stepS s = (⟨dp, nmS s, cutA t 61, cutA (b1.drop 1) 39⟩, 0) := by
                  unfold stepS
                  simp only
                  rw [hh91, cond_false, htl, hcR, hst0, List.isEmpty_cons, cond_false, List.tail_cons, hq1, Bool.not_true, cond_false, hcV, List.isEmpty_cons, cond_false, List.tail_cons, hq2]; rfl
                unfold SpQ
                rw [hst]
                simp (dsimp := false) (disch := (first | (refine dS ?_; kernel_rfl) | (refine dM ?_; kernel_rfl) | (refine dO ?_; simp (disch := ((try simp only [ZL]) <;> omega)) only [ZK, ZL]; done) | (refine dK ?_; (repeat first | exact Keep.refl _ _ | exact Keep.app _ _ (Nat.le_refl _) | assumption | refine Keep.ap ?_ | refine Keep.st (by first | omega | (simp only [ZL]; omega)) ?_); done) | ((try simp only [ZL]) <;> omega) | fail)) only [XOB, ↓XXs, ↓XD, ↓YX, ZB, Nat.reduceAdd, Nat.reducePow, ↓reduceIte, eq_self, Int.reduceEq, Nat.reduceEqDiff, Nat.reduceMul, Nat.reduceLeDiff, Int.reduceBEq, Int.reduceLT, Try.f109, ↓XH2, XRN, ZC, ZE, ZH, eq_self, Nat.reduceLeDiff, Nat.reduceBEq, slV_new, reduceIte, ↓op_extract, tupAt_mk, lenV_sl, Bool.not_true, Bool.not_false, eX4, eR4, eW4, hX4, hR4, hv4, hw4, hlh4, hvne, hvne2, hwne, hwne2, e4, hy0, hy1, h12, ht0, ht1, a4]
                with_reducible refine Okr.ret ?_
                refine ⟨rfl, kk4.trans ?_⟩
                exact (Keep.set h4 _ _ (by omega)).trans (Keep.set _ _ _ (by omega))
              | true =>
                rw [hq2] at a4
                have hst : stepS s = (⟨dp, nmS s, cutA t 61, cutA (b1.drop 1) 39⟩, A + (cutA t 61).length + (cutA (b1.drop 1) 39).length + 5) := by
                  rw [← hA]
                  unfold stepS
                  simp only
                  rw [hh91, cond_false, htl, hcR, hst0, List.isEmpty_cons, cond_false, List.tail_cons, hq1, Bool.not_true, cond_false, hcV, List.isEmpty_cons, cond_false, List.tail_cons, hq2]; rfl
                have z1 := size_B (cutA t 61)
                have z2 := size_B (cutA (b1.drop 1) 39)
                have hw1 : IntKind.i64.wrap ((A : Int) + ((B (cutA t 61)).size : Int)) = ((A + (cutA t 61).length : Nat) : Int) := by rw [wrap64 (by omega)]; omega
                have hw2 : IntKind.i64.wrap (((A + (cutA t 61).length : Nat) : Int) + ((B (cutA (b1.drop 1) 39)).size : Int)) = ((A + (cutA t 61).length + (cutA (b1.drop 1) 39).length : Nat) : Int) := by rw [wrap64 (by omega)]; omega
                have hw3 : IntKind.i64.wrap (((A + (cutA t 61).length + (cutA (b1.drop 1) 39).length : Nat) : Int) + 5) = ((A + (cutA t 61).length + (cutA (b1.drop 1) 39).length + 5 : Nat) : Int) := by rw [wrap64 (by omega)]; omega
                generalize hA1 : A + (cutA t 61).length = A1 at *
                generalize hA2 : A1 + (cutA (b1.drop 1) 39).length = A2 at *
                generalize hA3 : A2 + 5 = A3 at *
                unfold SpQ
                rw [hst]
                simp (dsimp := false) (disch := (first | (refine dS ?_; kernel_rfl) | (refine dM ?_; kernel_rfl) | (refine dO ?_; simp (disch := ((try simp only [ZL]) <;> omega)) only [ZK, ZL]; done) | (refine dK ?_; (repeat first | exact Keep.refl _ _ | exact Keep.app _ _ (Nat.le_refl _) | assumption | refine Keep.ap ?_ | refine Keep.st (by first | omega | (simp only [ZL]; omega)) ?_); done) | ((try simp only [ZL]) <;> omega) | fail)) only [XOB, ↓XXs, ↓XD, ↓YX, ZB, Nat.reduceAdd, Nat.reducePow, ↓reduceIte, eq_self, Int.reduceEq, Nat.reduceEqDiff, Nat.reduceMul, Nat.reduceLeDiff, Int.reduceBEq, Int.reduceLT, Try.f109, ↓XH2, XRN, ZC, ZE, ZH, eq_self, Nat.reduceLeDiff, Nat.reduceBEq, slV_new, reduceIte, ↓op_extract, tupAt_mk, lenV_sl, Bool.not_true, Bool.not_false, eX4, eR4, eW4, hX4, hR4, hv4, hw4, hlh4, hvne, hvne2, hwne, hwne2, e4, hx0, hs0, hy0, hy1, h12, ht0, ht1, a4, hw1, hw2, hw3]
                with_reducible refine Okr.ret ?_
                refine ⟨rfl, kk4.trans ?_⟩
                exact (Keep.set h4 _ _ (by omega)).trans (Keep.set _ _ _ (by omega))
      · have hne : ((b.toNat : Int) != 91) = true := by
          rw [bne_iff_ne]
          intro q
          exact h91 (UInt8.toNat_inj.1 (by have : (91 : UInt8).toNat = 91 := rfl; omega))
        have hst : stepS s = (⟨dp, nmS s, [], []⟩, A) := by
          rw [← hA]
          unfold stepS
          simp only
          rw [ha, show ((b :: t : Bs).head? != some 91) = true by simpa using h91, cond_true, hst0]
        unfold SpQ
        rw [hst]
        simp (dsimp := false) (disch := (first | (refine dS ?_; kernel_rfl) | (refine dM ?_; kernel_rfl) | (refine dO ?_; simp (disch := ((try simp only [ZL]) <;> omega)) only [ZK, ZL]; done) | (refine dK ?_; (repeat first | exact Keep.refl _ _ | exact Keep.app _ _ (Nat.le_refl _) | assumption | refine Keep.ap ?_ | refine Keep.st (by first | omega | (simp only [ZL]; omega)) ?_); done) | ((try simp only [ZL]) <;> omega) | fail)) only [XOB, ↓XXs, ↓XD, ↓YX, ZB, Nat.reduceAdd, Nat.reducePow, ↓reduceIte, eq_self, Int.reduceEq, Nat.reduceEqDiff, Nat.reduceMul, Nat.reduceLeDiff, Int.reduceBEq, Int.reduceLT, Try.f109, ↓XH2, XRN, ZC, ZE, ZH, eq_self, Nat.reduceLeDiff, Nat.reduceBEq, slV_new, reduceIte, ↓op_extract, tupAt_mk, lenV_sl, Bool.not_true, Bool.not_false, hlt, heq, hat, a1, hb42, hne, hcm, e2, e0, h01, hlh2]
        with_reducible refine Okr.ret ?_
        refine ⟨rfl, k2.trans ?_⟩
        exact (Keep.set h2 _ _ (by omega)).trans (Keep.set _ _ _ (by omega))
  cases hdp : stL s [47, 47] with
  | true =>
    rw [hdp] at a0
    have hat2 : atN s = 2 := by unfold atN; rw [hdp]; rfl
    have := main true hdp
    rw [hat2] at this
    simp (dsimp := false) (disch := (first | (refine dS ?_; kernel_rfl) | (refine dM ?_; kernel_rfl) | (refine dO ?_; simp (disch := ((try simp only [ZL]) <;> omega)) only [ZK, ZL]; done) | (refine dK ?_; (repeat first | exact Keep.refl _ _ | exact Keep.app _ _ (Nat.le_refl _) | assumption | refine Keep.ap ?_ | refine Keep.st (by first | omega | (simp only [ZL]; omega)) ?_); done) | ((try simp only [ZL]) <;> omega) | fail)) only [XOB, ↓XXs, ↓XD, ↓YX, ZB, Nat.reduceAdd, Nat.reducePow, ↓reduceIte, eq_self, Int.reduceEq, Nat.reduceEqDiff, Nat.reduceMul, Nat.reduceLeDiff, Int.reduceBEq, Int.reduceLT, Try.f109, ↓XH2, XRN, ZC, ZE, ZH, eq_self, Nat.reduceLeDiff, Nat.reduceBEq, slV_new, reduceIte, ↓op_extract, tupAt_mk, lenV_sl, Bool.not_true, Bool.not_false, a0]
    exact this _ (Keep.app _ _ (Nat.le_refl _)) (by simp (disch := (first | (refine dS ?_; kernel_rfl) | (refine dM ?_; kernel_rfl) | (refine dO ?_; simp (disch := ((try simp only [ZL]) <;> omega)) only [ZK, ZL]; done) | (refine dK ?_; (repeat first | exact Keep.refl _ _ | exact Keep.app _ _ (Nat.le_refl _) | assumption | refine Keep.ap ?_ | refine Keep.st (by first | omega | (simp only [ZL]; omega)) ?_); done) | ((try simp only [ZL]) <;> omega) | fail)) only [↓XH2, XRN, ZC, ZE, ZH, eq_self, Nat.reduceLeDiff, Nat.reduceBEq] <;> rfl) (by simp (disch := (first | (refine dS ?_; kernel_rfl) | (refine dM ?_; kernel_rfl) | (refine dO ?_; simp (disch := ((try simp only [ZL]) <;> omega)) only [ZK, ZL]; done) | (refine dK ?_; (repeat first | exact Keep.refl _ _ | exact Keep.app _ _ (Nat.le_refl _) | assumption | refine Keep.ap ?_ | refine Keep.st (by first | omega | (simp only [ZL]; omega)) ?_); done) | ((try simp only [ZL]) <;> omega) | fail)) only [↓XH2, XRN, ZC, ZE, ZH, eq_self, Nat.reduceLeDiff, Nat.reduceBEq] <;> rfl)
  | false =>
    rw [hdp] at a0
    have hat0 : atN s = 0 := by unfold atN; rw [hdp]; rfl
    have := main false hdp
    rw [hat0] at this
    simp (dsimp := false) (disch := (first | (refine dS ?_; kernel_rfl) | (refine dM ?_; kernel_rfl) | (refine dO ?_; simp (disch := ((try simp only [ZL]) <;> omega)) only [ZK, ZL]; done) | (refine dK ?_; (repeat first | exact Keep.refl _ _ | exact Keep.app _ _ (Nat.le_refl _) | assumption | refine Keep.ap ?_ | refine Keep.st (by first | omega | (simp only [ZL]; omega)) ?_); done) | ((try simp only [ZL]) <;> omega) | fail)) only [XOB, ↓XXs, ↓XD, ↓YX, ZB, Nat.reduceAdd, Nat.reducePow, ↓reduceIte, eq_self, Int.reduceEq, Nat.reduceEqDiff, Nat.reduceMul, Nat.reduceLeDiff, Int.reduceBEq, Int.reduceLT, Try.f109, ↓XH2, XRN, ZC, ZE, ZH, eq_self, Nat.reduceLeDiff, Nat.reduceBEq, slV_new, reduceIte, ↓op_extract, tupAt_mk, lenV_sl, Bool.not_true, Bool.not_false, a0]
    exact this _ (Keep.app _ _ (Nat.le_refl _)) (by simp (disch := (first | (refine dS ?_; kernel_rfl) | (refine dM ?_; kernel_rfl) | (refine dO ?_; simp (disch := ((try simp only [ZL]) <;> omega)) only [ZK, ZL]; done) | (refine dK ?_; (repeat first | exact Keep.refl _ _ | exact Keep.app _ _ (Nat.le_refl _) | assumption | refine Keep.ap ?_ | refine Keep.st (by first | omega | (simp only [ZL]; omega)) ?_); done) | ((try simp only [ZL]) <;> omega) | fail)) only [↓XH2, XRN, ZC, ZE, ZH, eq_self, Nat.reduceLeDiff, Nat.reduceBEq] <;> rfl) (by simp (disch := (first | (refine dS ?_; kernel_rfl) | (refine dM ?_; kernel_rfl) | (refine dO ?_; simp (disch := ((try simp only [ZL]) <;> omega)) only [ZK, ZL]; done) | (refine dK ?_; (repeat first | exact Keep.refl _ _ | exact Keep.app _ _ (Nat.le_refl _) | assumption | refine Keep.ap ?_ | refine Keep.st (by first | omega | (simp only [ZL]; omega)) ?_); done) | ((try simp only [ZL]) <;> omega) | fail)) only [↓XH2, XRN, ZC, ZE, ZH, eq_self, Nat.reduceLeDiff, Nat.reduceBEq] <;> rfl)
end Go.Abs
namespace Go.Abs
open Go.Proofs
set_option maxRecDepth 100000
set_option linter.unusedSimpArgs false
set_option linter.unusedVariables false
set_option pp.maxSteps 20000
set_option pp.deepTerms true
theorem bcond_fst {α β : Type} (b : Bool) (x y : α × β) : (bif b then x else y).1 = bif b then x.1 else y.1 := by cases b <;> rfl
theorem step_fit (s : Bs) (hs : s.length ≤ 2 ^ 20) : Fit20 (stepS s).1 := by
  have h1 := at_le s
  have c1 := cut_sum (afS s).tail 61
  have ht : (afS s).tail.length ≤ (afS s).length := by rw [List.length_tail]; omega
  have c2 := cut_sum (((cutR (afS s).tail 61).tail).drop 1) 39
  have h3 : (((cutR (afS s).tail 61).tail).drop 1).length ≤ (cutR (afS s).tail 61).length := by rw [List.length_drop, List.length_tail]; omega
  unfold stepS
  simp only
  cases ((afS s).head? != some 91) with
  | true => rw [cond_true]; exact ⟨by simp only; omega, by simp, by simp⟩
  | false =>
    rw [cond_false]
    cases (cutR (afS s).tail 61).isEmpty with
    | true => rw [cond_true]; exact ⟨by simp only; omega, by simp only; omega, by simp⟩
    | false =>
      rw [cond_false]
      cases stL (cutR (afS s).tail 61).tail [39] with
      | false => rw [Bool.not_false, cond_true]; exact ⟨by simp only; omega, by simp only; omega, by simp⟩
      | true =>
        rw [Bool.not_true, cond_false]
        cases (cutR (((cutR (afS s).tail 61).tail).drop 1) 39).isEmpty with
        | true => rw [cond_true]; exact ⟨by simp only; omega, by simp only; omega, by simp only; omega⟩
        | false =>
          rw [cond_false]
          cases stL (cutR (((cutR (afS s).tail 61).tail).drop 1) 39).tail [93] with
          | false => rw [Bool.not_false, cond_true]; exact ⟨by simp only; omega, by simp only; omega, by simp only; omega⟩
          | true => rw [Bool.not_true, cond_false]; exact ⟨by simp only; omega, by simp only; omega, by simp only; omega⟩
theorem strip_len (s : Bs) : (stripP s).length ≤ s.length := by
  unfold stripP
  split
  · rw [List.length_tail]; omega
  · exact Nat.le_refl _
/-- what spec.l12Get leaves -/
def GsQ (H0 : AH) (o : Option (List St)) (v : Value) (h' : AH) : Prop :=
  Keep H0.length H0 h' ∧ ((o = none ∧ v = .tuple ⟨[.slice none 0 0, .bool false]⟩) ∨ ∃ L, o = some L ∧ (∀ x ∈ L, Fit20 x) ∧ L.length ≤ 2 ^ 20 ∧ ∃ i g, v = .tuple ⟨[slV i g L.length L.length, .bool true]⟩ ∧ h'[i]? = some (.row g 4 (stR L)) ∧ H0.length ≤ i)
theorem L78e (l : Nat) (H0 : AH) (out : List St) (ho : out.length ≤ 2 ^ 20) (fo : ∀ x ∈ out, Fit20 x) (iO gO no : Nat) (h : AH) (k : Keep H0.length H0 h) (hiO : H0.length ≤ iO) (eO : h[iO]? = some (.row gO 4 (stR out))) (hno : no = out.length) :
    Okr (GsQ H0 (some out)) (L78_0 l (sV []) (slV iO gO no no) h) := by
  subst hno
  have hz : decide ((0 : Int) < ((B []).size : Int)) = false := rfl
  refine okr_code Try.func78 rfl rfl ?_
  simp (dsimp := false) (disch := (first | (refine dS ?_; kernel_rfl) | (refine dM ?_; kernel_rfl) | (refine dO ?_; simp (disch := ((try simp only [ZL]) <;> omega)) only [ZK, ZL]; done) | (refine dK ?_; (repeat first | exact Keep.refl _ _ | exact Keep.app _ _ (Nat.le_refl _) | assumption | refine Keep.ap ?_ | refine Keep.st (by first | omega | (simp only [ZL]; omega)) ?_); done) | ((try simp only [ZL]) <;> omega) | fail)) only [XOB, ↓XXs, ↓XD, ↓YX, ZB, Nat.reduceAdd, Nat.reducePow, ↓reduceIte, eq_self, Int.reduceEq, Nat.reduceEqDiff, Nat.reduceMul, Nat.reduceLeDiff, Int.reduceBEq, Int.reduceLT, Try.f78, ↓XH2, XRN, ZC, ZE, ZH, eq_self, Nat.reduceLeDiff, Nat.reduceBEq, slV_new, reduceIte, ↓op_extract, tupAt_mk, lenV_sl, Bool.not_true, Bool.not_false, hz]
  with_reducible refine Okr.ret ?_
  exact ⟨k, .inr ⟨out, rfl, fo, ho, iO, gO, rfl, eO, hiO⟩⟩
theorem L78 (l : Nat) (H0 : AH) (hl : l ≤ H0.length) :
    ∀ (f : Nat) (r : Bs) (out : List St), r.length ≤ f → r.length ≤ 2 ^ 20 → out.length + r.length ≤ 2 ^ 20 → (∀ x ∈ out, Fit20 x) → ∀ (iO gO no : Nat) (h : AH), Keep H0.length H0 h → H0.length ≤ iO → h[iO]? = some (.row gO 4 (stR out)) → no = out.length →
      Okr (GsQ H0 (getS f r out)) (L78_0 l (sV r) (slV iO gO no no) h) := by
  intro f
  induction f with
  | zero =>
    rintro r out hr hr2 ho fo iO gO no h k hiO eO hno
    obtain rfl : r = [] := List.length_eq_zero_iff.1 (by omega)
    exact L78e l H0 out (by omega) fo iO gO no h k hiO eO hno
  | succ f ih =>
    rintro r out hr hr2 ho fo iO gO no h k hiO eO hno
    by_cases hz : r = []
    · subst hz
      have : getS (f + 1) [] out = some out := by rw [getS, if_pos rfl]
      rw [this]
      exact L78e l H0 out (by omega) fo iO gO no h k hiO eO hno
    · subst hno
      have hk := k.1
      have hO := lt_of_get eO
      have hlh : l ≤ h.length := by omega
      have hsz := size_B r
      have hpos : 0 < r.length := List.length_pos_iff.2 hz
      have hgt : decide ((0 : Int) < ((B r).size : Int)) = true := decide_eq_true (by omega)
      have hle := step_le r
      have hfx := step_fit r hr2
      have hge : getS (f + 1) r out = if (stepS r).2 = 0 then none else getS f (stripP (r.drop (stepS r).2)) (out ++ [(stepS r).1]) := by rw [getS, if_neg hz]
      rw [hge]
      refine okr_code Try.func78 rfl rfl ?_
      simp (dsimp := false) (disch := (first | (refine dS ?_; kernel_rfl) | (refine dM ?_; kernel_rfl) | (refine dO ?_; simp (disch := ((try simp only [ZL]) <;> omega)) only [ZK, ZL]; done) | (refine dK ?_; (repeat first | exact Keep.refl _ _ | exact Keep.app _ _ (Nat.le_refl _) | assumption | refine Keep.ap ?_ | refine Keep.st (by first | omega | (simp only [ZL]; omega)) ?_); done) | ((try simp only [ZL]) <;> omega) | fail)) only [XOB, ↓XXs, ↓XD, ↓YX, ZB, Nat.reduceAdd, Nat.reducePow, ↓reduceIte, eq_self, Int.reduceEq, Nat.reduceEqDiff, Nat.reduceMul, Nat.reduceLeDiff, Int.reduceBEq, Int.reduceLT, Try.f78, ↓XH2, XRN, ZC, ZE, ZH, eq_self, Nat.reduceLeDiff, Nat.reduceBEq, slV_new, reduceIte, ↓op_extract, tupAt_mk, lenV_sl, Bool.not_true, Bool.not_false, hgt]
      refine okr_call (r109 r hr2 l h hlh) ?_
      rintro _ h1 ⟨rfl, k1⟩
      have hk1 := k1.1
      have eO1 := k1.get eO hO
      have hO1 := lt_of_get eO1
      have hlh1 : l ≤ h1.length := by omega
      by_cases hn : (stepS r).2 = 0
      · rw [if_pos hn]
        have heq : (((stepS r).2 : Int) == 0) = true := by rw [hn]; rfl
        simp (dsimp := false) (disch := (first | (refine dS ?_; kernel_rfl) | (refine dM ?_; kernel_rfl) | (refine dO ?_; simp (disch := ((try simp only [ZL]) <;> omega)) only [ZK, ZL]; done) | (refine dK ?_; (repeat first | exact Keep.refl _ _ | exact Keep.app _ _ (Nat.le_refl _) | assumption | refine Keep.ap ?_ | refine Keep.st (by first | omega | (simp only [ZL]; omega)) ?_); done) | ((try simp only [ZL]) <;> omega) | fail)) only [XOB, ↓XXs, ↓XD, ↓YX, ZB, Nat.reduceAdd, Nat.reducePow, ↓reduceIte, eq_self, Int.reduceEq, Nat.reduceEqDiff, Nat.reduceMul, Nat.reduceLeDiff, Int.reduceBEq, Int.reduceLT, Try.f78, ↓XH2, XRN, ZC, ZE, ZH, eq_self, Nat.reduceLeDiff, Nat.reduceBEq, slV_new, reduceIte, ↓op_extract, tupAt_mk, lenV_sl, Bool.not_true, Bool.not_false, hgt, heq, hlh1]
        with_reducible refine Okr.ret ?_
        exact ⟨k.trans ((k1.le hk).trans (Keep.app _ _ (by omega))), .inl ⟨rfl, rfl⟩⟩
      · rw [if_neg hn]
        have heq : (((stepS r).2 : Int) == 0) = false := by rw [beq_eq_false_iff_ne]; omega
        have hcf := cut_from' r (stepS r).2 hle
        have hdl : (r.drop (stepS r).2).length + (stepS r).2 = r.length := by rw [List.length_drop]; omega
        generalize hN : (stepS r).2 = N at *
        generalize hX : (stepS r).1 = x at *
        simp (dsimp := false) (disch := (first | (refine dS ?_; kernel_rfl) | (refine dM ?_; kernel_rfl) | (refine dO ?_; simp (disch := ((try simp only [ZL]) <;> omega)) only [ZK, ZL]; done) | (refine dK ?_; (repeat first | exact Keep.refl _ _ | exact Keep.app _ _ (Nat.le_refl _) | assumption | refine Keep.ap ?_ | refine Keep.st (by first | omega | (simp only [ZL]; omega)) ?_); done) | ((try simp only [ZL]) <;> omega) | fail)) only [XOB, ↓XXs, ↓XD, ↓YX, ZB, Nat.reduceAdd, Nat.reducePow, ↓reduceIte, eq_self, Int.reduceEq, Nat.reduceEqDiff, Nat.reduceMul, Nat.reduceLeDiff, Int.reduceBEq, Int.reduceLT, Try.f78, ↓XH2, XRN, ZC, ZE, ZH, eq_self, Nat.reduceLeDiff, Nat.reduceBEq, slV_new, reduceIte, ↓op_extract, tupAt_mk, lenV_sl, Bool.not_true, Bool.not_false, hgt, heq, hlh1, hcf]
        refine okr_opt (St.app3 (os := out) x (by simp (disch := (first | (refine dS ?_; kernel_rfl) | (refine dM ?_; kernel_rfl) | (refine dO ?_; simp (disch := ((try simp only [ZL]) <;> omega)) only [ZK, ZL]; done) | (refine dK ?_; (repeat first | exact Keep.refl _ _ | exact Keep.app _ _ (Nat.le_refl _) | assumption | refine Keep.ap ?_ | refine Keep.st (by first | omega | (simp only [ZL]; omega)) ?_); done) | ((try simp only [ZL]) <;> omega) | fail)) only [↓XH2, XRN, ZC, ZE, ZH, eq_self, Nat.reduceLeDiff, Nat.reduceBEq, eO1]) (by simp (disch := (first | (refine dS ?_; kernel_rfl) | (refine dM ?_; kernel_rfl) | (refine dO ?_; simp (disch := ((try simp only [ZL]) <;> omega)) only [ZK, ZL]; done) | (refine dK ?_; (repeat first | exact Keep.refl _ _ | exact Keep.app _ _ (Nat.le_refl _) | assumption | refine Keep.ap ?_ | refine Keep.st (by first | omega | (simp only [ZL]; omega)) ?_); done) | ((try simp only [ZL]) <;> omega) | fail)) only [↓XH2, XRN, ZC, ZE, ZH, eq_self, Nat.reduceLeDiff, Nat.reduceBEq] <;> rfl) rfl rfl (by omega) (by omega) rfl) ?_
        rintro _ ⟨g4, rfl⟩
        have kk : Keep H0.length H0 (h1.set iO (.row g4 4 (stR (out ++ [x]))) ++ [AObj.row 0 4 (stC x), AObj.row 0 4 (stC x)]) := k.trans ((k1.le hk).trans ((Keep.set h1 iO _ hiO).trans (Keep.app _ _ (by simp; omega))))
        have fo' : ∀ y ∈ out ++ [x], Fit20 y := fun y hy => by
          rcases List.mem_append.1 hy with hy | hy
          · exact fo y hy
          · rw [List.mem_singleton] at hy; subst hy; exact hfx
        generalize hR : r.drop N = r2 at *
        have hs2 := size_B r2
        rcases r2 with _ | ⟨b, _ | ⟨c, t⟩⟩
        · have h1lt : decide ((1 : Int) < ((B []).size : Int)) = false := rfl
          simp (dsimp := false) (disch := (first | (refine dS ?_; kernel_rfl) | (refine dM ?_; kernel_rfl) | (refine dO ?_; simp (disch := ((try simp only [ZL]) <;> omega)) only [ZK, ZL]; done) | (refine dK ?_; (repeat first | exact Keep.refl _ _ | exact Keep.app _ _ (Nat.le_refl _) | assumption | refine Keep.ap ?_ | refine Keep.st (by first | omega | (simp only [ZL]; omega)) ?_); done) | ((try simp only [ZL]) <;> omega) | fail)) only [XOB, ↓XXs, ↓XD, ↓YX, ZB, Nat.reduceAdd, Nat.reducePow, ↓reduceIte, eq_self, Int.reduceEq, Nat.reduceEqDiff, Nat.reduceMul, Nat.reduceLeDiff, Int.reduceBEq, Int.reduceLT, Try.f78, ↓XH2, XRN, ZC, ZE, ZH, eq_self, Nat.reduceLeDiff, Nat.reduceBEq, slV_new, reduceIte, ↓op_extract, tupAt_mk, lenV_sl, Bool.not_true, Bool.not_false, h1lt]
          exact ih (stripP []) (out ++ [x]) (by simp [stripP]) (by simp [stripP]) (by simp [stripP]; omega) fo' iO g4 _ _ kk hiO (by simp (disch := (first | (refine dS ?_; kernel_rfl) | (refine dM ?_; kernel_rfl) | (refine dO ?_; simp (disch := ((try simp only [ZL]) <;> omega)) only [ZK, ZL]; done) | (refine dK ?_; (repeat first | exact Keep.refl _ _ | exact Keep.app _ _ (Nat.le_refl _) | assumption | refine Keep.ap ?_ | refine Keep.st (by first | omega | (simp only [ZL]; omega)) ?_); done) | ((try simp only [ZL]) <;> omega) | fail)) only [↓XH2, XRN, ZC, ZE, ZH, eq_self, Nat.reduceLeDiff, Nat.reduceBEq]) (by simp)
        · have h1lt : decide ((1 : Int) < ((B [b]).size : Int)) = false := decide_eq_false (by rw [size_B]; simp)
          have hsp : stripP [b] = [b] := by unfold stripP; rw [if_neg]; rintro ⟨_, q, _⟩; exact q rfl
          rw [hsp]
          simp only [List.length_singleton] at hdl
          simp (dsimp := false) (disch := (first | (refine dS ?_; kernel_rfl) | (refine dM ?_; kernel_rfl) | (refine dO ?_; simp (disch := ((try simp only [ZL]) <;> omega)) only [ZK, ZL]; done) | (refine dK ?_; (repeat first | exact Keep.refl _ _ | exact Keep.app _ _ (Nat.le_refl _) | assumption | refine Keep.ap ?_ | refine Keep.st (by first | omega | (simp only [ZL]; omega)) ?_); done) | ((try simp only [ZL]) <;> omega) | fail)) only [XOB, ↓XXs, ↓XD, ↓YX, ZB, Nat.reduceAdd, Nat.reducePow, ↓reduceIte, eq_self, Int.reduceEq, Nat.reduceEqDiff, Nat.reduceMul, Nat.reduceLeDiff, Int.reduceBEq, Int.reduceLT, Try.f78, ↓XH2, XRN, ZC, ZE, ZH, eq_self, Nat.reduceLeDiff, Nat.reduceBEq, slV_new, reduceIte, ↓op_extract, tupAt_mk, lenV_sl, Bool.not_true, Bool.not_false, h1lt]
          exact ih [b] (out ++ [x]) (by simp; omega) (by simp) (by simp; omega) fo' iO g4 _ _ kk hiO (by simp (disch := (first | (refine dS ?_; kernel_rfl) | (refine dM ?_; kernel_rfl) | (refine dO ?_; simp (disch := ((try simp only [ZL]) <;> omega)) only [ZK, ZL]; done) | (refine dK ?_; (repeat first | exact Keep.refl _ _ | exact Keep.app _ _ (Nat.le_refl _) | assumption | refine Keep.ap ?_ | refine Keep.st (by first | omega | (simp only [ZL]; omega)) ?_); done) | ((try simp only [ZL]) <;> omega) | fail)) only [↓XH2, XRN, ZC, ZE, ZH, eq_self, Nat.reduceLeDiff, Nat.reduceBEq]) (by simp)
        · have h1lt : decide ((1 : Int) < ((B (b :: c :: t)).size : Int)) = true := decide_eq_true (by rw [size_B]; simp; omega)
          have ha0 : strAt (B (b :: c :: t)) 0 = some (b.toNat : Int) := strAt_0 b _
          have ha1 : strAt (B (b :: c :: t)) 1 = some (c.toNat : Int) := strAt_mid [b] c t
          have hc1 : strCut (B (b :: c :: t)) 1 ((B (b :: c :: t)).size : Int) = some (B (c :: t)) := cut_from' (b :: c :: t) 1 (by simp)
          simp only [List.length_cons] at hdl
          have e47 : ∀ z : UInt8, ((z.toNat : Int) == 47) = decide (z = 47) := by
            intro z
            by_cases hz : z = 47
            · subst hz; rfl
            · rw [decide_eq_false hz, beq_eq_false_iff_ne]
              intro q
              exact hz (UInt8.toNat_inj.1 (by have : (47 : UInt8).toNat = 47 := rfl; omega))
          have hb47 := e47 b
          have hc47 : ((c.toNat : Int) != 47) = !decide (c = 47) := by rw [bne, e47]
          cases qb : decide (b = 47) with
          | false =>
            rw [qb] at hb47
            have hsp : stripP (b :: c :: t) = b :: c :: t := by unfold stripP; rw [if_neg]; rintro ⟨q, _⟩; injection q with q; exact of_decide_eq_false qb q
            rw [hsp]
            simp (dsimp := false) (disch := (first | (refine dS ?_; kernel_rfl) | (refine dM ?_; kernel_rfl) | (refine dO ?_; simp (disch := ((try simp only [ZL]) <;> omega)) only [ZK, ZL]; done) | (refine dK ?_; (repeat first | exact Keep.refl _ _ | exact Keep.app _ _ (Nat.le_refl _) | assumption | refine Keep.ap ?_ | refine Keep.st (by first | omega | (simp only [ZL]; omega)) ?_); done) | ((try simp only [ZL]) <;> omega) | fail)) only [XOB, ↓XXs, ↓XD, ↓YX, ZB, Nat.reduceAdd, Nat.reducePow, ↓reduceIte, eq_self, Int.reduceEq, Nat.reduceEqDiff, Nat.reduceMul, Nat.reduceLeDiff, Int.reduceBEq, Int.reduceLT, Try.f78, ↓XH2, XRN, ZC, ZE, ZH, eq_self, Nat.reduceLeDiff, Nat.reduceBEq, slV_new, reduceIte, ↓op_extract, tupAt_mk, lenV_sl, Bool.not_true, Bool.not_false, h1lt, ha0, ha1, hc1, hb47, hc47]
            exact ih (b :: c :: t) (out ++ [x]) (by simp only [List.length_cons]; omega) (by simp only [List.length_cons]; omega) (by simp only [List.length_cons, List.length_append, List.length_nil]; omega) fo' iO g4 _ _ kk hiO (by simp (disch := (first | (refine dS ?_; kernel_rfl) | (refine dM ?_; kernel_rfl) | (refine dO ?_; simp (disch := ((try simp only [ZL]) <;> omega)) only [ZK, ZL]; done) | (refine dK ?_; (repeat first | exact Keep.refl _ _ | exact Keep.app _ _ (Nat.le_refl _) | assumption | refine Keep.ap ?_ | refine Keep.st (by first | omega | (simp only [ZL]; omega)) ?_); done) | ((try simp only [ZL]) <;> omega) | fail)) only [↓XH2, XRN, ZC, ZE, ZH, eq_self, Nat.reduceLeDiff, Nat.reduceBEq]) (by simp)
          | true =>
            rw [qb] at hb47
            cases qc : decide (c = 47) with
            | true =>
              rw [qc] at hc47
              have hsp : stripP (b :: c :: t) = b :: c :: t := by unfold stripP; rw [if_neg]; rintro ⟨_, _, q⟩; apply q; rw [List.tail_cons, List.head?_cons, of_decide_eq_true qc]
              rw [hsp]
              simp (dsimp := false) (disch := (first | (refine dS ?_; kernel_rfl) | (refine dM ?_; kernel_rfl) | (refine dO ?_; simp (disch := ((try simp only [ZL]) <;> omega)) only [ZK, ZL]; done) | (refine dK ?_; (repeat first | exact Keep.refl _ _ | exact Keep.app _ _ (Nat.le_refl _) | assumption | refine Keep.ap ?_ | refine Keep.st (by first | omega | (simp only [ZL]; omega)) ?_); done) | ((try simp only [ZL]) <;> omega) | fail)) only [XOB, ↓XXs, ↓XD, ↓YX, ZB, Nat.reduceAdd, Nat.reducePow, ↓reduceIte, eq_self, Int.reduceEq, Nat.reduceEqDiff, Nat.reduceMul, Nat.reduceLeDiff, Int.reduceBEq, Int.reduceLT, Try.f78, ↓XH2, XRN, ZC, ZE, ZH, eq_self, Nat.reduceLeDiff, Nat.reduceBEq, slV_new, reduceIte, ↓op_extract, tupAt_mk, lenV_sl, Bool.not_true, Bool.not_false, h1lt, ha0, ha1, hc1, hb47, hc47]
              exact ih (b :: c :: t) (out ++ [x]) (by simp only [List.length_cons]; omega) (by simp only [List.length_cons]; omega) (by simp only [List.length_cons, List.length_append, List.length_nil]; omega) fo' iO g4 _ _ kk hiO (by simp (disch := (first | (refine dS ?_; kernel_rfl) | (refine dM ?_; kernel_rfl) | (refine dO ?_; simp (disch := ((try simp only [ZL]) <;> omega)) only [ZK, ZL]; done) | (refine dK ?_; (repeat first | exact Keep.refl _ _ | exact Keep.app _ _ (Nat.le_refl _) | assumption | refine Keep.ap ?_ | refine Keep.st (by first | omega | (simp only [ZL]; omega)) ?_); done) | ((try simp only [ZL]) <;> omega) | fail)) only [↓XH2, XRN, ZC, ZE, ZH, eq_self, Nat.reduceLeDiff, Nat.reduceBEq]) (by simp)
            | false =>
              rw [qc] at hc47
              have hsp : stripP (b :: c :: t) = c :: t := by
                unfold stripP
                rw [if_pos ⟨by rw [List.head?_cons, of_decide_eq_true qb], by simp, by rw [List.tail_cons, List.head?_cons]; intro q; injection q with q; exact of_decide_eq_false qc q⟩]
                rfl
              rw [hsp]
              simp (dsimp := false) (disch := (first | (refine dS ?_; kernel_rfl) | (refine dM ?_; kernel_rfl) | (refine dO ?_; simp (disch := ((try simp only [ZL]) <;> omega)) only [ZK, ZL]; done) | (refine dK ?_; (repeat first | exact Keep.refl _ _ | exact Keep.app _ _ (Nat.le_refl _) | assumption | refine Keep.ap ?_ | refine Keep.st (by first | omega | (simp only [ZL]; omega)) ?_); done) | ((try simp only [ZL]) <;> omega) | fail)) only [XOB, ↓XXs, ↓XD, ↓YX, ZB, Nat.reduceAdd, Nat.reducePow, ↓reduceIte, eq_self, Int.reduceEq, Nat.reduceEqDiff, Nat.reduceMul, Nat.reduceLeDiff, Int.reduceBEq, Int.reduceLT, Try.f78, ↓XH2, XRN, ZC, ZE, ZH, eq_self, Nat.reduceLeDiff, Nat.reduceBEq, slV_new, reduceIte, ↓op_extract, tupAt_mk, lenV_sl, Bool.not_true, Bool.not_false, h1lt, ha0, ha1, hc1, hb47, hc47]
              exact ih (c :: t) (out ++ [x]) (by simp only [List.length_cons]; omega) (by simp only [List.length_cons]; omega) (by simp only [List.length_cons, List.length_append, List.length_nil]; omega) fo' iO g4 _ _ kk hiO (by simp (disch := (first | (refine dS ?_; kernel_rfl) | (refine dM ?_; kernel_rfl) | (refine dO ?_; simp (disch := ((try simp only [ZL]) <;> omega)) only [ZK, ZL]; done) | (refine dK ?_; (repeat first | exact Keep.refl _ _ | exact Keep.app _ _ (Nat.le_refl _) | assumption | refine Keep.ap ?_ | refine Keep.st (by first | omega | (simp only [ZL]; omega)) ?_); done) | ((try simp only [ZL]) <;> omega) | fail)) only [↓XH2, XRN, ZC, ZE, ZH, eq_self, Nat.reduceLeDiff, Nat.reduceBEq]) (by simp)
end Go.Abs
namespace Go.Abs
open Go.Proofs
set_option maxRecDepth 100000
set_option linter.unusedSimpArgs false
set_option linter.unusedVariables false
set_option pp.maxSteps 20000
set_option pp.deepTerms true
def goodO (s : Bs) : Option (List St) → Bool
  | none => false
  | some L => goodL s L
def gotS (s : Bs) : Bool := decide (s.length ≤ 160) && goodO s (getS s.length s [])
theorem path_count : ∀ (L : List St) (i : Nat), (∀ x ∈ L, stOkL x = true) → L.length ≤ (pathL L i).length
  | [], i, _ => Nat.zero_le _
  | x :: L, i, ok => by
    have := path_count L (i + 1) (fun y hy => ok y (by simp [hy]))
    have hn := List.length_pos_iff.2 (st_name (ok x (by simp))).1
    rw [path_head]
    simp only [List.length_append, List.length_cons]
    omega
theorem good_is {s : Bs} {L : List St} (h : goodL s L = true) : okL L = true ∧ pathL L 0 = s := by
  unfold goodL at h
  rw [Bool.and_eq_true] at h
  exact ⟨h.1, of_decide_eq_true h.2⟩
theorem got_get {s : Bs} (h : gotL s = true) : getS s.length s [] = some (readL s) := by
  unfold gotL at h
  rw [Bool.and_eq_true] at h
  obtain ⟨h1, h2⟩ := good_is h.2
  have h3 := okL_all h1
  have := get_path (readL s) s.length [] h3 (by have := path_count (readL s) 0 h3; rw [h2] at this; exact this)
  rw [h2, List.nil_append] at this
  exact this
theorem got_same (s : Bs) : gotS s = gotL s := by
  cases q : gotL s with
  | true =>
    have h := got_get q
    unfold gotL at q
    rw [Bool.and_eq_true] at q
    unfold gotS
    rw [h, q.1]
    exact q.2
  | false =>
    cases q2 : gotS s with
    | false => rfl
    | true =>
      unfold gotS at q2
      rw [Bool.and_eq_true] at q2
      cases hg : getS s.length s [] with
      | none => rw [hg] at q2; exact absurd q2.2 (by simp [goodO])
      | some L =>
        rw [hg] at q2
        obtain ⟨h1, h2⟩ := good_is q2.2
        have := got_back h1
        rw [h2, q2.1, q] at this
        exact absurd this (by simp)
theorem r40 (s : Bs) (hs : s.length ≤ 2 ^ 60) (l : Nat) (h : AH) (hl : l ≤ h.length) : Okr (GotQ h s) (run V0 (.fn 40) l [S (sV s)] h) := by
  have hsz := size_B s
  have hgs := got_same s
  refine okr_fn Try.func40 rfl rfl rfl rfl ?_
  by_cases hq : s.length ≤ 160
  · have hlt : decide ((160 : Int) < ((B s).size : Int)) = false := decide_eq_false (by omega)
    have hgq : gotS s = goodO s (getS s.length s []) := by unfold gotS; rw [decide_eq_true hq, Bool.true_and]
    simp (dsimp := false) (disch := (first | (refine dS ?_; kernel_rfl) | (refine dM ?_; kernel_rfl) | (refine dO ?_; simp (disch := ((try simp only [ZL]) <;> omega)) only [ZK, ZL]; done) | (refine dK ?_; (repeat first | exact Keep.refl _ _ | exact Keep.app _ _ (Nat.le_refl _) | assumption | refine Keep.ap ?_ | refine Keep.st (by first | omega | (simp only [ZL]; omega)) ?_); done) | ((try simp only [ZL]) <;> omega) | fail)) only [XOB, ↓XXs, ↓XD, ↓YX, ZB, Nat.reduceAdd, Nat.reducePow, ↓reduceIte, eq_self, Int.reduceEq, Nat.reduceEqDiff, Nat.reduceMul, Nat.reduceLeDiff, Int.reduceBEq, Int.reduceLT, Try.f40, ↓XH2, XRN, ZC, ZE, ZH, eq_self, Nat.reduceLeDiff, Nat.reduceBEq, slV_new, reduceIte, ↓op_extract, tupAt_mk, lenV_sl, Bool.not_true, Bool.not_false, hlt]
    have key : Okr (GsQ h (getS s.length s [])) (run V0 (.fn 78) l [S (sV s)] h) := by
      refine okr_fn Try.func78 rfl rfl rfl rfl ?_
      simp (dsimp := false) (disch := (first | (refine dS ?_; kernel_rfl) | (refine dM ?_; kernel_rfl) | (refine dO ?_; simp (disch := ((try simp only [ZL]) <;> omega)) only [ZK, ZL]; done) | (refine dK ?_; (repeat first | exact Keep.refl _ _ | exact Keep.app _ _ (Nat.le_refl _) | assumption | refine Keep.ap ?_ | refine Keep.st (by first | omega | (simp only [ZL]; omega)) ?_); done) | ((try simp only [ZL]) <;> omega) | fail)) only [XOB, ↓XXs, ↓XD, ↓YX, ZB, Nat.reduceAdd, Nat.reducePow, ↓reduceIte, eq_self, Int.reduceEq, Nat.reduceEqDiff, Nat.reduceMul, Nat.reduceLeDiff, Int.reduceBEq, Int.reduceLT, Try.f78, ↓XH2, XRN, ZC, ZE, ZH, eq_self, Nat.reduceLeDiff, Nat.reduceBEq, slV_new, reduceIte, ↓op_extract, tupAt_mk, lenV_sl, Bool.not_true, Bool.not_false]
      exact L78 l h hl s.length s [] (Nat.le_refl _) (by omega) (by simp; omega) (by simp) h.length 0 0 _ (Keep.app _ _ (Nat.le_refl _)) (Nat.le_refl _) (by simp (disch := (first | (refine dS ?_; kernel_rfl) | (refine dM ?_; kernel_rfl) | (refine dO ?_; simp (disch := ((try simp only [ZL]) <;> omega)) only [ZK, ZL]; done) | (refine dK ?_; (repeat first | exact Keep.refl _ _ | exact Keep.app _ _ (Nat.le_refl _) | assumption | refine Keep.ap ?_ | refine Keep.st (by first | omega | (simp only [ZL]; omega)) ?_); done) | ((try simp only [ZL]) <;> omega) | fail)) only [↓XH2, XRN, ZC, ZE, ZH, eq_self, Nat.reduceLeDiff, Nat.reduceBEq]; rfl) rfl
    refine okr_call key ?_
    rintro v h1 ⟨k1, ⟨hn, rfl⟩ | ⟨L, hL, fL, nL, i1, g1, rfl, e1, hi1⟩⟩
    · rw [hn] at hgq
      simp (dsimp := false) (disch := (first | (refine dS ?_; kernel_rfl) | (refine dM ?_; kernel_rfl) | (refine dO ?_; simp (disch := ((try simp only [ZL]) <;> omega)) only [ZK, ZL]; done) | (refine dK ?_; (repeat first | exact Keep.refl _ _ | exact Keep.app _ _ (Nat.le_refl _) | assumption | refine Keep.ap ?_ | refine Keep.st (by first | omega | (simp only [ZL]; omega)) ?_); done) | ((try simp only [ZL]) <;> omega) | fail)) only [XOB, ↓XXs, ↓XD, ↓YX, ZB, Nat.reduceAdd, Nat.reducePow, ↓reduceIte, eq_self, Int.reduceEq, Nat.reduceEqDiff, Nat.reduceMul, Nat.reduceLeDiff, Int.reduceBEq, Int.reduceLT, Try.f40, ↓XH2, XRN, ZC, ZE, ZH, eq_self, Nat.reduceLeDiff, Nat.reduceBEq, slV_new, reduceIte, ↓op_extract, tupAt_mk, lenV_sl, Bool.not_true, Bool.not_false, hlt]
      with_reducible refine Okr.ret ?_
      exact ⟨k1, .inr ⟨by rw [← hgs, hgq]; rfl, rfl⟩⟩
    · rw [hL] at hgq
      have hk1 := k1.1
      have hpl := pathL_len L 0 fL
      obtain ⟨h2, a2, k2⟩ := r56 i1 g1 L.length l L h1 (by omega) (fun x hx => (fL x hx).f60) e1
      rw [show (L.all stOkL && inI L.length 1 5) = okL L from rfl] at a2
      have hk2 := k2.1
      have e2 := k2.get e1 (lt_of_get e1)
      obtain ⟨h3, a3, k3⟩ := r63 i1 g1 L.length l L h2 (by omega) (by omega) e2 (by omega)
      have e3 := k3.get e2 (lt_of_get e2)
      have b1 := decB (pathL L 0) s
      cases q1 : okL L with
      | false =>
        rw [q1] at a2
        simp (dsimp := false) (disch := (first | (refine dS ?_; kernel_rfl) | (refine dM ?_; kernel_rfl) | (refine dO ?_; simp (disch := ((try simp only [ZL]) <;> omega)) only [ZK, ZL]; done) | (refine dK ?_; (repeat first | exact Keep.refl _ _ | exact Keep.app _ _ (Nat.le_refl _) | assumption | refine Keep.ap ?_ | refine Keep.st (by first | omega | (simp only [ZL]; omega)) ?_); done) | ((try simp only [ZL]) <;> omega) | fail)) only [XOB, ↓XXs, ↓XD, ↓YX, ZB, Nat.reduceAdd, Nat.reducePow, ↓reduceIte, eq_self, Int.reduceEq, Nat.reduceEqDiff, Nat.reduceMul, Nat.reduceLeDiff, Int.reduceBEq, Int.reduceLT, Try.f40, ↓XH2, XRN, ZC, ZE, ZH, eq_self, Nat.reduceLeDiff, Nat.reduceBEq, slV_new, reduceIte, ↓op_extract, tupAt_mk, lenV_sl, Bool.not_true, Bool.not_false, hlt, a2, a3, b1]
        with_reducible refine Okr.ret ?_
        exact ⟨k1.trans (k2.le hk1), .inr ⟨by rw [← hgs, hgq]; simp [goodO, goodL, q1], rfl⟩⟩
      | true =>
        rw [q1] at a2
        cases q2 : decide (pathL L 0 = s) with
        | false =>
          rw [q2] at b1
          simp (dsimp := false) (disch := (first | (refine dS ?_; kernel_rfl) | (refine dM ?_; kernel_rfl) | (refine dO ?_; simp (disch := ((try simp only [ZL]) <;> omega)) only [ZK, ZL]; done) | (refine dK ?_; (repeat first | exact Keep.refl _ _ | exact Keep.app _ _ (Nat.le_refl _) | assumption | refine Keep.ap ?_ | refine Keep.st (by first | omega | (simp only [ZL]; omega)) ?_); done) | ((try simp only [ZL]) <;> omega) | fail)) only [XOB, ↓XXs, ↓XD, ↓YX, ZB, Nat.reduceAdd, Nat.reducePow, ↓reduceIte, eq_self, Int.reduceEq, Nat.reduceEqDiff, Nat.reduceMul, Nat.reduceLeDiff, Int.reduceBEq, Int.reduceLT, Try.f40, ↓XH2, XRN, ZC, ZE, ZH, eq_self, Nat.reduceLeDiff, Nat.reduceBEq, slV_new, reduceIte, ↓op_extract, tupAt_mk, lenV_sl, Bool.not_true, Bool.not_false, hlt, a2, a3, b1]
          with_reducible refine Okr.ret ?_
          refine ⟨k1.trans ((k2.trans (k3.le hk2)).le hk1), .inr ⟨?_, rfl⟩⟩
          rw [← hgs, hgq]
          show goodL s L = _
          unfold goodL
          rw [q1, q2]; rfl
        | true =>
          rw [q2] at b1
          simp (dsimp := false) (disch := (first | (refine dS ?_; kernel_rfl) | (refine dM ?_; kernel_rfl) | (refine dO ?_; simp (disch := ((try simp only [ZL]) <;> omega)) only [ZK, ZL]; done) | (refine dK ?_; (repeat first | exact Keep.refl _ _ | exact Keep.app _ _ (Nat.le_refl _) | assumption | refine Keep.ap ?_ | refine Keep.st (by first | omega | (simp only [ZL]; omega)) ?_); done) | ((try simp only [ZL]) <;> omega) | fail)) only [XOB, ↓XXs, ↓XD, ↓YX, ZB, Nat.reduceAdd, Nat.reducePow, ↓reduceIte, eq_self, Int.reduceEq, Nat.reduceEqDiff, Nat.reduceMul, Nat.reduceLeDiff, Int.reduceBEq, Int.reduceLT, Try.f40, ↓XH2, XRN, ZC, ZE, ZH, eq_self, Nat.reduceLeDiff, Nat.reduceBEq, slV_new, reduceIte, ↓op_extract, tupAt_mk, lenV_sl, Bool.not_true, Bool.not_false, hlt, a2, a3, b1]
          have hgt : gotL s = true := by
            rw [← hgs, hgq]
            show goodL s L = _
            unfold goodL
            rw [q1, q2]; rfl
          have hLr : L = readL s := by
            have := got_get hgt
            rw [hL] at this
            injection this
          subst hLr
          with_reducible refine Okr.ret ?_
          exact ⟨k1.trans ((k2.trans (k3.le hk2)).le hk1), .inl ⟨hgt, i1, g1, rfl, e3, hi1⟩⟩
  · have hlt : decide ((160 : Int) < ((B s).size : Int)) = true := decide_eq_true (by omega)
    simp (dsimp := false) (disch := (first | (refine dS ?_; kernel_rfl) | (refine dM ?_; kernel_rfl) | (refine dO ?_; simp (disch := ((try simp only [ZL]) <;> omega)) only [ZK, ZL]; done) | (refine dK ?_; (repeat first | exact Keep.refl _ _ | exact Keep.app _ _ (Nat.le_refl _) | assumption | refine Keep.ap ?_ | refine Keep.st (by first | omega | (simp only [ZL]; omega)) ?_); done) | ((try simp only [ZL]) <;> omega) | fail)) only [XOB, ↓XXs, ↓XD, ↓YX, ZB, Nat.reduceAdd, Nat.reducePow, ↓reduceIte, eq_self, Int.reduceEq, Nat.reduceEqDiff, Nat.reduceMul, Nat.reduceLeDiff, Int.reduceBEq, Int.reduceLT, Try.f40, ↓XH2, XRN, ZC, ZE, ZH, eq_self, Nat.reduceLeDiff, Nat.reduceBEq, slV_new, reduceIte, ↓op_extract, tupAt_mk, lenV_sl, Bool.not_true, Bool.not_false, hlt]
    with_reducible refine Okr.ret ?_
    refine ⟨Keep.refl _ _, .inr ⟨?_, rfl⟩⟩
    unfold gotL
    rw [decide_eq_false hq, Bool.false_and]
theorem path_tiny : ∀ (L : List St) (i : Nat), (∀ x ∈ L, Fa x) → (pathL L i).length ≤ 31 * L.length
  | [], i, _ => Nat.zero_le _
  | x :: L, i, h => by
    have ih := path_tiny L (i + 1) (fun y hy => h y (by simp [hy]))
    have hx := h x (by simp)
    have h1 := stSep_len i x
    have h2 := stTail_len x
    have h3 := hx.1.1
    have h4 := hx.2.1.1
    have h5 := hx.2.2.1
    rw [path_head]
    simp only [List.length_append, List.length_cons]
    omega
structure DrawG (H : AH) (v : Value) (h' : AH) : Prop where
  ex : ∃ s, v = sV s ∧ As s ∧ s.length ≤ 2 ^ 26
  k : Keep H.length H h'
theorem cat_ofB {a b c : Bs} (e : a ++ b = c) (h : c.length ≤ 2 ^ 62) : catA (B a) (B b) = some (B c) := cat_of e h
theorem as_take {s : Bs} (h : As s) (k : Nat) : As (s.take k) := fun b hb => h b (List.mem_of_mem_take hb)
theorem as_drop {s : Bs} (h : As s) (k : Nat) : As (s.drop k) := fun b hb => h b (List.mem_of_mem_drop hb)
theorem r39 (va : Value) (n l : Nat) (h : AH) (r : Cd h va n) (hl : l ≤ h.length) (hn : n ≤ 2 ^ 62) :
    Okr (DrawG h) (run V0 (.fn 39) l [S va] h) := by
  refine okr_fn Try.func39 rfl rfl rfl rfl ?_
  obtain ⟨vb, m, h1, a1, r1, hm, k1⟩ := r52 va n l h r hn
  have hid1 := lt_of_get r1.1
  simp (dsimp := false) (disch := (first | (refine dS ?_; kernel_rfl) | (refine dM ?_; kernel_rfl) | (refine dO ?_; simp (disch := ((try simp only [ZL]) <;> omega)) only [ZK, ZL]; done) | (refine dK ?_; (repeat first | exact Keep.refl _ _ | exact Keep.app _ _ (Nat.le_refl _) | assumption | refine Keep.ap ?_ | refine Keep.st (by first | omega | (simp only [ZL]; omega)) ?_); done) | ((try simp only [ZL]) <;> omega) | fail)) only [XOB, ↓XXs, ↓XD, ↓YX, ZB, Nat.reduceAdd, Nat.reducePow, ↓reduceIte, eq_self, Int.reduceEq, Nat.reduceEqDiff, Nat.reduceMul, Nat.reduceLeDiff, Int.reduceBEq, Int.reduceLT, Try.f39, ↓XH2, XRN, ZC, ZE, ZH, eq_self, Nat.reduceLeDiff, Nat.reduceBEq, slV_new, reduceIte, ↓op_extract, tupAt_mk, lenV_sl, Bool.not_true, Bool.not_false, a1]
  refine okr_call (r69 r1 hl (by omega) (by omega)) ?_
  rintro _ h2 ⟨⟨i1, g1, L, rfl, e1, hi1, fL, h6⟩, ⟨p2, hp2, r2⟩, kx⟩
  have hk1 := k1.1
  have hk2 := kx.1
  have hpl := path_tiny L 0 fL
  have hpu := putL_le L
  have hid2 := lt_of_get r2.1
  obtain ⟨h3, a3, k3⟩ := r25 i1 g1 L.length l L h2 (by omega) (by omega) (fun x hx => (fL x hx).f20.f60) e1 (by omega)
  have hk3 := k3.1
  have r3 := r2.keep (k3.le (by omega))
  have ha := put_as fL
  have hsz := size_B (putL L)
  generalize hs : putL L = s at *
  have hw : IntKind.i64.wrap (((B s).size : Int) + 1) = ((s.length + 1 : Nat) : Int) := by rw [hsz]; exact natCast_succ_wrap (by omega) rfl
  try simp (dsimp := false) (disch := (first | (refine dS ?_; kernel_rfl) | (refine dM ?_; kernel_rfl) | (refine dO ?_; simp (disch := ((try simp only [ZL]) <;> omega)) only [ZK, ZL]; done) | (refine dK ?_; (repeat first | exact Keep.refl _ _ | exact Keep.app _ _ (Nat.le_refl _) | assumption | refine Keep.ap ?_ | refine Keep.st (by first | omega | (simp only [ZL]; omega)) ?_); done) | ((try simp only [ZL]) <;> omega) | fail)) only [XOB, ↓XXs, ↓XD, ↓YX, ZB, Nat.reduceAdd, Nat.reducePow, ↓reduceIte, eq_self, Int.reduceEq, Nat.reduceEqDiff, Nat.reduceMul, Nat.reduceLeDiff, Int.reduceBEq, Int.reduceLT, Try.f39, ↓XH2, XRN, ZC, ZE, ZH, eq_self, Nat.reduceLeDiff, Nat.reduceBEq, slV_new, reduceIte, ↓op_extract, tupAt_mk, lenV_sl, Bool.not_true, Bool.not_false, a1, a3, hw]
  refine okr_call (okr_pick (s.length + 1) r3 hl rfl (by omega) (by omega) (by omega) (by omega)) ?_
  rintro _ _ ⟨⟨k, rfl, hk⟩, rfl⟩
  try simp (dsimp := false) (disch := (first | (refine dS ?_; kernel_rfl) | (refine dM ?_; kernel_rfl) | (refine dO ?_; simp (disch := ((try simp only [ZL]) <;> omega)) only [ZK, ZL]; done) | (refine dK ?_; (repeat first | exact Keep.refl _ _ | exact Keep.app _ _ (Nat.le_refl _) | assumption | refine Keep.ap ?_ | refine Keep.st (by first | omega | (simp only [ZL]; omega)) ?_); done) | ((try simp only [ZL]) <;> omega) | fail)) only [XOB, ↓XXs, ↓XD, ↓YX, ZB, Nat.reduceAdd, Nat.reducePow, ↓reduceIte, eq_self, Int.reduceEq, Nat.reduceEqDiff, Nat.reduceMul, Nat.reduceLeDiff, Int.reduceBEq, Int.reduceLT, Try.f39, ↓XH2, XRN, ZC, ZE, ZH, eq_self, Nat.reduceLeDiff, Nat.reduceBEq, slV_new, reduceIte, ↓op_extract, tupAt_mk, lenV_sl, Bool.not_true, Bool.not_false, a1, a3, hw]
  have r4 : Rd (h3.set h.length (rdO vb (p2 + 1))) h.length vb m (p2 + 1) := r3.step (p2 + 1)
  refine okr_call (okr_pick 5 r4 hl rfl (by simp) (by simp) (by omega) (by omega)) ?_
  rintro _ _ ⟨⟨q, rfl, hq⟩, rfl⟩
  try simp (dsimp := false) (disch := (first | (refine dS ?_; kernel_rfl) | (refine dM ?_; kernel_rfl) | (refine dO ?_; simp (disch := ((try simp only [ZL]) <;> omega)) only [ZK, ZL]; done) | (refine dK ?_; (repeat first | exact Keep.refl _ _ | exact Keep.app _ _ (Nat.le_refl _) | assumption | refine Keep.ap ?_ | refine Keep.st (by first | omega | (simp only [ZL]; omega)) ?_); done) | ((try simp only [ZL]) <;> omega) | fail)) only [XOB, ↓XXs, ↓XD, ↓YX, ZB, Nat.reduceAdd, Nat.reducePow, ↓reduceIte, eq_self, Int.reduceEq, Nat.reduceEqDiff, Nat.reduceMul, Nat.reduceLeDiff, Int.reduceBEq, Int.reduceLT, Try.f39, ↓XH2, XRN, ZC, ZE, ZH, eq_self, Nat.reduceLeDiff, Nat.reduceBEq, slV_new, reduceIte, ↓op_extract, tupAt_mk, lenV_sl, Bool.not_true, Bool.not_false, a1, a3, hw]
  have kall : ∀ (o : AObj) (Ls : AH), Keep h.length h ((h3.set h.length o) ++ Ls) := fun o Ls =>
    k1.trans ((Keep.ofKX kx (by omega) (Nat.le_refl _)).trans ((k3.le (by omega)).trans ((Keep.set h3 h.length o (Nat.le_refl _)).trans (Keep.app _ _ (by simp; omega)))))
  have kall0 : ∀ (o : AObj), Keep h.length h (h3.set h.length o) := fun o =>
    k1.trans ((Keep.ofKX kx (by omega) (Nat.le_refl _)).trans ((k3.le (by omega)).trans (Keep.set h3 h.length o (Nat.le_refl _))))
  have hct := cut_to' s k (by omega)
  have hcf := cut_from' s k (by omega)
  refine okr_if (fun t0 => ?_) (fun t0 => ?_)
  · try simp (dsimp := false) (disch := (first | (refine dS ?_; kernel_rfl) | (refine dM ?_; kernel_rfl) | (refine dO ?_; simp (disch := ((try simp only [ZL]) <;> omega)) only [ZK, ZL]; done) | (refine dK ?_; (repeat first | exact Keep.refl _ _ | exact Keep.app _ _ (Nat.le_refl _) | assumption | refine Keep.ap ?_ | refine Keep.st (by first | omega | (simp only [ZL]; omega)) ?_); done) | ((try simp only [ZL]) <;> omega) | fail)) only [XOB, ↓XXs, ↓XD, ↓YX, ZB, Nat.reduceAdd, Nat.reducePow, ↓reduceIte, eq_self, Int.reduceEq, Nat.reduceEqDiff, Nat.reduceMul, Nat.reduceLeDiff, Int.reduceBEq, Int.reduceLT, Try.f39, ↓XH2, XRN, ZC, ZE, ZH, eq_self, Nat.reduceLeDiff, Nat.reduceBEq, slV_new, reduceIte, ↓op_extract, tupAt_mk, lenV_sl, Bool.not_true, Bool.not_false, a1, t0, hct, hcf]
    have r5 : Rd (h3.set h.length (rdO vb (p2 + 2))) h.length vb m (p2 + 2) := r3.step (p2 + 2)
    refine okr_call (okr_of [_, _, _, _, _, _] r5.ap hl (by simp (disch := (first | (refine dS ?_; kernel_rfl) | (refine dM ?_; kernel_rfl) | (refine dO ?_; simp (disch := ((try simp only [ZL]) <;> omega)) only [ZK, ZL]; done) | (refine dK ?_; (repeat first | exact Keep.refl _ _ | exact Keep.app _ _ (Nat.le_refl _) | assumption | refine Keep.ap ?_ | refine Keep.st (by first | omega | (simp only [ZL]; omega)) ?_); done) | ((try simp only [ZL]) <;> omega) | fail)) only [↓XH2, XRN, ZC, ZE, ZH, eq_self, Nat.reduceLeDiff, Nat.reduceBEq] <;> rfl) rfl rfl (by simp; omega) (by simp) (by simp) (by omega) (by omega)) ?_
    rintro _ _ ⟨⟨x, rfl, hx⟩, rfl⟩
    have fx := sm_of hx rfl
    have l1 : (s.take k ++ x).length ≤ 2 ^ 26 := by have := fx.1; rw [List.length_append, List.length_take]; omega
    have l2 : (s.take k ++ x ++ s.drop k).length ≤ 2 ^ 26 := by have := fx.1; rw [List.length_append, List.length_append, List.length_take, List.length_drop]; omega
    have c1 : catA (B (s.take k)) (B x) = some (B (s.take k ++ x)) := cat_ofB rfl (by omega)
    have c2 : catA (B (s.take k ++ x)) (B (s.drop k)) = some (B (s.take k ++ x ++ s.drop k)) := cat_ofB rfl (by omega)
    try simp (dsimp := false) (disch := (first | (refine dS ?_; kernel_rfl) | (refine dM ?_; kernel_rfl) | (refine dO ?_; simp (disch := ((try simp only [ZL]) <;> omega)) only [ZK, ZL]; done) | (refine dK ?_; (repeat first | exact Keep.refl _ _ | exact Keep.app _ _ (Nat.le_refl _) | assumption | refine Keep.ap ?_ | refine Keep.st (by first | omega | (simp only [ZL]; omega)) ?_); done) | ((try simp only [ZL]) <;> omega) | fail)) only [XOB, ↓XXs, ↓XD, ↓YX, ZB, Nat.reduceAdd, Nat.reducePow, ↓reduceIte, eq_self, Int.reduceEq, Nat.reduceEqDiff, Nat.reduceMul, Nat.reduceLeDiff, Int.reduceBEq, Int.reduceLT, Try.f39, ↓XH2, XRN, ZC, ZE, ZH, eq_self, Nat.reduceLeDiff, Nat.reduceBEq, slV_new, reduceIte, ↓op_extract, tupAt_mk, lenV_sl, Bool.not_true, Bool.not_false, a1, t0, hct, hcf, c1, c2]
    with_reducible refine Okr.ret ?_
    exact ⟨⟨_, rfl, as_app (as_take ha k) (as_app fx.2 (as_drop ha k)), by have := l2; rw [List.append_assoc] at this; exact this⟩, kall _ _⟩
  · try simp (dsimp := false) (disch := (first | (refine dS ?_; kernel_rfl) | (refine dM ?_; kernel_rfl) | (refine dO ?_; simp (disch := ((try simp only [ZL]) <;> omega)) only [ZK, ZL]; done) | (refine dK ?_; (repeat first | exact Keep.refl _ _ | exact Keep.app _ _ (Nat.le_refl _) | assumption | refine Keep.ap ?_ | refine Keep.st (by first | omega | (simp only [ZL]; omega)) ?_); done) | ((try simp only [ZL]) <;> omega) | fail)) only [XOB, ↓XXs, ↓XD, ↓YX, ZB, Nat.reduceAdd, Nat.reducePow, ↓reduceIte, eq_self, Int.reduceEq, Nat.reduceEqDiff, Nat.reduceMul, Nat.reduceLeDiff, Int.reduceBEq, Int.reduceLT, Try.f39, ↓XH2, XRN, ZC, ZE, ZH, eq_self, Nat.reduceLeDiff, Nat.reduceBEq, slV_new, reduceIte, ↓op_extract, tupAt_mk, lenV_sl, Bool.not_true, Bool.not_false, a1, t0, hct, hcf]
    refine okr_if (fun t1 => ?_) (fun t1 => ?_)
    · try simp (dsimp := false) (disch := (first | (refine dS ?_; kernel_rfl) | (refine dM ?_; kernel_rfl) | (refine dO ?_; simp (disch := ((try simp only [ZL]) <;> omega)) only [ZK, ZL]; done) | (refine dK ?_; (repeat first | exact Keep.refl _ _ | exact Keep.app _ _ (Nat.le_refl _) | assumption | refine Keep.ap ?_ | refine Keep.st (by first | omega | (simp only [ZL]; omega)) ?_); done) | ((try simp only [ZL]) <;> omega) | fail)) only [XOB, ↓XXs, ↓XD, ↓YX, ZB, Nat.reduceAdd, Nat.reducePow, ↓reduceIte, eq_self, Int.reduceEq, Nat.reduceEqDiff, Nat.reduceMul, Nat.reduceLeDiff, Int.reduceBEq, Int.reduceLT, Try.f39, ↓XH2, XRN, ZC, ZE, ZH, eq_self, Nat.reduceLeDiff, Nat.reduceBEq, slV_new, reduceIte, ↓op_extract, tupAt_mk, lenV_sl, Bool.not_true, Bool.not_false, a1, t0, t1, hct, hcf]
      with_reducible refine Okr.ret ?_
      exact ⟨⟨_, rfl, as_take ha k, by rw [List.length_take]; omega⟩, kall0 _⟩
    · try simp (dsimp := false) (disch := (first | (refine dS ?_; kernel_rfl) | (refine dM ?_; kernel_rfl) | (refine dO ?_; simp (disch := ((try simp only [ZL]) <;> omega)) only [ZK, ZL]; done) | (refine dK ?_; (repeat first | exact Keep.refl _ _ | exact Keep.app _ _ (Nat.le_refl _) | assumption | refine Keep.ap ?_ | refine Keep.st (by first | omega | (simp only [ZL]; omega)) ?_); done) | ((try simp only [ZL]) <;> omega) | fail)) only [XOB, ↓XXs, ↓XD, ↓YX, ZB, Nat.reduceAdd, Nat.reducePow, ↓reduceIte, eq_self, Int.reduceEq, Nat.reduceEqDiff, Nat.reduceMul, Nat.reduceLeDiff, Int.reduceBEq, Int.reduceLT, Try.f39, ↓XH2, XRN, ZC, ZE, ZH, eq_self, Nat.reduceLeDiff, Nat.reduceBEq, slV_new, reduceIte, ↓op_extract, tupAt_mk, lenV_sl, Bool.not_true, Bool.not_false, a1, t0, t1, hct, hcf]
      with_reducible refine Okr.ret ?_
      exact ⟨⟨_, rfl, ha, by omega⟩, kall0 _⟩
end Go.Abs
namespace Go.Abs
open Go.Proofs
set_option maxRecDepth 100000
set_option linter.unusedSimpArgs false
set_option linter.unusedVariables false
set_option pp.maxSteps 20000
set_option pp.deepTerms true
theorem name_len {s : Bs} (h : nameOkL s = true) : s.length ≤ 12 := by
  unfold nameOkL inI at h
  simp only [Bool.and_eq_true, decide_eq_true_eq] at h
  have := h.2.1
  omega
theorem ok_fit {x : St} (h : stOkL x = true) : Fit20 x := by
  unfold stOkL at h
  simp only [Bool.and_eq_true, Bool.or_eq_true, decide_eq_true_eq] at h
  have h1 : x.name.length ≤ 12 := by
    rcases h.1 with q | q
    · rw [q]; decide
    · exact name_len q
  have h2 : x.attr.length ≤ 12 ∧ x.text.length ≤ 10 := by
    rcases h.2 with ⟨q1, q2⟩ | ⟨q1, q2⟩
    · rw [q1, q2]; decide
    · refine ⟨name_len q1, ?_⟩
      unfold valOkL at q2
      simp only [Bool.and_eq_true, decide_eq_true_eq] at q2
      have := q2.2
      omega
  exact ⟨by omega, by omega, by omega⟩
theorem hb_nil (l : Nat) (h : AH) : run V0 (.fn 34) l [S (.slice none 0 0), S (.slice none 0 0)] h = some (.ret (.bool true) h) := by
  have key : Okr (fun v h' => v = .bool true ∧ h' = h) (run V0 (.fn 34) l [S (.slice none 0 0), S (.slice none 0 0)] h) := by
    have h0 : lenV (.slice none 0 0) = some 0 := rfl
    have hz : decide ((0 : Int) < 0) = false := rfl
    have hne : ((0 : Int) != 0) = false := rfl
    refine okr_fn Try.func34 rfl rfl rfl rfl ?_
    simp (dsimp := false) (disch := (first | (refine dS ?_; kernel_rfl) | (refine dM ?_; kernel_rfl) | (refine dO ?_; simp (disch := ((try simp only [ZL]) <;> omega)) only [ZK, ZL]; done) | (refine dK ?_; (repeat first | exact Keep.refl _ _ | exact Keep.app _ _ (Nat.le_refl _) | assumption | refine Keep.ap ?_ | refine Keep.st (by first | omega | (simp only [ZL]; omega)) ?_); done) | ((try simp only [ZL]) <;> omega) | fail)) only [XOB, ↓XXs, ↓XD, ↓YX, ZB, Nat.reduceAdd, Nat.reducePow, ↓reduceIte, eq_self, Int.reduceEq, Nat.reduceEqDiff, Nat.reduceMul, Nat.reduceLeDiff, Int.reduceBEq, Int.reduceLT, Try.f34, ↓XH2, XRN, ZC, ZE, ZH, eq_self, Nat.reduceLeDiff, Nat.reduceBEq, slV_new, reduceIte, ↓op_extract, tupAt_mk, lenV_sl, Bool.not_true, Bool.not_false, h0, hz, hne, decide_false]
    refine okr_code Try.func34 rfl rfl ?_
    simp (dsimp := false) (disch := (first | (refine dS ?_; kernel_rfl) | (refine dM ?_; kernel_rfl) | (refine dO ?_; simp (disch := ((try simp only [ZL]) <;> omega)) only [ZK, ZL]; done) | (refine dK ?_; (repeat first | exact Keep.refl _ _ | exact Keep.app _ _ (Nat.le_refl _) | assumption | refine Keep.ap ?_ | refine Keep.st (by first | omega | (simp only [ZL]; omega)) ?_); done) | ((try simp only [ZL]) <;> omega) | fail)) only [XOB, ↓XXs, ↓XD, ↓YX, ZB, Nat.reduceAdd, Nat.reducePow, ↓reduceIte, eq_self, Int.reduceEq, Nat.reduceEqDiff, Nat.reduceMul, Nat.reduceLeDiff, Int.reduceBEq, Int.reduceLT, Try.f34, ↓XH2, XRN, ZC, ZE, ZH, eq_self, Nat.reduceLeDiff, Nat.reduceBEq, slV_new, reduceIte, ↓op_extract, tupAt_mk, lenV_sl, Bool.not_true, Bool.not_false, h0, hz, hne, decide_false]
    with_reducible refine Okr.ret ?_
    exact ⟨rfl, rfl⟩
  obtain ⟨v, h', e, rfl, rfl⟩ := key
  exact e
theorem r10 (va : Value) (n l : Nat) (h : AH) (r : Cd h va n) (hl : l ≤ h.length) :
    Okr TrueQ (run V0 (.fn 10) l [S va] h) := by
  have lv := r.len
  refine okr_fn Try.func10 rfl rfl rfl rfl ?_
  simp (dsimp := false) (disch := (first | (refine dS ?_; kernel_rfl) | (refine dM ?_; kernel_rfl) | (refine dO ?_; simp (disch := ((try simp only [ZL]) <;> omega)) only [ZK, ZL]; done) | (refine dK ?_; (repeat first | exact Keep.refl _ _ | exact Keep.app _ _ (Nat.le_refl _) | assumption | refine Keep.ap ?_ | refine Keep.st (by first | omega | (simp only [ZL]; omega)) ?_); done) | ((try simp only [ZL]) <;> omega) | fail)) only [XOB, ↓XXs, ↓XD, ↓YX, ZB, Nat.reduceAdd, Nat.reducePow, ↓reduceIte, eq_self, Int.reduceEq, Nat.reduceEqDiff, Nat.reduceMul, Nat.reduceLeDiff, Int.reduceBEq, Int.reduceLT, Try.f10, ↓XH2, XRN, ZC, ZE, ZH, eq_self, Nat.reduceLeDiff, Nat.reduceBEq, slV_new, reduceIte, ↓op_extract, tupAt_mk, lenV_sl, Bool.not_true, Bool.not_false, lv]
  refine okr_if (fun t => ?_) (fun t => ?_)
  · try simp (dsimp := false) (disch := (first | (refine dS ?_; kernel_rfl) | (refine dM ?_; kernel_rfl) | (refine dO ?_; simp (disch := ((try simp only [ZL]) <;> omega)) only [ZK, ZL]; done) | (refine dK ?_; (repeat first | exact Keep.refl _ _ | exact Keep.app _ _ (Nat.le_refl _) | assumption | refine Keep.ap ?_ | refine Keep.st (by first | omega | (simp only [ZL]; omega)) ?_); done) | ((try simp only [ZL]) <;> omega) | fail)) only [XOB, ↓XXs, ↓XD, ↓YX, ZB, Nat.reduceAdd, Nat.reducePow, ↓reduceIte, eq_self, Int.reduceEq, Nat.reduceEqDiff, Nat.reduceMul, Nat.reduceLeDiff, Int.reduceBEq, Int.reduceLT, Try.f10, ↓XH2, XRN, ZC, ZE, ZH, eq_self, Nat.reduceLeDiff, Nat.reduceBEq, slV_new, reduceIte, ↓op_extract, tupAt_mk, lenV_sl, Bool.not_true, Bool.not_false, lv]
    with_reducible refine Okr.ret ?_
    rfl
  have hn : n ≤ 2 ^ 20 := by have := of_decide_eq_false t; omega
  try simp (dsimp := false) (disch := (first | (refine dS ?_; kernel_rfl) | (refine dM ?_; kernel_rfl) | (refine dO ?_; simp (disch := ((try simp only [ZL]) <;> omega)) only [ZK, ZL]; done) | (refine dK ?_; (repeat first | exact Keep.refl _ _ | exact Keep.app _ _ (Nat.le_refl _) | assumption | refine Keep.ap ?_ | refine Keep.st (by first | omega | (simp only [ZL]; omega)) ?_); done) | ((try simp only [ZL]) <;> omega) | fail)) only [XOB, ↓XXs, ↓XD, ↓YX, ZB, Nat.reduceAdd, Nat.reducePow, ↓reduceIte, eq_self, Int.reduceEq, Nat.reduceEqDiff, Nat.reduceMul, Nat.reduceLeDiff, Int.reduceBEq, Int.reduceLT, Try.f10, ↓XH2, XRN, ZC, ZE, ZH, eq_self, Nat.reduceLeDiff, Nat.reduceBEq, slV_new, reduceIte, ↓op_extract, tupAt_mk, lenV_sl, Bool.not_true, Bool.not_false, lv]
  refine okr_call (r39 va n l h r hl (by omega)) ?_
  rintro _ h2 ⟨⟨s, rfl, ha, hs⟩, k2⟩
  have hk2 := k2.1
  try simp (dsimp := false) (disch := (first | (refine dS ?_; kernel_rfl) | (refine dM ?_; kernel_rfl) | (refine dO ?_; simp (disch := ((try simp only [ZL]) <;> omega)) only [ZK, ZL]; done) | (refine dK ?_; (repeat first | exact Keep.refl _ _ | exact Keep.app _ _ (Nat.le_refl _) | assumption | refine Keep.ap ?_ | refine Keep.st (by first | omega | (simp only [ZL]; omega)) ?_); done) | ((try simp only [ZL]) <;> omega) | fail)) only [XOB, ↓XXs, ↓XD, ↓YX, ZB, Nat.reduceAdd, Nat.reducePow, ↓reduceIte, eq_self, Int.reduceEq, Nat.reduceEqDiff, Nat.reduceMul, Nat.reduceLeDiff, Int.reduceBEq, Int.reduceLT, Try.f10, ↓XH2, XRN, ZC, ZE, ZH, eq_self, Nat.reduceLeDiff, Nat.reduceBEq, slV_new, reduceIte, ↓op_extract, tupAt_mk, lenV_sl, Bool.not_true, Bool.not_false, lv]
  refine okr_call (r33 s ha (by omega) l h2 (by omega)) ?_
  rintro v3 h3 ⟨k3, q3⟩
  have hk3 := k3.1
  have bt : (true != true) = false := rfl
  have bf : (false != false) = false := rfl
  have btt : (true == true) = true := rfl
  have bff : (false == false) = true := rfl
  have a7 := fun h => hb_nil l h
  rcases q3 with ⟨hg, i3, g3, rfl, e3, hi3⟩ | ⟨hg, rfl⟩
  · try simp (dsimp := false) (disch := (first | (refine dS ?_; kernel_rfl) | (refine dM ?_; kernel_rfl) | (refine dO ?_; simp (disch := ((try simp only [ZL]) <;> omega)) only [ZK, ZL]; done) | (refine dK ?_; (repeat first | exact Keep.refl _ _ | exact Keep.app _ _ (Nat.le_refl _) | assumption | refine Keep.ap ?_ | refine Keep.st (by first | omega | (simp only [ZL]; omega)) ?_); done) | ((try simp only [ZL]) <;> omega) | fail)) only [XOB, ↓XXs, ↓XD, ↓YX, ZB, Nat.reduceAdd, Nat.reducePow, ↓reduceIte, eq_self, Int.reduceEq, Nat.reduceEqDiff, Nat.reduceMul, Nat.reduceLeDiff, Int.reduceBEq, Int.reduceLT, Try.f10, ↓XH2, XRN, ZC, ZE, ZH, eq_self, Nat.reduceLeDiff, Nat.reduceBEq, slV_new, reduceIte, ↓op_extract, tupAt_mk, lenV_sl, Bool.not_true, Bool.not_false, lv]
    refine okr_call (r40 s (by omega) l h3 (by omega)) ?_
    rintro v4 h4 ⟨k4, ⟨_, i4, g4, rfl, e4, hi4⟩ | ⟨hg2, _⟩⟩
    · have hk4 := k4.1
      have e34 := k4.get e3 (lt_of_get e3)
      have hgl := hg
      unfold gotL at hgl
      rw [Bool.and_eq_true] at hgl
      obtain ⟨ok, hp⟩ := good_is hgl.2
      have fx : ∀ x ∈ readL s, Fit20 x := fun x hx => ok_fit (okL_all ok x hx)
      have hn5 : (readL s).length ≤ 5 := by
        unfold okL inI at ok
        simp only [Bool.and_eq_true, decide_eq_true_eq] at ok
        have := ok.2
        omega
      have hpl := pathL_len (readL s) 0 fx
      have hput : putL (readL s) = s := by unfold putL; rw [if_pos ok, hp]
      have a5 := hb_steps (l := l) rfl rfl rfl (by omega) e34 e4
      obtain ⟨h6, a6, k6⟩ := r26 i3 g3 (readL s).length l (readL s) h4 (by omega) (by omega) (fun x hx => (fx x hx).f60) e34 (by omega)
      have e36 := k6.get e34 (lt_of_get e34)
      rw [hput] at a6
      obtain ⟨h8, a8, k8⟩ := r23 i3 g3 (readL s).length l (readL s) h6 (by omega) (fun x hx => (fx x hx).f60) e36
      rw [show ((readL s).all stOkL && inI (readL s).length 1 5) = okL (readL s) from rfl, ok] at a8
      have b1 : decide (B s = B s) = true := by simp
      try simp (dsimp := false) (disch := (first | (refine dS ?_; kernel_rfl) | (refine dM ?_; kernel_rfl) | (refine dO ?_; simp (disch := ((try simp only [ZL]) <;> omega)) only [ZK, ZL]; done) | (refine dK ?_; (repeat first | exact Keep.refl _ _ | exact Keep.app _ _ (Nat.le_refl _) | assumption | refine Keep.ap ?_ | refine Keep.st (by first | omega | (simp only [ZL]; omega)) ?_); done) | ((try simp only [ZL]) <;> omega) | fail)) only [XOB, ↓XXs, ↓XD, ↓YX, ZB, Nat.reduceAdd, Nat.reducePow, ↓reduceIte, eq_self, Int.reduceEq, Nat.reduceEqDiff, Nat.reduceMul, Nat.reduceLeDiff, Int.reduceBEq, Int.reduceLT, Try.f10, ↓XH2, XRN, ZC, ZE, ZH, eq_self, Nat.reduceLeDiff, Nat.reduceBEq, slV_new, reduceIte, ↓op_extract, tupAt_mk, lenV_sl, Bool.not_true, Bool.not_false, lv, bt, btt, a5, a6, a8, b1]
      with_reducible refine Okr.ret ?_
      rfl
    · rw [hg] at hg2; exact absurd hg2 (by simp)
  · try simp (dsimp := false) (disch := (first | (refine dS ?_; kernel_rfl) | (refine dM ?_; kernel_rfl) | (refine dO ?_; simp (disch := ((try simp only [ZL]) <;> omega)) only [ZK, ZL]; done) | (refine dK ?_; (repeat first | exact Keep.refl _ _ | exact Keep.app _ _ (Nat.le_refl _) | assumption | refine Keep.ap ?_ | refine Keep.st (by first | omega | (simp only [ZL]; omega)) ?_); done) | ((try simp only [ZL]) <;> omega) | fail)) only [XOB, ↓XXs, ↓XD, ↓YX, ZB, Nat.reduceAdd, Nat.reducePow, ↓reduceIte, eq_self, Int.reduceEq, Nat.reduceEqDiff, Nat.reduceMul, Nat.reduceLeDiff, Int.reduceBEq, Int.reduceLT, Try.f10, ↓XH2, XRN, ZC, ZE, ZH, eq_self, Nat.reduceLeDiff, Nat.reduceBEq, slV_new, reduceIte, ↓op_extract, tupAt_mk, lenV_sl, Bool.not_true, Bool.not_false, lv]
    refine okr_call (r40 s (by omega) l h3 (by omega)) ?_
    rintro v4 h4 ⟨k4, ⟨hg2, _⟩ | ⟨_, rfl⟩⟩
    · rw [hg] at hg2; exact absurd hg2 (by simp)
    · try simp (dsimp := false) (disch := (first | (refine dS ?_; kernel_rfl) | (refine dM ?_; kernel_rfl) | (refine dO ?_; simp (disch := ((try simp only [ZL]) <;> omega)) only [ZK, ZL]; done) | (refine dK ?_; (repeat first | exact Keep.refl _ _ | exact Keep.app _ _ (Nat.le_refl _) | assumption | refine Keep.ap ?_ | refine Keep.st (by first | omega | (simp only [ZL]; omega)) ?_); done) | ((try simp only [ZL]) <;> omega) | fail)) only [XOB, ↓XXs, ↓XD, ↓YX, ZB, Nat.reduceAdd, Nat.reducePow, ↓reduceIte, eq_self, Int.reduceEq, Nat.reduceEqDiff, Nat.reduceMul, Nat.reduceLeDiff, Int.reduceBEq, Int.reduceLT, Try.f10, ↓XH2, XRN, ZC, ZE, ZH, eq_self, Nat.reduceLeDiff, Nat.reduceBEq, slV_new, reduceIte, ↓op_extract, tupAt_mk, lenV_sl, Bool.not_true, Bool.not_false, lv, bf, bff, a7]
      with_reducible refine Okr.ret ?_
      rfl
theorem rz10 (va : Value) (n l : Nat) (h : AH) (r : Cd h va n) (hl : l ≤ h.length) : ∃ h', run V0 (.fn 10) l [S va] h = some (.ret (.bool true) h') := by
  obtain ⟨v, h', e, rfl⟩ := r10 va n l h r hl
  exact ⟨h', e⟩
end Go.Abs
