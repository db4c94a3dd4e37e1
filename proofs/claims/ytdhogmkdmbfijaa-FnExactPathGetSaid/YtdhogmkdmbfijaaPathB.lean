/- That a path is read back from how it is written. For every path that is ok; no condition. -/
import Derived.Test.YtdhogmkdmbfijaaPathA
import Derived.Lib.IndexMore
import Derived.Lib.IndexAny
import Derived.Lib.Strings
import Derived.Test.YtdhogmkdmbfijaaDrawA
namespace Go.Abs
open Go.Proofs
set_option linter.unusedSimpArgs false
/-! ### a path is read: plain -/
def As (s : Bs) : Prop := ∀ b ∈ s, b.toNat < 128
def anyL (s : Bs) : Int := Lib.indexAny s [47, 91]
def rdSt (s : Bs) : St × Bs :=
  if anyL s < 0 then (⟨false, s, [], []⟩, [])
  else if (s.drop (anyL s).toNat).head? = some 91 then
    (⟨false, s.take (anyL s).toNat, (Lib.cut (s.drop ((anyL s).toNat + 1)) [61, 39]).1, (Lib.cut (Lib.cut (s.drop ((anyL s).toNat + 1)) [61, 39]).2.1 [39, 93]).1⟩, (Lib.cut (Lib.cut (s.drop ((anyL s).toNat + 1)) [61, 39]).2.1 [39, 93]).2.1)
  else (⟨false, s.take (anyL s).toNat, [], []⟩, s.drop (anyL s).toNat)
def trimL (s : Bs) : Bs := Lib.trimPrefix (Lib.trimPrefix s [47]) [47]
def deepen (d : Bool) (x : St) : St := ⟨d, x.name, x.attr, x.text⟩
def parF : Nat → Bs → List St → List St
  | 0, _, out => out
  | f + 1, s, out => if s = [] then out else parF f (rdSt (trimL s)).2 (out ++ [deepen (Lib.hasPrefix s [47, 47]) (rdSt (trimL s)).1])
theorem any_spec : ∀ s : Bs, (anyL s = -1 ∧ ∀ b ∈ s, b ≠ 47 ∧ b ≠ 91) ∨ ∃ d b r, s = d ++ b :: r ∧ anyL s = (d.length : Int) ∧ (b = 47 ∨ b = 91) ∧ ∀ c ∈ d, c ≠ 47 ∧ c ≠ 91
  | [] => .inl ⟨rfl, by simp⟩
  | b :: s => by
    by_cases hb : b = 47 ∨ b = 91
    · refine .inr ⟨[], b, s, rfl, ?_, hb, by simp⟩
      have : ([47, 91] : Bs).contains b = true := by rcases hb with rfl | rfl <;> rfl
      unfold anyL Lib.indexAny
      rw [if_pos this]; rfl
    · have hc : ¬ ([47, 91] : Bs).contains b = true := by
        intro h; apply hb; simpa using h
      have hb' : b ≠ 47 ∧ b ≠ 91 := ⟨fun q => hb (.inl q), fun q => hb (.inr q)⟩
      rcases any_spec s with ⟨h1, h2⟩ | ⟨d, c, r, h1, h2, h3, h4⟩
      · refine .inl ⟨?_, fun c hc => ?_⟩
        · unfold anyL at h1 ⊢
          unfold Lib.indexAny
          rw [if_neg hc, h1]; rfl
        · rcases List.mem_cons.1 hc with rfl | hc
          · exact hb'
          · exact h2 c hc
      · refine .inr ⟨b :: d, c, r, by rw [h1]; rfl, ?_, h3, fun x hx => ?_⟩
        · unfold anyL at h2 ⊢
          unfold Lib.indexAny
          rw [if_neg hc, h2]
          have : ((d.length : Int) == -1) = false := by rw [beq_eq_false_iff_ne]; omega
          rw [this]
          simp
        · rcases List.mem_cons.1 hx with rfl | hx
          · exact hb'
          · exact h4 x hx
theorem any_le (s : Bs) : anyL s < s.length ∧ -1 ≤ anyL s := by
  rcases any_spec s with ⟨h, _⟩ | ⟨d, b, r, h1, h2, _⟩
  · exact ⟨by omega, by omega⟩
  · exact ⟨by rw [h2, h1]; simp; omega, by omega⟩
theorem cut_len (s p : Bs) : (Lib.cut s p).1.length ≤ s.length ∧ (Lib.cut s p).2.1.length ≤ s.length := by
  unfold Lib.cut
  split
  · exact ⟨by rw [List.length_take]; omega, by rw [List.length_drop]; omega⟩
  · exact ⟨Nat.le_refl _, Nat.zero_le _⟩
theorem cut_as {s p : Bs} (h : As s) : As (Lib.cut s p).2.1 := by
  unfold Lib.cut
  split
  · exact fun b hb => h b (List.mem_of_mem_drop hb)
  · exact fun b hb => absurd hb (by simp)
theorem trim_len (s p : Bs) : (Lib.trimPrefix s p).length ≤ s.length := by
  unfold Lib.trimPrefix
  split
  · rw [List.length_drop]; omega
  · exact Nat.le_refl _
theorem trim_as {s p : Bs} (h : As s) : As (Lib.trimPrefix s p) := by
  unfold Lib.trimPrefix
  split
  · exact fun b hb => h b (List.mem_of_mem_drop hb)
  · exact h
theorem rd_len (s : Bs) : (rdSt s).2.length ≤ s.length ∧ (s ≠ [] → s.head? ≠ some 47 → (rdSt s).2.length < s.length) := by
  have hl := any_le s
  unfold rdSt
  split
  · refine ⟨Nat.zero_le _, fun h _ => ?_⟩
    exact List.length_pos_iff.2 h
  · split
    · have h1 := cut_len (s.drop ((anyL s).toNat + 1)) [61, 39]
      have h2 := cut_len (Lib.cut (s.drop ((anyL s).toNat + 1)) [61, 39]).2.1 [39, 93]
      rw [List.length_drop] at h1
      refine ⟨?_, fun _ _ => ?_⟩ <;> simp only <;> omega
    · refine ⟨by simp only [List.length_drop]; omega, fun h h47 => ?_⟩
      simp only [List.length_drop]
      rename_i hn hz
      rcases any_spec s with ⟨q, _⟩ | ⟨d, b, r, h1, h2, h3, _⟩
      · omega
      · have hd : d ≠ [] := by
          rintro rfl
          simp only [List.length_nil, Int.natCast_zero] at h2
          rw [h2] at hz
          subst h1
          rcases h3 with rfl | rfl
          · exact h47 rfl
          · exact hz rfl
        have := List.length_pos_iff.2 hd
        omega
theorem rd_as {s : Bs} (h : As s) : As (rdSt s).2 := by
  unfold rdSt
  split
  · exact fun b hb => absurd hb (by simp)
  · split
    · exact cut_as (cut_as fun b hb => h b (List.mem_of_mem_drop hb))
    · exact fun b hb => h b (List.mem_of_mem_drop hb)
theorem trim_head (s : Bs) : (trimL s).length < s.length ∨ (trimL s = s ∧ s.head? ≠ some 47) := by
  unfold trimL
  have h1 := trim_len (Lib.trimPrefix s [47]) [47]
  by_cases h : s.head? = some 47
  · left
    cases s with
    | nil => cases h
    | cons b r =>
      injection h with h; subst h
      have : Lib.trimPrefix (47 :: r) [47] = r := by simp [Lib.trimPrefix, Lib.hasPrefix]
      rw [this] at h1 ⊢
      simp only [List.length_cons]; omega
  · right
    have : Lib.trimPrefix s [47] = s := by
      unfold Lib.trimPrefix Lib.hasPrefix
      cases s with
      | nil => rfl
      | cons b r =>
        have hb : ¬ (47 == b) = true := by intro q; apply h; rw [List.head?_cons]; rw [beq_iff_eq] at q; rw [q]
        simp [List.isPrefixOf, hb]
    rw [this, this]
    exact ⟨rfl, h⟩
theorem step_less {s : Bs} (h : s ≠ []) : (rdSt (trimL s)).2.length < s.length := by
  rcases trim_head s with q | ⟨q, q2⟩
  · have := (rd_len (trimL s)).1; omega
  · rw [q]; exact (rd_len s).2 h q2
end Go.Abs
namespace Go.Abs
open Go.Proofs
set_option maxRecDepth 100000
set_option linter.unusedSimpArgs false
set_option linter.unusedVariables false
set_option pp.maxSteps 20000
set_option pp.deepTerms true
theorem p_has (s t : Bs) (l : Nat) (h : AH) : run V0 (.fn 70) l [S (sV s), S (sV t)] h = some (.ret (.bool (Lib.hasPrefix s t)) h) :=
  run_prim (vs := [sV s, sV t]) (p := pPure fHasPrefix) rfl rfl
theorem p_trim (s t : Bs) (l : Nat) (h : AH) : run V0 (.fn 71) l [S (sV s), S (sV t)] h = some (.ret (sV (Lib.trimPrefix s t)) h) :=
  run_prim (vs := [sV s, sV t]) (p := pPure fTrimPrefix) rfl rfl
theorem p_cut (s t : Bs) (l : Nat) (h : AH) (hs : s.length ≤ 2 ^ 30) : run V0 (.fn 106) l [S (sV s), S (sV t)] h = some (.ret (.tuple ⟨[sV (Lib.cut s t).1, sV (Lib.cut s t).2.1, .bool (Lib.cut s t).2.2]⟩) h) := by
  refine run_prim (vs := [sV s, sV t]) (p := pPure fCut) rfl ?_
  have hz : (B s).size < 4294967281 := by rw [size_B]; omega
  simp only [pPure, fCut]
  rw [if_pos hz]
  rfl
theorem p_any (s : Bs) (l : Nat) (h : AH) (hs : s.length ≤ 2 ^ 30) : run V0 (.fn 105) l [S (sV s), S (sV [47, 91])] h = some (.ret (iV (anyL s)) h) := by
  refine run_prim (vs := [sV s, sV [47, 91]]) (p := pPure fIndexAny) rfl ?_
  have hz : (B s).size < 4294967281 := by rw [size_B]; omega
  simp only [pPure, fIndexAny]
  rw [if_pos ⟨hz, rfl⟩]
  rfl
theorem r80 (s : Bs) (l : Nat) (h : AH) (hs : s.length ≤ 2 ^ 30) : run V0 (.fn 80) l [S (sV s)] h = some (.ret (sV s) h) := by
  have a1 : run V0 (.fn 112) l [S (sV s)] h = some (.ret (sV s) h) := by
    refine run_prim (vs := [sV s]) (p := pPure fClone) rfl ?_
    have hz : (B s).size ≤ 281474976710656 := by rw [size_B]; omega
    simp only [pPure, fClone]
    rw [if_pos hz]
    rfl
  refine run_fn Try.func80 rfl rfl rfl rfl ?_
  simp only [↓XX, ↓XD, ↓YX, ZB, Nat.reduceAdd, Nat.reducePow, ↓reduceIte, eq_self, Int.reduceEq, Nat.reduceEqDiff, Nat.reduceMul, Nat.reduceLeDiff, Try.f80, a1]
theorem cut_to' (s : Bs) (n : Nat) (hn : n ≤ s.length) : strCut (B s) 0 (n : Int) = some (B (s.take n)) := by
  have := strCut_B s 0 n (by omega) hn
  simpa using this
theorem cut_from' (s : Bs) (n : Nat) (hn : n ≤ s.length) : strCut (B s) (n : Int) ((B s).size : Int) = some (B (s.drop n)) := by
  have := strCut_B s n s.length hn (Nat.le_refl _)
  rw [size_B]
  simpa using this
def RdQ (H : AH) (x : St × Bs) (v : Value) (h' : AH) : Prop := v = .tuple ⟨[stV x.1, sV x.2]⟩ ∧ Keep H.length H h'
theorem r72 (s : Bs) (hs : s.length ≤ 2 ^ 20) (l : Nat) (h : AH) (hl : l ≤ h.length) : Okr (RdQ h (rdSt s)) (run V0 (.fn 72) l [S (sV s)] h) := by
  have a1 := fun h => p_any s l h (by omega)
  have c1 := fun h => r80 s l h (by omega)
  refine okr_fn Try.func72 rfl rfl rfl rfl ?_
  rcases any_spec s with ⟨e1, e2⟩ | ⟨d, b, r, rfl, e1, e2, e3⟩
  · have hr : rdSt s = (⟨false, s, [], []⟩, []) := by unfold rdSt; rw [if_pos (by omega)]
    rw [hr]
    have hlt : decide (anyL s < 0) = true := decide_eq_true (by omega)
    simp (dsimp := false) (disch := (first | (refine dS ?_; kernel_rfl) | (refine dM ?_; kernel_rfl) | (refine dO ?_; simp (disch := ((try simp only [ZL]) <;> omega)) only [ZK, ZL]; done) | (refine dK ?_; (repeat first | exact Keep.refl _ _ | exact Keep.app _ _ (Nat.le_refl _) | assumption | refine Keep.ap ?_ | refine Keep.st (by first | omega | (simp only [ZL]; omega)) ?_); done) | ((try simp only [ZL]) <;> omega) | fail)) only [XOB, ↓XXs, ↓XD, ↓YX, ZB, Nat.reduceAdd, Nat.reducePow, ↓reduceIte, eq_self, Int.reduceEq, Nat.reduceEqDiff, Nat.reduceMul, Nat.reduceLeDiff, Int.reduceBEq, Int.reduceLT, Try.f72, ↓XH2, XRN, ZC, ZE, ZH, eq_self, Nat.reduceLeDiff, Nat.reduceBEq, slV_new, reduceIte, ↓op_extract, tupAt_mk, lenV_sl, Bool.not_true, Bool.not_false, a1, c1, hlt]
    with_reducible refine Okr.ret ?_
    exact ⟨rfl, by (first | exact Keep.app _ _ (Nat.le_refl _) | exact Keep.app _ _ (by first | assumption | omega))⟩
  · have hlen : d.length + r.length + 1 ≤ 2 ^ 20 := by simp at hs; omega
    have hlt : decide ((d.length : Int) < 0) = false := decide_eq_false (by omega)
    have hct := cut_to' (d ++ b :: r) d.length (by simp)
    have hcf := cut_from' (d ++ b :: r) d.length (by simp)
    rw [List.take_left' rfl] at hct
    rw [List.drop_left' rfl] at hcf
    have c2 := fun h => r80 d l h (by omega)
    have hr0 : (anyL (d ++ b :: r)).toNat = d.length := by rw [e1]; rfl
    have hd1 : (d ++ b :: r).drop (d.length + 1) = r := by rw [← List.drop_drop, List.drop_left' rfl]; rfl
    rcases e2 with rfl | rfl
    · have hr : rdSt (d ++ 47 :: r) = (⟨false, d, [], []⟩, 47 :: r) := by
        unfold rdSt
        rw [if_neg (by omega), hr0, List.drop_left' rfl, if_neg (by simp), List.take_left' rfl]
      rw [hr]
      have hat : strAt (B (47 :: r)) 0 = some 47 := strAt_0 47 r
      simp (dsimp := false) (disch := (first | (refine dS ?_; kernel_rfl) | (refine dM ?_; kernel_rfl) | (refine dO ?_; simp (disch := ((try simp only [ZL]) <;> omega)) only [ZK, ZL]; done) | (refine dK ?_; (repeat first | exact Keep.refl _ _ | exact Keep.app _ _ (Nat.le_refl _) | assumption | refine Keep.ap ?_ | refine Keep.st (by first | omega | (simp only [ZL]; omega)) ?_); done) | ((try simp only [ZL]) <;> omega) | fail)) only [XOB, ↓XXs, ↓XD, ↓YX, ZB, Nat.reduceAdd, Nat.reducePow, ↓reduceIte, eq_self, Int.reduceEq, Nat.reduceEqDiff, Nat.reduceMul, Nat.reduceLeDiff, Int.reduceBEq, Int.reduceLT, Try.f72, ↓XH2, XRN, ZC, ZE, ZH, eq_self, Nat.reduceLeDiff, Nat.reduceBEq, slV_new, reduceIte, ↓op_extract, tupAt_mk, lenV_sl, Bool.not_true, Bool.not_false, a1, e1, c2, hlt, hct, hcf, hat]
      with_reducible refine Okr.ret ?_
      exact ⟨rfl, by (first | exact Keep.app _ _ (Nat.le_refl _) | exact Keep.app _ _ (by first | assumption | omega))⟩
    · have hr : rdSt (d ++ 91 :: r) = (⟨false, d, (Lib.cut r [61, 39]).1, (Lib.cut (Lib.cut r [61, 39]).2.1 [39, 93]).1⟩, (Lib.cut (Lib.cut r [61, 39]).2.1 [39, 93]).2.1) := by
        unfold rdSt
        rw [if_neg (by omega), hr0, List.drop_left' rfl, if_pos List.head?_cons, List.take_left' rfl, hd1]
      rw [hr]
      have hat : strAt (B (91 :: r)) 0 = some 91 := strAt_0 91 r
      have hc1 : strCut (B (91 :: r)) 1 ((B (91 :: r)).size : Int) = some (B r) := cut_from' (91 :: r) 1 (by simp)
      have n1 := cut_len r [61, 39]
      have n2 := cut_len (Lib.cut r [61, 39]).2.1 [39, 93]
      have a2 := fun h => p_cut r [61, 39] l h (by omega)
      have a3 := fun h => p_cut (Lib.cut r [61, 39]).2.1 [39, 93] l h (by omega)
      have c3 := fun h => r80 (Lib.cut r [61, 39]).1 l h (by omega)
      have c4 := fun h => r80 (Lib.cut (Lib.cut r [61, 39]).2.1 [39, 93]).1 l h (by omega)
      simp (dsimp := false) (disch := (first | (refine dS ?_; kernel_rfl) | (refine dM ?_; kernel_rfl) | (refine dO ?_; simp (disch := ((try simp only [ZL]) <;> omega)) only [ZK, ZL]; done) | (refine dK ?_; (repeat first | exact Keep.refl _ _ | exact Keep.app _ _ (Nat.le_refl _) | assumption | refine Keep.ap ?_ | refine Keep.st (by first | omega | (simp only [ZL]; omega)) ?_); done) | ((try simp only [ZL]) <;> omega) | fail)) only [XOB, ↓XXs, ↓XD, ↓YX, ZB, Nat.reduceAdd, Nat.reducePow, ↓reduceIte, eq_self, Int.reduceEq, Nat.reduceEqDiff, Nat.reduceMul, Nat.reduceLeDiff, Int.reduceBEq, Int.reduceLT, Try.f72, ↓XH2, XRN, ZC, ZE, ZH, eq_self, Nat.reduceLeDiff, Nat.reduceBEq, slV_new, reduceIte, ↓op_extract, tupAt_mk, lenV_sl, Bool.not_true, Bool.not_false, a1, e1, c2, hlt, hct, hcf, hat, hc1, a2, a3, c3, c4]
      with_reducible refine Okr.ret ?_
      exact ⟨rfl, by (first | exact Keep.app _ _ (Nat.le_refl _) | exact Keep.app _ _ (by first | assumption | omega))⟩
theorem St.app3 {lim : Nat} {h : AH} {id g g2 no nh : Nat} {os : List St} {cs ys : List Value} (y : St) (e : h[id]? = some (.row g 4 cs)) (e2 : h[nh]? = some (.row g2 4 ys)) (hc : cs = stR os) (hno : no = os.length) (hl : lim ≤ id) (hb : os.length ≤ 2 ^ 30) (hy : ys = stC y) :
    ∃ z, app lim h (slV id g no no) (slV nh g2 1 1) 4 4 56 = some z ∧ ∃ g', z = (slV id g' (no + 1) (no + 1), h.set id (.row g' 4 (stR (os ++ [y])))) := by
  subst hc hno hy
  obtain ⟨z, e1, g', rfl⟩ := okr_app (lim := lim) (id := id) (g := g) (tg := 4) (n := os.length) (k := 1) (by' := 56) (cs := stR os) (x := slV nh g2 1 1) (ds := stC y) (src_new (sz := 4) (tg := 4) e2 rfl) e (by rw [stR_len]; omega) hl (by omega)
  exact ⟨_, e1, g', by rw [stR_app]; simp [stR]⟩
theorem decB (a b : Bs) : decide (B a = B b) = decide (a = b) := by rw [decide_eq_decide, B_inj]
theorem cut_fit (s p : Bs) : (Lib.cut s p).1.length ≤ s.length := (cut_len s p).1
theorem rd_fit (s : Bs) (hs : s.length ≤ 2 ^ 20) : Fit20 (rdSt s).1 := by
  have h1 := cut_len (s.drop ((anyL s).toNat + 1)) [61, 39]
  have h2 := cut_len (Lib.cut (s.drop ((anyL s).toNat + 1)) [61, 39]).2.1 [39, 93]
  have h3 := List.length_drop (l := s) (i := (anyL s).toNat + 1)
  unfold rdSt Fit20
  split
  · exact ⟨hs, by simp, by simp⟩
  · split
    · refine ⟨?_, ?_, ?_⟩ <;> simp only [List.length_take] <;> omega
    · refine ⟨?_, ?_, ?_⟩ <;> simp only [List.length_take, List.length_nil] <;> omega
theorem trimL_len (s : Bs) : (trimL s).length ≤ s.length := by
  have h1 := trim_len s [47]
  have h2 := trim_len (Lib.trimPrefix s [47]) [47]
  unfold trimL; omega
theorem Fit20.f60 {x : St} (h : Fit20 x) : Fit x := ⟨by have := h.1; omega, by have := h.2.1; omega, by have := h.2.2; omega⟩
/-- what is read: if what is read is written just so -/
def goodL (s : Bs) (L : List St) : Bool := okL L && decide (pathL L 0 = s)
def GetQ (H0 : AH) (s : Bs) (L : List St) (v : Value) (h' : AH) : Prop :=
  Keep H0.length H0 h' ∧ ((goodL s L = true ∧ ∃ i g, v = .tuple ⟨[slV i g L.length L.length, .bool true]⟩ ∧ h'[i]? = some (.row g 4 (stR L)) ∧ H0.length ≤ i) ∨ (goodL s L = false ∧ v = .tuple ⟨[.slice none 0 0, .bool false]⟩))
theorem slCut_lenS {h : AH} {id off g n c sz : Nat} {cs : List Value} (e : h[id]? = some (.row g sz cs)) (hn : n ≤ c) (hw : wd sz = sz := by rfl) :
    slCut h (.slice (some ⟨id, off, some g⟩) n c) none (some (n : Int)) (some (n : Int)) sz = some (.slice (some ⟨id, off, some g⟩) n n) := by
  simp only [slCut, rowAt_of e, Option.bind_some, Option.getD_none, Option.getD_some]
  rw [if_pos ⟨by omega, by omega, hw, by omega, hn⟩, if_pos ⟨by omega, by omega⟩]
  simp
theorem r73 (id g n c l : Nat) (h : AH) (cs : List Value) (e : h[id]? = some (.row g 4 cs)) (hn : n ≤ c) : run V0 (.fn 73) l [S (slV id g n c)] h = some (.ret (slV id g n n) h) := by
  refine run_fn Try.func73 rfl rfl rfl rfl ?_
  simp only [↓XX, ↓XD, ↓YX, ZB, Nat.reduceAdd, Nat.reducePow, ↓reduceIte, eq_self, Int.reduceEq, Nat.reduceEqDiff, Nat.reduceMul, Nat.reduceLeDiff, Try.f73, lenV, slCut_lenS e hn, Option.isNone_some, Option.isNone_none, Option.isSome_some, Bool.or_true, Bool.false_or]
theorem L33e (l : Nat) (s : Bs) (H0 : AH) (hl : l ≤ H0.length) (out : List St) (ho : out.length ≤ 2 ^ 20) (fo : ∀ x ∈ out, Fit20 x) (iO gO no : Nat) (h : AH) (k : Keep H0.length H0 h) (hiO : H0.length ≤ iO) (eO : h[iO]? = some (.row gO 4 (stR out))) (hno : no = out.length) :
    Okr (GetQ H0 s out) (L33_0 l (sV s) (slV iO gO no no) (sV []) h) := by
  subst hno
  have hk := k.1
  have hpl := pathL_len out 0 fo
  obtain ⟨h1, a1, k1⟩ := r23 iO gO out.length l out h (by omega) (fun x hx => (fo x hx).f60) eO
  have hk1 := k1.1
  have eO1 := k1.get eO (lt_of_get eO)
  rw [show (out.all stOkL && inI out.length 1 5) = okL out from rfl] at a1
  obtain ⟨h2, a2, k2⟩ := r26 iO gO out.length l out h1 (by omega) (by omega) (fun x hx => (fo x hx).f60) eO1 (by omega)
  have hk2 := k2.1
  have eO2 := k2.get eO1 (lt_of_get eO1)
  have b1 := decB (putL out) s
  have a3 := r73 iO gO out.length out.length l h2 _ eO2 (Nat.le_refl _)
  refine okr_code Try.func33 rfl rfl ?_
  cases q1 : okL out with
  | false =>
    rw [q1] at a1
    simp (dsimp := false) (disch := (first | (refine dS ?_; kernel_rfl) | (refine dM ?_; kernel_rfl) | (refine dO ?_; simp (disch := ((try simp only [ZL]) <;> omega)) only [ZK, ZL]; done) | (refine dK ?_; (repeat first | exact Keep.refl _ _ | exact Keep.app _ _ (Nat.le_refl _) | assumption | refine Keep.ap ?_ | refine Keep.st (by first | omega | (simp only [ZL]; omega)) ?_); done) | ((try simp only [ZL]) <;> omega) | fail)) only [XOB, ↓XXs, ↓XD, ↓YX, ZB, Nat.reduceAdd, Nat.reducePow, ↓reduceIte, eq_self, Int.reduceEq, Nat.reduceEqDiff, Nat.reduceMul, Nat.reduceLeDiff, Int.reduceBEq, Int.reduceLT, Try.f33, ↓XH2, XRN, ZC, ZE, ZH, eq_self, Nat.reduceLeDiff, Nat.reduceBEq, slV_new, reduceIte, ↓op_extract, tupAt_mk, lenV_sl, Bool.not_true, Bool.not_false, a1, a2, a3, b1]
    with_reducible refine Okr.ret ?_
    exact ⟨k.trans (k1.le hk), .inr ⟨by simp [goodL, q1], rfl⟩⟩
  | true =>
    rw [q1] at a1
    have hp : putL out = pathL out 0 := by unfold putL; rw [if_pos q1]
    cases q2 : decide (putL out = s) with
    | false =>
      rw [q2] at b1
      simp (dsimp := false) (disch := (first | (refine dS ?_; kernel_rfl) | (refine dM ?_; kernel_rfl) | (refine dO ?_; simp (disch := ((try simp only [ZL]) <;> omega)) only [ZK, ZL]; done) | (refine dK ?_; (repeat first | exact Keep.refl _ _ | exact Keep.app _ _ (Nat.le_refl _) | assumption | refine Keep.ap ?_ | refine Keep.st (by first | omega | (simp only [ZL]; omega)) ?_); done) | ((try simp only [ZL]) <;> omega) | fail)) only [XOB, ↓XXs, ↓XD, ↓YX, ZB, Nat.reduceAdd, Nat.reducePow, ↓reduceIte, eq_self, Int.reduceEq, Nat.reduceEqDiff, Nat.reduceMul, Nat.reduceLeDiff, Int.reduceBEq, Int.reduceLT, Try.f33, ↓XH2, XRN, ZC, ZE, ZH, eq_self, Nat.reduceLeDiff, Nat.reduceBEq, slV_new, reduceIte, ↓op_extract, tupAt_mk, lenV_sl, Bool.not_true, Bool.not_false, a1, a2, a3, b1]
      with_reducible refine Okr.ret ?_
      refine ⟨k.trans ((k1.trans (k2.le hk1)).le hk), .inr ⟨?_, rfl⟩⟩
      unfold goodL
      rw [q1, ← hp, q2]; rfl
    | true =>
      rw [q2] at b1
      simp (dsimp := false) (disch := (first | (refine dS ?_; kernel_rfl) | (refine dM ?_; kernel_rfl) | (refine dO ?_; simp (disch := ((try simp only [ZL]) <;> omega)) only [ZK, ZL]; done) | (refine dK ?_; (repeat first | exact Keep.refl _ _ | exact Keep.app _ _ (Nat.le_refl _) | assumption | refine Keep.ap ?_ | refine Keep.st (by first | omega | (simp only [ZL]; omega)) ?_); done) | ((try simp only [ZL]) <;> omega) | fail)) only [XOB, ↓XXs, ↓XD, ↓YX, ZB, Nat.reduceAdd, Nat.reducePow, ↓reduceIte, eq_self, Int.reduceEq, Nat.reduceEqDiff, Nat.reduceMul, Nat.reduceLeDiff, Int.reduceBEq, Int.reduceLT, Try.f33, ↓XH2, XRN, ZC, ZE, ZH, eq_self, Nat.reduceLeDiff, Nat.reduceBEq, slV_new, reduceIte, ↓op_extract, tupAt_mk, lenV_sl, Bool.not_true, Bool.not_false, a1, a2, a3, b1]
      with_reducible refine Okr.ret ?_
      refine ⟨k.trans ((k1.trans (k2.le hk1)).le hk), .inl ⟨?_, iO, gO, rfl, eO2, hiO⟩⟩
      unfold goodL
      rw [q1, ← hp, q2]; rfl
theorem L33 (l : Nat) (s : Bs) (H0 : AH) (hl : l ≤ H0.length) (hs : s.length ≤ 2 ^ 20) :
    ∀ (f : Nat) (r : Bs) (out : List St), r.length ≤ f → r.length ≤ 2 ^ 20 → out.length + r.length ≤ 2 ^ 20 → (∀ x ∈ out, Fit20 x) → ∀ (iO gO no : Nat) (h : AH), Keep H0.length H0 h → H0.length ≤ iO → h[iO]? = some (.row gO 4 (stR out)) → no = out.length →
      Okr (GetQ H0 s (parF f r out)) (L33_0 l (sV s) (slV iO gO no no) (sV r) h) := by
  intro f
  induction f with
  | zero =>
    rintro r out hr hr2 ho fo iO gO no h k hiO eO rfl
    obtain rfl : r = [] := List.length_eq_zero_iff.1 (by omega)
    exact L33e l s H0 hl out (by omega) fo iO gO _ h k hiO eO rfl
  | succ f ih =>
    rintro r out hr hr2 ho fo iO gO no h k hiO eO rfl
    have hk := k.1
    have hO := lt_of_get eO
    have hlh : l ≤ h.length := by omega
    by_cases hz : r = []
    · subst hz
      have : parF (f + 1) [] out = out := by rw [parF, if_pos rfl]
      rw [this]
      exact L33e l s H0 hl out (by omega) fo iO gO _ h k hiO eO rfl
    · have hne : decide (B r = B []) = false := by rw [decB]; exact decide_eq_false hz
      have a1 := fun h => p_has r [47, 47] l h
      have a2 := fun h => p_trim r [47] l h
      have a3 := fun h => p_trim (Lib.trimPrefix r [47]) [47] l h
      have htr : Lib.trimPrefix (Lib.trimPrefix r [47]) [47] = trimL r := rfl
      rw [htr] at a3
      have hls := step_less hz
      have htl := trimL_len r
      have hstep : parF (f + 1) r out = parF f (rdSt (trimL r)).2 (out ++ [deepen (Lib.hasPrefix r [47, 47]) (rdSt (trimL r)).1]) := by
        rw [parF, if_neg hz]
      rw [hstep]
      refine okr_code Try.func33 rfl rfl ?_
      simp (dsimp := false) (disch := (first | (refine dS ?_; kernel_rfl) | (refine dM ?_; kernel_rfl) | (refine dO ?_; simp (disch := ((try simp only [ZL]) <;> omega)) only [ZK, ZL]; done) | (refine dK ?_; (repeat first | exact Keep.refl _ _ | exact Keep.app _ _ (Nat.le_refl _) | assumption | refine Keep.ap ?_ | refine Keep.st (by first | omega | (simp only [ZL]; omega)) ?_); done) | ((try simp only [ZL]) <;> omega) | fail)) only [XOB, ↓XXs, ↓XD, ↓YX, ZB, Nat.reduceAdd, Nat.reducePow, ↓reduceIte, eq_self, Int.reduceEq, Nat.reduceEqDiff, Nat.reduceMul, Nat.reduceLeDiff, Int.reduceBEq, Int.reduceLT, Try.f33, ↓XH2, XRN, ZC, ZE, ZH, eq_self, Nat.reduceLeDiff, Nat.reduceBEq, slV_new, reduceIte, ↓op_extract, tupAt_mk, lenV_sl, Bool.not_true, Bool.not_false, hne, a1, a2, a3]
      refine okr_call (r72 (trimL r) (by omega) l h hlh) ?_
      rintro _ h1 ⟨rfl, k1⟩
      have hk1 := k1.1
      have eO1 := k1.get eO hO
      have hO1 := lt_of_get eO1
      simp (dsimp := false) (disch := (first | (refine dS ?_; kernel_rfl) | (refine dM ?_; kernel_rfl) | (refine dO ?_; simp (disch := ((try simp only [ZL]) <;> omega)) only [ZK, ZL]; done) | (refine dK ?_; (repeat first | exact Keep.refl _ _ | exact Keep.app _ _ (Nat.le_refl _) | assumption | refine Keep.ap ?_ | refine Keep.st (by first | omega | (simp only [ZL]; omega)) ?_); done) | ((try simp only [ZL]) <;> omega) | fail)) only [XOB, ↓XXs, ↓XD, ↓YX, ZB, Nat.reduceAdd, Nat.reducePow, ↓reduceIte, eq_self, Int.reduceEq, Nat.reduceEqDiff, Nat.reduceMul, Nat.reduceLeDiff, Int.reduceBEq, Int.reduceLT, Try.f33, ↓XH2, XRN, ZC, ZE, ZH, eq_self, Nat.reduceLeDiff, Nat.reduceBEq, slV_new, reduceIte, ↓op_extract, tupAt_mk, lenV_sl, Bool.not_true, Bool.not_false, hne, a1, a2, a3]
      refine okr_opt (St.app3 (os := out) (deepen (Lib.hasPrefix r [47, 47]) (rdSt (trimL r)).1) (by simp (disch := (first | (refine dS ?_; kernel_rfl) | (refine dM ?_; kernel_rfl) | (refine dO ?_; simp (disch := ((try simp only [ZL]) <;> omega)) only [ZK, ZL]; done) | (refine dK ?_; (repeat first | exact Keep.refl _ _ | exact Keep.app _ _ (Nat.le_refl _) | assumption | refine Keep.ap ?_ | refine Keep.st (by first | omega | (simp only [ZL]; omega)) ?_); done) | ((try simp only [ZL]) <;> omega) | fail)) only [↓XH2, XRN, ZC, ZE, ZH, eq_self, Nat.reduceLeDiff, Nat.reduceBEq, eO1]) (by simp (disch := (first | (refine dS ?_; kernel_rfl) | (refine dM ?_; kernel_rfl) | (refine dO ?_; simp (disch := ((try simp only [ZL]) <;> omega)) only [ZK, ZL]; done) | (refine dK ?_; (repeat first | exact Keep.refl _ _ | exact Keep.app _ _ (Nat.le_refl _) | assumption | refine Keep.ap ?_ | refine Keep.st (by first | omega | (simp only [ZL]; omega)) ?_); done) | ((try simp only [ZL]) <;> omega) | fail)) only [↓XH2, XRN, ZC, ZE, ZH, eq_self, Nat.reduceLeDiff, Nat.reduceBEq] <;> rfl) rfl rfl (by omega) (by omega) rfl) ?_
      rintro _ ⟨g4, rfl⟩
      simp (dsimp := false) (disch := (first | (refine dS ?_; kernel_rfl) | (refine dM ?_; kernel_rfl) | (refine dO ?_; simp (disch := ((try simp only [ZL]) <;> omega)) only [ZK, ZL]; done) | (refine dK ?_; (repeat first | exact Keep.refl _ _ | exact Keep.app _ _ (Nat.le_refl _) | assumption | refine Keep.ap ?_ | refine Keep.st (by first | omega | (simp only [ZL]; omega)) ?_); done) | ((try simp only [ZL]) <;> omega) | fail)) only [XOB, ↓XXs, ↓XD, ↓YX, ZB, Nat.reduceAdd, Nat.reducePow, ↓reduceIte, eq_self, Int.reduceEq, Nat.reduceEqDiff, Nat.reduceMul, Nat.reduceLeDiff, Int.reduceBEq, Int.reduceLT, Try.f33, ↓XH2, XRN, ZC, ZE, ZH, eq_self, Nat.reduceLeDiff, Nat.reduceBEq, slV_new, reduceIte, ↓op_extract, tupAt_mk, lenV_sl, Bool.not_true, Bool.not_false, hne, a1, a2, a3]
      have hfx := rd_fit (trimL r) (by omega)
      exact ih (rdSt (trimL r)).2 (out ++ [deepen (Lib.hasPrefix r [47, 47]) (rdSt (trimL r)).1]) (by omega) (by omega) (by simp; omega) (fun x hx => by
        rcases List.mem_append.1 hx with hx | hx
        · exact fo x hx
        · rw [List.mem_singleton] at hx; subst hx; exact hfx) iO g4 _ _ (k.trans ((k1.le hk).trans ((Keep.set h1 iO _ hiO).trans (Keep.app _ _ (by simp; omega))))) hiO (by simp (disch := (first | (refine dS ?_; kernel_rfl) | (refine dM ?_; kernel_rfl) | (refine dO ?_; simp (disch := ((try simp only [ZL]) <;> omega)) only [ZK, ZL]; done) | (refine dK ?_; (repeat first | exact Keep.refl _ _ | exact Keep.app _ _ (Nat.le_refl _) | assumption | refine Keep.ap ?_ | refine Keep.st (by first | omega | (simp only [ZL]; omega)) ?_); done) | ((try simp only [ZL]) <;> omega) | fail)) only [↓XH2, XRN, ZC, ZE, ZH, eq_self, Nat.reduceLeDiff, Nat.reduceBEq]) (by simp)
/-- what impl.PathGet reads -/
def readL (s : Bs) : List St := parF s.length s []
def gotL (s : Bs) : Bool := decide (s.length ≤ 160) && goodL s (readL s)
def GotQ (H0 : AH) (s : Bs) (v : Value) (h' : AH) : Prop :=
  Keep H0.length H0 h' ∧ ((gotL s = true ∧ ∃ i g, v = .tuple ⟨[slV i g (readL s).length (readL s).length, .bool true]⟩ ∧ h'[i]? = some (.row g 4 (stR (readL s))) ∧ H0.length ≤ i) ∨ (gotL s = false ∧ v = .tuple ⟨[.slice none 0 0, .bool false]⟩))
theorem r33 (s : Bs) (hs : s.length ≤ 2 ^ 60) (l : Nat) (h : AH) (hl : l ≤ h.length) : Okr (GotQ h s) (run V0 (.fn 33) l [S (sV s)] h) := by
  refine okr_fn Try.func33 rfl rfl rfl rfl ?_
  have hsz := size_B s
  by_cases hq : s.length ≤ 160
  · have hlt : decide ((160 : Int) < ((B s).size : Int)) = false := decide_eq_false (by omega)
    simp (dsimp := false) (disch := (first | (refine dS ?_; kernel_rfl) | (refine dM ?_; kernel_rfl) | (refine dO ?_; simp (disch := ((try simp only [ZL]) <;> omega)) only [ZK, ZL]; done) | (refine dK ?_; (repeat first | exact Keep.refl _ _ | exact Keep.app _ _ (Nat.le_refl _) | assumption | refine Keep.ap ?_ | refine Keep.st (by first | omega | (simp only [ZL]; omega)) ?_); done) | ((try simp only [ZL]) <;> omega) | fail)) only [XOB, ↓XXs, ↓XD, ↓YX, ZB, Nat.reduceAdd, Nat.reducePow, ↓reduceIte, eq_self, Int.reduceEq, Nat.reduceEqDiff, Nat.reduceMul, Nat.reduceLeDiff, Int.reduceBEq, Int.reduceLT, Try.f33, ↓XH2, XRN, ZC, ZE, ZH, eq_self, Nat.reduceLeDiff, Nat.reduceBEq, slV_new, reduceIte, ↓op_extract, tupAt_mk, lenV_sl, Bool.not_true, Bool.not_false, hlt]
    refine Okr.mono (L33 l s h hl (by omega) s.length s [] (Nat.le_refl _) (by omega) (by simp; omega) (by simp) h.length 0 0 _ (Keep.app _ _ (Nat.le_refl _)) (Nat.le_refl _) (by simp (disch := (first | (refine dS ?_; kernel_rfl) | (refine dM ?_; kernel_rfl) | (refine dO ?_; simp (disch := ((try simp only [ZL]) <;> omega)) only [ZK, ZL]; done) | (refine dK ?_; (repeat first | exact Keep.refl _ _ | exact Keep.app _ _ (Nat.le_refl _) | assumption | refine Keep.ap ?_ | refine Keep.st (by first | omega | (simp only [ZL]; omega)) ?_); done) | ((try simp only [ZL]) <;> omega) | fail)) only [↓XH2, XRN, ZC, ZE, ZH, eq_self, Nat.reduceLeDiff, Nat.reduceBEq]; rfl) rfl) fun v h' e => ⟨e.1, ?_⟩
    have hg : gotL s = goodL s (readL s) := by unfold gotL; rw [decide_eq_true hq, Bool.true_and]
    rw [hg]
    exact e.2
  · have hlt : decide ((160 : Int) < ((B s).size : Int)) = true := decide_eq_true (by omega)
    simp (dsimp := false) (disch := (first | (refine dS ?_; kernel_rfl) | (refine dM ?_; kernel_rfl) | (refine dO ?_; simp (disch := ((try simp only [ZL]) <;> omega)) only [ZK, ZL]; done) | (refine dK ?_; (repeat first | exact Keep.refl _ _ | exact Keep.app _ _ (Nat.le_refl _) | assumption | refine Keep.ap ?_ | refine Keep.st (by first | omega | (simp only [ZL]; omega)) ?_); done) | ((try simp only [ZL]) <;> omega) | fail)) only [XOB, ↓XXs, ↓XD, ↓YX, ZB, Nat.reduceAdd, Nat.reducePow, ↓reduceIte, eq_self, Int.reduceEq, Nat.reduceEqDiff, Nat.reduceMul, Nat.reduceLeDiff, Int.reduceBEq, Int.reduceLT, Try.f33, ↓XH2, XRN, ZC, ZE, ZH, eq_self, Nat.reduceLeDiff, Nat.reduceBEq, slV_new, reduceIte, ↓op_extract, tupAt_mk, lenV_sl, Bool.not_true, Bool.not_false, hlt]
    with_reducible refine Okr.ret ?_
    refine ⟨Keep.refl _ _, .inr ⟨?_, rfl⟩⟩
    unfold gotL
    rw [decide_eq_false hq, Bool.false_and]
end Go.Abs
namespace Go.Abs
open Go.Proofs
set_option linter.unusedSimpArgs false
/-! ### a path is read back from how it is written: plain -/
def NoStop (s : Bs) : Prop := ∀ c ∈ s, c ≠ 47 ∧ c ≠ 91
theorem any_at : ∀ (d : Bs) (b : UInt8) (r : Bs), NoStop d → (b = 47 ∨ b = 91) → anyL (d ++ b :: r) = (d.length : Int)
  | [], b, r, _, hb => by
    have : ([47, 91] : Bs).contains b = true := by rcases hb with rfl | rfl <;> rfl
    unfold anyL
    rw [List.nil_append]
    unfold Lib.indexAny
    rw [if_pos this]; rfl
  | c :: d, b, r, h, hb => by
    have hc : ¬ ([47, 91] : Bs).contains c = true := by
      intro q
      have := h c (by simp)
      simp at q
      rcases q with q | q
      · exact this.1 q
      · exact this.2 q
    have ih := any_at d b r (fun x hx => h x (by simp [hx])) hb
    unfold anyL at ih ⊢
    rw [List.cons_append]
    unfold Lib.indexAny
    rw [if_neg hc, ih]
    have : ((d.length : Int) == -1) = false := by rw [beq_eq_false_iff_ne]; omega
    rw [this]
    simp
theorem any_none (d : Bs) (h : NoStop d) : anyL d = -1 := by
  rcases any_spec d with ⟨q, _⟩ | ⟨a, b, r, q, _, hb, _⟩
  · exact q
  · have := h b (by rw [q]; simp)
    rcases hb with rfl | rfl
    · exact absurd rfl this.1
    · exact absurd rfl this.2
theorem ix_at (c e : UInt8) (r : Bs) : ∀ a : Bs, (∀ x ∈ a, x ≠ c) → Lib.index (a ++ c :: e :: r) [c, e] = (a.length : Int)
  | [], _ => by simp [Lib.index, List.isPrefixOf]
  | x :: a, h => by
    have ih := ix_at c e r a (fun y hy => h y (by simp [hy]))
    have hx : (c == x) = false := by rw [beq_eq_false_iff_ne]; exact fun q => h x (by simp) q.symm
    have hp : ([c, e] : Bs).isPrefixOf (x :: (a ++ c :: e :: r)) = false := by simp [List.isPrefixOf, hx]
    rw [List.cons_append]
    unfold Lib.index
    rw [hp, ih]
    have : ((a.length : Int) == -1) = false := by rw [beq_eq_false_iff_ne]; omega
    rw [this]
    simp
theorem cut_at (c e : UInt8) (r a : Bs) (h : ∀ x ∈ a, x ≠ c) : Lib.cut (a ++ c :: e :: r) [c, e] = (a, r, true) := by
  unfold Lib.cut
  rw [ix_at c e r a h, if_pos (by omega)]
  have h1 : ((a.length : Int)).toNat = a.length := by omega
  have h2 : (a ++ c :: e :: r).drop (a.length + 2) = r := by rw [← List.drop_drop, List.drop_left' rfl]; rfl
  rw [h1, List.take_left' rfl]
  exact congrArg (fun z => (a, z, true)) h2
theorem nameI_no {b : UInt8} (h : nameI b.toNat = true) : b ≠ 47 ∧ b ≠ 91 ∧ b ≠ 61 := by
  refine ⟨?_, ?_, ?_⟩ <;> rintro rfl <;> exact absurd h (by decide)
theorem valI_no {b : UInt8} (h : valI b.toNat = true) : b ≠ 39 := by
  rintro rfl; exact absurd h (by decide)
theorem name_all {s : Bs} (h : nameOkL s = true) : ∀ b ∈ s, nameI b.toNat = true := by
  unfold nameOkL at h
  simp only [Bool.and_eq_true, List.all_eq_true] at h
  exact h.1
theorem name_ne {s : Bs} (h : nameOkL s = true) : s ≠ [] := by
  rintro rfl
  revert h; decide
theorem st_name {x : St} (h : stOkL x = true) : x.name ≠ [] ∧ NoStop x.name := by
  unfold stOkL at h
  simp only [Bool.and_eq_true, Bool.or_eq_true, decide_eq_true_eq] at h
  rcases h.1 with q | q
  · rw [q]
    exact ⟨by simp, fun c hc => by simp at hc; subst hc; decide⟩
  · exact ⟨name_ne q, fun c hc => ⟨(nameI_no (name_all q c hc)).1, (nameI_no (name_all q c hc)).2.1⟩⟩
theorem st_attr {x : St} (h : stOkL x = true) : (x.attr = [] ∧ x.text = []) ∨ (x.attr ≠ [] ∧ (∀ b ∈ x.attr, b ≠ 61) ∧ ∀ b ∈ x.text, b ≠ 39) := by
  unfold stOkL at h
  simp only [Bool.and_eq_true, Bool.or_eq_true, decide_eq_true_eq] at h
  rcases h.2 with q | q
  · exact .inl q
  · refine .inr ⟨name_ne q.1, fun b hb => (nameI_no (name_all q.1 b hb)).2.2, fun b hb => ?_⟩
    have := q.2
    unfold valOkL at this
    simp only [Bool.and_eq_true, List.all_eq_true] at this
    exact valI_no (this.1 b hb)
theorem rd_text (x : St) (ok : stOkL x = true) (rest : Bs) (hr : rest = [] ∨ ∃ r, rest = 47 :: r) : rdSt (x.name ++ (stTail x ++ rest)) = (⟨false, x.name, x.attr, x.text⟩, rest) := by
  obtain ⟨hn, ns⟩ := st_name ok
  rcases st_attr ok with ⟨q1, q2⟩ | ⟨q1, q2, q3⟩
  · have ht : stTail x = [] := by unfold stTail; rw [if_pos q1]
    rw [ht, List.nil_append, q1, q2]
    rcases hr with rfl | ⟨r, rfl⟩
    · rw [List.append_nil]
      unfold rdSt
      rw [any_none _ ns, if_pos (by omega)]
    · unfold rdSt
      rw [any_at _ _ _ ns (.inl rfl), if_neg (by omega)]
      have h1 : ((x.name.length : Int)).toNat = x.name.length := by omega
      rw [h1, List.drop_left' rfl, if_neg (by simp), List.take_left' rfl]
  · have ht : stTail x ++ rest = 91 :: (x.attr ++ 61 :: 39 :: (x.text ++ 39 :: 93 :: rest)) := by
      unfold stTail; rw [if_neg q1]; simp
    rw [ht]
    unfold rdSt
    rw [any_at _ _ _ ns (.inr rfl), if_neg (by omega)]
    have h1 : ((x.name.length : Int)).toNat = x.name.length := by omega
    have h2 : (x.name ++ 91 :: (x.attr ++ 61 :: 39 :: (x.text ++ 39 :: 93 :: rest))).drop (x.name.length + 1) = x.attr ++ 61 :: 39 :: (x.text ++ 39 :: 93 :: rest) := by rw [← List.drop_drop, List.drop_left' rfl]; rfl
    rw [h1, List.drop_left' rfl, if_pos List.head?_cons, List.take_left' rfl, h2, cut_at 61 39 _ _ q2, cut_at 39 93 _ _ q3]
theorem path_head (x : St) (r : List St) (i : Nat) : pathL (x :: r) i = stSep i x ++ (x.name ++ (stTail x ++ pathL r (i + 1))) := by
  simp [pathL, stText, List.append_assoc]
theorem path_slash : ∀ (r : List St) (i : Nat), pathL r (i + 1) = [] ∨ ∃ t, pathL r (i + 1) = 47 :: t
  | [], i => .inl rfl
  | x :: r, i => by
    right
    rw [path_head]
    unfold stSep
    split
    · exact ⟨_, rfl⟩
    · rw [if_pos (by omega)]; exact ⟨_, rfl⟩
theorem sep_read (i : Nat) (x : St) (N : Bs) (h0 : N ≠ []) (h : N.head? ≠ some 47) : Lib.hasPrefix (stSep i x ++ N) [47, 47] = x.deep ∧ trimL (stSep i x ++ N) = N ∧ stSep i x ++ N ≠ [] := by
  obtain ⟨b, t, rfl⟩ : ∃ b t, N = b :: t := by cases N with | nil => exact absurd rfl h0 | cons b t => exact ⟨b, t, rfl⟩
  have hb : (47 == b) = false := by rw [beq_eq_false_iff_ne]; intro q; apply h; rw [List.head?_cons, q]
  have hp : Lib.hasPrefix (b :: t) [47] = false := by simp [Lib.hasPrefix, List.isPrefixOf, hb]
  have ht : Lib.trimPrefix (b :: t) [47] = b :: t := by unfold Lib.trimPrefix; rw [hp]; rfl
  have ht2 : Lib.trimPrefix (47 :: b :: t) [47] = b :: t := by unfold Lib.trimPrefix; simp [Lib.hasPrefix, List.isPrefixOf]
  unfold stSep
  cases hd : x.deep with
  | true =>
    refine ⟨by simp [Lib.hasPrefix, List.isPrefixOf], ?_, by simp⟩
    have h3 : Lib.trimPrefix (47 :: 47 :: b :: t) [47] = 47 :: b :: t := by unfold Lib.trimPrefix; simp [Lib.hasPrefix, List.isPrefixOf]
    show trimL (47 :: 47 :: b :: t) = _
    unfold trimL
    rw [h3, ht2]
  | false =>
    by_cases hi : 0 < i
    · rw [if_neg (by simp), if_pos hi]
      refine ⟨by simp [Lib.hasPrefix, List.isPrefixOf, hb], ?_, by simp⟩
      show trimL (47 :: b :: t) = _
      unfold trimL
      rw [ht2, ht]
    · rw [if_neg (by simp), if_neg hi, List.nil_append]
      refine ⟨by simp [Lib.hasPrefix, List.isPrefixOf, hb], ?_, by simp⟩
      unfold trimL
      rw [ht, ht]
theorem par_path : ∀ (L : List St) (i f : Nat) (out : List St), (∀ x ∈ L, stOkL x = true) → (pathL L i).length ≤ f → parF f (pathL L i) out = out ++ L
  | [], i, f, out, _, _ => by
    have : pathL [] i = [] := rfl
    rw [this, List.append_nil]
    cases f with
    | zero => rfl
    | succ f => rw [parF, if_pos rfl]
  | x :: L, i, f, out, ok, hf => by
    have okx := ok x (by simp)
    obtain ⟨hn, ns⟩ := st_name okx
    have h0 : x.name ++ (stTail x ++ pathL L (i + 1)) ≠ [] := by simp [hn]
    have hh : (x.name ++ (stTail x ++ pathL L (i + 1))).head? ≠ some 47 := by
      cases hx : x.name with
      | nil => exact absurd hx hn
      | cons b t =>
        have := (ns b (by rw [hx]; simp)).1
        simp only [List.cons_append, List.head?_cons]
        intro q; injection q with q; exact this q
    obtain ⟨s1, s2, s3⟩ := sep_read i x _ h0 hh
    rw [path_head] at hf ⊢
    cases f with
    | zero => exact absurd (List.length_eq_zero_iff.1 (by omega)) s3
    | succ f =>
      have hlt : (pathL L (i + 1)).length ≤ f := by
        have : 0 < x.name.length := List.length_pos_iff.2 hn
        simp only [List.length_append] at hf
        omega
      rw [parF, if_neg s3, s1, s2, rd_text x okx _ (path_slash L i), par_path L (i + 1) f _ (fun y hy => ok y (by simp [hy])) hlt]
      simp [deepen]
theorem okL_all {L : List St} (h : okL L = true) : ∀ x ∈ L, stOkL x = true := by
  unfold okL at h
  simp only [Bool.and_eq_true, List.all_eq_true] at h
  exact h.1
theorem read_back {L : List St} (h : okL L = true) : readL (pathL L 0) = L := by
  unfold readL
  rw [par_path L 0 _ [] (okL_all h) (Nat.le_refl _), List.nil_append]
theorem got_back {L : List St} (h : okL L = true) : gotL (pathL L 0) = decide ((pathL L 0).length ≤ 160) := by
  unfold gotL goodL
  rw [read_back h, h, decide_eq_true rfl]
  simp
end Go.Abs
namespace Go.Abs
open Go.Proofs
set_option maxRecDepth 100000
set_option linter.unusedSimpArgs false
set_option linter.unusedVariables false
set_option pp.maxSteps 20000
set_option pp.deepTerms true
def TrueQ (v : Value) (h' : AH) : Prop := v = .bool true
def Sm (s : Bs) : Prop := s.length ≤ 8 ∧ As s
def Fa (x : St) : Prop := Sm x.name ∧ Sm x.attr ∧ Sm x.text
theorem Fa.f20 {x : St} (h : Fa x) : Fit20 x := ⟨by have := h.1.1; omega, by have := h.2.1.1; omega, by have := h.2.2.1; omega⟩
theorem sm_of {x : Bs} {xs : List Bs} (h : x ∈ xs) (a : xs.all (fun s => decide (s.length ≤ 8) && s.all fun b => decide (b.toNat < 128)) = true) : Sm x := by
  have := List.all_eq_true.1 a x h
  simp only [Bool.and_eq_true, decide_eq_true_eq, List.all_eq_true] at this
  exact this
structure PaQ (H0 : AH) (id : Nat) (va : Value) (n P : Nat) (v : Value) (h' : AH) : Prop where
  ex : ∃ il g L, v = slV il g L.length L.length ∧ h'[il]? = some (.row g 4 (stR L)) ∧ H0.length ≤ il ∧ (∀ x ∈ L, Fa x) ∧ L.length ≤ 6
  r : ∃ p, p ≤ P ∧ Rd h' id va n p
  k : KX H0.length id H0 h'
theorem Rd.fin {h L : AH} {id il : Nat} {va : Value} {n p : Nat} {x : AObj} (r : Rd h id va n p) (p' : Nat) (hil : id + 1 ≤ il) : Rd ((h.set id (rdO va p')).set il x ++ L) id va n p' := by
  have hid := lt_of_get r.1
  exact (r.step p').keep ((Keep.set _ il x hil).trans (Keep.app _ _ (by simp; omega)))
theorem KX.fin {H0 h L : AH} {id il : Nat} {o x : AObj} (k : KX H0.length id H0 h) (hil : H0.length ≤ il) : KX H0.length id H0 ((h.set id o).set il x ++ L) :=
  k.trans ((KX.set H0.length id h o).trans (((Keep.set _ il x hil).trans (Keep.app _ _ (by have := k.1; simp; omega))).kx (Nat.le_refl _)))
theorem L69 {H0 : AH} {id : Nat} {va : Value} {n l P : Nat} (hl : l ≤ id) (hid : id < H0.length) (hn : n ≤ 2 ^ 62) (hP : P ≤ 2 ^ 39) :
    ∀ (m : Nat) (p il g no : Nat) (L : List St) (h : AH) (i : Int), i = m → Rd h id va n p → p + 5 * m ≤ P → KX H0.length id H0 h → H0.length ≤ il → h[il]? = some (.row g 4 (stR L)) → no = L.length → (∀ x ∈ L, Fa x) → L.length + m ≤ 6 →
      Okr (PaQ H0 id va n P) (L69_0 l (pV id 0 0) (slV il g no no) (iV i) h) := by
  intro m
  induction m with
  | zero =>
    rintro p il g no L h i rfl r hp k hil e rfl f hm
    have h0 : decide ((0 : Int) < ((0 : Nat) : Int)) = false := rfl
    refine okr_code Try.func69 rfl rfl ?_
    simp (dsimp := false) (disch := (first | (refine dS ?_; kernel_rfl) | (refine dM ?_; kernel_rfl) | (refine dO ?_; simp (disch := ((try simp only [ZL]) <;> omega)) only [ZK, ZL]; done) | (refine dK ?_; (repeat first | exact Keep.refl _ _ | exact Keep.app _ _ (Nat.le_refl _) | assumption | refine Keep.ap ?_ | refine Keep.st (by first | omega | (simp only [ZL]; omega)) ?_); done) | ((try simp only [ZL]) <;> omega) | fail)) only [XOB, ↓XXs, ↓XD, ↓YX, ZB, Nat.reduceAdd, Nat.reducePow, ↓reduceIte, eq_self, Int.reduceEq, Nat.reduceEqDiff, Nat.reduceMul, Nat.reduceLeDiff, Int.reduceBEq, Int.reduceLT, Try.f69, ↓XH2, XRN, ZC, ZE, ZH, eq_self, Nat.reduceLeDiff, Nat.reduceBEq, slV_new, reduceIte, ↓op_extract, tupAt_mk, lenV_sl, Bool.not_true, Bool.not_false, h0]
    with_reducible refine Okr.ret ?_
    exact ⟨⟨il, g, L, rfl, e, hil, f, by omega⟩, ⟨p, by omega, r⟩, k⟩
  | succ m ih =>
    rintro p il g no L h i rfl r hp k hil e rfl f hm
    have hk := k.1
    have hO := lt_of_get e
    have hne : il ≠ id := by omega
    have h0 : decide ((0 : Int) < ((m + 1 : Nat) : Int)) = true := decide_eq_true (by omega)
    have hw : IntKind.i64.wrap (((m + 1 : Nat) : Int) - 1) = (m : Int) := by rw [wrap64 (by omega)]; omega
    refine okr_code Try.func69 rfl rfl ?_
    simp (dsimp := false) (disch := (first | (refine dS ?_; kernel_rfl) | (refine dM ?_; kernel_rfl) | (refine dO ?_; simp (disch := ((try simp only [ZL]) <;> omega)) only [ZK, ZL]; done) | (refine dK ?_; (repeat first | exact Keep.refl _ _ | exact Keep.app _ _ (Nat.le_refl _) | assumption | refine Keep.ap ?_ | refine Keep.st (by first | omega | (simp only [ZL]; omega)) ?_); done) | ((try simp only [ZL]) <;> omega) | fail)) only [XOB, ↓XXs, ↓XD, ↓YX, ZB, Nat.reduceAdd, Nat.reducePow, ↓reduceIte, eq_self, Int.reduceEq, Nat.reduceEqDiff, Nat.reduceMul, Nat.reduceLeDiff, Int.reduceBEq, Int.reduceLT, Try.f69, ↓XH2, XRN, ZC, ZE, ZH, eq_self, Nat.reduceLeDiff, Nat.reduceBEq, slV_new, reduceIte, ↓op_extract, tupAt_mk, lenV_sl, Bool.not_true, Bool.not_false, h0, hw]
    refine okr_call (okr_pick 2 r hl rfl (by simp) (by simp) hn (by omega)) ?_
    rintro _ _ ⟨⟨m1, rfl, hm1⟩, rfl⟩
    simp (dsimp := false) (disch := (first | (refine dS ?_; kernel_rfl) | (refine dM ?_; kernel_rfl) | (refine dO ?_; simp (disch := ((try simp only [ZL]) <;> omega)) only [ZK, ZL]; done) | (refine dK ?_; (repeat first | exact Keep.refl _ _ | exact Keep.app _ _ (Nat.le_refl _) | assumption | refine Keep.ap ?_ | refine Keep.st (by first | omega | (simp only [ZL]; omega)) ?_); done) | ((try simp only [ZL]) <;> omega) | fail)) only [XOB, ↓XXs, ↓XD, ↓YX, ZB, Nat.reduceAdd, Nat.reducePow, ↓reduceIte, eq_self, Int.reduceEq, Nat.reduceEqDiff, Nat.reduceMul, Nat.reduceLeDiff, Int.reduceBEq, Int.reduceLT, Try.f69, ↓XH2, XRN, ZC, ZE, ZH, eq_self, Nat.reduceLeDiff, Nat.reduceBEq, slV_new, reduceIte, ↓op_extract, tupAt_mk, lenV_sl, Bool.not_true, Bool.not_false, h0, hw]
    refine okr_call (okr_of [_, _, _, _, _, _, _] (r.kp (p + 1)) hl (by simp (disch := (first | (refine dS ?_; kernel_rfl) | (refine dM ?_; kernel_rfl) | (refine dO ?_; simp (disch := ((try simp only [ZL]) <;> omega)) only [ZK, ZL]; done) | (refine dK ?_; (repeat first | exact Keep.refl _ _ | exact Keep.app _ _ (Nat.le_refl _) | assumption | refine Keep.ap ?_ | refine Keep.st (by first | omega | (simp only [ZL]; omega)) ?_); done) | ((try simp only [ZL]) <;> omega) | fail)) only [↓XH2, XRN, ZC, ZE, ZH, eq_self, Nat.reduceLeDiff, Nat.reduceBEq] <;> rfl) rfl rfl (by first | rfl | omega | (simp (disch := (first | (refine dS ?_; kernel_rfl) | (refine dM ?_; kernel_rfl) | (refine dO ?_; simp (disch := ((try simp only [ZL]) <;> omega)) only [ZK, ZL]; done) | (refine dK ?_; (repeat first | exact Keep.refl _ _ | exact Keep.app _ _ (Nat.le_refl _) | assumption | refine Keep.ap ?_ | refine Keep.st (by first | omega | (simp only [ZL]; omega)) ?_); done) | ((try simp only [ZL]) <;> omega) | fail)) only [ZK, ZL, ZR] <;> omega) | fail) (by simp) (by simp) hn (by omega)) ?_
    rintro _ _ ⟨⟨nm, rfl, hnm⟩, rfl⟩
    have fn := sm_of hnm rfl
    simp (dsimp := false) (disch := (first | (refine dS ?_; kernel_rfl) | (refine dM ?_; kernel_rfl) | (refine dO ?_; simp (disch := ((try simp only [ZL]) <;> omega)) only [ZK, ZL]; done) | (refine dK ?_; (repeat first | exact Keep.refl _ _ | exact Keep.app _ _ (Nat.le_refl _) | assumption | refine Keep.ap ?_ | refine Keep.st (by first | omega | (simp only [ZL]; omega)) ?_); done) | ((try simp only [ZL]) <;> omega) | fail)) only [XOB, ↓XXs, ↓XD, ↓YX, ZB, Nat.reduceAdd, Nat.reducePow, ↓reduceIte, eq_self, Int.reduceEq, Nat.reduceEqDiff, Nat.reduceMul, Nat.reduceLeDiff, Int.reduceBEq, Int.reduceLT, Try.f69, ↓XH2, XRN, ZC, ZE, ZH, eq_self, Nat.reduceLeDiff, Nat.reduceBEq, slV_new, reduceIte, ↓op_extract, tupAt_mk, lenV_sl, Bool.not_true, Bool.not_false, h0, hw]
    refine okr_call (okr_pick 3 (r.kp (p + 2)) hl rfl (by simp) (by simp) hn (by omega)) ?_
    rintro _ _ ⟨⟨m2, rfl, hm2⟩, rfl⟩
    simp (dsimp := false) (disch := (first | (refine dS ?_; kernel_rfl) | (refine dM ?_; kernel_rfl) | (refine dO ?_; simp (disch := ((try simp only [ZL]) <;> omega)) only [ZK, ZL]; done) | (refine dK ?_; (repeat first | exact Keep.refl _ _ | exact Keep.app _ _ (Nat.le_refl _) | assumption | refine Keep.ap ?_ | refine Keep.st (by first | omega | (simp only [ZL]; omega)) ?_); done) | ((try simp only [ZL]) <;> omega) | fail)) only [XOB, ↓XXs, ↓XD, ↓YX, ZB, Nat.reduceAdd, Nat.reducePow, ↓reduceIte, eq_self, Int.reduceEq, Nat.reduceEqDiff, Nat.reduceMul, Nat.reduceLeDiff, Int.reduceBEq, Int.reduceLT, Try.f69, ↓XH2, XRN, ZC, ZE, ZH, eq_self, Nat.reduceLeDiff, Nat.reduceBEq, slV_new, reduceIte, ↓op_extract, tupAt_mk, lenV_sl, Bool.not_true, Bool.not_false, h0, hw]
    refine okr_if (fun t => ?_) (fun t => ?_)
    · simp (dsimp := false) (disch := (first | (refine dS ?_; kernel_rfl) | (refine dM ?_; kernel_rfl) | (refine dO ?_; simp (disch := ((try simp only [ZL]) <;> omega)) only [ZK, ZL]; done) | (refine dK ?_; (repeat first | exact Keep.refl _ _ | exact Keep.app _ _ (Nat.le_refl _) | assumption | refine Keep.ap ?_ | refine Keep.st (by first | omega | (simp only [ZL]; omega)) ?_); done) | ((try simp only [ZL]) <;> omega) | fail)) only [XOB, ↓XXs, ↓XD, ↓YX, ZB, Nat.reduceAdd, Nat.reducePow, ↓reduceIte, eq_self, Int.reduceEq, Nat.reduceEqDiff, Nat.reduceMul, Nat.reduceLeDiff, Int.reduceBEq, Int.reduceLT, Try.f69, ↓XH2, XRN, ZC, ZE, ZH, eq_self, Nat.reduceLeDiff, Nat.reduceBEq, slV_new, reduceIte, ↓op_extract, tupAt_mk, lenV_sl, Bool.not_true, Bool.not_false, h0, hw]
      refine okr_call (okr_of [_, _, _, _] (r.kp (p + 3)) hl (by simp (disch := (first | (refine dS ?_; kernel_rfl) | (refine dM ?_; kernel_rfl) | (refine dO ?_; simp (disch := ((try simp only [ZL]) <;> omega)) only [ZK, ZL]; done) | (refine dK ?_; (repeat first | exact Keep.refl _ _ | exact Keep.app _ _ (Nat.le_refl _) | assumption | refine Keep.ap ?_ | refine Keep.st (by first | omega | (simp only [ZL]; omega)) ?_); done) | ((try simp only [ZL]) <;> omega) | fail)) only [↓XH2, XRN, ZC, ZE, ZH, eq_self, Nat.reduceLeDiff, Nat.reduceBEq] <;> rfl) rfl rfl (by first | rfl | omega | (simp (disch := (first | (refine dS ?_; kernel_rfl) | (refine dM ?_; kernel_rfl) | (refine dO ?_; simp (disch := ((try simp only [ZL]) <;> omega)) only [ZK, ZL]; done) | (refine dK ?_; (repeat first | exact Keep.refl _ _ | exact Keep.app _ _ (Nat.le_refl _) | assumption | refine Keep.ap ?_ | refine Keep.st (by first | omega | (simp only [ZL]; omega)) ?_); done) | ((try simp only [ZL]) <;> omega) | fail)) only [ZK, ZL, ZR] <;> omega) | fail) (by simp) (by simp) hn (by omega)) ?_
      rintro _ _ ⟨⟨at_, rfl, hat⟩, rfl⟩
      have fa := sm_of hat rfl
      simp (dsimp := false) (disch := (first | (refine dS ?_; kernel_rfl) | (refine dM ?_; kernel_rfl) | (refine dO ?_; simp (disch := ((try simp only [ZL]) <;> omega)) only [ZK, ZL]; done) | (refine dK ?_; (repeat first | exact Keep.refl _ _ | exact Keep.app _ _ (Nat.le_refl _) | assumption | refine Keep.ap ?_ | refine Keep.st (by first | omega | (simp only [ZL]; omega)) ?_); done) | ((try simp only [ZL]) <;> omega) | fail)) only [XOB, ↓XXs, ↓XD, ↓YX, ZB, Nat.reduceAdd, Nat.reducePow, ↓reduceIte, eq_self, Int.reduceEq, Nat.reduceEqDiff, Nat.reduceMul, Nat.reduceLeDiff, Int.reduceBEq, Int.reduceLT, Try.f69, ↓XH2, XRN, ZC, ZE, ZH, eq_self, Nat.reduceLeDiff, Nat.reduceBEq, slV_new, reduceIte, ↓op_extract, tupAt_mk, lenV_sl, Bool.not_true, Bool.not_false, h0, hw]
      refine okr_call (okr_of [_, _, _, _] (r.kp (p + 4)) hl (by simp (disch := (first | (refine dS ?_; kernel_rfl) | (refine dM ?_; kernel_rfl) | (refine dO ?_; simp (disch := ((try simp only [ZL]) <;> omega)) only [ZK, ZL]; done) | (refine dK ?_; (repeat first | exact Keep.refl _ _ | exact Keep.app _ _ (Nat.le_refl _) | assumption | refine Keep.ap ?_ | refine Keep.st (by first | omega | (simp only [ZL]; omega)) ?_); done) | ((try simp only [ZL]) <;> omega) | fail)) only [↓XH2, XRN, ZC, ZE, ZH, eq_self, Nat.reduceLeDiff, Nat.reduceBEq] <;> rfl) rfl rfl (by first | rfl | omega | (simp (disch := (first | (refine dS ?_; kernel_rfl) | (refine dM ?_; kernel_rfl) | (refine dO ?_; simp (disch := ((try simp only [ZL]) <;> omega)) only [ZK, ZL]; done) | (refine dK ?_; (repeat first | exact Keep.refl _ _ | exact Keep.app _ _ (Nat.le_refl _) | assumption | refine Keep.ap ?_ | refine Keep.st (by first | omega | (simp only [ZL]; omega)) ?_); done) | ((try simp only [ZL]) <;> omega) | fail)) only [ZK, ZL, ZR] <;> omega) | fail) (by simp) (by simp) hn (by omega)) ?_
      rintro _ _ ⟨⟨tx, rfl, htx⟩, rfl⟩
      have ft := sm_of htx rfl
      simp (dsimp := false) (disch := (first | (refine dS ?_; kernel_rfl) | (refine dM ?_; kernel_rfl) | (refine dO ?_; simp (disch := ((try simp only [ZL]) <;> omega)) only [ZK, ZL]; done) | (refine dK ?_; (repeat first | exact Keep.refl _ _ | exact Keep.app _ _ (Nat.le_refl _) | assumption | refine Keep.ap ?_ | refine Keep.st (by first | omega | (simp only [ZL]; omega)) ?_); done) | ((try simp only [ZL]) <;> omega) | fail)) only [XOB, ↓XXs, ↓XD, ↓YX, ZB, Nat.reduceAdd, Nat.reducePow, ↓reduceIte, eq_self, Int.reduceEq, Nat.reduceEqDiff, Nat.reduceMul, Nat.reduceLeDiff, Int.reduceBEq, Int.reduceLT, Try.f69, ↓XH2, XRN, ZC, ZE, ZH, eq_self, Nat.reduceLeDiff, Nat.reduceBEq, slV_new, reduceIte, ↓op_extract, tupAt_mk, lenV_sl, Bool.not_true, Bool.not_false, h0, hw]
      refine okr_opt (St.app3 (os := L) ⟨((m1 : Int) == 0), nm, at_, tx⟩ (by simp (disch := (first | (refine dS ?_; kernel_rfl) | (refine dM ?_; kernel_rfl) | (refine dO ?_; simp (disch := ((try simp only [ZL]) <;> omega)) only [ZK, ZL]; done) | (refine dK ?_; (repeat first | exact Keep.refl _ _ | exact Keep.app _ _ (Nat.le_refl _) | assumption | refine Keep.ap ?_ | refine Keep.st (by first | omega | (simp only [ZL]; omega)) ?_); done) | ((try simp only [ZL]) <;> omega) | fail)) only [↓XH2, XRN, ZC, ZE, ZH, eq_self, Nat.reduceLeDiff, Nat.reduceBEq, e]) (by simp (disch := (first | (refine dS ?_; kernel_rfl) | (refine dM ?_; kernel_rfl) | (refine dO ?_; simp (disch := ((try simp only [ZL]) <;> omega)) only [ZK, ZL]; done) | (refine dK ?_; (repeat first | exact Keep.refl _ _ | exact Keep.app _ _ (Nat.le_refl _) | assumption | refine Keep.ap ?_ | refine Keep.st (by first | omega | (simp only [ZL]; omega)) ?_); done) | ((try simp only [ZL]) <;> omega) | fail)) only [↓XH2, XRN, ZC, ZE, ZH, eq_self, Nat.reduceLeDiff, Nat.reduceBEq] <;> rfl) rfl rfl (by omega) (by omega) rfl) ?_
      rintro _ ⟨g4, rfl⟩
      simp (dsimp := false) (disch := (first | (refine dS ?_; kernel_rfl) | (refine dM ?_; kernel_rfl) | (refine dO ?_; simp (disch := ((try simp only [ZL]) <;> omega)) only [ZK, ZL]; done) | (refine dK ?_; (repeat first | exact Keep.refl _ _ | exact Keep.app _ _ (Nat.le_refl _) | assumption | refine Keep.ap ?_ | refine Keep.st (by first | omega | (simp only [ZL]; omega)) ?_); done) | ((try simp only [ZL]) <;> omega) | fail)) only [XOB, ↓XXs, ↓XD, ↓YX, ZB, Nat.reduceAdd, Nat.reducePow, ↓reduceIte, eq_self, Int.reduceEq, Nat.reduceEqDiff, Nat.reduceMul, Nat.reduceLeDiff, Int.reduceBEq, Int.reduceLT, Try.f69, ↓XH2, XRN, ZC, ZE, ZH, eq_self, Nat.reduceLeDiff, Nat.reduceBEq, slV_new, reduceIte, ↓op_extract, tupAt_mk, lenV_sl, Bool.not_true, Bool.not_false, h0, hw]
      exact ih (p + 5) il g4 (L.length + 1) (L ++ [⟨((m1 : Int) == 0), nm, at_, tx⟩]) _ _ rfl (r.fin (p + 5) (by omega)) (by omega) (k.fin hil) hil (by simp (disch := (first | (refine dS ?_; kernel_rfl) | (refine dM ?_; kernel_rfl) | (refine dO ?_; simp (disch := ((try simp only [ZL]) <;> omega)) only [ZK, ZL]; done) | (refine dK ?_; (repeat first | exact Keep.refl _ _ | exact Keep.app _ _ (Nat.le_refl _) | assumption | refine Keep.ap ?_ | refine Keep.st (by first | omega | (simp only [ZL]; omega)) ?_); done) | ((try simp only [ZL]) <;> omega) | fail)) only [↓XH2, XRN, ZC, ZE, ZH, eq_self, Nat.reduceLeDiff, Nat.reduceBEq]) (by simp) (fun x hx => by
        rcases List.mem_append.1 hx with hx | hx
        · exact f x hx
        · rw [List.mem_singleton] at hx; subst hx; exact ⟨fn, fa, ft⟩) (by simp; omega)
    · simp (dsimp := false) (disch := (first | (refine dS ?_; kernel_rfl) | (refine dM ?_; kernel_rfl) | (refine dO ?_; simp (disch := ((try simp only [ZL]) <;> omega)) only [ZK, ZL]; done) | (refine dK ?_; (repeat first | exact Keep.refl _ _ | exact Keep.app _ _ (Nat.le_refl _) | assumption | refine Keep.ap ?_ | refine Keep.st (by first | omega | (simp only [ZL]; omega)) ?_); done) | ((try simp only [ZL]) <;> omega) | fail)) only [XOB, ↓XXs, ↓XD, ↓YX, ZB, Nat.reduceAdd, Nat.reducePow, ↓reduceIte, eq_self, Int.reduceEq, Nat.reduceEqDiff, Nat.reduceMul, Nat.reduceLeDiff, Int.reduceBEq, Int.reduceLT, Try.f69, ↓XH2, XRN, ZC, ZE, ZH, eq_self, Nat.reduceLeDiff, Nat.reduceBEq, slV_new, reduceIte, ↓op_extract, tupAt_mk, lenV_sl, Bool.not_true, Bool.not_false, h0, hw]
      refine okr_opt (St.app3 (os := L) ⟨((m1 : Int) == 0), nm, [], []⟩ (by simp (disch := (first | (refine dS ?_; kernel_rfl) | (refine dM ?_; kernel_rfl) | (refine dO ?_; simp (disch := ((try simp only [ZL]) <;> omega)) only [ZK, ZL]; done) | (refine dK ?_; (repeat first | exact Keep.refl _ _ | exact Keep.app _ _ (Nat.le_refl _) | assumption | refine Keep.ap ?_ | refine Keep.st (by first | omega | (simp only [ZL]; omega)) ?_); done) | ((try simp only [ZL]) <;> omega) | fail)) only [↓XH2, XRN, ZC, ZE, ZH, eq_self, Nat.reduceLeDiff, Nat.reduceBEq, e]) (by simp (disch := (first | (refine dS ?_; kernel_rfl) | (refine dM ?_; kernel_rfl) | (refine dO ?_; simp (disch := ((try simp only [ZL]) <;> omega)) only [ZK, ZL]; done) | (refine dK ?_; (repeat first | exact Keep.refl _ _ | exact Keep.app _ _ (Nat.le_refl _) | assumption | refine Keep.ap ?_ | refine Keep.st (by first | omega | (simp only [ZL]; omega)) ?_); done) | ((try simp only [ZL]) <;> omega) | fail)) only [↓XH2, XRN, ZC, ZE, ZH, eq_self, Nat.reduceLeDiff, Nat.reduceBEq] <;> rfl) rfl rfl (by omega) (by omega) rfl) ?_
      rintro _ ⟨g4, rfl⟩
      simp (dsimp := false) (disch := (first | (refine dS ?_; kernel_rfl) | (refine dM ?_; kernel_rfl) | (refine dO ?_; simp (disch := ((try simp only [ZL]) <;> omega)) only [ZK, ZL]; done) | (refine dK ?_; (repeat first | exact Keep.refl _ _ | exact Keep.app _ _ (Nat.le_refl _) | assumption | refine Keep.ap ?_ | refine Keep.st (by first | omega | (simp only [ZL]; omega)) ?_); done) | ((try simp only [ZL]) <;> omega) | fail)) only [XOB, ↓XXs, ↓XD, ↓YX, ZB, Nat.reduceAdd, Nat.reducePow, ↓reduceIte, eq_self, Int.reduceEq, Nat.reduceEqDiff, Nat.reduceMul, Nat.reduceLeDiff, Int.reduceBEq, Int.reduceLT, Try.f69, ↓XH2, XRN, ZC, ZE, ZH, eq_self, Nat.reduceLeDiff, Nat.reduceBEq, slV_new, reduceIte, ↓op_extract, tupAt_mk, lenV_sl, Bool.not_true, Bool.not_false, h0, hw]
      exact ih (p + 3) il g4 (L.length + 1) (L ++ [⟨((m1 : Int) == 0), nm, [], []⟩]) _ _ rfl (r.fin (p + 3) (by omega)) (by omega) (k.fin hil) hil (by simp (disch := (first | (refine dS ?_; kernel_rfl) | (refine dM ?_; kernel_rfl) | (refine dO ?_; simp (disch := ((try simp only [ZL]) <;> omega)) only [ZK, ZL]; done) | (refine dK ?_; (repeat first | exact Keep.refl _ _ | exact Keep.app _ _ (Nat.le_refl _) | assumption | refine Keep.ap ?_ | refine Keep.st (by first | omega | (simp only [ZL]; omega)) ?_); done) | ((try simp only [ZL]) <;> omega) | fail)) only [↓XH2, XRN, ZC, ZE, ZH, eq_self, Nat.reduceLeDiff, Nat.reduceBEq]) (by simp) (fun x hx => by
        rcases List.mem_append.1 hx with hx | hx
        · exact f x hx
        · rw [List.mem_singleton] at hx; subst hx; exact ⟨fn, ⟨by simp, by simp [As]⟩, ⟨by simp, by simp [As]⟩⟩) (by simp; omega)
theorem r69 {H : AH} {id : Nat} {va : Value} {n l p : Nat} (r : Rd H id va n p) (hl : l ≤ id) (hn : n ≤ 2 ^ 62) (hp : p ≤ 2 ^ 38) :
    Okr (PaQ H id va n (p + 40)) (run V0 (.fn 69) l [S (pV id 0 0)] H) := by
  have hid := lt_of_get r.1
  refine okr_fn Try.func69 rfl rfl rfl rfl ?_
  simp (dsimp := false) (disch := (first | (refine dS ?_; kernel_rfl) | (refine dM ?_; kernel_rfl) | (refine dO ?_; simp (disch := ((try simp only [ZL]) <;> omega)) only [ZK, ZL]; done) | (refine dK ?_; (repeat first | exact Keep.refl _ _ | exact Keep.app _ _ (Nat.le_refl _) | assumption | refine Keep.ap ?_ | refine Keep.st (by first | omega | (simp only [ZL]; omega)) ?_); done) | ((try simp only [ZL]) <;> omega) | fail)) only [XOB, ↓XXs, ↓XD, ↓YX, ZB, Nat.reduceAdd, Nat.reducePow, ↓reduceIte, eq_self, Int.reduceEq, Nat.reduceEqDiff, Nat.reduceMul, Nat.reduceLeDiff, Int.reduceBEq, Int.reduceLT, Try.f69, ↓XH2, XRN, ZC, ZE, ZH, eq_self, Nat.reduceLeDiff, Nat.reduceBEq, slV_new, reduceIte, ↓op_extract, tupAt_mk, lenV_sl, Bool.not_true, Bool.not_false]
  refine okr_call (okr_one [_, _, _, _, _, _, _] r.ap hl (by simp (disch := (first | (refine dS ?_; kernel_rfl) | (refine dM ?_; kernel_rfl) | (refine dO ?_; simp (disch := ((try simp only [ZL]) <;> omega)) only [ZK, ZL]; done) | (refine dK ?_; (repeat first | exact Keep.refl _ _ | exact Keep.app _ _ (Nat.le_refl _) | assumption | refine Keep.ap ?_ | refine Keep.st (by first | omega | (simp only [ZL]; omega)) ?_); done) | ((try simp only [ZL]) <;> omega) | fail)) only [↓XH2, XRN, ZC, ZE, ZH, eq_self, Nat.reduceLeDiff, Nat.reduceBEq] <;> rfl) rfl rfl (by omega) (by simp) (by simp) hn (by omega)) ?_
  rintro _ _ ⟨⟨x, rfl, hx⟩, rfl⟩
  obtain ⟨m, rfl, hm⟩ : ∃ m : Nat, x = m ∧ m ≤ 6 := ⟨x.toNat, by revert x; decide, by revert x; decide⟩
  simp (dsimp := false) (disch := (first | (refine dS ?_; kernel_rfl) | (refine dM ?_; kernel_rfl) | (refine dO ?_; simp (disch := ((try simp only [ZL]) <;> omega)) only [ZK, ZL]; done) | (refine dK ?_; (repeat first | exact Keep.refl _ _ | exact Keep.app _ _ (Nat.le_refl _) | assumption | refine Keep.ap ?_ | refine Keep.st (by first | omega | (simp only [ZL]; omega)) ?_); done) | ((try simp only [ZL]) <;> omega) | fail)) only [XOB, ↓XXs, ↓XD, ↓YX, ZB, Nat.reduceAdd, Nat.reducePow, ↓reduceIte, eq_self, Int.reduceEq, Nat.reduceEqDiff, Nat.reduceMul, Nat.reduceLeDiff, Int.reduceBEq, Int.reduceLT, Try.f69, ↓XH2, XRN, ZC, ZE, ZH, eq_self, Nat.reduceLeDiff, Nat.reduceBEq, slV_new, reduceIte, ↓op_extract, tupAt_mk, lenV_sl, Bool.not_true, Bool.not_false]
  exact L69 hl hid hn (by omega) m (p + 1) H.length 0 0 [] _ m rfl (r.kp (p + 1)) (by omega) ((KX.set H.length id H _).trans ((Keep.app _ _ (by simp)).kx (Nat.le_refl _))) (Nat.le_refl _) (by simp (disch := (first | (refine dS ?_; kernel_rfl) | (refine dM ?_; kernel_rfl) | (refine dO ?_; simp (disch := ((try simp only [ZL]) <;> omega)) only [ZK, ZL]; done) | (refine dK ?_; (repeat first | exact Keep.refl _ _ | exact Keep.app _ _ (Nat.le_refl _) | assumption | refine Keep.ap ?_ | refine Keep.st (by first | omega | (simp only [ZL]; omega)) ?_); done) | ((try simp only [ZL]) <;> omega) | fail)) only [↓XH2, XRN, ZC, ZE, ZH, eq_self, Nat.reduceLeDiff, Nat.reduceBEq]; rfl) rfl (by simp) (by simp; omega)
structure DrawP (H : AH) (v : Value) (h' : AH) : Prop where
  ex : ∃ il g L, v = slV il g L.length L.length ∧ h'[il]? = some (.row g 4 (stR L)) ∧ H.length ≤ il ∧ (∀ x ∈ L, Fa x) ∧ L.length ≤ 6
  k : Keep H.length H h'
theorem r32 (va : Value) (n l : Nat) (h : AH) (r : Cd h va n) (hl : l ≤ h.length) (hn : n ≤ 2 ^ 62) :
    Okr (DrawP h) (run V0 (.fn 32) l [S va] h) := by
  refine okr_fn Try.func32 rfl rfl rfl rfl ?_
  obtain ⟨vb, m, h1, a1, r1, hm, k1⟩ := r52 va n l h r hn
  have hid1 := lt_of_get r1.1
  simp (dsimp := false) (disch := (first | (refine dS ?_; kernel_rfl) | (refine dM ?_; kernel_rfl) | (refine dO ?_; simp (disch := ((try simp only [ZL]) <;> omega)) only [ZK, ZL]; done) | (refine dK ?_; (repeat first | exact Keep.refl _ _ | exact Keep.app _ _ (Nat.le_refl _) | assumption | refine Keep.ap ?_ | refine Keep.st (by first | omega | (simp only [ZL]; omega)) ?_); done) | ((try simp only [ZL]) <;> omega) | fail)) only [XOB, ↓XXs, ↓XD, ↓YX, ZB, Nat.reduceAdd, Nat.reducePow, ↓reduceIte, eq_self, Int.reduceEq, Nat.reduceEqDiff, Nat.reduceMul, Nat.reduceLeDiff, Int.reduceBEq, Int.reduceLT, Try.f32, ↓XH2, XRN, ZC, ZE, ZH, eq_self, Nat.reduceLeDiff, Nat.reduceBEq, slV_new, reduceIte, ↓op_extract, tupAt_mk, lenV_sl, Bool.not_true, Bool.not_false, a1]
  refine okr_call (r69 r1 hl (by omega) (by omega)) ?_
  rintro _ h2 ⟨⟨i1, g1, L, rfl, e1, hi1, f1, h6⟩, _, kx⟩
  try simp (dsimp := false) (disch := (first | (refine dS ?_; kernel_rfl) | (refine dM ?_; kernel_rfl) | (refine dO ?_; simp (disch := ((try simp only [ZL]) <;> omega)) only [ZK, ZL]; done) | (refine dK ?_; (repeat first | exact Keep.refl _ _ | exact Keep.app _ _ (Nat.le_refl _) | assumption | refine Keep.ap ?_ | refine Keep.st (by first | omega | (simp only [ZL]; omega)) ?_); done) | ((try simp only [ZL]) <;> omega) | fail)) only [XOB, ↓XXs, ↓XD, ↓YX, ZB, Nat.reduceAdd, Nat.reducePow, ↓reduceIte, eq_self, Int.reduceEq, Nat.reduceEqDiff, Nat.reduceMul, Nat.reduceLeDiff, Int.reduceBEq, Int.reduceLT, Try.f32, ↓XH2, XRN, ZC, ZE, ZH, eq_self, Nat.reduceLeDiff, Nat.reduceBEq, slV_new, reduceIte, ↓op_extract, tupAt_mk, lenV_sl, Bool.not_true, Bool.not_false, a1]
  with_reducible refine Okr.ret ?_
  exact ⟨⟨i1, g1, L, rfl, e1, by omega, f1, h6⟩, k1.trans (Keep.ofKX kx (by omega) (Nat.le_refl _))⟩
theorem eqA_St (x y : St) : eqA V0.P 50 72 (.agg (stC x).toArray) (.agg (stC y).toArray) = some ((x.deep == y.deep) && (decide (B x.name = B y.name) && (decide (B x.attr = B y.attr) && (decide (B x.text = B y.text) && true)))) := by kernel_rfl
theorem eqOk_St (x : St) : eqOk V0.P 72 (.agg (stC x).toArray) = true := by kernel_rfl
theorem eqA_St' (x : St) : eqA V0.P 50 72 (.agg (stC x).toArray) (.agg (stC x).toArray) = some true := by rw [eqA_St]; simp
theorem binK_neqA {P : Program} {t : TypeId} {a b : Array Value} {act : Option Bool} {K : Value → R} : binK P .neq t (.agg a) (.agg b) act K = chk (eqOk P t (.agg a)) (oE act (eqA P 50 t (.agg a) (.agg b)) false fun q => K (.bool (!q))) := rfl
theorem L34 {l ia ga ib gb n : Nat} {xs : List St} {h : AH} (hn : xs.length = n) (hn2 : n ≤ 2 ^ 30) (ea : h[ia]? = some (.row ga 4 (stR xs))) (eb : h[ib]? = some (.row gb 4 (stR xs))) :
    ∀ (r d : List St) (i : Int), d ++ r = xs → i = d.length → Okr (fun v h' => v = .bool true ∧ h' = h) (L34_0 l (slV ia ga n n) (slV ib gb n n) (iV i) h) := by
  intro r
  induction r with
  | nil =>
    rintro d i hd rfl
    rw [List.append_nil] at hd
    subst hd hn
    have hlt : decide ((d.length : Int) < (d.length : Int)) = false := decide_eq_false (by omega)
    refine okr_code Try.func34 rfl rfl ?_
    simp (dsimp := false) (disch := (first | (refine dS ?_; kernel_rfl) | (refine dM ?_; kernel_rfl) | (refine dO ?_; simp (disch := ((try simp only [ZL]) <;> omega)) only [ZK, ZL]; done) | (refine dK ?_; (repeat first | exact Keep.refl _ _ | exact Keep.app _ _ (Nat.le_refl _) | assumption | refine Keep.ap ?_ | refine Keep.st (by first | omega | (simp only [ZL]; omega)) ?_); done) | ((try simp only [ZL]) <;> omega) | fail)) only [XOB, ↓XXs, ↓XD, ↓YX, ZB, Nat.reduceAdd, Nat.reducePow, ↓reduceIte, eq_self, Int.reduceEq, Nat.reduceEqDiff, Nat.reduceMul, Nat.reduceLeDiff, Int.reduceBEq, Int.reduceLT, Try.f34, ↓XH2, XRN, ZC, ZE, ZH, eq_self, Nat.reduceLeDiff, Nat.reduceBEq, slV_new, reduceIte, ↓op_extract, tupAt_mk, lenV_sl, Bool.not_true, Bool.not_false, hlt]
    with_reducible refine Okr.ret ?_
    exact ⟨rfl, rfl⟩
  | cons x r ih =>
    rintro d i hd rfl
    have hll : d.length + r.length + 1 = n := by rw [← hn, ← hd]; simp; omega
    have hlt : decide ((d.length : Int) < (n : Int)) = true := decide_eq_true (by omega)
    have hw : IntKind.i64.wrap ((d.length : Int) + 1) = ((d.length + 1 : Nat) : Int) := natCast_succ_wrap (by omega) rfl
    have hix : ixAddr (slV ia ga n n) (d.length : Int) 4 = some (pV ia (d.length * 4) ga) := by rw [ixAddr_sl (by omega)]; simp
    have hix2 : ixAddr (slV ib gb n n) (d.length : Int) 4 = some (pV ib (d.length * 4) gb) := by rw [ixAddr_sl (by omega)]; simp
    have c1 : ((stR xs).drop (d.length * 4)).take 4 = stC x := by rw [← hd]; exact st_get d x r
    have l1 : d.length * 4 + 4 ≤ (stR xs).length := by rw [stR_len]; omega
    refine okr_code Try.func34 rfl rfl ?_
    simp (dsimp := false) (disch := (first | (refine dS ?_; kernel_rfl) | (refine dM ?_; kernel_rfl) | (refine dO ?_; simp (disch := ((try simp only [ZL]) <;> omega)) only [ZK, ZL]; done) | (refine dK ?_; (repeat first | exact Keep.refl _ _ | exact Keep.app _ _ (Nat.le_refl _) | assumption | refine Keep.ap ?_ | refine Keep.st (by first | omega | (simp only [ZL]; omega)) ?_); done) | ((try simp only [ZL]) <;> omega) | fail)) only [XOB, ↓XXs, ↓XD, ↓YX, ZB, Nat.reduceAdd, Nat.reducePow, ↓reduceIte, eq_self, Int.reduceEq, Nat.reduceEqDiff, Nat.reduceMul, Nat.reduceLeDiff, Int.reduceBEq, Int.reduceLT, Try.f34, ↓XH2, XRN, ZC, ZE, ZH, eq_self, Nat.reduceLeDiff, Nat.reduceBEq, slV_new, reduceIte, ↓op_extract, tupAt_mk, lenV_sl, Bool.not_true, Bool.not_false, hlt, hw, hix, hix2, ea, eb, c1, l1, binK_neqA, eqA_St', eqOk_St]
    exact ih (d ++ [x]) ((d.length + 1 : Nat) : Int) (by simp [hd]) (by simp)
theorem hb_steps {l ia ga ib gb n m : Nat} {xs ys : List St} {h : AH} (e : xs = ys) (hn : xs.length = n) (hm : ys.length = m) (hn2 : n ≤ 2 ^ 30) (ea : h[ia]? = some (.row ga 4 (stR xs))) (eb : h[ib]? = some (.row gb 4 (stR ys))) :
    run V0 (.fn 34) l [S (slV ia ga n n), S (slV ib gb m m)] h = some (.ret (.bool true) h) := by
  subst e
  obtain rfl : n = m := by omega
  have key : Okr (fun v h' => v = .bool true ∧ h' = h) (run V0 (.fn 34) l [S (slV ia ga n n), S (slV ib gb n n)] h) := by
    have hne : ((n : Int) != (n : Int)) = false := by simp
    refine okr_fn Try.func34 rfl rfl rfl rfl ?_
    simp (dsimp := false) (disch := (first | (refine dS ?_; kernel_rfl) | (refine dM ?_; kernel_rfl) | (refine dO ?_; simp (disch := ((try simp only [ZL]) <;> omega)) only [ZK, ZL]; done) | (refine dK ?_; (repeat first | exact Keep.refl _ _ | exact Keep.app _ _ (Nat.le_refl _) | assumption | refine Keep.ap ?_ | refine Keep.st (by first | omega | (simp only [ZL]; omega)) ?_); done) | ((try simp only [ZL]) <;> omega) | fail)) only [XOB, ↓XXs, ↓XD, ↓YX, ZB, Nat.reduceAdd, Nat.reducePow, ↓reduceIte, eq_self, Int.reduceEq, Nat.reduceEqDiff, Nat.reduceMul, Nat.reduceLeDiff, Int.reduceBEq, Int.reduceLT, Try.f34, ↓XH2, XRN, ZC, ZE, ZH, eq_self, Nat.reduceLeDiff, Nat.reduceBEq, slV_new, reduceIte, ↓op_extract, tupAt_mk, lenV_sl, Bool.not_true, Bool.not_false, hne]
    exact L34 hn hn2 ea eb xs [] 0 rfl rfl
  obtain ⟨v, h', e, rfl, rfl⟩ := key
  exact e
end Go.Abs
namespace Go.Abs
open Go.Proofs
set_option maxRecDepth 100000
set_option linter.unusedSimpArgs false
set_option linter.unusedVariables false
set_option pp.maxSteps 20000
set_option pp.deepTerms true
theorem as_app {a b : Bs} (h1 : As a) (h2 : As b) : As (a ++ b) := fun x hx => (List.mem_append.1 hx).elim (h1 x) (h2 x)
theorem st_as {x : St} (h : Fa x) (i : Nat) : As (stText i x) := by
  unfold stText
  refine as_app (as_app ?_ h.1.2) ?_
  · unfold stSep; split
    · intro b hb; simp at hb; subst hb; decide
    · split
      · intro b hb; simp at hb; subst hb; decide
      · intro b hb; simp at hb
  · unfold stTail; split
    · intro b hb; simp at hb
    · refine as_app (as_app (as_app (as_app ?_ h.2.1.2) ?_) h.2.2.2) ?_ <;> intro b hb <;> simp at hb
      · subst hb; decide
      · rcases hb with rfl | rfl <;> decide
      · rcases hb with rfl | rfl <;> decide
theorem path_as : ∀ (L : List St) (i : Nat), (∀ x ∈ L, Fa x) → As (pathL L i)
  | [], i, _ => fun b hb => absurd hb (by simp [pathL])
  | x :: L, i, h => by
    unfold pathL
    exact as_app (st_as (h x (by simp)) i) (path_as L (i + 1) fun y hy => h y (by simp [hy]))
theorem put_as {L : List St} (h : ∀ x ∈ L, Fa x) : As (putL L) := by
  unfold putL
  split
  · exact path_as L 0 h
  · exact fun b hb => absurd hb (by simp)
theorem put_nil (L : List St) : decide (putL L = []) = !okL L := by
  cases h : okL L with
  | false => unfold putL; rw [h]; rfl
  | true =>
    have hp : putL L = pathL L 0 := by unfold putL; rw [if_pos h]
    rw [hp]
    refine decide_eq_false ?_
    cases L with
    | nil => revert h; decide
    | cons x r =>
      have := (st_name (okL_all h x (by simp))).1
      rw [path_head]
      simp [this]
theorem path_small {L : List St} (h : ∀ x ∈ L, Fa x) (h6 : L.length ≤ 6) : (pathL L 0).length ≤ 2 ^ 25 := by
  have := pathL_len L 0 (fun x hx => (h x hx).f20)
  omega
theorem putL_le (L : List St) : (putL L).length ≤ (pathL L 0).length := by
  unfold putL; split
  · exact Nat.le_refl _
  · exact Nat.zero_le _
theorem r8 (va : Value) (n l : Nat) (h : AH) (r : Cd h va n) (hl : l ≤ h.length) :
    Okr TrueQ (run V0 (.fn 8) l [S va] h) := by
  have lv := r.len
  refine okr_fn Try.func8 rfl rfl rfl rfl ?_
  simp (dsimp := false) (disch := (first | (refine dS ?_; kernel_rfl) | (refine dM ?_; kernel_rfl) | (refine dO ?_; simp (disch := ((try simp only [ZL]) <;> omega)) only [ZK, ZL]; done) | (refine dK ?_; (repeat first | exact Keep.refl _ _ | exact Keep.app _ _ (Nat.le_refl _) | assumption | refine Keep.ap ?_ | refine Keep.st (by first | omega | (simp only [ZL]; omega)) ?_); done) | ((try simp only [ZL]) <;> omega) | fail)) only [XOB, ↓XXs, ↓XD, ↓YX, ZB, Nat.reduceAdd, Nat.reducePow, ↓reduceIte, eq_self, Int.reduceEq, Nat.reduceEqDiff, Nat.reduceMul, Nat.reduceLeDiff, Int.reduceBEq, Int.reduceLT, Try.f8, ↓XH2, XRN, ZC, ZE, ZH, eq_self, Nat.reduceLeDiff, Nat.reduceBEq, slV_new, reduceIte, ↓op_extract, tupAt_mk, lenV_sl, Bool.not_true, Bool.not_false, lv]
  refine okr_if (fun t => ?_) (fun t => ?_)
  · try simp (dsimp := false) (disch := (first | (refine dS ?_; kernel_rfl) | (refine dM ?_; kernel_rfl) | (refine dO ?_; simp (disch := ((try simp only [ZL]) <;> omega)) only [ZK, ZL]; done) | (refine dK ?_; (repeat first | exact Keep.refl _ _ | exact Keep.app _ _ (Nat.le_refl _) | assumption | refine Keep.ap ?_ | refine Keep.st (by first | omega | (simp only [ZL]; omega)) ?_); done) | ((try simp only [ZL]) <;> omega) | fail)) only [XOB, ↓XXs, ↓XD, ↓YX, ZB, Nat.reduceAdd, Nat.reducePow, ↓reduceIte, eq_self, Int.reduceEq, Nat.reduceEqDiff, Nat.reduceMul, Nat.reduceLeDiff, Int.reduceBEq, Int.reduceLT, Try.f8, ↓XH2, XRN, ZC, ZE, ZH, eq_self, Nat.reduceLeDiff, Nat.reduceBEq, slV_new, reduceIte, ↓op_extract, tupAt_mk, lenV_sl, Bool.not_true, Bool.not_false, lv]
    with_reducible refine Okr.ret ?_
    rfl
  have hn : n ≤ 2 ^ 20 := by have := of_decide_eq_false t; omega
  try simp (dsimp := false) (disch := (first | (refine dS ?_; kernel_rfl) | (refine dM ?_; kernel_rfl) | (refine dO ?_; simp (disch := ((try simp only [ZL]) <;> omega)) only [ZK, ZL]; done) | (refine dK ?_; (repeat first | exact Keep.refl _ _ | exact Keep.app _ _ (Nat.le_refl _) | assumption | refine Keep.ap ?_ | refine Keep.st (by first | omega | (simp only [ZL]; omega)) ?_); done) | ((try simp only [ZL]) <;> omega) | fail)) only [XOB, ↓XXs, ↓XD, ↓YX, ZB, Nat.reduceAdd, Nat.reducePow, ↓reduceIte, eq_self, Int.reduceEq, Nat.reduceEqDiff, Nat.reduceMul, Nat.reduceLeDiff, Int.reduceBEq, Int.reduceLT, Try.f8, ↓XH2, XRN, ZC, ZE, ZH, eq_self, Nat.reduceLeDiff, Nat.reduceBEq, slV_new, reduceIte, ↓op_extract, tupAt_mk, lenV_sl, Bool.not_true, Bool.not_false, lv]
  refine okr_call (r32 va n l h r hl (by omega)) ?_
  rintro _ h2 ⟨⟨i2, g2, L, rfl, e2, hi2, fL, h6⟩, k2⟩
  have hk2 := k2.1
  have hpl := path_small fL h6
  have hpu := putL_le L
  obtain ⟨h3, a3, k3⟩ := r26 i2 g2 L.length l L h2 (by omega) (by omega) (fun x hx => (fL x hx).f20.f60) e2 (by omega)
  have hk3 := k3.1
  have e23 := k3.get e2 (lt_of_get e2)
  obtain ⟨h4, a4, k4⟩ := r25 i2 g2 L.length l L h3 (by omega) (by omega) (fun x hx => (fL x hx).f20.f60) e23 (by omega)
  have hk4 := k4.1
  have e24 := k4.get e23 (lt_of_get e23)
  obtain ⟨h5, a5, k5⟩ := r23 i2 g2 L.length l L h4 (by omega) (fun x hx => (fL x hx).f20.f60) e24
  rw [show (L.all stOkL && inI L.length 1 5) = okL L from rfl] at a5
  have hk5 := k5.1
  have e25 := k5.get e24 (lt_of_get e24)
  have b1 : decide (B (putL L) = B []) = !okL L := by rw [decB, put_nil]
  have b2 : ((!okL L) == okL L) = false := by cases okL L <;> rfl
  have hsz := size_B (putL L)
  try simp (dsimp := false) (disch := (first | (refine dS ?_; kernel_rfl) | (refine dM ?_; kernel_rfl) | (refine dO ?_; simp (disch := ((try simp only [ZL]) <;> omega)) only [ZK, ZL]; done) | (refine dK ?_; (repeat first | exact Keep.refl _ _ | exact Keep.app _ _ (Nat.le_refl _) | assumption | refine Keep.ap ?_ | refine Keep.st (by first | omega | (simp only [ZL]; omega)) ?_); done) | ((try simp only [ZL]) <;> omega) | fail)) only [XOB, ↓XXs, ↓XD, ↓YX, ZB, Nat.reduceAdd, Nat.reducePow, ↓reduceIte, eq_self, Int.reduceEq, Nat.reduceEqDiff, Nat.reduceMul, Nat.reduceLeDiff, Int.reduceBEq, Int.reduceLT, Try.f8, ↓XH2, XRN, ZC, ZE, ZH, eq_self, Nat.reduceLeDiff, Nat.reduceBEq, slV_new, reduceIte, ↓op_extract, tupAt_mk, lenV_sl, Bool.not_true, Bool.not_false, lv, a3, a4, a5, b1, b2]
  refine okr_call (r33 (putL L) (by omega) l h5 (by omega)) ?_
  rintro v6 h6' ⟨k6, q6⟩
  have e26 := k6.get e25 (lt_of_get e25)
  cases ok : okL L with
  | false =>
    rw [ok] at b1
    rcases q6 with ⟨_, i6, g6, rfl, e6, hi6⟩ | ⟨_, rfl⟩
    · try simp (dsimp := false) (disch := (first | (refine dS ?_; kernel_rfl) | (refine dM ?_; kernel_rfl) | (refine dO ?_; simp (disch := ((try simp only [ZL]) <;> omega)) only [ZK, ZL]; done) | (refine dK ?_; (repeat first | exact Keep.refl _ _ | exact Keep.app _ _ (Nat.le_refl _) | assumption | refine Keep.ap ?_ | refine Keep.st (by first | omega | (simp only [ZL]; omega)) ?_); done) | ((try simp only [ZL]) <;> omega) | fail)) only [XOB, ↓XXs, ↓XD, ↓YX, ZB, Nat.reduceAdd, Nat.reducePow, ↓reduceIte, eq_self, Int.reduceEq, Nat.reduceEqDiff, Nat.reduceMul, Nat.reduceLeDiff, Int.reduceBEq, Int.reduceLT, Try.f8, ↓XH2, XRN, ZC, ZE, ZH, eq_self, Nat.reduceLeDiff, Nat.reduceBEq, slV_new, reduceIte, ↓op_extract, tupAt_mk, lenV_sl, Bool.not_true, Bool.not_false, lv, b1]
      with_reducible refine Okr.ret ?_
      rfl
    · try simp (dsimp := false) (disch := (first | (refine dS ?_; kernel_rfl) | (refine dM ?_; kernel_rfl) | (refine dO ?_; simp (disch := ((try simp only [ZL]) <;> omega)) only [ZK, ZL]; done) | (refine dK ?_; (repeat first | exact Keep.refl _ _ | exact Keep.app _ _ (Nat.le_refl _) | assumption | refine Keep.ap ?_ | refine Keep.st (by first | omega | (simp only [ZL]; omega)) ?_); done) | ((try simp only [ZL]) <;> omega) | fail)) only [XOB, ↓XXs, ↓XD, ↓YX, ZB, Nat.reduceAdd, Nat.reducePow, ↓reduceIte, eq_self, Int.reduceEq, Nat.reduceEqDiff, Nat.reduceMul, Nat.reduceLeDiff, Int.reduceBEq, Int.reduceLT, Try.f8, ↓XH2, XRN, ZC, ZE, ZH, eq_self, Nat.reduceLeDiff, Nat.reduceBEq, slV_new, reduceIte, ↓op_extract, tupAt_mk, lenV_sl, Bool.not_true, Bool.not_false, lv, b1]
      with_reducible refine Okr.ret ?_
      rfl
  | true =>
    rw [ok] at b1
    have hp : putL L = pathL L 0 := by unfold putL; rw [if_pos ok]
    have hg := got_back ok
    rw [← hp] at hg
    have hrb := read_back ok
    rw [← hp] at hrb
    by_cases hq : (putL L).length ≤ 160
    · rw [decide_eq_true hq] at hg
      have h160 : decide ((160 : Int) < ((B (putL L)).size : Int)) = false := decide_eq_false (by omega)
      rcases q6 with ⟨_, i6, g6, rfl, e6, hi6⟩ | ⟨q, _⟩
      · have a6 := hb_steps (l := l) hrb rfl rfl (by rw [hrb]; omega) e6 e26
        try simp (dsimp := false) (disch := (first | (refine dS ?_; kernel_rfl) | (refine dM ?_; kernel_rfl) | (refine dO ?_; simp (disch := ((try simp only [ZL]) <;> omega)) only [ZK, ZL]; done) | (refine dK ?_; (repeat first | exact Keep.refl _ _ | exact Keep.app _ _ (Nat.le_refl _) | assumption | refine Keep.ap ?_ | refine Keep.st (by first | omega | (simp only [ZL]; omega)) ?_); done) | ((try simp only [ZL]) <;> omega) | fail)) only [XOB, ↓XXs, ↓XD, ↓YX, ZB, Nat.reduceAdd, Nat.reducePow, ↓reduceIte, eq_self, Int.reduceEq, Nat.reduceEqDiff, Nat.reduceMul, Nat.reduceLeDiff, Int.reduceBEq, Int.reduceLT, Try.f8, ↓XH2, XRN, ZC, ZE, ZH, eq_self, Nat.reduceLeDiff, Nat.reduceBEq, slV_new, reduceIte, ↓op_extract, tupAt_mk, lenV_sl, Bool.not_true, Bool.not_false, lv, b1, h160, a6]
        with_reducible refine Okr.ret ?_
        rfl
      · rw [hg] at q; exact absurd q (by simp)
    · have h160 : decide ((160 : Int) < ((B (putL L)).size : Int)) = true := decide_eq_true (by omega)
      rcases q6 with ⟨_, i6, g6, rfl, e6, hi6⟩ | ⟨_, rfl⟩
      · try simp (dsimp := false) (disch := (first | (refine dS ?_; kernel_rfl) | (refine dM ?_; kernel_rfl) | (refine dO ?_; simp (disch := ((try simp only [ZL]) <;> omega)) only [ZK, ZL]; done) | (refine dK ?_; (repeat first | exact Keep.refl _ _ | exact Keep.app _ _ (Nat.le_refl _) | assumption | refine Keep.ap ?_ | refine Keep.st (by first | omega | (simp only [ZL]; omega)) ?_); done) | ((try simp only [ZL]) <;> omega) | fail)) only [XOB, ↓XXs, ↓XD, ↓YX, ZB, Nat.reduceAdd, Nat.reducePow, ↓reduceIte, eq_self, Int.reduceEq, Nat.reduceEqDiff, Nat.reduceMul, Nat.reduceLeDiff, Int.reduceBEq, Int.reduceLT, Try.f8, ↓XH2, XRN, ZC, ZE, ZH, eq_self, Nat.reduceLeDiff, Nat.reduceBEq, slV_new, reduceIte, ↓op_extract, tupAt_mk, lenV_sl, Bool.not_true, Bool.not_false, lv, b1, h160]
        with_reducible refine Okr.ret ?_
        rfl
      · try simp (dsimp := false) (disch := (first | (refine dS ?_; kernel_rfl) | (refine dM ?_; kernel_rfl) | (refine dO ?_; simp (disch := ((try simp only [ZL]) <;> omega)) only [ZK, ZL]; done) | (refine dK ?_; (repeat first | exact Keep.refl _ _ | exact Keep.app _ _ (Nat.le_refl _) | assumption | refine Keep.ap ?_ | refine Keep.st (by first | omega | (simp only [ZL]; omega)) ?_); done) | ((try simp only [ZL]) <;> omega) | fail)) only [XOB, ↓XXs, ↓XD, ↓YX, ZB, Nat.reduceAdd, Nat.reducePow, ↓reduceIte, eq_self, Int.reduceEq, Nat.reduceEqDiff, Nat.reduceMul, Nat.reduceLeDiff, Int.reduceBEq, Int.reduceLT, Try.f8, ↓XH2, XRN, ZC, ZE, ZH, eq_self, Nat.reduceLeDiff, Nat.reduceBEq, slV_new, reduceIte, ↓op_extract, tupAt_mk, lenV_sl, Bool.not_true, Bool.not_false, lv, b1, h160]
        with_reducible refine Okr.ret ?_
        rfl
theorem rz8 (va : Value) (n l : Nat) (h : AH) (r : Cd h va n) (hl : l ≤ h.length) : ∃ h', run V0 (.fn 8) l [S va] h = some (.ret (.bool true) h') := by
  obtain ⟨v, h', e, rfl⟩ := r8 va n l h r hl
  exact ⟨h', e⟩
end Go.Abs
