/- That rules are read back from how they are written, and that the law FnRulesPut answers true. For every code; no condition. -/
import Derived.Test.YtbolgneigidmdaaDoorDrawA
import Derived.Lib.IndexMore
import Derived.Lib.SplitLaws
namespace Go.Abs
open Go.Proofs
set_option linter.unusedSimpArgs false
/-! ### rules are read: plain -/
def splitL (s : Bs) : List Bs := Lib.splitK [32] 0 (Lib.count s [32]) s
def notA (s : Bs) : Bs := if s = [42] then [] else s
def ixN (w : Bs) : List Bs → Nat → Int
  | [], _ => -1
  | x :: r, k => if w = x then (k : Int) else ixN w r (k + 1)
def mkRu (a b c d : Bs) : Ru := ⟨decide (a = [113, 117, 105, 101, 116]), notA b, notA c, ixN (notA d) kindsL 0⟩
def parR : Nat → Bs → List Ru → Option (List Ru)
  | 0, _, out => some out
  | f + 1, r, out => if r = [] then some out else match splitL (Lib.cut r [10]).1 with
    | [a, b, c, d] => parR f (Lib.cut r [10]).2.1 (out ++ [mkRu a b c d])
    | _ => none
theorem ix_one (c : UInt8) (r : Bs) : ∀ a : Bs, (∀ x ∈ a, x ≠ c) → Lib.index (a ++ c :: r) [c] = (a.length : Int)
  | [], _ => by simp [Lib.index, List.isPrefixOf]
  | x :: a, h => by
    have ih := ix_one c r a (fun y hy => h y (by simp [hy]))
    have hx : (c == x) = false := by rw [beq_eq_false_iff_ne]; exact fun q => h x (by simp) q.symm
    have hp : ([c] : Bs).isPrefixOf (x :: (a ++ c :: r)) = false := by simp [List.isPrefixOf, hx]
    rw [List.cons_append]
    unfold Lib.index
    rw [hp, ih]
    have : ((a.length : Int) == -1) = false := by rw [beq_eq_false_iff_ne]; omega
    rw [this]
    simp
theorem ix_no (c : UInt8) : ∀ a : Bs, (∀ x ∈ a, x ≠ c) → Lib.index a [c] = -1
  | [], _ => rfl
  | x :: a, h => by
    have ih := ix_no c a (fun y hy => h y (by simp [hy]))
    have hx : (c == x) = false := by rw [beq_eq_false_iff_ne]; exact fun q => h x (by simp) q.symm
    have hp : ([c] : Bs).isPrefixOf (x :: a) = false := by simp [List.isPrefixOf, hx]
    unfold Lib.index
    rw [hp, ih]
    rfl
theorem cut_oneR (c : UInt8) (r a : Bs) (h : ∀ x ∈ a, x ≠ c) : Lib.cut (a ++ c :: r) [c] = (a, r, true) := by
  unfold Lib.cut
  rw [ix_one c r a h, if_pos (by omega)]
  have h1 : ((a.length : Int)).toNat = a.length := by omega
  have h2 : (a ++ c :: r).drop (a.length + 1) = r := by rw [← List.drop_drop, List.drop_left' rfl]; rfl
  rw [h1, List.take_left' rfl]
  exact congrArg (fun z => (a, z, true)) h2
theorem split_one (a : Bs) (h : ∀ x ∈ a, x ≠ 32) : splitL a = [a] := by
  unfold splitL
  rw [Lib.count_miss (ix_no 32 a h)]
  rfl
theorem split_cons (a r : Bs) (h : ∀ x ∈ a, x ≠ 32) : splitL (a ++ 32 :: r) = a :: splitL r := by
  have hi := ix_one 32 r a h
  have hd : (a ++ 32 :: r).drop (a.length + 1) = r := by rw [← List.drop_drop, List.drop_left' rfl]; rfl
  have hc : Lib.count (a ++ 32 :: r) [32] = Lib.count r [32] + 1 := by
    rw [Lib.count_hit (by simp) hi]
    show 1 + Lib.count ((a ++ 32 :: r).drop (a.length + 1)) [32] = _
    rw [hd]; omega
  unfold splitL
  rw [hc, Lib.splitK]
  have h1 : (Lib.index (a ++ 32 :: r) [32] == -1) = false := by rw [hi, beq_eq_false_iff_ne]; omega
  rw [h1, hi]
  have h2 : ((a.length : Int)).toNat = a.length := by omega
  rw [h2]
  simp only [Bool.false_eq_true, if_false, Nat.add_zero, List.length_singleton]
  rw [List.take_left' rfl, hd]
theorem usr_no {b : UInt8} (h : usrI b.toNat = true) : b ≠ 32 ∧ b ≠ 10 ∧ b ≠ 42 := by
  refine ⟨?_, ?_, ?_⟩ <;> rintro rfl <;> exact absurd h (by decide)
theorem orEm_all {s : Bs} (h : orEm s = true) : (∀ b ∈ s, b ≠ 32 ∧ b ≠ 10) ∧ s ≠ [42] := by
  unfold orEm at h
  rw [Bool.or_eq_true] at h
  rcases h with q | q
  · rw [of_decide_eq_true q]; exact ⟨by simp, by simp⟩
  · unfold userOkL at q
    simp only [Bool.and_eq_true, List.all_eq_true] at q
    refine ⟨fun b hb => ⟨(usr_no (q.1 b hb)).1, (usr_no (q.1 b hb)).2.1⟩, ?_⟩
    rintro rfl
    exact (usr_no (q.1 42 (by simp))).2.2 rfl
theorem oA_all {s : Bs} (h : ∀ b ∈ s, b ≠ 32 ∧ b ≠ 10) : ∀ b ∈ oA s, b ≠ 32 ∧ b ≠ 10 := by
  unfold oA
  split
  · intro b hb; simp at hb; subst hb; decide
  · exact h
theorem not_oA {s : Bs} (h : s ≠ [42]) : notA (oA s) = s := by
  unfold notA oA
  by_cases q : s = []
  · rw [if_pos q, if_pos rfl, q]
  · rw [if_neg q, if_neg h]
theorem head_all (x : Ru) : ∀ b ∈ ruHead x, b ≠ 32 ∧ b ≠ 10 := by
  unfold ruHead
  split <;> intro b hb <;> simp at hb <;> rcases hb with rfl | rfl | rfl | rfl | rfl <;> decide
theorem kind_all {x : Ru} (h : KOk x) : (∀ b ∈ kindW x.kind, b ≠ 32 ∧ b ≠ 10) ∧ ixN (notA (oA (kindW x.kind))) kindsL 0 = x.kind := by
  obtain ⟨h1, h2⟩ := h
  have : x.kind = 0 ∨ x.kind = 1 ∨ x.kind = 2 ∨ x.kind = 3 ∨ x.kind = 4 ∨ x.kind = 5 ∨ x.kind = 6 := by omega
  rcases this with q | q | q | q | q | q | q <;> rw [q] <;> exact ⟨by decide, by decide⟩
theorem mk_text {x : Ru} (h : ruOk x = true) : mkRu (ruHead x) (oA x.room) (oA x.user) (oA (kindW x.kind)) = x := by
  have hk := kind_all (KOk_of h)
  unfold ruOk at h
  simp only [Bool.and_eq_true] at h
  have h1 := (orEm_all h.1.1).2
  have h2 := (orEm_all h.1.2).2
  unfold mkRu
  rw [not_oA h1, not_oA h2, hk.2]
  obtain ⟨q, r, u, k⟩ := x
  have : decide (ruHead ⟨q, r, u, k⟩ = [113, 117, 105, 101, 116]) = q := by cases q <;> rfl
  rw [this]
theorem line_text {x : Ru} (h : ruOk x = true) (rest : Bs) : Lib.cut (ruText x ++ rest) [10] = (ruHead x ++ 32 :: (oA x.room ++ 32 :: (oA x.user ++ 32 :: oA (kindW x.kind))), rest, true) ∧ splitL (ruHead x ++ 32 :: (oA x.room ++ 32 :: (oA x.user ++ 32 :: oA (kindW x.kind)))) = [ruHead x, oA x.room, oA x.user, oA (kindW x.kind)] := by
  have hk := kind_all (KOk_of h)
  unfold ruOk at h
  simp only [Bool.and_eq_true] at h
  have a0 := head_all x
  have a1 := oA_all (orEm_all h.1.1).1
  have a2 := oA_all (orEm_all h.1.2).1
  have a3 := oA_all hk.1
  constructor
  · have e : ruText x ++ rest = (ruHead x ++ 32 :: (oA x.room ++ 32 :: (oA x.user ++ 32 :: oA (kindW x.kind)))) ++ 10 :: rest := by unfold ruText; simp
    rw [e]
    refine cut_oneR 10 rest _ fun b hb => ?_
    simp only [List.mem_append, List.mem_cons] at hb
    rcases hb with hb | rfl | hb | rfl | hb | rfl | hb
    · exact (a0 b hb).2
    · decide
    · exact (a1 b hb).2
    · decide
    · exact (a2 b hb).2
    · decide
    · exact (a3 b hb).2
  · rw [split_cons _ _ (fun b hb => (a0 b hb).1), split_cons _ _ (fun b hb => (a1 b hb).1), split_cons _ _ (fun b hb => (a2 b hb).1), split_one _ (fun b hb => (a3 b hb).1)]
theorem par_rules : ∀ (L : List Ru) (f : Nat) (out : List Ru), (∀ x ∈ L, ruOk x = true) → L.length ≤ f → parR f (rulesT L) out = some (out ++ L)
  | [], f, out, _, _ => by
    have : rulesT [] = [] := rfl
    rw [this, List.append_nil]
    cases f with
    | zero => rfl
    | succ f => rw [parR, if_pos rfl]
  | x :: L, f, out, ok, hf => by
    cases f with
    | zero => simp at hf
    | succ f =>
      have okx := ok x (by simp)
      have hp : rulesT (x :: L) = ruText x ++ rulesT L := by simp [rulesT]
      have hne : ruText x ++ rulesT L ≠ [] := by unfold ruText; simp
      obtain ⟨e1, e2⟩ := line_text okx (rulesT L)
      rw [hp, parR, if_neg hne, e1]
      simp only [e2]
      rw [mk_text okx, par_rules L f _ (fun y hy => ok y (by simp [hy])) (by simpa using hf)]
      simp
def goodR (s : Bs) (L : List Ru) : Bool := rokL L && decide (rulesT L = s)
def goodRO (s : Bs) : Option (List Ru) → Bool
  | none => false
  | some L => goodR s L
theorem rok_all {L : List Ru} (h : rokL L = true) : (∀ x ∈ L, ruOk x = true) ∧ L.length ≤ 8 := by
  unfold rokL at h
  simp only [Bool.and_eq_true, List.all_eq_true, decide_eq_true_eq] at h
  exact ⟨h.1, by omega⟩
theorem rules_back {L : List Ru} (h : rokL L = true) : parR 9 (rulesT L) [] = some L := by
  obtain ⟨h1, h2⟩ := rok_all h
  rw [par_rules L 9 [] h1 (by omega), List.nil_append]
theorem notA_len (s : Bs) : (notA s).length ≤ s.length := by unfold notA; split <;> simp
theorem splitK_len : ∀ (k : Nat) (s : Bs), ∀ x ∈ Lib.splitK [32] 0 k s, x.length ≤ s.length
  | 0, s, x, hx => by simp [Lib.splitK] at hx; subst hx; exact Nat.le_refl _
  | k + 1, s, x, hx => by
    rw [Lib.splitK] at hx
    split at hx
    · simp at hx; subst hx; exact Nat.le_refl _
    · rcases List.mem_cons.1 hx with rfl | hx
      · rw [List.length_take]; omega
      · have := splitK_len k _ x hx
        rw [List.length_drop] at this
        omega
theorem cut_lenR (s p : Bs) : (Lib.cut s p).1.length ≤ s.length ∧ (Lib.cut s p).2.1.length ≤ s.length := by
  unfold Lib.cut
  split
  · exact ⟨by rw [List.length_take]; omega, by rw [List.length_drop]; omega⟩
  · exact ⟨Nat.le_refl _, Nat.zero_le _⟩
end Go.Abs
namespace Go.Abs
open Go.Proofs
set_option maxRecDepth 100000
set_option linter.unusedSimpArgs false
set_option linter.unusedVariables false
set_option pp.maxSteps 20000
set_option pp.deepTerms true
theorem p_cutR (s t : Bs) (l : Nat) (h : AH) (hs : s.length ≤ 2 ^ 30) : run V0 (.fn 24) l [S (sV s), S (sV t)] h = some (.ret (.tuple ⟨[sV (Lib.cut s t).1, sV (Lib.cut s t).2.1, .bool (Lib.cut s t).2.2]⟩) h) := by
  refine run_prim (vs := [sV s, sV t]) (p := pPure fCut) rfl ?_
  have hz : (B s).size < 4294967281 := by rw [size_B]; omega
  simp only [pPure, fCut]
  rw [if_pos hz]
  rfl
theorem p_split (s : Bs) (l : Nat) (h : AH) (hs : s.length ≤ 2 ^ 30) : run V0 (.fn 25) l [S (sV s), S (sV [32])] h = some (.ret (slV h.length 0 (splitL s).length (splitL s).length) (h ++ [.row 0 1 (sL (splitL s))])) := by
  refine run_prim (vs := [sV s, sV [32]]) (p := pSplit) rfl ?_
  have hz : (B s).size < 4294967281 := by rw [size_B]; omega
  have h1 : 1 ≤ (B [32]).size := by rw [size_B]; decide
  simp only [pSplit]
  rw [if_pos ⟨hz, h1⟩]
  have hd := Lib.splitB_data (B [32]) 0 (Lib.countB (B s) (B [32])) (B s)
  have hl := Lib.splitB_all (B [32]) h1 0 _ (B s) rfl
  have hq : (Lib.splitB (B [32]) 0 (Lib.countB (B s) (B [32])) (B s)).map Value.string = sL (splitL s) := by
    have : splitL s = (Lib.splitB (B [32]) 0 (Lib.countB (B s) (B [32])) (B s)).map (·.data.toList) := hd.symm
    rw [this]
    unfold sL
    rw [List.map_map]
    rfl
  have hn : Lib.countB (B s) (B [32]) + 1 = (splitL s).length := by
    have := congrArg List.length hq
    rw [List.length_map, hl, sL_len] at this
    exact this
  rw [hq, hn]
  rfl
theorem decB (a b : Bs) : decide (B a = B b) = decide (a = b) := by rw [decide_eq_decide, B_inj]
theorem r51 (s : Bs) (l : Nat) (h : AH) (hs : s.length ≤ 2 ^ 30) : run V0 (.fn 51) l [S (sV s)] h = some (.ret (sV s) h) := by
  have a1 : run V0 (.fn 64) l [S (sV s)] h = some (.ret (sV s) h) := by
    refine run_prim (vs := [sV s]) (p := pPure fClone) rfl ?_
    have hz : (B s).size ≤ 281474976710656 := by rw [size_B]; omega
    simp only [pPure, fClone]
    rw [if_pos hz]
    rfl
  refine run_fn Tryd.func51 rfl rfl rfl rfl ?_
  simp only [↓XX, ↓XD, ↓YX, ZB, Nat.reduceAdd, Nat.reducePow, ↓reduceIte, eq_self, Int.reduceEq, Nat.reduceEqDiff, Nat.reduceMul, Nat.reduceLeDiff, Tryd.f51, a1]
theorem r26 (s : Bs) (l : Nat) (h : AH) (hs : s.length ≤ 2 ^ 30) : run V0 (.fn 26) l [S (sV s)] h = some (.ret (sV (notA s)) h) := by
  have a1 := r51 s l h hs
  have b1 := decB s [42]
  refine run_fn Tryd.func26 rfl rfl rfl rfl ?_
  unfold notA
  by_cases q : s = [42]
  · rw [decide_eq_true q] at b1
    simp only [↓XX, ↓XD, ↓YX, ZB, Nat.reduceAdd, Nat.reducePow, ↓reduceIte, eq_self, Int.reduceEq, Nat.reduceEqDiff, Nat.reduceMul, Nat.reduceLeDiff, Tryd.f26, b1, if_pos q]
  · rw [decide_eq_false q] at b1
    simp only [↓XX, ↓XD, ↓YX, ZB, Nat.reduceAdd, Nat.reducePow, ↓reduceIte, eq_self, Int.reduceEq, Nat.reduceEqDiff, Nat.reduceMul, Nat.reduceLeDiff, Tryd.f26, b1, a1, if_neg q]
theorem L27 (id g n l : Nat) (w : Bs) (h : AH) (hn : n ≤ 2 ^ 40) : ∀ (r d : List Bs), d.length + r.length = n → h[id]? = some (.row g 1 (sL (d ++ r))) →
    L27_0 l (slV id g n n) (sV w) (iV n) (iV d.length) h = some (.ret (iV (ixN w r d.length)) h) := by
  intro r
  induction r with
  | nil =>
    intro d hk e
    simp only [List.length_nil, Nat.add_zero] at hk
    have hlt : decide ((d.length : Int) < (n : Int)) = false := by rw [decide_eq_false_iff_not]; omega
    refine run_code Tryd.func27 rfl rfl ?_
    simp only [↓XX, ↓XD, ↓YX, ZB, Nat.reduceAdd, Nat.reducePow, ↓reduceIte, eq_self, Int.reduceEq, Nat.reduceEqDiff, Nat.reduceMul, Nat.reduceLeDiff, Tryd.f27, hlt, ixN]
  | cons x r ih =>
    intro d hk e
    simp only [List.length_cons] at hk
    have hlt : decide ((d.length : Int) < (n : Int)) = true := by rw [decide_eq_true_iff]; omega
    have hix : ixAddr (slV id g n n) (d.length : Int) 1 = some (pV id d.length g) := by rw [ixAddr_sl (by omega)]; simp
    have hld : ld h (pV id d.length g) = some (sV x) := ld_of e (by rw [sL_get])
    have hw : IntKind.i64.wrap ((d.length : Int) + 1) = (((d ++ [x]).length : Nat) : Int) := natCast_succ_wrap (by omega) (by simp)
    have b1 := decB w x
    have i1 := ih (d ++ [x]) (by simp; omega) (by rw [e]; simp)
    refine run_code Tryd.func27 rfl rfl ?_
    by_cases q : w = x
    · rw [decide_eq_true q] at b1
      simp only [↓XX, ↓XD, ↓YX, ZB, Nat.reduceAdd, Nat.reducePow, ↓reduceIte, eq_self, Int.reduceEq, Nat.reduceEqDiff, Nat.reduceMul, Nat.reduceLeDiff, Tryd.f27, hlt, hix, hld, b1, hw]
      simp [ixN, q]
    · rw [decide_eq_false q] at b1
      simp only [↓XX, ↓XD, ↓YX, ZB, Nat.reduceAdd, Nat.reducePow, ↓reduceIte, eq_self, Int.reduceEq, Nat.reduceEqDiff, Nat.reduceMul, Nat.reduceLeDiff, Tryd.f27, hlt, hix, hld, b1, hw]
      rw [i1]; simp [ixN, q]
theorem r27 (id l : Nat) (w : Bs) (h : AH) (e : h[id]? = some (.row 0 1 (sL kindsL))) :
    run V0 (.fn 27) l [S (slV id 0 7 7), S (sV w)] h = some (.ret (iV (ixN w kindsL 0)) h) := by
  refine run_fn Tryd.func27 rfl rfl rfl rfl ?_
  simp only [↓XX, ↓XD, ↓YX, ZB, Nat.reduceAdd, Nat.reducePow, ↓reduceIte, eq_self, Int.reduceEq, Nat.reduceEqDiff, Nat.reduceMul, Nat.reduceLeDiff, Tryd.f27, lenV]
  exact L27 id 0 7 l w h (by decide) kindsL [] rfl e
/-- what is read -/
def RgQ (H0 : AH) (s : Bs) (o : Option (List Ru)) (v : Value) (h' : AH) : Prop :=
  Keep H0.length H0 h' ∧ ((goodRO s o = true ∧ ∃ L i g, o = some L ∧ v = .tuple ⟨[slV i g L.length L.length, .bool true]⟩ ∧ h'[i]? = some (.row g 4 (Ru.R L)) ∧ H0.length ≤ i) ∨ (goodRO s o = false ∧ v = .tuple ⟨[.slice none 0 0, .bool false]⟩))
theorem slCut_lenR {h : AH} {id off g n c sz : Nat} {cs : List Value} (e : h[id]? = some (.row g sz cs)) (hn : n ≤ c) (hw : wd sz = sz := by rfl) :
    slCut h (.slice (some ⟨id, off, some g⟩) n c) none (some (n : Int)) (some (n : Int)) sz = some (.slice (some ⟨id, off, some g⟩) n n) := by
  simp only [slCut, rowAt_of e, Option.bind_some, Option.getD_none, Option.getD_some]
  rw [if_pos ⟨by omega, by omega, hw, by omega, hn⟩, if_pos ⟨by omega, by omega⟩]
  simp
theorem r29 (id g n c l : Nat) (h : AH) (cs : List Value) (e : h[id]? = some (.row g 4 cs)) (hn : n ≤ c) : run V0 (.fn 29) l [S (slV id g n c)] h = some (.ret (slV id g n n) h) := by
  refine run_fn Tryd.func29 rfl rfl rfl rfl ?_
  simp only [↓XX, ↓XD, ↓YX, ZB, Nat.reduceAdd, Nat.reducePow, ↓reduceIte, eq_self, Int.reduceEq, Nat.reduceEqDiff, Nat.reduceMul, Nat.reduceLeDiff, Tryd.f29, lenV, slCut_lenR e hn, Option.isNone_some, Option.isNone_none, Option.isSome_some, Bool.or_true, Bool.false_or]
theorem L9e (l : Nat) (s r : Bs) (H0 : AH) (hl : l ≤ H0.length) (out : List Ru) (ho : out.length ≤ 9) (fo : ∀ x ∈ out, x.Fit20) (hr : r = [] ∨ out.length = 9) (iO gO no : Nat) (h : AH) (k : Keep H0.length H0 h) (hiO : H0.length ≤ iO) (eO : h[iO]? = some (.row gO 4 (Ru.R out))) (hno : no = out.length) :
    Okr (RgQ H0 s (some out)) (L9_0 l (sV s) (slV iO gO no no) (sV r) h) := by
  subst hno
  have hk := k.1
  obtain ⟨h1, a1, k1⟩ := r18 iO gO out.length l out h (by omega) (fun x hx => (fo x hx).fit) eO
  have hk1 := k1.1
  have eO1 := k1.get eO (lt_of_get eO)
  rw [show (out.all ruOk && decide ((out.length : Int) ≤ 8)) = rokL out from rfl] at a1
  obtain ⟨h2, a2, k2⟩ := r7 iO gO out.length l out h1 (by omega) (by omega) fo eO1
  have hk2 := k2.1
  have eO2 := k2.get eO1 (lt_of_get eO1)
  have b1 := decB (rputL out) s
  have a3 := r29 iO gO out.length out.length l h2 _ eO2 (Nat.le_refl _)
  have br := decB r []
  refine okr_code Tryd.func9 rfl rfl ?_
  by_cases hz : r = []
  · subst hz
    cases q1 : rokL out with
    | false =>
      rw [q1] at a1
      simp (dsimp := false) (disch := (first | (refine dS ?_; kernel_rfl) | (refine dM ?_; kernel_rfl) | (refine dO ?_; simp (disch := ((try simp only [ZL]) <;> omega)) only [ZK, ZL]; done) | (refine dK ?_; (repeat first | exact Keep.refl _ _ | exact Keep.app _ _ (Nat.le_refl _) | assumption | refine Keep.ap ?_ | refine Keep.st (by first | omega | (simp only [ZL]; omega)) ?_); done) | ((try simp only [ZL]) <;> omega) | fail)) only [XOB, ↓XXs, ↓XD, ↓YX, ZB, Nat.reduceAdd, Nat.reducePow, ↓reduceIte, eq_self, Int.reduceEq, Nat.reduceEqDiff, Nat.reduceMul, Nat.reduceLeDiff, Int.reduceBEq, Int.reduceLT, Tryd.f9, ↓XH2, XRN, ZC, ZE, ZH, eq_self, Nat.reduceLeDiff, Nat.reduceBEq, slV_new, reduceIte, ↓op_extract, tupAt_mk, lenV_sl, Bool.not_true, Bool.not_false, a1, a2, a3, b1]
      with_reducible refine Okr.ret ?_
      exact ⟨k.trans (k1.le hk), .inr ⟨by simp [goodRO, goodR, q1], rfl⟩⟩
    | true =>
      rw [q1] at a1
      have hp : rputL out = rulesT out := by unfold rputL; rw [if_pos q1]
      cases q2 : decide (rputL out = s) with
      | false =>
        rw [q2] at b1
        simp (dsimp := false) (disch := (first | (refine dS ?_; kernel_rfl) | (refine dM ?_; kernel_rfl) | (refine dO ?_; simp (disch := ((try simp only [ZL]) <;> omega)) only [ZK, ZL]; done) | (refine dK ?_; (repeat first | exact Keep.refl _ _ | exact Keep.app _ _ (Nat.le_refl _) | assumption | refine Keep.ap ?_ | refine Keep.st (by first | omega | (simp only [ZL]; omega)) ?_); done) | ((try simp only [ZL]) <;> omega) | fail)) only [XOB, ↓XXs, ↓XD, ↓YX, ZB, Nat.reduceAdd, Nat.reducePow, ↓reduceIte, eq_self, Int.reduceEq, Nat.reduceEqDiff, Nat.reduceMul, Nat.reduceLeDiff, Int.reduceBEq, Int.reduceLT, Tryd.f9, ↓XH2, XRN, ZC, ZE, ZH, eq_self, Nat.reduceLeDiff, Nat.reduceBEq, slV_new, reduceIte, ↓op_extract, tupAt_mk, lenV_sl, Bool.not_true, Bool.not_false, a1, a2, a3, b1]
        with_reducible refine Okr.ret ?_
        refine ⟨k.trans ((k1.trans (k2.le hk1)).le hk), .inr ⟨?_, rfl⟩⟩
        show goodR s out = _
        unfold goodR
        rw [q1, ← hp, q2]; rfl
      | true =>
        rw [q2] at b1
        simp (dsimp := false) (disch := (first | (refine dS ?_; kernel_rfl) | (refine dM ?_; kernel_rfl) | (refine dO ?_; simp (disch := ((try simp only [ZL]) <;> omega)) only [ZK, ZL]; done) | (refine dK ?_; (repeat first | exact Keep.refl _ _ | exact Keep.app _ _ (Nat.le_refl _) | assumption | refine Keep.ap ?_ | refine Keep.st (by first | omega | (simp only [ZL]; omega)) ?_); done) | ((try simp only [ZL]) <;> omega) | fail)) only [XOB, ↓XXs, ↓XD, ↓YX, ZB, Nat.reduceAdd, Nat.reducePow, ↓reduceIte, eq_self, Int.reduceEq, Nat.reduceEqDiff, Nat.reduceMul, Nat.reduceLeDiff, Int.reduceBEq, Int.reduceLT, Tryd.f9, ↓XH2, XRN, ZC, ZE, ZH, eq_self, Nat.reduceLeDiff, Nat.reduceBEq, slV_new, reduceIte, ↓op_extract, tupAt_mk, lenV_sl, Bool.not_true, Bool.not_false, a1, a2, a3, b1]
        with_reducible refine Okr.ret ?_
        refine ⟨k.trans ((k1.trans (k2.le hk1)).le hk), .inl ⟨?_, out, iO, gO, rfl, rfl, eO2, hiO⟩⟩
        show goodR s out = _
        unfold goodR
        rw [q1, ← hp, q2]; rfl
  · have hne : decide (B r = B []) = false := by rw [br]; exact decide_eq_false hz
    have h9 : out.length = 9 := hr.resolve_left hz
    have h8 : decide ((out.length : Int) ≤ 8) = false := decide_eq_false (by omega)
    cases q1 : rokL out with
    | false =>
      rw [q1] at a1
      simp (dsimp := false) (disch := (first | (refine dS ?_; kernel_rfl) | (refine dM ?_; kernel_rfl) | (refine dO ?_; simp (disch := ((try simp only [ZL]) <;> omega)) only [ZK, ZL]; done) | (refine dK ?_; (repeat first | exact Keep.refl _ _ | exact Keep.app _ _ (Nat.le_refl _) | assumption | refine Keep.ap ?_ | refine Keep.st (by first | omega | (simp only [ZL]; omega)) ?_); done) | ((try simp only [ZL]) <;> omega) | fail)) only [XOB, ↓XXs, ↓XD, ↓YX, ZB, Nat.reduceAdd, Nat.reducePow, ↓reduceIte, eq_self, Int.reduceEq, Nat.reduceEqDiff, Nat.reduceMul, Nat.reduceLeDiff, Int.reduceBEq, Int.reduceLT, Tryd.f9, ↓XH2, XRN, ZC, ZE, ZH, eq_self, Nat.reduceLeDiff, Nat.reduceBEq, slV_new, reduceIte, ↓op_extract, tupAt_mk, lenV_sl, Bool.not_true, Bool.not_false, a1, a2, a3, b1, hne, h8]
      with_reducible refine Okr.ret ?_
      exact ⟨k.trans (k1.le hk), .inr ⟨by simp [goodRO, goodR, q1], rfl⟩⟩
    | true =>
      rw [q1] at a1
      have hp : rputL out = rulesT out := by unfold rputL; rw [if_pos q1]
      cases q2 : decide (rputL out = s) with
      | false =>
        rw [q2] at b1
        simp (dsimp := false) (disch := (first | (refine dS ?_; kernel_rfl) | (refine dM ?_; kernel_rfl) | (refine dO ?_; simp (disch := ((try simp only [ZL]) <;> omega)) only [ZK, ZL]; done) | (refine dK ?_; (repeat first | exact Keep.refl _ _ | exact Keep.app _ _ (Nat.le_refl _) | assumption | refine Keep.ap ?_ | refine Keep.st (by first | omega | (simp only [ZL]; omega)) ?_); done) | ((try simp only [ZL]) <;> omega) | fail)) only [XOB, ↓XXs, ↓XD, ↓YX, ZB, Nat.reduceAdd, Nat.reducePow, ↓reduceIte, eq_self, Int.reduceEq, Nat.reduceEqDiff, Nat.reduceMul, Nat.reduceLeDiff, Int.reduceBEq, Int.reduceLT, Tryd.f9, ↓XH2, XRN, ZC, ZE, ZH, eq_self, Nat.reduceLeDiff, Nat.reduceBEq, slV_new, reduceIte, ↓op_extract, tupAt_mk, lenV_sl, Bool.not_true, Bool.not_false, a1, a2, a3, b1, hne, h8]
        with_reducible refine Okr.ret ?_
        refine ⟨k.trans ((k1.trans (k2.le hk1)).le hk), .inr ⟨?_, rfl⟩⟩
        show goodR s out = _
        unfold goodR
        rw [q1, ← hp, q2]; rfl
      | true =>
        rw [q2] at b1
        simp (dsimp := false) (disch := (first | (refine dS ?_; kernel_rfl) | (refine dM ?_; kernel_rfl) | (refine dO ?_; simp (disch := ((try simp only [ZL]) <;> omega)) only [ZK, ZL]; done) | (refine dK ?_; (repeat first | exact Keep.refl _ _ | exact Keep.app _ _ (Nat.le_refl _) | assumption | refine Keep.ap ?_ | refine Keep.st (by first | omega | (simp only [ZL]; omega)) ?_); done) | ((try simp only [ZL]) <;> omega) | fail)) only [XOB, ↓XXs, ↓XD, ↓YX, ZB, Nat.reduceAdd, Nat.reducePow, ↓reduceIte, eq_self, Int.reduceEq, Nat.reduceEqDiff, Nat.reduceMul, Nat.reduceLeDiff, Int.reduceBEq, Int.reduceLT, Tryd.f9, ↓XH2, XRN, ZC, ZE, ZH, eq_self, Nat.reduceLeDiff, Nat.reduceBEq, slV_new, reduceIte, ↓op_extract, tupAt_mk, lenV_sl, Bool.not_true, Bool.not_false, a1, a2, a3, b1, hne, h8]
        with_reducible refine Okr.ret ?_
        refine ⟨k.trans ((k1.trans (k2.le hk1)).le hk), .inl ⟨?_, out, iO, gO, rfl, rfl, eO2, hiO⟩⟩
        show goodR s out = _
        unfold goodR
        rw [q1, ← hp, q2]; rfl
theorem mk_fit {a b c d : Bs} {n : Nat} (hb : b.length ≤ n) (hc : c.length ≤ n) (hn : n ≤ 2 ^ 20) : (mkRu a b c d).Fit20 :=
  ⟨by have := notA_len b; show (notA b).length ≤ _; omega, by have := notA_len c; show (notA c).length ≤ _; omega⟩
theorem L9 (l : Nat) (s : Bs) (H0 : AH) (hl : l ≤ H0.length) :
    ∀ (f : Nat) (r : Bs) (out : List Ru), f + out.length = 9 → r.length ≤ 2 ^ 20 → (∀ x ∈ out, x.Fit20) → ∀ (iO gO no : Nat) (h : AH), Keep H0.length H0 h → H0.length ≤ iO → h[iO]? = some (.row gO 4 (Ru.R out)) → no = out.length →
      Okr (RgQ H0 s (parR f r out)) (L9_0 l (sV s) (slV iO gO no no) (sV r) h) := by
  intro f
  induction f with
  | zero =>
    rintro r out hf hr fo iO gO no h k hiO eO hno
    exact L9e l s r H0 hl out (by omega) fo (.inr (by omega)) iO gO no h k hiO eO hno
  | succ f ih =>
    rintro r out hf hr fo iO gO no h k hiO eO hno
    by_cases hz : r = []
    · subst hz
      have : parR (f + 1) [] out = some out := by rw [parR, if_pos rfl]
      rw [this]
      exact L9e l s [] H0 hl out (by omega) fo (.inl rfl) iO gO no h k hiO eO hno
    · subst hno
      have hk := k.1
      have hO := lt_of_get eO
      have hlh : l ≤ h.length := by omega
      have hne : decide (B r = B []) = false := by rw [decB]; exact decide_eq_false hz
      have h8 : decide ((out.length : Int) ≤ 8) = true := decide_eq_true (by omega)
      have n1 := cut_lenR r [10]
      have a1 := fun h => p_cutR r [10] l h (by omega)
      have a2 := p_split (Lib.cut r [10]).1 l h (by omega)
      have hel := splitK_len (Lib.count (Lib.cut r [10]).1 [32]) (Lib.cut r [10]).1
      have hst : parR (f + 1) r out = match splitL (Lib.cut r [10]).1 with
        | [a, b, c, d] => parR f (Lib.cut r [10]).2.1 (out ++ [mkRu a b c d])
        | _ => none := by rw [parR, if_neg hz] <;> rfl
      have hsl : splitL (Lib.cut r [10]).1 = Lib.splitK [32] 0 (Lib.count (Lib.cut r [10]).1 [32]) (Lib.cut r [10]).1 := rfl
      rw [← hsl] at hel
      generalize hw : splitL (Lib.cut r [10]).1 = w at *
      refine okr_code Tryd.func9 rfl rfl ?_
      by_cases h4 : w.length = 4
      · obtain ⟨a, b, c, d, rfl⟩ : ∃ a b c d, w = [a, b, c, d] := by
          match w, h4 with
          | [a, b, c, d], _ => exact ⟨a, b, c, d, rfl⟩
        have hb := hel b (by simp)
        have hc := hel c (by simp)
        have hd := hel d (by simp)
        have a3 := fun l h => r26 b l h (by omega)
        have a4 := fun l h => r26 c l h (by omega)
        have a5 := fun l h => r26 d l h (by omega)
        have a6 := fun l => r28 l (h ++ [AObj.row 0 1 [sV a, sV b, sV c, sV d]])
        have a7 := fun l => r27 (h.length + 1) l (notA d) (h ++ [AObj.row 0 1 [sV a, sV b, sV c, sV d], AObj.row 0 1 (sL kindsL)]) (by simp (disch := (first | (refine dS ?_; kernel_rfl) | (refine dM ?_; kernel_rfl) | (refine dO ?_; simp (disch := ((try simp only [ZL]) <;> omega)) only [ZK, ZL]; done) | (refine dK ?_; (repeat first | exact Keep.refl _ _ | exact Keep.app _ _ (Nat.le_refl _) | assumption | refine Keep.ap ?_ | refine Keep.st (by first | omega | (simp only [ZL]; omega)) ?_); done) | ((try simp only [ZL]) <;> omega) | fail)) only [↓XH2, XRN, ZC, ZE, ZH, eq_self, Nat.reduceLeDiff, Nat.reduceBEq])
        rw [hst]
        simp only
        have bq := decB a [113, 117, 105, 101, 116]
        have hx0 : ixAddr (slV h.length 0 4 4) 0 1 = some (pV h.length 0 0) := rfl
        have hx1 : ixAddr (slV h.length 0 4 4) 1 1 = some (pV h.length 1 0) := rfl
        have hx2 : ixAddr (slV h.length 0 4 4) 2 1 = some (pV h.length 2 0) := rfl
        have hx3 : ixAddr (slV h.length 0 4 4) 3 1 = some (pV h.length 3 0) := rfl
        have hs : sL [a, b, c, d] = [sV a, sV b, sV c, sV d] := rfl
        have h44 : (((4 : Nat) : Int) != 4) = false := rfl
        rw [hs] at a2
        simp only [List.length_cons, List.length_nil, Nat.zero_add, Nat.reduceAdd] at a2
        simp (dsimp := false) (disch := (first | (refine dS ?_; kernel_rfl) | (refine dM ?_; kernel_rfl) | (refine dO ?_; simp (disch := ((try simp only [ZL]) <;> omega)) only [ZK, ZL]; done) | (refine dK ?_; (repeat first | exact Keep.refl _ _ | exact Keep.app _ _ (Nat.le_refl _) | assumption | refine Keep.ap ?_ | refine Keep.st (by first | omega | (simp only [ZL]; omega)) ?_); done) | ((try simp only [ZL]) <;> omega) | fail)) only [XOB, ↓XXs, ↓XD, ↓YX, ZB, Nat.reduceAdd, Nat.reducePow, ↓reduceIte, eq_self, Int.reduceEq, Nat.reduceEqDiff, Nat.reduceMul, Nat.reduceLeDiff, Int.reduceBEq, Int.reduceLT, Tryd.f9, ↓XH2, XRN, ZC, ZE, ZH, eq_self, Nat.reduceLeDiff, Nat.reduceBEq, slV_new, reduceIte, ↓op_extract, tupAt_mk, lenV_sl, Bool.not_true, Bool.not_false, hne, h8, a1, a2, a3, a4, a5, a6, a7, hx0, hx1, hx2, hx3, h44, bq]
        refine okr_opt (Ru.app3 (os := out) (mkRu a b c d) (by simp (disch := (first | (refine dS ?_; kernel_rfl) | (refine dM ?_; kernel_rfl) | (refine dO ?_; simp (disch := ((try simp only [ZL]) <;> omega)) only [ZK, ZL]; done) | (refine dK ?_; (repeat first | exact Keep.refl _ _ | exact Keep.app _ _ (Nat.le_refl _) | assumption | refine Keep.ap ?_ | refine Keep.st (by first | omega | (simp only [ZL]; omega)) ?_); done) | ((try simp only [ZL]) <;> omega) | fail)) only [↓XH2, XRN, ZC, ZE, ZH, eq_self, Nat.reduceLeDiff, Nat.reduceBEq, eO]) (by simp (disch := (first | (refine dS ?_; kernel_rfl) | (refine dM ?_; kernel_rfl) | (refine dO ?_; simp (disch := ((try simp only [ZL]) <;> omega)) only [ZK, ZL]; done) | (refine dK ?_; (repeat first | exact Keep.refl _ _ | exact Keep.app _ _ (Nat.le_refl _) | assumption | refine Keep.ap ?_ | refine Keep.st (by first | omega | (simp only [ZL]; omega)) ?_); done) | ((try simp only [ZL]) <;> omega) | fail)) only [↓XH2, XRN, ZC, ZE, ZH, eq_self, Nat.reduceLeDiff, Nat.reduceBEq] <;> rfl) rfl rfl (by omega) (by omega) rfl) ?_
        rintro _ ⟨g4, rfl⟩
        simp (dsimp := false) (disch := (first | (refine dS ?_; kernel_rfl) | (refine dM ?_; kernel_rfl) | (refine dO ?_; simp (disch := ((try simp only [ZL]) <;> omega)) only [ZK, ZL]; done) | (refine dK ?_; (repeat first | exact Keep.refl _ _ | exact Keep.app _ _ (Nat.le_refl _) | assumption | refine Keep.ap ?_ | refine Keep.st (by first | omega | (simp only [ZL]; omega)) ?_); done) | ((try simp only [ZL]) <;> omega) | fail)) only [XOB, ↓XXs, ↓XD, ↓YX, ZB, Nat.reduceAdd, Nat.reducePow, ↓reduceIte, eq_self, Int.reduceEq, Nat.reduceEqDiff, Nat.reduceMul, Nat.reduceLeDiff, Int.reduceBEq, Int.reduceLT, Tryd.f9, ↓XH2, XRN, ZC, ZE, ZH, eq_self, Nat.reduceLeDiff, Nat.reduceBEq, slV_new, reduceIte, ↓op_extract, tupAt_mk, lenV_sl, Bool.not_true, Bool.not_false, hne, h8, a1, a2, a3, a4, a5, a6, a7, hx0, hx1, hx2, hx3, h44, bq]
        exact ih (Lib.cut r [10]).2.1 (out ++ [mkRu a b c d]) (by simp; omega) (by omega) (fun x hx => by
          rcases List.mem_append.1 hx with hx | hx
          · exact fo x hx
          · rw [List.mem_singleton] at hx; subst hx; exact mk_fit hb hc (by omega)) iO g4 _ _ (k.trans ((Keep.set h iO _ hiO).trans (Keep.app _ _ (by simp; omega)))) hiO (by simp (disch := (first | (refine dS ?_; kernel_rfl) | (refine dM ?_; kernel_rfl) | (refine dO ?_; simp (disch := ((try simp only [ZL]) <;> omega)) only [ZK, ZL]; done) | (refine dK ?_; (repeat first | exact Keep.refl _ _ | exact Keep.app _ _ (Nat.le_refl _) | assumption | refine Keep.ap ?_ | refine Keep.st (by first | omega | (simp only [ZL]; omega)) ?_); done) | ((try simp only [ZL]) <;> omega) | fail)) only [↓XH2, XRN, ZC, ZE, ZH, eq_self, Nat.reduceLeDiff, Nat.reduceBEq]) (by simp)
      · have h44 : ((w.length : Int) != 4) = true := by rw [bne_iff_ne]; omega
        have hm : parR (f + 1) r out = none := by
          rw [hst]
          split
          · simp at h4
          · rfl
        rw [hm]
        simp (dsimp := false) (disch := (first | (refine dS ?_; kernel_rfl) | (refine dM ?_; kernel_rfl) | (refine dO ?_; simp (disch := ((try simp only [ZL]) <;> omega)) only [ZK, ZL]; done) | (refine dK ?_; (repeat first | exact Keep.refl _ _ | exact Keep.app _ _ (Nat.le_refl _) | assumption | refine Keep.ap ?_ | refine Keep.st (by first | omega | (simp only [ZL]; omega)) ?_); done) | ((try simp only [ZL]) <;> omega) | fail)) only [XOB, ↓XXs, ↓XD, ↓YX, ZB, Nat.reduceAdd, Nat.reducePow, ↓reduceIte, eq_self, Int.reduceEq, Nat.reduceEqDiff, Nat.reduceMul, Nat.reduceLeDiff, Int.reduceBEq, Int.reduceLT, Tryd.f9, ↓XH2, XRN, ZC, ZE, ZH, eq_self, Nat.reduceLeDiff, Nat.reduceBEq, slV_new, reduceIte, ↓op_extract, tupAt_mk, lenV_sl, Bool.not_true, Bool.not_false, hne, h8, a1, a2, h44]
        with_reducible refine Okr.ret ?_
        exact ⟨k.trans (Keep.app _ _ (by omega)), .inr ⟨rfl, rfl⟩⟩
theorem r9 (s : Bs) (hs : s.length ≤ 2 ^ 20) (l : Nat) (h : AH) (hl : l ≤ h.length) : Okr (RgQ h s (parR 9 s [])) (run V0 (.fn 9) l [S (sV s)] h) := by
  refine okr_fn Tryd.func9 rfl rfl rfl rfl ?_
  simp (dsimp := false) (disch := (first | (refine dS ?_; kernel_rfl) | (refine dM ?_; kernel_rfl) | (refine dO ?_; simp (disch := ((try simp only [ZL]) <;> omega)) only [ZK, ZL]; done) | (refine dK ?_; (repeat first | exact Keep.refl _ _ | exact Keep.app _ _ (Nat.le_refl _) | assumption | refine Keep.ap ?_ | refine Keep.st (by first | omega | (simp only [ZL]; omega)) ?_); done) | ((try simp only [ZL]) <;> omega) | fail)) only [XOB, ↓XXs, ↓XD, ↓YX, ZB, Nat.reduceAdd, Nat.reducePow, ↓reduceIte, eq_self, Int.reduceEq, Nat.reduceEqDiff, Nat.reduceMul, Nat.reduceLeDiff, Int.reduceBEq, Int.reduceLT, Tryd.f9, ↓XH2, XRN, ZC, ZE, ZH, eq_self, Nat.reduceLeDiff, Nat.reduceBEq, slV_new, reduceIte, ↓op_extract, tupAt_mk, lenV_sl, Bool.not_true, Bool.not_false]
  exact L9 l s h hl 9 s [] rfl hs (by simp) h.length 0 0 _ (Keep.app _ _ (Nat.le_refl _)) (Nat.le_refl _) (by simp (disch := (first | (refine dS ?_; kernel_rfl) | (refine dM ?_; kernel_rfl) | (refine dO ?_; simp (disch := ((try simp only [ZL]) <;> omega)) only [ZK, ZL]; done) | (refine dK ?_; (repeat first | exact Keep.refl _ _ | exact Keep.app _ _ (Nat.le_refl _) | assumption | refine Keep.ap ?_ | refine Keep.st (by first | omega | (simp only [ZL]; omega)) ?_); done) | ((try simp only [ZL]) <;> omega) | fail)) only [↓XH2, XRN, ZC, ZE, ZH, eq_self, Nat.reduceLeDiff, Nat.reduceBEq]; rfl) rfl
end Go.Abs
namespace Go.Abs
open Go.Proofs
set_option maxRecDepth 100000
set_option linter.unusedSimpArgs false
set_option linter.unusedVariables false
set_option pp.maxSteps 20000
set_option pp.deepTerms true
def TrueQ (v : Value) (h' : AH) : Prop := v = .bool true
theorem eqA_RuX (x y : Ru) : eqA V0.P 50 41 (.agg (Ru.C x).toArray) (.agg (Ru.C y).toArray) = some ((x.quiet == y.quiet) && (decide (B x.room = B y.room) && (decide (B x.user = B y.user) && ((x.kind == y.kind) && true)))) := by kernel_rfl
theorem eqOk_RuX (x : Ru) : eqOk V0.P 41 (.agg (Ru.C x).toArray) = true := by kernel_rfl
theorem eqA_RuS (x : Ru) : eqA V0.P 50 41 (.agg (Ru.C x).toArray) (.agg (Ru.C x).toArray) = some true := by rw [eqA_RuX]; simp
theorem binK_neqA {P : Program} {t : TypeId} {a b : Array Value} {act : Option Bool} {K : Value → R} : binK P .neq t (.agg a) (.agg b) act K = chk (eqOk P t (.agg a)) (oE act (eqA P 50 t (.agg a) (.agg b)) false fun q => K (.bool (!q))) := rfl
theorem L10 {l ia ga ib gb n : Nat} {xs : List Ru} {h : AH} (hn : xs.length = n) (hn2 : n ≤ 2 ^ 30) (ea : h[ia]? = some (.row ga 4 (Ru.R xs))) (eb : h[ib]? = some (.row gb 4 (Ru.R xs))) :
    ∀ (r d : List Ru) (i : Int), d ++ r = xs → i = d.length → Okr (fun v h' => v = .bool true ∧ h' = h) (L10_0 l (slV ia ga n n) (slV ib gb n n) (iV i) h) := by
  intro r
  induction r with
  | nil =>
    rintro d i hd rfl
    rw [List.append_nil] at hd
    subst hd hn
    have hlt : decide ((d.length : Int) < (d.length : Int)) = false := decide_eq_false (by omega)
    refine okr_code Tryd.func10 rfl rfl ?_
    simp (dsimp := false) (disch := (first | (refine dS ?_; kernel_rfl) | (refine dM ?_; kernel_rfl) | (refine dO ?_; simp (disch := ((try simp only [ZL]) <;> omega)) only [ZK, ZL]; done) | (refine dK ?_; (repeat first | exact Keep.refl _ _ | exact Keep.app _ _ (Nat.le_refl _) | assumption | refine Keep.ap ?_ | refine Keep.st (by first | omega | (simp only [ZL]; omega)) ?_); done) | ((try simp only [ZL]) <;> omega) | fail)) only [XOB, ↓XXs, ↓XD, ↓YX, ZB, Nat.reduceAdd, Nat.reducePow, ↓reduceIte, eq_self, Int.reduceEq, Nat.reduceEqDiff, Nat.reduceMul, Nat.reduceLeDiff, Int.reduceBEq, Int.reduceLT, Tryd.f10, ↓XH2, XRN, ZC, ZE, ZH, eq_self, Nat.reduceLeDiff, Nat.reduceBEq, slV_new, reduceIte, ↓op_extract, tupAt_mk, lenV_sl, Bool.not_true, Bool.not_false, hlt]
    with_reducible refine Okr.ret ?_
    exact ⟨rfl, rfl⟩
  | cons x r ih =>
    rintro d i hd rfl
    have hll : d.length + r.length + 1 = n := by rw [← hn, ← hd]; simp; omega
    have hlt : decide ((d.length : Int) < (n : Int)) = true := decide_eq_true (by omega)
    have hw : IntKind.i64.wrap ((d.length : Int) + 1) = ((d.length + 1 : Nat) : Int) := natCast_succ_wrap (by omega) rfl
    have hix : ixAddr (slV ia ga n n) (d.length : Int) 4 = some (pV ia (d.length * 4) ga) := by rw [ixAddr_sl (by omega)]; simp
    have hix2 : ixAddr (slV ib gb n n) (d.length : Int) 4 = some (pV ib (d.length * 4) gb) := by rw [ixAddr_sl (by omega)]; simp
    have c1 : ((Ru.R xs).drop (d.length * 4)).take 4 = Ru.C x := by rw [← hd]; exact Ru.get d x r
    have l1 : d.length * 4 + 4 ≤ (Ru.R xs).length := by rw [Ru.R_len]; omega
    refine okr_code Tryd.func10 rfl rfl ?_
    simp (dsimp := false) (disch := (first | (refine dS ?_; kernel_rfl) | (refine dM ?_; kernel_rfl) | (refine dO ?_; simp (disch := ((try simp only [ZL]) <;> omega)) only [ZK, ZL]; done) | (refine dK ?_; (repeat first | exact Keep.refl _ _ | exact Keep.app _ _ (Nat.le_refl _) | assumption | refine Keep.ap ?_ | refine Keep.st (by first | omega | (simp only [ZL]; omega)) ?_); done) | ((try simp only [ZL]) <;> omega) | fail)) only [XOB, ↓XXs, ↓XD, ↓YX, ZB, Nat.reduceAdd, Nat.reducePow, ↓reduceIte, eq_self, Int.reduceEq, Nat.reduceEqDiff, Nat.reduceMul, Nat.reduceLeDiff, Int.reduceBEq, Int.reduceLT, Tryd.f10, ↓XH2, XRN, ZC, ZE, ZH, eq_self, Nat.reduceLeDiff, Nat.reduceBEq, slV_new, reduceIte, ↓op_extract, tupAt_mk, lenV_sl, Bool.not_true, Bool.not_false, hlt, hw, hix, hix2, ea, eb, c1, l1, binK_neqA, eqA_RuS, eqOk_RuX]
    exact ih (d ++ [x]) ((d.length + 1 : Nat) : Int) (by simp [hd]) (by simp)
theorem hb_rules {l ia ga ib gb n m : Nat} {xs ys : List Ru} {h : AH} (e : xs = ys) (hn : xs.length = n) (hm : ys.length = m) (hn2 : n ≤ 2 ^ 30) (ea : h[ia]? = some (.row ga 4 (Ru.R xs))) (eb : h[ib]? = some (.row gb 4 (Ru.R ys))) :
    run V0 (.fn 10) l [S (slV ia ga n n), S (slV ib gb m m)] h = some (.ret (.bool true) h) := by
  subst e
  obtain rfl : n = m := by omega
  have key : Okr (fun v h' => v = .bool true ∧ h' = h) (run V0 (.fn 10) l [S (slV ia ga n n), S (slV ib gb n n)] h) := by
    have hne : ((n : Int) != (n : Int)) = false := by simp
    refine okr_fn Tryd.func10 rfl rfl rfl rfl ?_
    simp (dsimp := false) (disch := (first | (refine dS ?_; kernel_rfl) | (refine dM ?_; kernel_rfl) | (refine dO ?_; simp (disch := ((try simp only [ZL]) <;> omega)) only [ZK, ZL]; done) | (refine dK ?_; (repeat first | exact Keep.refl _ _ | exact Keep.app _ _ (Nat.le_refl _) | assumption | refine Keep.ap ?_ | refine Keep.st (by first | omega | (simp only [ZL]; omega)) ?_); done) | ((try simp only [ZL]) <;> omega) | fail)) only [XOB, ↓XXs, ↓XD, ↓YX, ZB, Nat.reduceAdd, Nat.reducePow, ↓reduceIte, eq_self, Int.reduceEq, Nat.reduceEqDiff, Nat.reduceMul, Nat.reduceLeDiff, Int.reduceBEq, Int.reduceLT, Tryd.f10, ↓XH2, XRN, ZC, ZE, ZH, eq_self, Nat.reduceLeDiff, Nat.reduceBEq, slV_new, reduceIte, ↓op_extract, tupAt_mk, lenV_sl, Bool.not_true, Bool.not_false, hne]
    exact L10 hn hn2 ea eb xs [] 0 rfl rfl
  obtain ⟨v, h', e, rfl, rfl⟩ := key
  exact e
theorem text_tiny {x : Ru} (h : x.F) : (ruText x).length ≤ 160 := by
  have h1 := oA_len x.room
  have h2 := oA_len x.user
  have h3 := oA_len (kindW x.kind)
  have h4 := kindW_len x.kind
  have h5 := ruHead_len x
  have h6 := h.1
  have h7 := h.2
  unfold ruText
  simp only [List.length_append, List.length_singleton]
  omega
theorem rules_tiny : ∀ (L : List Ru), (∀ x ∈ L, x.F) → (rulesT L).length ≤ 160 * L.length
  | [], _ => Nat.zero_le _
  | x :: L, h => by
    have ih := rules_tiny L (fun y hy => h y (by simp [hy]))
    have := text_tiny (h x (by simp))
    have hp : rulesT (x :: L) = ruText x ++ rulesT L := by simp [rulesT]
    rw [hp]
    simp only [List.length_append, List.length_cons]
    omega
structure DrawP (H : AH) (v : Value) (h' : AH) : Prop where
  ex : ∃ i1 g1 rs, v = slV i1 g1 rs.length rs.length ∧ h'[i1]? = some (.row g1 4 (Ru.R rs)) ∧ H.length ≤ i1 ∧ (∀ x ∈ rs, x.F) ∧ rs.length ≤ 9
  k : Keep H.length H h'
theorem r6 (va : Value) (n l : Nat) (h : AH) (r : Cd h va n) (hl : l ≤ h.length) (hn : n ≤ 2 ^ 62) :
    Okr (DrawP h) (run V0 (.fn 6) l [S va] h) := by
  refine okr_fn Tryd.func6 rfl rfl rfl rfl ?_
  obtain ⟨vb, m, h1, a1, r1, hm, k1⟩ := r17 va n l h r hn
  have hid1 := lt_of_get r1.1
  simp (dsimp := false) (disch := (first | (refine dS ?_; kernel_rfl) | (refine dM ?_; kernel_rfl) | (refine dO ?_; simp (disch := ((try simp only [ZL]) <;> omega)) only [ZK, ZL]; done) | (refine dK ?_; (repeat first | exact Keep.refl _ _ | exact Keep.app _ _ (Nat.le_refl _) | assumption | refine Keep.ap ?_ | refine Keep.st (by first | omega | (simp only [ZL]; omega)) ?_); done) | ((try simp only [ZL]) <;> omega) | fail)) only [XOB, ↓XXs, ↓XD, ↓YX, ZB, Nat.reduceAdd, Nat.reducePow, ↓reduceIte, eq_self, Int.reduceEq, Nat.reduceEqDiff, Nat.reduceMul, Nat.reduceLeDiff, Int.reduceBEq, Int.reduceLT, Tryd.f6, ↓XH2, XRN, ZC, ZE, ZH, eq_self, Nat.reduceLeDiff, Nat.reduceBEq, slV_new, reduceIte, ↓op_extract, tupAt_mk, lenV_sl, Bool.not_true, Bool.not_false, a1]
  refine okr_call (r16 r1 hl (by omega) (by omega)) ?_
  rintro _ h2 ⟨⟨i1, g1, rs, rfl, q, hrs⟩⟩
  have hi1 := q.hi
  try simp (dsimp := false) (disch := (first | (refine dS ?_; kernel_rfl) | (refine dM ?_; kernel_rfl) | (refine dO ?_; simp (disch := ((try simp only [ZL]) <;> omega)) only [ZK, ZL]; done) | (refine dK ?_; (repeat first | exact Keep.refl _ _ | exact Keep.app _ _ (Nat.le_refl _) | assumption | refine Keep.ap ?_ | refine Keep.st (by first | omega | (simp only [ZL]; omega)) ?_); done) | ((try simp only [ZL]) <;> omega) | fail)) only [XOB, ↓XXs, ↓XD, ↓YX, ZB, Nat.reduceAdd, Nat.reducePow, ↓reduceIte, eq_self, Int.reduceEq, Nat.reduceEqDiff, Nat.reduceMul, Nat.reduceLeDiff, Int.reduceBEq, Int.reduceLT, Tryd.f6, ↓XH2, XRN, ZC, ZE, ZH, eq_self, Nat.reduceLeDiff, Nat.reduceBEq, slV_new, reduceIte, ↓op_extract, tupAt_mk, lenV_sl, Bool.not_true, Bool.not_false, a1]
  with_reducible refine Okr.ret ?_
  exact ⟨⟨i1, g1, rs, rfl, q.e, by omega, q.f, hrs⟩, k1.trans (Keep.ofKX q.k (by omega) (Nat.le_refl _))⟩
theorem F_fit {x : Ru} (f : x.F) : x.Fit20 := ⟨by have := f.1; omega, by have := f.2; omega⟩
theorem rput_ne {xs : List Ru} (h : rputL xs ≠ []) : rokL xs = true := by
  unfold rputL at h
  cases hq : rokL xs with
  | true => rfl
  | false => rw [hq] at h; exact absurd rfl h
theorem r3 (va : Value) (n l : Nat) (h : AH) (r : Cd h va n) (hl : l ≤ h.length) :
    Okr TrueQ (run V0 (.fn 3) l [S va] h) := by
  have lv := r.len
  refine okr_fn Tryd.func3 rfl rfl rfl rfl ?_
  simp (dsimp := false) (disch := (first | (refine dS ?_; kernel_rfl) | (refine dM ?_; kernel_rfl) | (refine dO ?_; simp (disch := ((try simp only [ZL]) <;> omega)) only [ZK, ZL]; done) | (refine dK ?_; (repeat first | exact Keep.refl _ _ | exact Keep.app _ _ (Nat.le_refl _) | assumption | refine Keep.ap ?_ | refine Keep.st (by first | omega | (simp only [ZL]; omega)) ?_); done) | ((try simp only [ZL]) <;> omega) | fail)) only [XOB, ↓XXs, ↓XD, ↓YX, ZB, Nat.reduceAdd, Nat.reducePow, ↓reduceIte, eq_self, Int.reduceEq, Nat.reduceEqDiff, Nat.reduceMul, Nat.reduceLeDiff, Int.reduceBEq, Int.reduceLT, Tryd.f3, ↓XH2, XRN, ZC, ZE, ZH, eq_self, Nat.reduceLeDiff, Nat.reduceBEq, slV_new, reduceIte, ↓op_extract, tupAt_mk, lenV_sl, Bool.not_true, Bool.not_false, lv]
  refine okr_if (fun t => ?_) (fun t => ?_)
  · try simp (dsimp := false) (disch := (first | (refine dS ?_; kernel_rfl) | (refine dM ?_; kernel_rfl) | (refine dO ?_; simp (disch := ((try simp only [ZL]) <;> omega)) only [ZK, ZL]; done) | (refine dK ?_; (repeat first | exact Keep.refl _ _ | exact Keep.app _ _ (Nat.le_refl _) | assumption | refine Keep.ap ?_ | refine Keep.st (by first | omega | (simp only [ZL]; omega)) ?_); done) | ((try simp only [ZL]) <;> omega) | fail)) only [XOB, ↓XXs, ↓XD, ↓YX, ZB, Nat.reduceAdd, Nat.reducePow, ↓reduceIte, eq_self, Int.reduceEq, Nat.reduceEqDiff, Nat.reduceMul, Nat.reduceLeDiff, Int.reduceBEq, Int.reduceLT, Tryd.f3, ↓XH2, XRN, ZC, ZE, ZH, eq_self, Nat.reduceLeDiff, Nat.reduceBEq, slV_new, reduceIte, ↓op_extract, tupAt_mk, lenV_sl, Bool.not_true, Bool.not_false, lv]
    with_reducible refine Okr.ret ?_
    rfl
  have hn : n ≤ 2 ^ 20 := by have := of_decide_eq_false t; omega
  try simp (dsimp := false) (disch := (first | (refine dS ?_; kernel_rfl) | (refine dM ?_; kernel_rfl) | (refine dO ?_; simp (disch := ((try simp only [ZL]) <;> omega)) only [ZK, ZL]; done) | (refine dK ?_; (repeat first | exact Keep.refl _ _ | exact Keep.app _ _ (Nat.le_refl _) | assumption | refine Keep.ap ?_ | refine Keep.st (by first | omega | (simp only [ZL]; omega)) ?_); done) | ((try simp only [ZL]) <;> omega) | fail)) only [XOB, ↓XXs, ↓XD, ↓YX, ZB, Nat.reduceAdd, Nat.reducePow, ↓reduceIte, eq_self, Int.reduceEq, Nat.reduceEqDiff, Nat.reduceMul, Nat.reduceLeDiff, Int.reduceBEq, Int.reduceLT, Tryd.f3, ↓XH2, XRN, ZC, ZE, ZH, eq_self, Nat.reduceLeDiff, Nat.reduceBEq, slV_new, reduceIte, ↓op_extract, tupAt_mk, lenV_sl, Bool.not_true, Bool.not_false, lv]
  refine okr_call (r6 va n l h r hl (by omega)) ?_
  rintro _ h2 ⟨⟨i2, g2, L, rfl, e2, hi2, fL, h9⟩, k2⟩
  have hk2 := k2.1
  have htn := rules_tiny L fL
  have fx : ∀ x ∈ L, x.Fit20 := fun x hx => F_fit (fL x hx)
  obtain ⟨h3, a3, k3⟩ := r7 i2 g2 L.length l L h2 (by omega) (by omega) fx e2
  have hk3 := k3.1
  have e23 := k3.get e2 (lt_of_get e2)
  obtain ⟨h4, a4, k4⟩ := r8 i2 g2 L.length l L h3 (by omega) fx e23
  have hk4 := k4.1
  have e24 := k4.get e23 (lt_of_get e23)
  obtain ⟨h5, a5, k5⟩ := r8 i2 g2 L.length l L h4 (by omega) fx e24
  have b1 := decB (rputL L) []
  by_cases hz : rputL L = []
  · rw [decide_eq_true hz] at b1
    try simp (dsimp := false) (disch := (first | (refine dS ?_; kernel_rfl) | (refine dM ?_; kernel_rfl) | (refine dO ?_; simp (disch := ((try simp only [ZL]) <;> omega)) only [ZK, ZL]; done) | (refine dK ?_; (repeat first | exact Keep.refl _ _ | exact Keep.app _ _ (Nat.le_refl _) | assumption | refine Keep.ap ?_ | refine Keep.st (by first | omega | (simp only [ZL]; omega)) ?_); done) | ((try simp only [ZL]) <;> omega) | fail)) only [XOB, ↓XXs, ↓XD, ↓YX, ZB, Nat.reduceAdd, Nat.reducePow, ↓reduceIte, eq_self, Int.reduceEq, Nat.reduceEqDiff, Nat.reduceMul, Nat.reduceLeDiff, Int.reduceBEq, Int.reduceLT, Tryd.f3, ↓XH2, XRN, ZC, ZE, ZH, eq_self, Nat.reduceLeDiff, Nat.reduceBEq, slV_new, reduceIte, ↓op_extract, tupAt_mk, lenV_sl, Bool.not_true, Bool.not_false, lv, a3, a4, a5, b1]
    with_reducible refine Okr.ret ?_
    rfl
  · rw [decide_eq_false hz] at b1
    have hok := rput_ne hz
    have hp : rputL L = rulesT L := by unfold rputL; rw [if_pos hok]
    have hbk := rules_back hok
    try simp (dsimp := false) (disch := (first | (refine dS ?_; kernel_rfl) | (refine dM ?_; kernel_rfl) | (refine dO ?_; simp (disch := ((try simp only [ZL]) <;> omega)) only [ZK, ZL]; done) | (refine dK ?_; (repeat first | exact Keep.refl _ _ | exact Keep.app _ _ (Nat.le_refl _) | assumption | refine Keep.ap ?_ | refine Keep.st (by first | omega | (simp only [ZL]; omega)) ?_); done) | ((try simp only [ZL]) <;> omega) | fail)) only [XOB, ↓XXs, ↓XD, ↓YX, ZB, Nat.reduceAdd, Nat.reducePow, ↓reduceIte, eq_self, Int.reduceEq, Nat.reduceEqDiff, Nat.reduceMul, Nat.reduceLeDiff, Int.reduceBEq, Int.reduceLT, Tryd.f3, ↓XH2, XRN, ZC, ZE, ZH, eq_self, Nat.reduceLeDiff, Nat.reduceBEq, slV_new, reduceIte, ↓op_extract, tupAt_mk, lenV_sl, Bool.not_true, Bool.not_false, lv, a3, a4, b1]
    refine okr_call (r9 (rputL L) (by rw [hp]; omega) l h4 (by omega)) ?_
    rintro v6 h6 ⟨k6, q6⟩
    have e26 := k6.get e24 (lt_of_get e24)
    rw [hp, hbk] at q6
    have hg : goodRO (rulesT L) (some L) = true := by
      show goodR _ L = true
      unfold goodR
      rw [hok, decide_eq_true rfl]; rfl
    rcases q6 with ⟨_, L', i6, g6, hL, rfl, e6, hi6⟩ | ⟨q, _⟩
    · injection hL with hL
      subst hL
      have a7 := hb_rules (l := l) rfl rfl rfl (by omega) e6 e26
      try simp (dsimp := false) (disch := (first | (refine dS ?_; kernel_rfl) | (refine dM ?_; kernel_rfl) | (refine dO ?_; simp (disch := ((try simp only [ZL]) <;> omega)) only [ZK, ZL]; done) | (refine dK ?_; (repeat first | exact Keep.refl _ _ | exact Keep.app _ _ (Nat.le_refl _) | assumption | refine Keep.ap ?_ | refine Keep.st (by first | omega | (simp only [ZL]; omega)) ?_); done) | ((try simp only [ZL]) <;> omega) | fail)) only [XOB, ↓XXs, ↓XD, ↓YX, ZB, Nat.reduceAdd, Nat.reducePow, ↓reduceIte, eq_self, Int.reduceEq, Nat.reduceEqDiff, Nat.reduceMul, Nat.reduceLeDiff, Int.reduceBEq, Int.reduceLT, Tryd.f3, ↓XH2, XRN, ZC, ZE, ZH, eq_self, Nat.reduceLeDiff, Nat.reduceBEq, slV_new, reduceIte, ↓op_extract, tupAt_mk, lenV_sl, Bool.not_true, Bool.not_false, lv, a7]
      with_reducible refine Okr.ret ?_
      rfl
    · rw [hg] at q; exact absurd q (by simp)
theorem rz3 (va : Value) (n l : Nat) (h : AH) (r : Cd h va n) (hl : l ≤ h.length) : ∃ h', run V0 (.fn 3) l [S va] h = some (.ret (.bool true) h') := by
  obtain ⟨v, h', e, rfl⟩ := r3 va n l h r hl
  exact ⟨h', e⟩
end Go.Abs
