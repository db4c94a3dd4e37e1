/- How rules are read, in the program and in the reference, and that the law FnExactRulesGet answers true. For every text; no condition. -/
import Derived.Test.YtbolgneigidmdaaDoorDrawA
import Derived.Lib.IndexMore
import Derived.Lib.SplitLaws
namespace Go.Abs
open Go.Proofs
set_option linter.unusedSimpArgs false
/-! ### rules are read: plain -/
def splitL (s : Bs) : List Bs := Lib.splitK [32] 0 (Lib.count s [32]) s
def notA (s : Bs) : Bs := if s = [42] then [] else s
def ixN (w : Bs) : List Bs → Nat → Int
  | [], _ => -1
  | x :: r, k => if w = x then (k : Int) else ixN w r (k + 1)
def mkRu (a b c d : Bs) : Ru := ⟨decide (a = [113, 117, 105, 101, 116]), notA b, notA c, ixN (notA d) kindsL 0⟩
def parR : Nat → Bs → List Ru → Option (List Ru)
  | 0, _, out => some out
  | f + 1, r, out => if r = [] then some out else match splitL (Lib.cut r [10]).1 with
    | [a, b, c, d] => parR f (Lib.cut r [10]).2.1 (out ++ [mkRu a b c d])
    | _ => none
theorem ix_one (c : UInt8) (r : Bs) : ∀ a : Bs, (∀ x ∈ a, x ≠ c) → Lib.index (a ++ c :: r) [c] = (a.length : Int)
  | [], _ => by simp [Lib.index, List.isPrefixOf]
  | x :: a, h => by
    have ih := ix_one c r a (fun y hy => h y (by simp [hy]))
    have hx : (c == x) = false := by rw [beq_eq_false_iff_ne]; exact fun q => h x (by simp) q.symm
    have hp : ([c] : Bs).isPrefixOf (x :: (a ++ c :: r)) = false := by simp [List.isPrefixOf, hx]
    rw [List.cons_append]
    unfold Lib.index
    rw [hp, ih]
    have : ((a.length : Int) == -1) = false := by rw [beq_eq_false_iff_ne]; omega
    rw [this]
    simp
theorem ix_no (c : UInt8) : ∀ a : Bs, (∀ x ∈ a, x ≠ c) → Lib.index a [c] = -1
  | [], _ => rfl
  | x :: a, h => by
    have ih := ix_no c a (fun y hy => h y (by simp [hy]))
    have hx : (c == x) = false := by rw [beq_eq_false_iff_ne]; exact fun q => h x (by simp) q.symm
    have hp : ([c] : Bs).isPrefixOf (x :: a) = false := by simp [List.isPrefixOf, hx]
    unfold Lib.index
    rw [hp, ih]
    rfl
theorem cut_oneR (c : UInt8) (r a : Bs) (h : ∀ x ∈ a, x ≠ c) : Lib.cut (a ++ c :: r) [c] = (a, r, true) := by
  unfold Lib.cut
  rw [ix_one c r a h, if_pos (by omega)]
  have h1 : ((a.length : Int)).toNat = a.length := by omega
  have h2 : (a ++ c :: r).drop (a.length + 1) = r := by rw [← List.drop_drop, List.drop_left' rfl]; rfl
  rw [h1, List.take_left' rfl]
  exact congrArg (fun z => (a, z, true)) h2
theorem split_one (a : Bs) (h : ∀ x ∈ a, x ≠ 32) : splitL a = [a] := by
  unfold splitL
  rw [Lib.count_miss (ix_no 32 a h)]
  rfl
theorem split_cons (a r : Bs) (h : ∀ x ∈ a, x ≠ 32) : splitL (a ++ 32 :: r) = a :: splitL r := by
  have hi := ix_one 32 r a h
  have hd : (a ++ 32 :: r).drop (a.length + 1) = r := by rw [← List.drop_drop, List.drop_left' rfl]; rfl
  have hc : Lib.count (a ++ 32 :: r) [32] = Lib.count r [32] + 1 := by
    rw [Lib.count_hit (by simp) hi]
    show 1 + Lib.count ((a ++ 32 :: r).drop (a.length + 1)) [32] = _
    rw [hd]; omega
  unfold splitL
  rw [hc, Lib.splitK]
  have h1 : (Lib.index (a ++ 32 :: r) [32] == -1) = false := by rw [hi, beq_eq_false_iff_ne]; omega
  rw [h1, hi]
  have h2 : ((a.length : Int)).toNat = a.length := by omega
  rw [h2]
  simp only [Bool.false_eq_true, if_false, Nat.add_zero, List.length_singleton]
  rw [List.take_left' rfl, hd]
theorem usr_no {b : UInt8} (h : usrI b.toNat = true) : b ≠ 32 ∧ b ≠ 10 ∧ b ≠ 42 := by
  refine ⟨?_, ?_, ?_⟩ <;> rintro rfl <;> exact absurd h (by decide)
theorem orEm_all {s : Bs} (h : orEm s = true) : (∀ b ∈ s, b ≠ 32 ∧ b ≠ 10) ∧ s ≠ [42] := by
  unfold orEm at h
  rw [Bool.or_eq_true] at h
  rcases h with q | q
  · rw [of_decide_eq_true q]; exact ⟨by simp, by simp⟩
  · unfold userOkL at q
    simp only [Bool.and_eq_true, List.all_eq_true] at q
    refine ⟨fun b hb => ⟨(usr_no (q.1 b hb)).1, (usr_no (q.1 b hb)).2.1⟩, ?_⟩
    rintro rfl
    exact (usr_no (q.1 42 (by simp))).2.2 rfl
theorem oA_all {s : Bs} (h : ∀ b ∈ s, b ≠ 32 ∧ b ≠ 10) : ∀ b ∈ oA s, b ≠ 32 ∧ b ≠ 10 := by
  unfold oA
  split
  · intro b hb; simp at hb; subst hb; decide
  · exact h
theorem not_oA {s : Bs} (h : s ≠ [42]) : notA (oA s) = s := by
  unfold notA oA
  by_cases q : s = []
  · rw [if_pos q, if_pos rfl, q]
  · rw [if_neg q, if_neg h]
theorem head_all (x : Ru) : ∀ b ∈ ruHead x, b ≠ 32 ∧ b ≠ 10 := by
  unfold ruHead
  split <;> intro b hb <;> simp at hb <;> rcases hb with rfl | rfl | rfl | rfl | rfl <;> decide
theorem kind_all {x : Ru} (h : KOk x) : (∀ b ∈ kindW x.kind, b ≠ 32 ∧ b ≠ 10) ∧ ixN (notA (oA (kindW x.kind))) kindsL 0 = x.kind := by
  obtain ⟨h1, h2⟩ := h
  have : x.kind = 0 ∨ x.kind = 1 ∨ x.kind = 2 ∨ x.kind = 3 ∨ x.kind = 4 ∨ x.kind = 5 ∨ x.kind = 6 := by omega
  rcases this with q | q | q | q | q | q | q <;> rw [q] <;> exact ⟨by decide, by decide⟩
theorem mk_text {x : Ru} (h : ruOk x = true) : mkRu (ruHead x) (oA x.room) (oA x.user) (oA (kindW x.kind)) = x := by
  have hk := kind_all (KOk_of h)
  unfold ruOk at h
  simp only [Bool.and_eq_true] at h
  have h1 := (orEm_all h.1.1).2
  have h2 := (orEm_all h.1.2).2
  unfold mkRu
  rw [not_oA h1, not_oA h2, hk.2]
  obtain ⟨q, r, u, k⟩ := x
  have : decide (ruHead ⟨q, r, u, k⟩ = [113, 117, 105, 101, 116]) = q := by cases q <;> rfl
  rw [this]
theorem line_text {x : Ru} (h : ruOk x = true) (rest : Bs) : Lib.cut (ruText x ++ rest) [10] = (ruHead x ++ 32 :: (oA x.room ++ 32 :: (oA x.user ++ 32 :: oA (kindW x.kind))), rest, true) ∧ splitL (ruHead x ++ 32 :: (oA x.room ++ 32 :: (oA x.user ++ 32 :: oA (kindW x.kind)))) = [ruHead x, oA x.room, oA x.user, oA (kindW x.kind)] := by
  have hk := kind_all (KOk_of h)
  unfold ruOk at h
  simp only [Bool.and_eq_true] at h
  have a0 := head_all x
  have a1 := oA_all (orEm_all h.1.1).1
  have a2 := oA_all (orEm_all h.1.2).1
  have a3 := oA_all hk.1
  constructor
  · have e : ruText x ++ rest = (ruHead x ++ 32 :: (oA x.room ++ 32 :: (oA x.user ++ 32 :: oA (kindW x.kind)))) ++ 10 :: rest := by unfold ruText; simp
    rw [e]
    refine cut_oneR 10 rest _ fun b hb => ?_
    simp only [List.mem_append, List.mem_cons] at hb
    rcases hb with hb | rfl | hb | rfl | hb | rfl | hb
    · exact (a0 b hb).2
    · decide
    · exact (a1 b hb).2
    · decide
    · exact (a2 b hb).2
    · decide
    · exact (a3 b hb).2
  · rw [split_cons _ _ (fun b hb => (a0 b hb).1), split_cons _ _ (fun b hb => (a1 b hb).1), split_cons _ _ (fun b hb => (a2 b hb).1), split_one _ (fun b hb => (a3 b hb).1)]
theorem par_rules : ∀ (L : List Ru) (f : Nat) (out : List Ru), (∀ x ∈ L, ruOk x = true) → L.length ≤ f → parR f (rulesT L) out = some (out ++ L)
  | [], f, out, _, _ => by
    have : rulesT [] = [] := rfl
    rw [this, List.append_nil]
    cases f with
    | zero => rfl
    | succ f => rw [parR, if_pos rfl]
  | x :: L, f, out, ok, hf => by
    cases f with
    | zero => simp at hf
    | succ f =>
      have okx := ok x (by simp)
      have hp : rulesT (x :: L) = ruText x ++ rulesT L := by simp [rulesT]
      have hne : ruText x ++ rulesT L ≠ [] := by unfold ruText; simp
      obtain ⟨e1, e2⟩ := line_text okx (rulesT L)
      rw [hp, parR, if_neg hne, e1]
      simp only [e2]
      rw [mk_text okx, par_rules L f _ (fun y hy => ok y (by simp [hy])) (by simpa using hf)]
      simp
def goodR (s : Bs) (L : List Ru) : Bool := rokL L && decide (rulesT L = s)
def goodRO (s : Bs) : Option (List Ru) → Bool
  | none => false
  | some L => goodR s L
theorem rok_all {L : List Ru} (h : rokL L = true) : (∀ x ∈ L, ruOk x = true) ∧ L.length ≤ 8 := by
  unfold rokL at h
  simp only [Bool.and_eq_true, List.all_eq_true, decide_eq_true_eq] at h
  exact ⟨h.1, by omega⟩
theorem rules_back {L : List Ru} (h : rokL L = true) : parR 9 (rulesT L) [] = some L := by
  obtain ⟨h1, h2⟩ := rok_all h
  rw [par_rules L 9 [] h1 (by omega), List.nil_append]
theorem notA_len (s : Bs) : (notA s).length ≤ s.length := by unfold notA; split <;> simp
theorem splitK_len : ∀ (k : Nat) (s : Bs), ∀ x ∈ Lib.splitK [32] 0 k s, x.length ≤ s.length
  | 0, s, x, hx => by simp [Lib.splitK] at hx; subst hx; exact Nat.le_refl _
  | k + 1, s, x, hx => by
    rw [Lib.splitK] at hx
    split at hx
    · simp at hx; subst hx; exact Nat.le_refl _
    · rcases List.mem_cons.1 hx with rfl | hx
      · rw [List.length_take]; omega
      · have := splitK_len k _ x hx
        rw [List.length_drop] at this
        omega
theorem cut_lenR (s p : Bs) : (Lib.cut s p).1.length ≤ s.length ∧ (Lib.cut s p).2.1.length ≤ s.length := by
  unfold Lib.cut
  split
  · exact ⟨by rw [List.length_take]; omega, by rw [List.length_drop]; omega⟩
  · exact ⟨Nat.le_refl _, Nat.zero_le _⟩
end Go.Abs
namespace Go.Abs
open Go.Proofs
set_option maxRecDepth 100000
set_option linter.unusedSimpArgs false
set_option linter.unusedVariables false
set_option pp.maxSteps 20000
set_option pp.deepTerms true
theorem p_cutR (s t : Bs) (l : Nat) (h : AH) (hs : s.length ≤ 2 ^ 30) : run V0 (.fn 24) l [S (sV s), S (sV t)] h = some (.ret (.tuple ⟨[sV (Lib.cut s t).1, sV (Lib.cut s t).2.1, .bool (Lib.cut s t).2.2]⟩) h) := by
  refine run_prim (vs := [sV s, sV t]) (p := pPure fCut) rfl ?_
  have hz : (B s).size < 4294967281 := by rw [size_B]; omega
  simp only [pPure, fCut]
  rw [if_pos hz]
  rfl
theorem p_split (s : Bs) (l : Nat) (h : AH) (hs : s.length ≤ 2 ^ 30) : run V0 (.fn 25) l [S (sV s), S (sV [32])] h = some (.ret (slV h.length 0 (splitL s).length (splitL s).length) (h ++ [.row 0 1 (sL (splitL s))])) := by
  refine run_prim (vs := [sV s, sV [32]]) (p := pSplit) rfl ?_
  have hz : (B s).size < 4294967281 := by rw [size_B]; omega
  have h1 : 1 ≤ (B [32]).size := by rw [size_B]; decide
  simp only [pSplit]
  rw [if_pos ⟨hz, h1⟩]
  have hd := Lib.splitB_data (B [32]) 0 (Lib.countB (B s) (B [32])) (B s)
  have hl := Lib.splitB_all (B [32]) h1 0 _ (B s) rfl
  have hq : (Lib.splitB (B [32]) 0 (Lib.countB (B s) (B [32])) (B s)).map Value.string = sL (splitL s) := by
    have : splitL s = (Lib.splitB (B [32]) 0 (Lib.countB (B s) (B [32])) (B s)).map (·.data.toList) := hd.symm
    rw [this]
    unfold sL
    rw [List.map_map]
    rfl
  have hn : Lib.countB (B s) (B [32]) + 1 = (splitL s).length := by
    have := congrArg List.length hq
    rw [List.length_map, hl, sL_len] at this
    exact this
  rw [hq, hn]
  rfl
theorem decB (a b : Bs) : decide (B a = B b) = decide (a = b) := by rw [decide_eq_decide, B_inj]
theorem r51 (s : Bs) (l : Nat) (h : AH) (hs : s.length ≤ 2 ^ 30) : run V0 (.fn 51) l [S (sV s)] h = some (.ret (sV s) h) := by
  have a1 : run V0 (.fn 64) l [S (sV s)] h = some (.ret (sV s) h) := by
    refine run_prim (vs := [sV s]) (p := pPure fClone) rfl ?_
    have hz : (B s).size ≤ 281474976710656 := by rw [size_B]; omega
    simp only [pPure, fClone]
    rw [if_pos hz]
    rfl
  refine run_fn Tryd.func51 rfl rfl rfl rfl ?_
  simp only [↓XX, ↓XD, ↓YX, ZB, Nat.reduceAdd, Nat.reducePow, ↓reduceIte, eq_self, Int.reduceEq, Nat.reduceEqDiff, Nat.reduceMul, Nat.reduceLeDiff, Tryd.f51, a1]
theorem r26 (s : Bs) (l : Nat) (h : AH) (hs : s.length ≤ 2 ^ 30) : run V0 (.fn 26) l [S (sV s)] h = some (.ret (sV (notA s)) h) := by
  have a1 := r51 s l h hs
  have b1 := decB s [42]
  refine run_fn Tryd.func26 rfl rfl rfl rfl ?_
  unfold notA
  by_cases q : s = [42]
  · rw [decide_eq_true q] at b1
    simp only [↓XX, ↓XD, ↓YX, ZB, Nat.reduceAdd, Nat.reducePow, ↓reduceIte, eq_self, Int.reduceEq, Nat.reduceEqDiff, Nat.reduceMul, Nat.reduceLeDiff, Tryd.f26, b1, if_pos q]
  · rw [decide_eq_false q] at b1
    simp only [↓XX, ↓XD, ↓YX, ZB, Nat.reduceAdd, Nat.reducePow, ↓reduceIte, eq_self, Int.reduceEq, Nat.reduceEqDiff, Nat.reduceMul, Nat.reduceLeDiff, Tryd.f26, b1, a1, if_neg q]
theorem L27 (id g n l : Nat) (w : Bs) (h : AH) (hn : n ≤ 2 ^ 40) : ∀ (r d : List Bs), d.length + r.length = n → h[id]? = some (.row g 1 (sL (d ++ r))) →
    L27_0 l (slV id g n n) (sV w) (iV n) (iV d.length) h = some (.ret (iV (ixN w r d.length)) h) := by
  intro r
  induction r with
  | nil =>
    intro d hk e
    simp only [List.length_nil, Nat.add_zero] at hk
    have hlt : decide ((d.length : Int) < (n : Int)) = false := by rw [decide_eq_false_iff_not]; omega
    refine run_code Tryd.func27 rfl rfl ?_
    simp only [↓XX, ↓XD, ↓YX, ZB, Nat.reduceAdd, Nat.reducePow, ↓reduceIte, eq_self, Int.reduceEq, Nat.reduceEqDiff, Nat.reduceMul, Nat.reduceLeDiff, Tryd.f27, hlt, ixN]
  | cons x r ih =>
    intro d hk e
    simp only [List.length_cons] at hk
    have hlt : decide ((d.length : Int) < (n : Int)) = true := by rw [decide_eq_true_iff]; omega
    have hix : ixAddr (slV id g n n) (d.length : Int) 1 = some (pV id d.length g) := by rw [ixAddr_sl (by omega)]; simp
    have hld : ld h (pV id d.length g) = some (sV x) := ld_of e (by rw [sL_get])
    have hw : IntKind.i64.wrap ((d.length : Int) + 1) = (((d ++ [x]).length : Nat) : Int) := natCast_succ_wrap (by omega) (by simp)
    have b1 := decB w x
    have i1 := ih (d ++ [x]) (by simp; omega) (by rw [e]; simp)
    refine run_code Tryd.func27 rfl rfl ?_
    by_cases q : w = x
    · rw [decide_eq_true q] at b1
      simp only [↓XX, ↓XD, ↓YX, ZB, Nat.reduceAdd, Nat.reducePow, ↓reduceIte, eq_self, Int.reduceEq, Nat.reduceEqDiff, Nat.reduceMul, Nat.reduceLeDiff, Tryd.f27, hlt, hix, hld, b1, hw]
      simp [ixN, q]
    · rw [decide_eq_false q] at b1
      simp only [↓XX, ↓XD, ↓YX, ZB, Nat.reduceAdd, Nat.reducePow, ↓reduceIte, eq_self, Int.reduceEq, Nat.reduceEqDiff, Nat.reduceMul, Nat.reduceLeDiff, Tryd.f27, hlt, hix, hld, b1, hw]
      rw [i1]; simp [ixN, q]
theorem r27 (id l : Nat) (w : Bs) (h : AH) (e : h[id]? = some (.row 0 1 (sL kindsL))) :
    run V0 (.fn 27) l [S (slV id 0 7 7), S (sV w)] h = some (.ret (iV (ixN w kindsL 0)) h) := by
  refine run_fn Tryd.func27 rfl rfl rfl rfl ?_
  simp only [↓XX, ↓XD, ↓YX, ZB, Nat.reduceAdd, Nat.reducePow, ↓reduceIte, eq_self, Int.reduceEq, Nat.reduceEqDiff, Nat.reduceMul, Nat.reduceLeDiff, Tryd.f27, lenV]
  exact L27 id 0 7 l w h (by decide) kindsL [] rfl e
/-- what is read -/
def RgQ (H0 : AH) (s : Bs) (o : Option (List Ru)) (v : Value) (h' : AH) : Prop :=
  Keep H0.length H0 h' ∧ ((goodRO s o = true ∧ ∃ L i g, o = some L ∧ v = .tuple ⟨[slV i g L.length L.length, .bool true]⟩ ∧ h'[i]? = some (.row g 4 (Ru.R L)) ∧ H0.length ≤ i) ∨ (goodRO s o = false ∧ v = .tuple ⟨[.slice none 0 0, .bool false]⟩))
theorem slCut_lenR {h : AH} {id off g n c sz : Nat} {cs : List Value} (e : h[id]? = some (.row g sz cs)) (hn : n ≤ c) (hw : wd sz = sz := by rfl) :
    slCut h (.slice (some ⟨id, off, some g⟩) n c) none (some (n : Int)) (some (n : Int)) sz = some (.slice (some ⟨id, off, some g⟩) n n) := by
  simp only [slCut, rowAt_of e, Option.bind_some, Option.getD_none, Option.getD_some]
  rw [if_pos ⟨by omega, by omega, hw, by omega, hn⟩, if_pos ⟨by omega, by omega⟩]
  simp
theorem r29 (id g n c l : Nat) (h : AH) (cs : List Value) (e : h[id]? = some (.row g 4 cs)) (hn : n ≤ c) : run V0 (.fn 29) l [S (slV id g n c)] h = some (.ret (slV id g n n) h) := by
  refine run_fn Tryd.func29 rfl rfl rfl rfl ?_
  simp only [↓XX, ↓XD, ↓YX, ZB, Nat.reduceAdd, Nat.reducePow, ↓reduceIte, eq_self, Int.reduceEq, Nat.reduceEqDiff, Nat.reduceMul, Nat.reduceLeDiff, Tryd.f29, lenV, slCut_lenR e hn, Option.isNone_some, Option.isNone_none, Option.isSome_some, Bool.or_true, Bool.false_or]
theorem L9e (l : Nat) (s r : Bs) (H0 : AH) (hl : l ≤ H0.length) (out : List Ru) (ho : out.length ≤ 9) (fo : ∀ x ∈ out, x.Fit20) (hr : r = [] ∨ out.length = 9) (iO gO no : Nat) (h : AH) (k : Keep H0.length H0 h) (hiO : H0.length ≤ iO) (eO : h[iO]? = some (.row gO 4 (Ru.R out))) (hno : no = out.length) :
    Okr (RgQ H0 s (some out)) (L9_0 l (sV s) (slV iO gO no no) (sV r) h) := by
  subst hno
  have hk := k.1
  obtain ⟨h1, a1, k1⟩ := r18 iO gO out.length l out h (by omega) (fun x hx => (fo x hx).fit) eO
  have hk1 := k1.1
  have eO1 := k1.get eO (lt_of_get eO)
  rw [show (out.all ruOk && decide ((out.length : Int) ≤ 8)) = rokL out from rfl] at a1
  obtain ⟨h2, a2, k2⟩ := r7 iO gO out.length l out h1 (by omega) (by omega) fo eO1
  have hk2 := k2.1
  have eO2 := k2.get eO1 (lt_of_get eO1)
  have b1 := decB (rputL out) s
  have a3 := r29 iO gO out.length out.length l h2 _ eO2 (Nat.le_refl _)
  have br := decB r []
  refine okr_code Tryd.func9 rfl rfl ?_
  by_cases hz : r = []
  · subst hz
    cases q1 : rokL out with
    | false =>
      rw [q1] at a1
      simp (dsimp := false) (disch := (first | (refine dS ?_; kernel_rfl) | (refine dM ?_; kernel_rfl) | (refine dO ?_; simp (disch := ((try simp only [ZL]) <;> omega)) only [ZK, ZL]; done) | (refine dK ?_; (repeat first | exact Keep.refl _ _ | exact Keep.app _ _ (Nat.le_refl _) | assumption | refine Keep.ap ?_ | refine Keep.st (by first | omega | (simp only [ZL]; omega)) ?_); done) | ((try simp only [ZL]) <;> omega) | fail)) only [XOB, ↓XXs, ↓XD, ↓YX, ZB, Nat.reduceAdd, Nat.reducePow, ↓reduceIte, eq_self, Int.reduceEq, Nat.reduceEqDiff, Nat.reduceMul, Nat.reduceLeDiff, Int.reduceBEq, Int.reduceLT, Tryd.f9, ↓XH2, XRN, ZC, ZE, ZH, eq_self, Nat.reduceLeDiff, Nat.reduceBEq, slV_new, reduceIte, ↓op_extract, tupAt_mk, lenV_sl, Bool.not_true, Bool.not_false, a1, a2, a3, b1]
      with_reducible refine Okr.ret ?_
      exact ⟨k.trans (k1.le hk), .inr ⟨by simp [goodRO, goodR, q1], rfl⟩⟩
    | true =>
      rw [q1] at a1
      have hp : rputL out = rulesT out := by unfold rputL; rw [if_pos q1]
      cases q2 : decide (rputL out = s) with
      | false =>
        rw [q2] at b1
        simp (dsimp := false) (disch := (first | (refine dS ?_; kernel_rfl) | (refine dM ?_; kernel_rfl) | (refine dO ?_; simp (disch := ((try simp only [ZL]) <;> omega)) only [ZK, ZL]; done) | (refine dK ?_; (repeat first | exact Keep.refl _ _ | exact Keep.app _ _ (Nat.le_refl _) | assumption | refine Keep.ap ?_ | refine Keep.st (by first | omega | (simp only [ZL]; omega)) ?_); done) | ((try simp only [ZL]) <;> omega) | fail)) only [XOB, ↓XXs, ↓XD, ↓YX, ZB, Nat.reduceAdd, Nat.reducePow, ↓reduceIte, eq_self, Int.reduceEq, Nat.reduceEqDiff, Nat.reduceMul, Nat.reduceLeDiff, Int.reduceBEq, Int.reduceLT, Tryd.f9, ↓XH2, XRN, ZC, ZE, ZH, eq_self, Nat.reduceLeDiff, Nat.reduceBEq, slV_new, reduceIte, ↓op_extract, tupAt_mk, lenV_sl, Bool.not_true, Bool.not_false, a1, a2, a3, b1]
        with_reducible refine Okr.ret ?_
        refine ⟨k.trans ((k1.trans (k2.le hk1)).le hk), .inr ⟨?_, rfl⟩⟩
        show goodR s out = _
        unfold goodR
        rw [q1, ← hp, q2]; rfl
      | true =>
        rw [q2] at b1
        simp (dsimp := false) (disch := (first | (refine dS ?_; kernel_rfl) | (refine dM ?_; kernel_rfl) | (refine dO ?_; simp (disch := ((try simp only [ZL]) <;> omega)) only [ZK, ZL]; done) | (refine dK ?_; (repeat first | exact Keep.refl _ _ | exact Keep.app _ _ (Nat.le_refl _) | assumption | refine Keep.ap ?_ | refine Keep.st (by first | omega | (simp only [ZL]; omega)) ?_); done) | ((try simp only [ZL]) <;> omega) | fail)) only [XOB, ↓XXs, ↓XD, ↓YX, ZB, Nat.reduceAdd, Nat.reducePow, ↓reduceIte, eq_self, Int.reduceEq, Nat.reduceEqDiff, Nat.reduceMul, Nat.reduceLeDiff, Int.reduceBEq, Int.reduceLT, Tryd.f9, ↓XH2, XRN, ZC, ZE, ZH, eq_self, Nat.reduceLeDiff, Nat.reduceBEq, slV_new, reduceIte, ↓op_extract, tupAt_mk, lenV_sl, Bool.not_true, Bool.not_false, a1, a2, a3, b1]
        with_reducible refine Okr.ret ?_
        refine ⟨k.trans ((k1.trans (k2.le hk1)).le hk), .inl ⟨?_, out, iO, gO, rfl, rfl, eO2, hiO⟩⟩
        show goodR s out = _
        unfold goodR
        rw [q1, ← hp, q2]; rfl
  · have hne : decide (B r = B []) = false := by rw [br]; exact decide_eq_false hz
    have h9 : out.length = 9 := hr.resolve_left hz
    have h8 : decide ((out.length : Int) ≤ 8) = false := decide_eq_false (by omega)
    cases q1 : rokL out with
    | false =>
      rw [q1] at a1
      simp (dsimp := false) (disch := (first | (refine dS ?_; kernel_rfl) | (refine dM ?_; kernel_rfl) | (refine dO ?_; simp (disch := ((try simp only [ZL]) <;> omega)) only [ZK, ZL]; done) | (refine dK ?_; (repeat first | exact Keep.refl _ _ | exact Keep.app _ _ (Nat.le_refl _) | assumption | refine Keep.ap ?_ | refine Keep.st (by first | omega | (simp only [ZL]; omega)) ?_); done) | ((try simp only [ZL]) <;> omega) | fail)) only [XOB, ↓XXs, ↓XD, ↓YX, ZB, Nat.reduceAdd, Nat.reducePow, ↓reduceIte, eq_self, Int.reduceEq, Nat.reduceEqDiff, Nat.reduceMul, Nat.reduceLeDiff, Int.reduceBEq, Int.reduceLT, Tryd.f9, ↓XH2, XRN, ZC, ZE, ZH, eq_self, Nat.reduceLeDiff, Nat.reduceBEq, slV_new, reduceIte, ↓op_extract, tupAt_mk, lenV_sl, Bool.not_true, Bool.not_false, a1, a2, a3, b1, hne, h8]
      with_reducible refine Okr.ret ?_
      exact ⟨k.trans (k1.le hk), .inr ⟨by simp [goodRO, goodR, q1], rfl⟩⟩
    | true =>
      rw [q1] at a1
      have hp : rputL out = rulesT out := by unfold rputL; rw [if_pos q1]
      cases q2 : decide (rputL out = s) with
      | false =>
        rw [q2] at b1
        simp (dsimp := false) (disch := (first | (refine dS ?_; kernel_rfl) | (refine dM ?_; kernel_rfl) | (refine dO ?_; simp (disch := ((try simp only [ZL]) <;> omega)) only [ZK, ZL]; done) | (refine dK ?_; (repeat first | exact Keep.refl _ _ | exact Keep.app _ _ (Nat.le_refl _) | assumption | refine Keep.ap ?_ | refine Keep.st (by first | omega | (simp only [ZL]; omega)) ?_); done) | ((try simp only [ZL]) <;> omega) | fail)) only [XOB, ↓XXs, ↓XD, ↓YX, ZB, Nat.reduceAdd, Nat.reducePow, ↓reduceIte, eq_self, Int.reduceEq, Nat.reduceEqDiff, Nat.reduceMul, Nat.reduceLeDiff, Int.reduceBEq, Int.reduceLT, Tryd.f9, ↓XH2, XRN, ZC, ZE, ZH, eq_self, Nat.reduceLeDiff, Nat.reduceBEq, slV_new, reduceIte, ↓op_extract, tupAt_mk, lenV_sl, Bool.not_true, Bool.not_false, a1, a2, a3, b1, hne, h8]
        with_reducible refine Okr.ret ?_
        refine ⟨k.trans ((k1.trans (k2.le hk1)).le hk), .inr ⟨?_, rfl⟩⟩
        show goodR s out = _
        unfold goodR
        rw [q1, ← hp, q2]; rfl
      | true =>
        rw [q2] at b1
        simp (dsimp := false) (disch := (first | (refine dS ?_; kernel_rfl) | (refine dM ?_; kernel_rfl) | (refine dO ?_; simp (disch := ((try simp only [ZL]) <;> omega)) only [ZK, ZL]; done) | (refine dK ?_; (repeat first | exact Keep.refl _ _ | exact Keep.app _ _ (Nat.le_refl _) | assumption | refine Keep.ap ?_ | refine Keep.st (by first | omega | (simp only [ZL]; omega)) ?_); done) | ((try simp only [ZL]) <;> omega) | fail)) only [XOB, ↓XXs, ↓XD, ↓YX, ZB, Nat.reduceAdd, Nat.reducePow, ↓reduceIte, eq_self, Int.reduceEq, Nat.reduceEqDiff, Nat.reduceMul, Nat.reduceLeDiff, Int.reduceBEq, Int.reduceLT, Tryd.f9, ↓XH2, XRN, ZC, ZE, ZH, eq_self, Nat.reduceLeDiff, Nat.reduceBEq, slV_new, reduceIte, ↓op_extract, tupAt_mk, lenV_sl, Bool.not_true, Bool.not_false, a1, a2, a3, b1, hne, h8]
        with_reducible refine Okr.ret ?_
        refine ⟨k.trans ((k1.trans (k2.le hk1)).le hk), .inl ⟨?_, out, iO, gO, rfl, rfl, eO2, hiO⟩⟩
        show goodR s out = _
        unfold goodR
        rw [q1, ← hp, q2]; rfl
theorem mk_fit {a b c d : Bs} {n : Nat} (hb : b.length ≤ n) (hc : c.length ≤ n) (hn : n ≤ 2 ^ 20) : (mkRu a b c d).Fit20 :=
  ⟨by have := notA_len b; show (notA b).length ≤ _; omega, by have := notA_len c; show (notA c).length ≤ _; omega⟩
theorem L9 (l : Nat) (s : Bs) (H0 : AH) (hl : l ≤ H0.length) :
    ∀ (f : Nat) (r : Bs) (out : List Ru), f + out.length = 9 → r.length ≤ 2 ^ 20 → (∀ x ∈ out, x.Fit20) → ∀ (iO gO no : Nat) (h : AH), Keep H0.length H0 h → H0.length ≤ iO → h[iO]? = some (.row gO 4 (Ru.R out)) → no = out.length →
      Okr (RgQ H0 s (parR f r out)) (L9_0 l (sV s) (slV iO gO no no) (sV r) h) := by
  intro f
  induction f with
  | zero =>
    rintro r out hf hr fo iO gO no h k hiO eO hno
    exact L9e l s r H0 hl out (by omega) fo (.inr (by omega)) iO gO no h k hiO eO hno
  | succ f ih =>
    rintro r out hf hr fo iO gO no h k hiO eO hno
    by_cases hz : r = []
    · subst hz
      have : parR (f + 1) [] out = some out := by rw [parR, if_pos rfl]
      rw [this]
      exact L9e l s [] H0 hl out (by omega) fo (.inl rfl) iO gO no h k hiO eO hno
    · subst hno
      have hk := k.1
      have hO := lt_of_get eO
      have hlh : l ≤ h.length := by omega
      have hne : decide (B r = B []) = false := by rw [decB]; exact decide_eq_false hz
      have h8 : decide ((out.length : Int) ≤ 8) = true := decide_eq_true (by omega)
      have n1 := cut_lenR r [10]
      have a1 := fun h => p_cutR r [10] l h (by omega)
      have a2 := p_split (Lib.cut r [10]).1 l h (by omega)
      have hel := splitK_len (Lib.count (Lib.cut r [10]).1 [32]) (Lib.cut r [10]).1
      have hst : parR (f + 1) r out = match splitL (Lib.cut r [10]).1 with
        | [a, b, c, d] => parR f (Lib.cut r [10]).2.1 (out ++ [mkRu a b c d])
        | _ => none := by rw [parR, if_neg hz] <;> rfl
      have hsl : splitL (Lib.cut r [10]).1 = Lib.splitK [32] 0 (Lib.count (Lib.cut r [10]).1 [32]) (Lib.cut r [10]).1 := rfl
      rw [← hsl] at hel
      generalize hw : splitL (Lib.cut r [10]).1 = w at *
      refine okr_code Tryd.func9 rfl rfl ?_
      by_cases h4 : w.length = 4
      · obtain ⟨a, b, c, d, rfl⟩ : ∃ a b c d, w = [a, b, c, d] := by
          match w, h4 with
          | [a, b, c, d], _ => exact ⟨a, b, c, d, rfl⟩
        have hb := hel b (by simp)
        have hc := hel c (by simp)
        have hd := hel d (by simp)
        have a3 := fun l h => r26 b l h (by omega)
        have a4 := fun l h => r26 c l h (by omega)
        have a5 := fun l h => r26 d l h (by omega)
        have a6 := fun l => r28 l (h ++ [AObj.row 0 1 [sV a, sV b, sV c, sV d]])
        have a7 := fun l => r27 (h.length + 1) l (notA d) (h ++ [AObj.row 0 1 [sV a, sV b, sV c, sV d], AObj.row 0 1 (sL kindsL)]) (by simp (disch := (first | (refine dS ?_; kernel_rfl) | (refine dM ?_; kernel_rfl) | (refine dO ?_; simp (disch := ((try simp only [ZL]) <;> omega)) only [ZK, ZL]; done) | (refine dK ?_; (repeat first | exact Keep.refl _ _ | exact Keep.app _ _ (Nat.le_refl _) | assumption | refine Keep.ap ?_ | refine Keep.st (by first | omega | (simp only [ZL]; omega)) ?_); done) | ((try simp only [ZL]) <;> omega) | fail)) only [↓XH2, XRN, ZC, ZE, ZH, eq_self, Nat.reduceLeDiff, Nat.reduceBEq])
        rw [hst]
        simp only
        have bq := decB a [113, 117, 105, 101, 116]
        have hx0 : ixAddr (slV h.length 0 4 4) 0 1 = some (pV h.length 0 0) := rfl
        have hx1 : ixAddr (slV h.length 0 4 4) 1 1 = some (pV h.length 1 0) := rfl
        have hx2 : ixAddr (slV h.length 0 4 4) 2 1 = some (pV h.length 2 0) := rfl
        have hx3 : ixAddr (slV h.length 0 4 4) 3 1 = some (pV h.length 3 0) := rfl
        have hs : sL [a, b, c, d] = [sV a, sV b, sV c, sV d] := rfl
        have h44 : (((4 : Nat) : Int) != 4) = false := rfl
        rw [hs] at a2
        simp only [List.length_cons, List.length_nil, Nat.zero_add, Nat.reduceAdd] at a2
        simp (dsimp := false) (disch := (first | (refine dS ?_; kernel_rfl) | (refine dM ?_; kernel_rfl) | (refine dO ?_; simp (disch := ((try simp only [ZL]) <;> omega)) only [ZK, ZL]; done) | (refine dK ?_; (repeat first | exact Keep.refl _ _ | exact Keep.app _ _ (Nat.le_refl _) | assumption | refine Keep.ap ?_ | refine Keep.st (by first | omega | (simp only [ZL]; omega)) ?_); done) | ((try simp only [ZL]) <;> omega) | fail)) only [XOB, ↓XXs, ↓XD, ↓YX, ZB, Nat.reduceAdd, Nat.reducePow, ↓reduceIte, eq_self, Int.reduceEq, Nat.reduceEqDiff, Nat.reduceMul, Nat.reduceLeDiff, Int.reduceBEq, Int.reduceLT, Tryd.f9, ↓XH2, XRN, ZC, ZE, ZH, eq_self, Nat.reduceLeDiff, Nat.reduceBEq, slV_new, reduceIte, ↓op_extract, tupAt_mk, lenV_sl, Bool.not_true, Bool.not_false, hne, h8, a1, a2, a3, a4, a5, a6, a7, hx0, hx1, hx2, hx3, h44, bq]
        refine okr_opt (Ru.app3 (os := out) (mkRu a b c d) (by simp (disch := (first | (refine dS ?_; kernel_rfl) | (refine dM ?_; kernel_rfl) | (refine dO ?_; simp (disch := ((try simp only [ZL]) <;> omega)) only [ZK, ZL]; done) | (refine dK ?_; (repeat first | exact Keep.refl _ _ | exact Keep.app _ _ (Nat.le_refl _) | assumption | refine Keep.ap ?_ | refine Keep.st (by first | omega | (simp only [ZL]; omega)) ?_); done) | ((try simp only [ZL]) <;> omega) | fail)) only [↓XH2, XRN, ZC, ZE, ZH, eq_self, Nat.reduceLeDiff, Nat.reduceBEq, eO]) (by simp (disch := (first | (refine dS ?_; kernel_rfl) | (refine dM ?_; kernel_rfl) | (refine dO ?_; simp (disch := ((try simp only [ZL]) <;> omega)) only [ZK, ZL]; done) | (refine dK ?_; (repeat first | exact Keep.refl _ _ | exact Keep.app _ _ (Nat.le_refl _) | assumption | refine Keep.ap ?_ | refine Keep.st (by first | omega | (simp only [ZL]; omega)) ?_); done) | ((try simp only [ZL]) <;> omega) | fail)) only [↓XH2, XRN, ZC, ZE, ZH, eq_self, Nat.reduceLeDiff, Nat.reduceBEq] <;> rfl) rfl rfl (by omega) (by omega) rfl) ?_
        rintro _ ⟨g4, rfl⟩
        simp (dsimp := false) (disch := (first | (refine dS ?_; kernel_rfl) | (refine dM ?_; kernel_rfl) | (refine dO ?_; simp (disch := ((try simp only [ZL]) <;> omega)) only [ZK, ZL]; done) | (refine dK ?_; (repeat first | exact Keep.refl _ _ | exact Keep.app _ _ (Nat.le_refl _) | assumption | refine Keep.ap ?_ | refine Keep.st (by first | omega | (simp only [ZL]; omega)) ?_); done) | ((try simp only [ZL]) <;> omega) | fail)) only [XOB, ↓XXs, ↓XD, ↓YX, ZB, Nat.reduceAdd, Nat.reducePow, ↓reduceIte, eq_self, Int.reduceEq, Nat.reduceEqDiff, Nat.reduceMul, Nat.reduceLeDiff, Int.reduceBEq, Int.reduceLT, Tryd.f9, ↓XH2, XRN, ZC, ZE, ZH, eq_self, Nat.reduceLeDiff, Nat.reduceBEq, slV_new, reduceIte, ↓op_extract, tupAt_mk, lenV_sl, Bool.not_true, Bool.not_false, hne, h8, a1, a2, a3, a4, a5, a6, a7, hx0, hx1, hx2, hx3, h44, bq]
        exact ih (Lib.cut r [10]).2.1 (out ++ [mkRu a b c d]) (by simp; omega) (by omega) (fun x hx => by
          rcases List.mem_append.1 hx with hx | hx
          · exact fo x hx
          · rw [List.mem_singleton] at hx; subst hx; exact mk_fit hb hc (by omega)) iO g4 _ _ (k.trans ((Keep.set h iO _ hiO).trans (Keep.app _ _ (by simp; omega)))) hiO (by simp (disch := (first | (refine dS ?_; kernel_rfl) | (refine dM ?_; kernel_rfl) | (refine dO ?_; simp (disch := ((try simp only [ZL]) <;> omega)) only [ZK, ZL]; done) | (refine dK ?_; (repeat first | exact Keep.refl _ _ | exact Keep.app _ _ (Nat.le_refl _) | assumption | refine Keep.ap ?_ | refine Keep.st (by first | omega | (simp only [ZL]; omega)) ?_); done) | ((try simp only [ZL]) <;> omega) | fail)) only [↓XH2, XRN, ZC, ZE, ZH, eq_self, Nat.reduceLeDiff, Nat.reduceBEq]) (by simp)
      · have h44 : ((w.length : Int) != 4) = true := by rw [bne_iff_ne]; omega
        have hm : parR (f + 1) r out = none := by
          rw [hst]
          split
          · simp at h4
          · rfl
        rw [hm]
        simp (dsimp := false) (disch := (first | (refine dS ?_; kernel_rfl) | (refine dM ?_; kernel_rfl) | (refine dO ?_; simp (disch := ((try simp only [ZL]) <;> omega)) only [ZK, ZL]; done) | (refine dK ?_; (repeat first | exact Keep.refl _ _ | exact Keep.app _ _ (Nat.le_refl _) | assumption | refine Keep.ap ?_ | refine Keep.st (by first | omega | (simp only [ZL]; omega)) ?_); done) | ((try simp only [ZL]) <;> omega) | fail)) only [XOB, ↓XXs, ↓XD, ↓YX, ZB, Nat.reduceAdd, Nat.reducePow, ↓reduceIte, eq_self, Int.reduceEq, Nat.reduceEqDiff, Nat.reduceMul, Nat.reduceLeDiff, Int.reduceBEq, Int.reduceLT, Tryd.f9, ↓XH2, XRN, ZC, ZE, ZH, eq_self, Nat.reduceLeDiff, Nat.reduceBEq, slV_new, reduceIte, ↓op_extract, tupAt_mk, lenV_sl, Bool.not_true, Bool.not_false, hne, h8, a1, a2, h44]
        with_reducible refine Okr.ret ?_
        exact ⟨k.trans (Keep.app _ _ (by omega)), .inr ⟨rfl, rfl⟩⟩
theorem r9 (s : Bs) (hs : s.length ≤ 2 ^ 20) (l : Nat) (h : AH) (hl : l ≤ h.length) : Okr (RgQ h s (parR 9 s [])) (run V0 (.fn 9) l [S (sV s)] h) := by
  refine okr_fn Tryd.func9 rfl rfl rfl rfl ?_
  simp (dsimp := false) (disch := (first | (refine dS ?_; kernel_rfl) | (refine dM ?_; kernel_rfl) | (refine dO ?_; simp (disch := ((try simp only [ZL]) <;> omega)) only [ZK, ZL]; done) | (refine dK ?_; (repeat first | exact Keep.refl _ _ | exact Keep.app _ _ (Nat.le_refl _) | assumption | refine Keep.ap ?_ | refine Keep.st (by first | omega | (simp only [ZL]; omega)) ?_); done) | ((try simp only [ZL]) <;> omega) | fail)) only [XOB, ↓XXs, ↓XD, ↓YX, ZB, Nat.reduceAdd, Nat.reducePow, ↓reduceIte, eq_self, Int.reduceEq, Nat.reduceEqDiff, Nat.reduceMul, Nat.reduceLeDiff, Int.reduceBEq, Int.reduceLT, Tryd.f9, ↓XH2, XRN, ZC, ZE, ZH, eq_self, Nat.reduceLeDiff, Nat.reduceBEq, slV_new, reduceIte, ↓op_extract, tupAt_mk, lenV_sl, Bool.not_true, Bool.not_false]
  exact L9 l s h hl 9 s [] rfl hs (by simp) h.length 0 0 _ (Keep.app _ _ (Nat.le_refl _)) (Nat.le_refl _) (by simp (disch := (first | (refine dS ?_; kernel_rfl) | (refine dM ?_; kernel_rfl) | (refine dO ?_; simp (disch := ((try simp only [ZL]) <;> omega)) only [ZK, ZL]; done) | (refine dK ?_; (repeat first | exact Keep.refl _ _ | exact Keep.app _ _ (Nat.le_refl _) | assumption | refine Keep.ap ?_ | refine Keep.st (by first | omega | (simp only [ZL]; omega)) ?_); done) | ((try simp only [ZL]) <;> omega) | fail)) only [↓XH2, XRN, ZC, ZE, ZH, eq_self, Nat.reduceLeDiff, Nat.reduceBEq]; rfl) rfl
end Go.Abs
namespace Go.Abs
open Go.Proofs
set_option linter.unusedSimpArgs false
/-! ### how the reference reads rules: plain -/
/-- the fields of a text at a byte, with so many cuts at most -/
def cutG (c : UInt8) : Nat → Bs → Bs → List Bs
  | _, cur, [] => [cur]
  | 0, cur, b :: t => [cur ++ b :: t]
  | m + 1, cur, b :: t => if b = c then cur :: cutG c m [] t else cutG c (m + 1) (cur ++ [b]) t
/-- all fields -/
def cutAll (c : UInt8) : Bs → Bs → List Bs
  | cur, [] => [cur]
  | cur, b :: t => if b = c then cur :: cutAll c [] t else cutAll c (cur ++ [b]) t
theorem cutG_all (c : UInt8) : ∀ (r cur : Bs) (m : Nat), r.length ≤ m → cutG c m cur r = cutAll c cur r
  | [], cur, m, _ => by cases m <;> rfl
  | b :: t, cur, 0, h => by simp at h
  | b :: t, cur, m + 1, h => by
    have h' : t.length ≤ m := by simpa using h
    rw [cutG, cutAll, cutG_all c t [] m h', cutG_all c t (cur ++ [b]) (m + 1) (by omega)]
theorem cutAll_join (c : UInt8) : ∀ (r cur : Bs), (cutAll c cur r).flatMap (fun x => x ++ [c]) = cur ++ r ++ [c]
  | [], cur => by simp [cutAll]
  | b :: t, cur => by
    rw [cutAll]
    by_cases h : b = c
    · rw [if_pos h, List.flatMap_cons, cutAll_join c t [], h]; simp
    · rw [if_neg h, cutAll_join c t]; simp
theorem cutAll_at (c : UInt8) (r : Bs) : ∀ (x cur : Bs), (∀ b ∈ x, b ≠ c) → cutAll c cur (x ++ c :: r) = (cur ++ x) :: cutAll c [] r
  | [], cur, _ => by rw [List.nil_append, cutAll, if_pos rfl, List.append_nil]
  | b :: x, cur, h => by
    rw [List.cons_append, cutAll, if_neg (h b (by simp)), cutAll_at c r x _ (fun y hy => h y (by simp [hy]))]
    simp
theorem cutAll_end (c : UInt8) : ∀ (x cur : Bs), (∀ b ∈ x, b ≠ c) → cutAll c cur x = [cur ++ x]
  | [], cur, _ => by rw [cutAll, List.append_nil]
  | b :: x, cur, h => by
    rw [cutAll, if_neg (h b (by simp)), cutAll_end c x _ (fun y hy => h y (by simp [hy]))]
    simp
theorem cutAll_len (c : UInt8) : ∀ (r cur : Bs), (cutAll c cur r).length ≤ r.length + 1
  | [], cur => by simp [cutAll]
  | b :: t, cur => by
    rw [cutAll]
    have h1 := cutAll_len c t []
    have h2 := cutAll_len c t (cur ++ [b])
    by_cases h : b = c
    · rw [if_pos h]; simp only [List.length_cons]; omega
    · rw [if_neg h]; simp only [List.length_cons]; omega
theorem cutAll_each (c : UInt8) : ∀ (r cur : Bs), ∀ x ∈ cutAll c cur r, x.length ≤ cur.length + r.length
  | [], cur, x, hx => by simp [cutAll] at hx; subst hx; simp
  | b :: t, cur, x, hx => by
    rw [cutAll] at hx
    by_cases h : b = c
    · rw [if_pos h] at hx
      rcases List.mem_cons.1 hx with rfl | hx
      · simp
      · have := cutAll_each c t [] x hx; simp only [List.length_cons, List.length_nil] at this ⊢; omega
    · rw [if_neg h] at hx
      have := cutAll_each c t (cur ++ [b]) x hx
      simp only [List.length_cons, List.length_append, List.length_nil] at this ⊢; omega
theorem cutG_at (c : UInt8) (r : Bs) (m : Nat) : ∀ (x cur : Bs), (∀ b ∈ x, b ≠ c) → cutG c (m + 1) cur (x ++ c :: r) = (cur ++ x) :: cutG c m [] r
  | [], cur, _ => by rw [List.nil_append, cutG, if_pos rfl, List.append_nil]
  | b :: x, cur, h => by
    rw [List.cons_append, cutG, if_neg (h b (by simp)), cutG_at c r m x _ (fun y hy => h y (by simp [hy]))]
    simp
theorem cutG_end (c : UInt8) (m : Nat) : ∀ (x cur : Bs), (∀ b ∈ x, b ≠ c) → cutG c m cur x = [cur ++ x]
  | [], cur, _ => by cases m <;> simp [cutG]
  | b :: x, cur, h => by
    cases m with
    | zero => rw [cutG]
    | succ m =>
      rw [cutG, if_neg (h b (by simp)), cutG_end c (m + 1) x _ (fun y hy => h y (by simp [hy]))]
      simp
theorem cutG_each (c : UInt8) : ∀ (r cur : Bs) (m : Nat), ∀ x ∈ cutG c m cur r, x.length ≤ cur.length + r.length
  | [], cur, m, x, hx => by cases m <;> (simp [cutG] at hx; subst hx; simp)
  | b :: t, cur, 0, x, hx => by simp [cutG] at hx; subst hx; simp
  | b :: t, cur, m + 1, x, hx => by
    rw [cutG] at hx
    by_cases h : b = c
    · rw [if_pos h] at hx
      rcases List.mem_cons.1 hx with rfl | hx
      · simp
      · have := cutG_each c t [] m x hx; simp only [List.length_cons, List.length_nil] at this ⊢; omega
    · rw [if_neg h] at hx
      have := cutG_each c t (cur ++ [b]) (m + 1) x hx
      simp only [List.length_cons, List.length_append, List.length_nil] at this ⊢; omega
theorem cutG_len (c : UInt8) : ∀ (r cur : Bs) (m : Nat), (cutG c m cur r).length ≤ m + 1
  | [], cur, m => by cases m <;> simp [cutG]
  | b :: t, cur, 0 => by simp [cutG]
  | b :: t, cur, m + 1 => by
    rw [cutG]
    have h1 := cutG_len c t [] m
    have h2 := cutG_len c t (cur ++ [b]) (m + 1)
    by_cases h : b = c
    · rw [if_pos h]; simp only [List.length_cons]; omega
    · rw [if_neg h]; exact h2
def ruOf : List Bs → Option Ru
  | [a, b, c, d] => some (mkRu a b c d)
  | _ => none
def getL (x : Bs) : Option Ru := match ruOf (cutG 32 4 [] x) with
  | some u => if ruOk u = true ∧ ruText u = x ++ [10] then some u else none
  | none => none
def getAll : List Bs → List Ru → Option (List Ru)
  | [], out => some out
  | x :: r, out => match getL x with
    | none => none
    | some u => if 8 ≤ out.length then none else getAll r (out ++ [u])
def specR (s : Bs) : Option (List Ru) := if s = [] then some [] else if s.getLast? = some 10 then getAll (cutAll 10 [] s.dropLast) [] else none
/-- what RulesGet answers, in the program -/
def implR (s : Bs) : Option (List Ru) := match parR 9 s [] with
  | some L => if goodR s L = true then some L else none
  | none => none
theorem getL_is {x : Bs} {u : Ru} (h : getL x = some u) : ruOk u = true ∧ ruText u = x ++ [10] := by
  unfold getL at h
  split at h
  · split at h
    · rename_i q; injection h with h; subst h; exact q
    · cases h
  · cases h
theorem getAll_is : ∀ (r : List Bs) (out L : List Ru), out.length ≤ 8 → getAll r out = some L → ∃ M, L = out ++ M ∧ (∀ u ∈ M, ruOk u = true) ∧ rulesT M = r.flatMap (fun x => x ++ [10]) ∧ L.length ≤ 8
  | [], out, L, ho, h => by
    rw [getAll] at h
    injection h with h
    subst h
    exact ⟨[], by simp, by simp, rfl, ho⟩
  | x :: r, out, L, ho, h => by
    rw [getAll] at h
    cases hx : getL x with
    | none => rw [hx] at h; cases h
    | some u =>
      rw [hx] at h
      simp only at h
      split at h
      · cases h
      · rename_i h8
        obtain ⟨M, h1, h2, h3, h4⟩ := getAll_is r (out ++ [u]) L (by simp; omega) h
        obtain ⟨k1, k2⟩ := getL_is hx
        refine ⟨u :: M, by rw [h1]; simp, ?_, ?_, h4⟩
        · intro y hy
          rcases List.mem_cons.1 hy with rfl | hy
          · exact k1
          · exact h2 y hy
        · have : rulesT (u :: M) = ruText u ++ rulesT M := by simp [rulesT]
          rw [this, h3, k2, List.flatMap_cons]
theorem specR_good {s : Bs} {L : List Ru} (h : specR s = some L) : goodR s L = true := by
  unfold specR at h
  split at h
  · rename_i q; injection h with h; subst h q; rfl
  · split at h
    · rename_i q0 q
      obtain ⟨M, h1, h2, h3, h4⟩ := getAll_is _ [] L (by simp) h
      rw [List.nil_append] at h1
      subst h1
      rw [cutAll_join, List.nil_append] at h3
      have hs : s.dropLast ++ [10] = s := by
        have h5 : s ≠ [] := q0
        have h6 := List.dropLast_concat_getLast h5
        have h7 : s.getLast h5 = 10 := by
          rw [List.getLast?_eq_some_getLast h5] at q
          injection q
        rwa [h7] at h6
      unfold goodR rokL
      rw [h3, hs, decide_eq_true rfl, Bool.and_true, Bool.and_eq_true]
      exact ⟨List.all_eq_true.2 h2, decide_eq_true (by omega)⟩
    · cases h
/-- a rule's line, without its newline -/
def ruLine (x : Ru) : Bs := ruHead x ++ 32 :: (oA x.room ++ 32 :: (oA x.user ++ 32 :: oA (kindW x.kind)))
theorem ruLine_text (x : Ru) : ruText x = ruLine x ++ [10] := by unfold ruText ruLine; simp
theorem ruLine_no {x : Ru} (h : ruOk x = true) : ∀ b ∈ ruLine x, b ≠ 10 := by
  have hk := kind_all (KOk_of h)
  unfold ruOk at h
  simp only [Bool.and_eq_true] at h
  have a0 := head_all x
  have a1 := oA_all (orEm_all h.1.1).1
  have a2 := oA_all (orEm_all h.1.2).1
  have a3 := oA_all hk.1
  intro b hb
  unfold ruLine at hb
  simp only [List.mem_append, List.mem_cons] at hb
  rcases hb with hb | rfl | hb | rfl | hb | rfl | hb
  · exact (a0 b hb).2
  · decide
  · exact (a1 b hb).2
  · decide
  · exact (a2 b hb).2
  · decide
  · exact (a3 b hb).2
theorem getL_line {x : Ru} (h : ruOk x = true) : getL (ruLine x) = some x := by
  have hk := kind_all (KOk_of h)
  have h0 := h
  unfold ruOk at h
  simp only [Bool.and_eq_true] at h
  have a0 := head_all x
  have a1 := oA_all (orEm_all h.1.1).1
  have a2 := oA_all (orEm_all h.1.2).1
  have a3 := oA_all hk.1
  have e : cutG 32 4 [] (ruLine x) = [ruHead x, oA x.room, oA x.user, oA (kindW x.kind)] := by
    unfold ruLine
    rw [cutG_at _ _ 3 _ _ (fun b hb => (a0 b hb).1), cutG_at _ _ 2 _ _ (fun b hb => (a1 b hb).1), cutG_at _ _ 1 _ _ (fun b hb => (a2 b hb).1), cutG_end _ _ _ _ (fun b hb => (a3 b hb).1)]
    rfl
  unfold getL
  rw [e]
  simp only [ruOf]
  rw [mk_text h0, if_pos ⟨h0, ruLine_text x⟩]
theorem cutAll_rules : ∀ (x : Ru) (L : List Ru), (∀ y ∈ x :: L, ruOk y = true) → cutAll 10 [] (rulesT (x :: L)).dropLast = (x :: L).map ruLine
  | x, [], h => by
    have : rulesT [x] = ruLine x ++ [10] := by simp [rulesT, ruLine_text]
    rw [this, List.dropLast_concat, cutAll_end 10 _ _ (ruLine_no (h x (by simp)))]
    rfl
  | x, y :: L, h => by
    have hp : rulesT (x :: y :: L) = ruLine x ++ 10 :: rulesT (y :: L) := by
      have : rulesT (x :: y :: L) = ruText x ++ rulesT (y :: L) := by simp [rulesT]
      rw [this, ruLine_text]; simp
    have hne : rulesT (y :: L) ≠ [] := by
      have : rulesT (y :: L) = ruText y ++ rulesT L := by simp [rulesT]
      rw [this, ruLine_text]; simp
    have hd : (rulesT (x :: y :: L)).dropLast = ruLine x ++ 10 :: (rulesT (y :: L)).dropLast := by
      rw [hp, List.dropLast_append_of_ne_nil (by simp), List.dropLast_cons_of_ne_nil hne]
    rw [hd, cutAll_at 10 _ _ _ (ruLine_no (h x (by simp))), cutAll_rules y L (fun z hz => h z (by simp [hz]))]
    simp
theorem getAll_lines : ∀ (L out : List Ru), (∀ x ∈ L, ruOk x = true) → out.length + L.length ≤ 8 → getAll (L.map ruLine) out = some (out ++ L)
  | [], out, _, _ => by rw [List.map_nil, getAll, List.append_nil]
  | x :: L, out, h, hn => by
    simp only [List.length_cons] at hn
    rw [List.map_cons, getAll, getL_line (h x (by simp))]
    simp only
    rw [if_neg (by omega), getAll_lines L _ (fun y hy => h y (by simp [hy])) (by simp; omega)]
    simp
theorem good_spec {s : Bs} {L : List Ru} (h : goodR s L = true) : specR s = some L := by
  unfold goodR at h
  rw [Bool.and_eq_true] at h
  obtain ⟨h1, h2⟩ := rok_all h.1
  have h3 := of_decide_eq_true h.2
  subst h3
  unfold specR
  cases L with
  | nil => rw [if_pos (show rulesT [] = [] from rfl)]
  | cons x L =>
    have hne : rulesT (x :: L) ≠ [] := by
      have : rulesT (x :: L) = ruText x ++ rulesT L := by simp [rulesT]
      rw [this, ruLine_text]; simp
    have hlast : ∀ (L : List Ru) (x : Ru), (rulesT (x :: L)).getLast? = some 10 := by
      intro L
      induction L with
      | nil => intro x; simp [rulesT, ruLine_text]
      | cons y L ih =>
        intro x
        have : rulesT (x :: y :: L) = ruText x ++ rulesT (y :: L) := by simp [rulesT]
        rw [this, List.getLast?_append, ih y]; rfl
    rw [if_neg hne, if_pos (hlast L x), cutAll_rules x L h1, getAll_lines (x :: L) [] h1 (by simpa using h2)]
    rfl
theorem spec_impl (s : Bs) : specR s = implR s := by
  unfold implR
  cases hs : specR s with
  | some L =>
    have hg := specR_good hs
    have hg' := hg
    unfold goodR at hg'
    rw [Bool.and_eq_true] at hg'
    have hb := rules_back hg'.1
    rw [of_decide_eq_true hg'.2] at hb
    rw [hb]
    simp only
    rw [if_pos hg]
  | none =>
    cases hp : parR 9 s [] with
    | none => rfl
    | some L =>
      simp only
      by_cases hg : goodR s L = true
      · have := good_spec hg
        rw [hs] at this
        cases this
      · rw [if_neg hg]
end Go.Abs
namespace Go.Abs
open Go.Proofs
set_option maxRecDepth 100000
set_option linter.unusedSimpArgs false
set_option linter.unusedVariables false
set_option pp.maxSteps 20000
set_option pp.deepTerms true
theorem cut_to' (s : Bs) (n : Nat) (hn : n ≤ s.length) : strCut (B s) 0 (n : Int) = some (B (s.take n)) := by
  have := strCut_B s 0 n (by omega) hn
  simpa using this
theorem cut_from' (s : Bs) (n : Nat) (hn : n ≤ s.length) : strCut (B s) (n : Int) ((B s).size : Int) = some (B (s.drop n)) := by
  have := strCut_B s n s.length hn (Nat.le_refl _)
  rw [size_B]
  simpa using this
theorem cutS_mid (p d r : Bs) : strCut (B (p ++ (d ++ r))) (p.length : Int) ((p.length + d.length : Nat) : Int) = some (B d) := by
  rw [strCut_B _ _ _ (by omega) (by simp), ← List.append_assoc]
  congr 2
  rw [List.take_left' (by simp), List.drop_left' rfl]
theorem Sl.app3 {lim : Nat} {h : AH} {id g g2 no nh : Nat} {os : List Bs} {cs ys : List Value} (y : Bs) (e : h[id]? = some (.row g 1 cs)) (e2 : h[nh]? = some (.row g2 1 ys)) (hc : cs = sL os) (hno : no = os.length) (hl : lim ≤ id) (hb : os.length ≤ 2 ^ 30) (hy : ys = [sV y]) :
    ∃ z, app lim h (slV id g no no) (slV nh g2 1 1) 1 1 16 = some z ∧ ∃ g', z = (slV id g' (no + 1) (no + 1), h.set id (.row g' 1 (sL (os ++ [y])))) := by
  subst hc hno hy
  obtain ⟨z, e1, g', rfl⟩ := okr_app (lim := lim) (id := id) (g := g) (tg := 1) (n := os.length) (k := 1) (by' := 16) (cs := sL os) (x := slV nh g2 1 1) (ds := [sV y]) (src_new (sz := 1) (tg := 1) e2 rfl) e (by rw [sL_len]; omega) hl (by omega)
  exact ⟨_, e1, g', by rw [sL_app]; rfl⟩
def CuQ (H0 : AH) (xs : List Bs) (v : Value) (h' : AH) : Prop := ∃ i g, v = slV i g xs.length xs.length ∧ h'[i]? = some (.row g 1 (sL xs)) ∧ H0.length ≤ i ∧ Keep H0.length H0 h'
/-- spec.l1Cut: its loop -/
theorem L30 (s : Bs) (c : UInt8) (hs : s.length ≤ 2 ^ 30) (mo : Nat) (mi : Int) (hmi : mi = mo) (hmo : mo ≤ 2 ^ 30) (l iO : Nat) (H0 : AH) (hl : l ≤ iO) (hi0 : H0.length ≤ iO) :
    ∀ (r cur p : Bs) (m : Nat) (os : List Bs) (fr i : Int) (no gO : Nat) (h : AH), p ++ (cur ++ r) = s → m + os.length = mo → fr = p.length → i = ((p.length + cur.length : Nat) : Int) → no = os.length → Keep H0.length H0 h → h[iO]? = some (.row gO 1 (sL os)) →
      Okr (CuQ H0 (os ++ cutG c m cur r)) (L30_0 l (sV s) (.int .u8 c.toNat) (iV mi) (slV iO gO no no) (iV fr) (iV i) h) := by
  have hsz := size_B s
  intro r
  induction r with
  | nil =>
    rintro cur p m os fr i no gO h hd hm rfl rfl rfl k e
    have hO := lt_of_get e
    have hll : p.length + cur.length = s.length := by rw [← hd]; simp
    have hlt : decide (((p.length + cur.length : Nat) : Int) < ((B s).size : Int)) = false := decide_eq_false (by omega)
    have hc : strCut (B s) (p.length : Int) ((B s).size : Int) = some (B cur) := by rw [cut_from' s _ (by omega), ← hd, List.drop_left' rfl, List.append_nil]
    have hg : cutG c m cur [] = [cur] := by cases m <;> rfl
    rw [hg]
    refine okr_code Tryd.func30 rfl rfl ?_
    simp (dsimp := false) (disch := (first | (refine dS ?_; kernel_rfl) | (refine dM ?_; kernel_rfl) | (refine dO ?_; simp (disch := ((try simp only [ZL]) <;> omega)) only [ZK, ZL]; done) | (refine dK ?_; (repeat first | exact Keep.refl _ _ | exact Keep.app _ _ (Nat.le_refl _) | assumption | refine Keep.ap ?_ | refine Keep.st (by first | omega | (simp only [ZL]; omega)) ?_); done) | ((try simp only [ZL]) <;> omega) | fail)) only [XOB, ↓XXs, ↓XD, ↓YX, ZB, Nat.reduceAdd, Nat.reducePow, ↓reduceIte, eq_self, Int.reduceEq, Nat.reduceEqDiff, Nat.reduceMul, Nat.reduceLeDiff, Int.reduceBEq, Int.reduceLT, Tryd.f30, ↓XH2, XRN, ZC, ZE, ZH, eq_self, Nat.reduceLeDiff, Nat.reduceBEq, slV_new, reduceIte, ↓op_extract, tupAt_mk, lenV_sl, Bool.not_true, Bool.not_false, hlt, hc]
    refine okr_opt (Sl.app3 (os := os) cur (by simp (disch := (first | (refine dS ?_; kernel_rfl) | (refine dM ?_; kernel_rfl) | (refine dO ?_; simp (disch := ((try simp only [ZL]) <;> omega)) only [ZK, ZL]; done) | (refine dK ?_; (repeat first | exact Keep.refl _ _ | exact Keep.app _ _ (Nat.le_refl _) | assumption | refine Keep.ap ?_ | refine Keep.st (by first | omega | (simp only [ZL]; omega)) ?_); done) | ((try simp only [ZL]) <;> omega) | fail)) only [↓XH2, XRN, ZC, ZE, ZH, eq_self, Nat.reduceLeDiff, Nat.reduceBEq, e]) (by simp (disch := (first | (refine dS ?_; kernel_rfl) | (refine dM ?_; kernel_rfl) | (refine dO ?_; simp (disch := ((try simp only [ZL]) <;> omega)) only [ZK, ZL]; done) | (refine dK ?_; (repeat first | exact Keep.refl _ _ | exact Keep.app _ _ (Nat.le_refl _) | assumption | refine Keep.ap ?_ | refine Keep.st (by first | omega | (simp only [ZL]; omega)) ?_); done) | ((try simp only [ZL]) <;> omega) | fail)) only [↓XH2, XRN, ZC, ZE, ZH, eq_self, Nat.reduceLeDiff, Nat.reduceBEq] <;> rfl) rfl rfl (by omega) (by omega) rfl) ?_
    rintro _ ⟨g4, rfl⟩
    simp (dsimp := false) (disch := (first | (refine dS ?_; kernel_rfl) | (refine dM ?_; kernel_rfl) | (refine dO ?_; simp (disch := ((try simp only [ZL]) <;> omega)) only [ZK, ZL]; done) | (refine dK ?_; (repeat first | exact Keep.refl _ _ | exact Keep.app _ _ (Nat.le_refl _) | assumption | refine Keep.ap ?_ | refine Keep.st (by first | omega | (simp only [ZL]; omega)) ?_); done) | ((try simp only [ZL]) <;> omega) | fail)) only [XOB, ↓XXs, ↓XD, ↓YX, ZB, Nat.reduceAdd, Nat.reducePow, ↓reduceIte, eq_self, Int.reduceEq, Nat.reduceEqDiff, Nat.reduceMul, Nat.reduceLeDiff, Int.reduceBEq, Int.reduceLT, Tryd.f30, ↓XH2, XRN, ZC, ZE, ZH, eq_self, Nat.reduceLeDiff, Nat.reduceBEq, slV_new, reduceIte, ↓op_extract, tupAt_mk, lenV_sl, Bool.not_true, Bool.not_false, hlt, hc]
    with_reducible refine Okr.ret ?_
    exact ⟨iO, g4, by simp, by simp (disch := (first | (refine dS ?_; kernel_rfl) | (refine dM ?_; kernel_rfl) | (refine dO ?_; simp (disch := ((try simp only [ZL]) <;> omega)) only [ZK, ZL]; done) | (refine dK ?_; (repeat first | exact Keep.refl _ _ | exact Keep.app _ _ (Nat.le_refl _) | assumption | refine Keep.ap ?_ | refine Keep.st (by first | omega | (simp only [ZL]; omega)) ?_); done) | ((try simp only [ZL]) <;> omega) | fail)) only [↓XH2, XRN, ZC, ZE, ZH, eq_self, Nat.reduceLeDiff, Nat.reduceBEq], hi0, k.trans ((Keep.set h iO _ hi0).trans (Keep.app _ _ (by have := k.1; simp; omega)))⟩
  | cons b r ih =>
    rintro cur p m os fr i no gO h hd hm rfl rfl rfl k e
    have hO := lt_of_get e
    have hk := k.1
    have hll : p.length + cur.length + r.length + 1 = s.length := by rw [← hd]; simp; omega
    have hlt : decide (((p.length + cur.length : Nat) : Int) < ((B s).size : Int)) = true := decide_eq_true (by omega)
    cases m with
    | zero =>
      have hmt : decide ((os.length : Int) < mi) = false := decide_eq_false (by omega)
      have hc : strCut (B s) (p.length : Int) ((B s).size : Int) = some (B (cur ++ b :: r)) := by rw [cut_from' s _ (by omega), ← hd, List.drop_left' rfl]
      refine okr_code Tryd.func30 rfl rfl ?_
      rw [cutG]
      simp (dsimp := false) (disch := (first | (refine dS ?_; kernel_rfl) | (refine dM ?_; kernel_rfl) | (refine dO ?_; simp (disch := ((try simp only [ZL]) <;> omega)) only [ZK, ZL]; done) | (refine dK ?_; (repeat first | exact Keep.refl _ _ | exact Keep.app _ _ (Nat.le_refl _) | assumption | refine Keep.ap ?_ | refine Keep.st (by first | omega | (simp only [ZL]; omega)) ?_); done) | ((try simp only [ZL]) <;> omega) | fail)) only [XOB, ↓XXs, ↓XD, ↓YX, ZB, Nat.reduceAdd, Nat.reducePow, ↓reduceIte, eq_self, Int.reduceEq, Nat.reduceEqDiff, Nat.reduceMul, Nat.reduceLeDiff, Int.reduceBEq, Int.reduceLT, Tryd.f30, ↓XH2, XRN, ZC, ZE, ZH, eq_self, Nat.reduceLeDiff, Nat.reduceBEq, slV_new, reduceIte, ↓op_extract, tupAt_mk, lenV_sl, Bool.not_true, Bool.not_false, hlt, hmt, hc]
      refine okr_opt (Sl.app3 (os := os) (cur ++ b :: r) (by simp (disch := (first | (refine dS ?_; kernel_rfl) | (refine dM ?_; kernel_rfl) | (refine dO ?_; simp (disch := ((try simp only [ZL]) <;> omega)) only [ZK, ZL]; done) | (refine dK ?_; (repeat first | exact Keep.refl _ _ | exact Keep.app _ _ (Nat.le_refl _) | assumption | refine Keep.ap ?_ | refine Keep.st (by first | omega | (simp only [ZL]; omega)) ?_); done) | ((try simp only [ZL]) <;> omega) | fail)) only [↓XH2, XRN, ZC, ZE, ZH, eq_self, Nat.reduceLeDiff, Nat.reduceBEq, e]) (by simp (disch := (first | (refine dS ?_; kernel_rfl) | (refine dM ?_; kernel_rfl) | (refine dO ?_; simp (disch := ((try simp only [ZL]) <;> omega)) only [ZK, ZL]; done) | (refine dK ?_; (repeat first | exact Keep.refl _ _ | exact Keep.app _ _ (Nat.le_refl _) | assumption | refine Keep.ap ?_ | refine Keep.st (by first | omega | (simp only [ZL]; omega)) ?_); done) | ((try simp only [ZL]) <;> omega) | fail)) only [↓XH2, XRN, ZC, ZE, ZH, eq_self, Nat.reduceLeDiff, Nat.reduceBEq] <;> rfl) rfl rfl (by omega) (by omega) rfl) ?_
      rintro _ ⟨g4, rfl⟩
      simp (dsimp := false) (disch := (first | (refine dS ?_; kernel_rfl) | (refine dM ?_; kernel_rfl) | (refine dO ?_; simp (disch := ((try simp only [ZL]) <;> omega)) only [ZK, ZL]; done) | (refine dK ?_; (repeat first | exact Keep.refl _ _ | exact Keep.app _ _ (Nat.le_refl _) | assumption | refine Keep.ap ?_ | refine Keep.st (by first | omega | (simp only [ZL]; omega)) ?_); done) | ((try simp only [ZL]) <;> omega) | fail)) only [XOB, ↓XXs, ↓XD, ↓YX, ZB, Nat.reduceAdd, Nat.reducePow, ↓reduceIte, eq_self, Int.reduceEq, Nat.reduceEqDiff, Nat.reduceMul, Nat.reduceLeDiff, Int.reduceBEq, Int.reduceLT, Tryd.f30, ↓XH2, XRN, ZC, ZE, ZH, eq_self, Nat.reduceLeDiff, Nat.reduceBEq, slV_new, reduceIte, ↓op_extract, tupAt_mk, lenV_sl, Bool.not_true, Bool.not_false, hlt, hmt, hc]
      with_reducible refine Okr.ret ?_
      exact ⟨iO, g4, by simp, by simp (disch := (first | (refine dS ?_; kernel_rfl) | (refine dM ?_; kernel_rfl) | (refine dO ?_; simp (disch := ((try simp only [ZL]) <;> omega)) only [ZK, ZL]; done) | (refine dK ?_; (repeat first | exact Keep.refl _ _ | exact Keep.app _ _ (Nat.le_refl _) | assumption | refine Keep.ap ?_ | refine Keep.st (by first | omega | (simp only [ZL]; omega)) ?_); done) | ((try simp only [ZL]) <;> omega) | fail)) only [↓XH2, XRN, ZC, ZE, ZH, eq_self, Nat.reduceLeDiff, Nat.reduceBEq], hi0, k.trans ((Keep.set h iO _ hi0).trans (Keep.app _ _ (by simp; omega)))⟩
    | succ m =>
      have hmt : decide ((os.length : Int) < mi) = true := decide_eq_true (by omega)
      have hat : strAt (B s) ((p.length + cur.length : Nat) : Int) = some (b.toNat : Int) := by
        have := strAt_mid (p ++ cur) b r
        rw [List.append_assoc, hd, List.length_append] at this
        exact this
      have hw : IntKind.i64.wrap (((p.length + cur.length : Nat) : Int) + 1) = ((p.length + cur.length + 1 : Nat) : Int) := natCast_succ_wrap (by omega) rfl
      refine okr_code Tryd.func30 rfl rfl ?_
      by_cases hb : b = c
      · subst hb
        have hbb : ((b.toNat : Int) == (b.toNat : Int)) = true := by simp
        have hc : strCut (B s) (p.length : Int) ((p.length + cur.length : Nat) : Int) = some (B cur) := by rw [← hd]; exact cutS_mid p cur (b :: r)
        rw [cutG, if_pos rfl]
        simp (dsimp := false) (disch := (first | (refine dS ?_; kernel_rfl) | (refine dM ?_; kernel_rfl) | (refine dO ?_; simp (disch := ((try simp only [ZL]) <;> omega)) only [ZK, ZL]; done) | (refine dK ?_; (repeat first | exact Keep.refl _ _ | exact Keep.app _ _ (Nat.le_refl _) | assumption | refine Keep.ap ?_ | refine Keep.st (by first | omega | (simp only [ZL]; omega)) ?_); done) | ((try simp only [ZL]) <;> omega) | fail)) only [XOB, ↓XXs, ↓XD, ↓YX, ZB, Nat.reduceAdd, Nat.reducePow, ↓reduceIte, eq_self, Int.reduceEq, Nat.reduceEqDiff, Nat.reduceMul, Nat.reduceLeDiff, Int.reduceBEq, Int.reduceLT, Tryd.f30, ↓XH2, XRN, ZC, ZE, ZH, eq_self, Nat.reduceLeDiff, Nat.reduceBEq, slV_new, reduceIte, ↓op_extract, tupAt_mk, lenV_sl, Bool.not_true, Bool.not_false, hlt, hmt, hat, hw, hbb, hc]
        refine okr_opt (Sl.app3 (os := os) cur (by simp (disch := (first | (refine dS ?_; kernel_rfl) | (refine dM ?_; kernel_rfl) | (refine dO ?_; simp (disch := ((try simp only [ZL]) <;> omega)) only [ZK, ZL]; done) | (refine dK ?_; (repeat first | exact Keep.refl _ _ | exact Keep.app _ _ (Nat.le_refl _) | assumption | refine Keep.ap ?_ | refine Keep.st (by first | omega | (simp only [ZL]; omega)) ?_); done) | ((try simp only [ZL]) <;> omega) | fail)) only [↓XH2, XRN, ZC, ZE, ZH, eq_self, Nat.reduceLeDiff, Nat.reduceBEq, e]) (by simp (disch := (first | (refine dS ?_; kernel_rfl) | (refine dM ?_; kernel_rfl) | (refine dO ?_; simp (disch := ((try simp only [ZL]) <;> omega)) only [ZK, ZL]; done) | (refine dK ?_; (repeat first | exact Keep.refl _ _ | exact Keep.app _ _ (Nat.le_refl _) | assumption | refine Keep.ap ?_ | refine Keep.st (by first | omega | (simp only [ZL]; omega)) ?_); done) | ((try simp only [ZL]) <;> omega) | fail)) only [↓XH2, XRN, ZC, ZE, ZH, eq_self, Nat.reduceLeDiff, Nat.reduceBEq] <;> rfl) rfl rfl (by omega) (by omega) rfl) ?_
        rintro _ ⟨g4, rfl⟩
        simp (dsimp := false) (disch := (first | (refine dS ?_; kernel_rfl) | (refine dM ?_; kernel_rfl) | (refine dO ?_; simp (disch := ((try simp only [ZL]) <;> omega)) only [ZK, ZL]; done) | (refine dK ?_; (repeat first | exact Keep.refl _ _ | exact Keep.app _ _ (Nat.le_refl _) | assumption | refine Keep.ap ?_ | refine Keep.st (by first | omega | (simp only [ZL]; omega)) ?_); done) | ((try simp only [ZL]) <;> omega) | fail)) only [XOB, ↓XXs, ↓XD, ↓YX, ZB, Nat.reduceAdd, Nat.reducePow, ↓reduceIte, eq_self, Int.reduceEq, Nat.reduceEqDiff, Nat.reduceMul, Nat.reduceLeDiff, Int.reduceBEq, Int.reduceLT, Tryd.f30, ↓XH2, XRN, ZC, ZE, ZH, eq_self, Nat.reduceLeDiff, Nat.reduceBEq, slV_new, reduceIte, ↓op_extract, tupAt_mk, lenV_sl, Bool.not_true, Bool.not_false, hlt, hmt, hat, hw, hbb, hc]
        have key := ih [] (p ++ (cur ++ [b])) m (os ++ [cur]) _ _ _ g4 (h.set iO (.row g4 1 (sL (os ++ [cur]))) ++ [AObj.row 0 1 [sV cur]]) (by rw [← hd]; simp) (by simp; omega) rfl rfl rfl (k.trans ((Keep.set h iO _ hi0).trans (Keep.app _ _ (by simp; omega)))) (by simp (disch := (first | (refine dS ?_; kernel_rfl) | (refine dM ?_; kernel_rfl) | (refine dO ?_; simp (disch := ((try simp only [ZL]) <;> omega)) only [ZK, ZL]; done) | (refine dK ?_; (repeat first | exact Keep.refl _ _ | exact Keep.app _ _ (Nat.le_refl _) | assumption | refine Keep.ap ?_ | refine Keep.st (by first | omega | (simp only [ZL]; omega)) ?_); done) | ((try simp only [ZL]) <;> omega) | fail)) only [↓XH2, XRN, ZC, ZE, ZH, eq_self, Nat.reduceLeDiff, Nat.reduceBEq])
        simp only [List.length_append, List.length_cons, List.length_nil, Nat.zero_add, Nat.add_zero, List.append_assoc, List.cons_append, List.nil_append, ← Nat.add_assoc] at key ⊢
        exact key
      · have hbb : ((b.toNat : Int) == (c.toNat : Int)) = false := by
          rw [beq_eq_false_iff_ne]
          intro q
          exact hb (UInt8.toNat_inj.1 (by omega))
        rw [cutG, if_neg hb]
        simp (dsimp := false) (disch := (first | (refine dS ?_; kernel_rfl) | (refine dM ?_; kernel_rfl) | (refine dO ?_; simp (disch := ((try simp only [ZL]) <;> omega)) only [ZK, ZL]; done) | (refine dK ?_; (repeat first | exact Keep.refl _ _ | exact Keep.app _ _ (Nat.le_refl _) | assumption | refine Keep.ap ?_ | refine Keep.st (by first | omega | (simp only [ZL]; omega)) ?_); done) | ((try simp only [ZL]) <;> omega) | fail)) only [XOB, ↓XXs, ↓XD, ↓YX, ZB, Nat.reduceAdd, Nat.reducePow, ↓reduceIte, eq_self, Int.reduceEq, Nat.reduceEqDiff, Nat.reduceMul, Nat.reduceLeDiff, Int.reduceBEq, Int.reduceLT, Tryd.f30, ↓XH2, XRN, ZC, ZE, ZH, eq_self, Nat.reduceLeDiff, Nat.reduceBEq, slV_new, reduceIte, ↓op_extract, tupAt_mk, lenV_sl, Bool.not_true, Bool.not_false, hlt, hmt, hat, hw, hbb]
        exact ih (cur ++ [b]) p (m + 1) os _ _ _ gO h (by rw [← hd]; simp) hm rfl (by simp <;> omega) rfl k e
theorem r30 (s : Bs) (c : UInt8) (hs : s.length ≤ 2 ^ 30) (mo : Nat) (mi : Int) (hmi : mi = mo) (hmo : mo ≤ 2 ^ 30) (l : Nat) (h : AH) (hl : l ≤ h.length) : Okr (CuQ h (cutG c mo [] s)) (run V0 (.fn 30) l [S (sV s), S (.int .u8 c.toNat), S (iV mi)] h) := by
  refine okr_fn Tryd.func30 rfl rfl rfl rfl ?_
  simp (dsimp := false) (disch := (first | (refine dS ?_; kernel_rfl) | (refine dM ?_; kernel_rfl) | (refine dO ?_; simp (disch := ((try simp only [ZL]) <;> omega)) only [ZK, ZL]; done) | (refine dK ?_; (repeat first | exact Keep.refl _ _ | exact Keep.app _ _ (Nat.le_refl _) | assumption | refine Keep.ap ?_ | refine Keep.st (by first | omega | (simp only [ZL]; omega)) ?_); done) | ((try simp only [ZL]) <;> omega) | fail)) only [XOB, ↓XXs, ↓XD, ↓YX, ZB, Nat.reduceAdd, Nat.reducePow, ↓reduceIte, eq_self, Int.reduceEq, Nat.reduceEqDiff, Nat.reduceMul, Nat.reduceLeDiff, Int.reduceBEq, Int.reduceLT, Tryd.f30, ↓XH2, XRN, ZC, ZE, ZH, eq_self, Nat.reduceLeDiff, Nat.reduceBEq, slV_new, reduceIte, ↓op_extract, tupAt_mk, lenV_sl, Bool.not_true, Bool.not_false]
  have := L30 s c hs mo mi hmi hmo l h.length h hl (Nat.le_refl _) s [] [] mo [] 0 0 0 0 _ (by simp) (by simp) rfl rfl rfl (Keep.app h [AObj.row 0 1 []] (Nat.le_refl _)) (by simp; rfl)
  rw [List.nil_append] at this
  exact this
theorem r52 (s : Bs) (l : Nat) (h : AH) : run V0 (.fn 52) l [S (sV s)] h = some (.ret (sV (notA s)) h) := by
  have b1 := decB s [42]
  refine run_fn Tryd.func52 rfl rfl rfl rfl ?_
  unfold notA
  by_cases q : s = [42]
  · rw [decide_eq_true q] at b1
    simp only [↓XX, ↓XD, ↓YX, ZB, Nat.reduceAdd, Nat.reducePow, ↓reduceIte, eq_self, Int.reduceEq, Nat.reduceEqDiff, Nat.reduceMul, Nat.reduceLeDiff, Tryd.f52, b1, if_pos q]
  · rw [decide_eq_false q] at b1
    simp only [↓XX, ↓XD, ↓YX, ZB, Nat.reduceAdd, Nat.reducePow, ↓reduceIte, eq_self, Int.reduceEq, Nat.reduceEqDiff, Nat.reduceMul, Nat.reduceLeDiff, Tryd.f52, b1, if_neg q]
theorem L53 (id g n l : Nat) (w : Bs) (h : AH) (hn : n ≤ 2 ^ 40) : ∀ (r d : List Bs), d.length + r.length = n → h[id]? = some (.row g 1 (sL (d ++ r))) →
    L53_0 l (slV id g n n) (sV w) (iV d.length) h = some (.ret (iV (ixN w r d.length)) h) := by
  intro r
  induction r with
  | nil =>
    intro d hk e
    simp only [List.length_nil, Nat.add_zero] at hk
    have hlt : decide ((d.length : Int) < (n : Int)) = false := by rw [decide_eq_false_iff_not]; omega
    refine run_code Tryd.func53 rfl rfl ?_
    simp only [↓XX, ↓XD, ↓YX, ZB, Nat.reduceAdd, Nat.reducePow, ↓reduceIte, eq_self, Int.reduceEq, Nat.reduceEqDiff, Nat.reduceMul, Nat.reduceLeDiff, Tryd.f53, hlt, ixN, lenV]
  | cons x r ih =>
    intro d hk e
    simp only [List.length_cons] at hk
    have hlt : decide ((d.length : Int) < (n : Int)) = true := by rw [decide_eq_true_iff]; omega
    have hix : ixAddr (slV id g n n) (d.length : Int) 1 = some (pV id d.length g) := by rw [ixAddr_sl (by omega)]; simp
    have hld : ld h (pV id d.length g) = some (sV x) := ld_of e (by rw [sL_get])
    have hw : IntKind.i64.wrap ((d.length : Int) + 1) = (((d ++ [x]).length : Nat) : Int) := natCast_succ_wrap (by omega) (by simp)
    have b1 : decide (B x = B w) = decide (x = w) := decB x w
    have i1 := ih (d ++ [x]) (by simp; omega) (by rw [e]; simp)
    refine run_code Tryd.func53 rfl rfl ?_
    by_cases q : w = x
    · rw [decide_eq_true q.symm] at b1
      simp only [↓XX, ↓XD, ↓YX, ZB, Nat.reduceAdd, Nat.reducePow, ↓reduceIte, eq_self, Int.reduceEq, Nat.reduceEqDiff, Nat.reduceMul, Nat.reduceLeDiff, Tryd.f53, hlt, hix, hld, b1, hw, lenV]
      simp [ixN, q]
    · rw [decide_eq_false (show ¬ x = w from fun z => q z.symm)] at b1
      simp only [↓XX, ↓XD, ↓YX, ZB, Nat.reduceAdd, Nat.reducePow, ↓reduceIte, eq_self, Int.reduceEq, Nat.reduceEqDiff, Nat.reduceMul, Nat.reduceLeDiff, Tryd.f53, hlt, hix, hld, b1, hw, lenV]
      rw [i1]; simp [ixN, q]
theorem r53 (id l : Nat) (w : Bs) (h : AH) (e : h[id]? = some (.row 0 1 (sL kindsL))) :
    run V0 (.fn 53) l [S (slV id 0 7 7), S (sV w)] h = some (.ret (iV (ixN w kindsL 0)) h) := by
  refine run_fn Tryd.func53 rfl rfl rfl rfl ?_
  simp only [↓XX, ↓XD, ↓YX, ZB, Nat.reduceAdd, Nat.reducePow, ↓reduceIte, eq_self, Int.reduceEq, Nat.reduceEqDiff, Nat.reduceMul, Nat.reduceLeDiff, Tryd.f53, lenV]
  exact L53 id 0 7 l w h (by decide) kindsL [] rfl e
/-- what spec.l17Get leaves -/
def GlQ (H0 : AH) (x : Bs) (v : Value) (h' : AH) : Prop := Keep H0.length H0 h' ∧ ∃ (u : Ru) (b : Bool), v = .tuple ⟨[u.V, .bool b]⟩ ∧ u.Fit20 ∧ getL x = if b then some u else none
theorem r31 (x : Bs) (hx : x.length ≤ 2 ^ 20) (l : Nat) (h : AH) (hl : l ≤ h.length) : Okr (GlQ h x) (run V0 (.fn 31) l [S (sV x)] h) := by
  refine okr_fn Tryd.func31 rfl rfl rfl rfl ?_
  simp (dsimp := false) (disch := (first | (refine dS ?_; kernel_rfl) | (refine dM ?_; kernel_rfl) | (refine dO ?_; simp (disch := ((try simp only [ZL]) <;> omega)) only [ZK, ZL]; done) | (refine dK ?_; (repeat first | exact Keep.refl _ _ | exact Keep.app _ _ (Nat.le_refl _) | assumption | refine Keep.ap ?_ | refine Keep.st (by first | omega | (simp only [ZL]; omega)) ?_); done) | ((try simp only [ZL]) <;> omega) | fail)) only [XOB, ↓XXs, ↓XD, ↓YX, ZB, Nat.reduceAdd, Nat.reducePow, ↓reduceIte, eq_self, Int.reduceEq, Nat.reduceEqDiff, Nat.reduceMul, Nat.reduceLeDiff, Int.reduceBEq, Int.reduceLT, Tryd.f31, ↓XH2, XRN, ZC, ZE, ZH, eq_self, Nat.reduceLeDiff, Nat.reduceBEq, slV_new, reduceIte, ↓op_extract, tupAt_mk, lenV_sl, Bool.not_true, Bool.not_false]
  refine okr_call (r30 x 32 (by omega) 4 4 rfl (by omega) l _ (by simp; omega)) ?_
  rintro _ h1 ⟨iw, gw, rfl, e1, hw, k0⟩
  have k1 : Keep h.length h h1 := (Keep.app h _ (Nat.le_refl _)).trans (k0.le (by simp))
  have e0 : h1[h.length]? = some (.row 0 4 (Ru.C ⟨false, [], [], 0⟩)) := k0.get (by simp (disch := (first | (refine dS ?_; kernel_rfl) | (refine dM ?_; kernel_rfl) | (refine dO ?_; simp (disch := ((try simp only [ZL]) <;> omega)) only [ZK, ZL]; done) | (refine dK ?_; (repeat first | exact Keep.refl _ _ | exact Keep.app _ _ (Nat.le_refl _) | assumption | refine Keep.ap ?_ | refine Keep.st (by first | omega | (simp only [ZL]; omega)) ?_); done) | ((try simp only [ZL]) <;> omega) | fail)) only [↓XH2, XRN, ZC, ZE, ZH, eq_self, Nat.reduceLeDiff, Nat.reduceBEq] <;> rfl) (by simp)
  have hr1 := lt_of_get e0
  have hk1 := k1.1
  have hw1 := lt_of_get e1
  have hel := cutG_each 32 x [] 4
  have hgl : getL x = match ruOf (cutG 32 4 [] x) with
    | some u => if ruOk u = true ∧ ruText u = x ++ [10] then some u else none
    | none => none := rfl
  generalize hcw : cutG 32 4 [] x = w at *
  by_cases h4 : w.length = 4
  · obtain ⟨a, b, c, d, rfl⟩ : ∃ a b c d, w = [a, b, c, d] := by
      match w, h4 with
      | [a, b, c, d], _ => exact ⟨a, b, c, d, rfl⟩
    have hb := hel b (by simp)
    have hc := hel c (by simp)
    simp only [List.length_nil, Nat.zero_add] at hb hc
    have fx := mk_fit (a := a) (d := d) hb hc hx
    have h44 : (((4 : Nat) : Int) != 4) = false := rfl
    have a3 := fun l h => r52 b l h
    have a4 := fun l h => r52 c l h
    have a5 := fun l h => r52 d l h
    have bq := decB a [113, 117, 105, 101, 116]
    have hx0 : ixAddr (slV iw gw 4 4) 0 1 = some (pV iw 0 gw) := rfl
    have hx1 : ixAddr (slV iw gw 4 4) 1 1 = some (pV iw 1 gw) := rfl
    have hx2 : ixAddr (slV iw gw 4 4) 2 1 = some (pV iw 2 gw) := rfl
    have hx3 : ixAddr (slV iw gw 4 4) 3 1 = some (pV iw 3 gw) := rfl
    have hs : sL [a, b, c, d] = [sV a, sV b, sV c, sV d] := rfl
    rw [hs] at e1
    have a6 := fun l h => r48 l h
    have a7 := fun l => r53 h1.length l (notA d) (h1 ++ [AObj.row 0 1 (sL kindsL)]) (by simp (disch := (first | (refine dS ?_; kernel_rfl) | (refine dM ?_; kernel_rfl) | (refine dO ?_; simp (disch := ((try simp only [ZL]) <;> omega)) only [ZK, ZL]; done) | (refine dK ?_; (repeat first | exact Keep.refl _ _ | exact Keep.app _ _ (Nat.le_refl _) | assumption | refine Keep.ap ?_ | refine Keep.st (by first | omega | (simp only [ZL]; omega)) ?_); done) | ((try simp only [ZL]) <;> omega) | fail)) only [↓XH2, XRN, ZC, ZE, ZH, eq_self, Nat.reduceLeDiff, Nat.reduceBEq])
    generalize hu : mkRu a b c d = u at *
    have hq : decide (a = [113, 117, 105, 101, 116]) = u.quiet := by rw [← hu]; rfl
    have hrm : notA b = u.room := by rw [← hu]; rfl
    have hus : notA c = u.user := by rw [← hu]; rfl
    have hkd : ixN (notA d) kindsL 0 = u.kind := by rw [← hu]; rfl
    rw [hkd] at a7
    have a8 : ∀ l h, run V0 (.fn 46) l [S (.agg #[.bool u.quiet, sV u.room, sV u.user, iV u.kind])] h = _ := fun l h => r46 u fx.fit l h
    have a9 : KOk u → ∀ l h, run V0 (.fn 23) l [S (.agg #[.bool u.quiet, sV u.room, sV u.user, iV u.kind])] h = _ := fun q l h => r23 u fx q l h
    have br := decB (ruText u) (x ++ [10])
    have hcat : catA (B x) (B [10]) = some (B (x ++ [10])) := cat_of rfl (by simp; omega)
    have hgu : ruOf [a, b, c, d] = some u := by rw [← hu]; rfl
    rw [hgu] at hgl
    simp only at hgl
    simp only [List.length_cons, List.length_nil, Nat.zero_add, Nat.reduceAdd]
    simp (dsimp := false) (disch := (first | (refine dS ?_; kernel_rfl) | (refine dM ?_; kernel_rfl) | (refine dO ?_; simp (disch := ((try simp only [ZL]) <;> omega)) only [ZK, ZL]; done) | (refine dK ?_; (repeat first | exact Keep.refl _ _ | exact Keep.app _ _ (Nat.le_refl _) | assumption | refine Keep.ap ?_ | refine Keep.st (by first | omega | (simp only [ZL]; omega)) ?_); done) | ((try simp only [ZL]) <;> omega) | fail)) only [XOB, ↓XXs, ↓XD, ↓YX, ZB, Nat.reduceAdd, Nat.reducePow, ↓reduceIte, eq_self, Int.reduceEq, Nat.reduceEqDiff, Nat.reduceMul, Nat.reduceLeDiff, Int.reduceBEq, Int.reduceLT, Tryd.f31, ↓XH2, XRN, ZC, ZE, ZH, eq_self, Nat.reduceLeDiff, Nat.reduceBEq, slV_new, reduceIte, ↓op_extract, tupAt_mk, lenV_sl, Bool.not_true, Bool.not_false, h44, e1, hx0, hx1, hx2, hx3, a3, a4, a5, a6, a7, bq, hw1, hq, hrm, hus]
    have kk : ∀ os : AH, Keep h.length h (h1 ++ os) := fun os => k1.trans (Keep.app _ _ (by omega))
    have kx : ∀ (os : AH) (o : AObj), Keep h.length h (h1.set h.length o ++ os) := fun os o => k1.trans ((Keep.set _ _ _ (by omega)).trans (Keep.app _ _ (by simp; omega)))
    cases hok : ruOk u with
    | false =>
      rw [hok] at a8 hgl
      simp (dsimp := false) (disch := (first | (refine dS ?_; kernel_rfl) | (refine dM ?_; kernel_rfl) | (refine dO ?_; simp (disch := ((try simp only [ZL]) <;> omega)) only [ZK, ZL]; done) | (refine dK ?_; (repeat first | exact Keep.refl _ _ | exact Keep.app _ _ (Nat.le_refl _) | assumption | refine Keep.ap ?_ | refine Keep.st (by first | omega | (simp only [ZL]; omega)) ?_); done) | ((try simp only [ZL]) <;> omega) | fail)) only [XOB, ↓XXs, ↓XD, ↓YX, ZB, Nat.reduceAdd, Nat.reducePow, ↓reduceIte, eq_self, Int.reduceEq, Nat.reduceEqDiff, Nat.reduceMul, Nat.reduceLeDiff, Int.reduceBEq, Int.reduceLT, Tryd.f31, ↓XH2, XRN, ZC, ZE, ZH, eq_self, Nat.reduceLeDiff, Nat.reduceBEq, slV_new, reduceIte, ↓op_extract, tupAt_mk, lenV_sl, Bool.not_true, Bool.not_false, a8, e0, hr1]
      with_reducible refine Okr.ret ?_
      refine ⟨?_, u, false, rfl, fx, by rw [hgl, if_neg (by simp)]; rfl⟩
      first | exact kk _ | exact kx _ _
    | true =>
      rw [hok] at a8 hgl
      have a10 := a9 (KOk_of hok)
      cases hbt : decide (ruText u = x ++ [10]) with
      | false =>
        rw [hbt] at br
        simp (dsimp := false) (disch := (first | (refine dS ?_; kernel_rfl) | (refine dM ?_; kernel_rfl) | (refine dO ?_; simp (disch := ((try simp only [ZL]) <;> omega)) only [ZK, ZL]; done) | (refine dK ?_; (repeat first | exact Keep.refl _ _ | exact Keep.app _ _ (Nat.le_refl _) | assumption | refine Keep.ap ?_ | refine Keep.st (by first | omega | (simp only [ZL]; omega)) ?_); done) | ((try simp only [ZL]) <;> omega) | fail)) only [XOB, ↓XXs, ↓XD, ↓YX, ZB, Nat.reduceAdd, Nat.reducePow, ↓reduceIte, eq_self, Int.reduceEq, Nat.reduceEqDiff, Nat.reduceMul, Nat.reduceLeDiff, Int.reduceBEq, Int.reduceLT, Tryd.f31, ↓XH2, XRN, ZC, ZE, ZH, eq_self, Nat.reduceLeDiff, Nat.reduceBEq, slV_new, reduceIte, ↓op_extract, tupAt_mk, lenV_sl, Bool.not_true, Bool.not_false, a8, a10, hcat, br, e0, hr1]
        with_reducible refine Okr.ret ?_
        refine ⟨?_, u, false, rfl, fx, by rw [hgl, if_neg (fun z => of_decide_eq_false hbt z.2)]; rfl⟩
        first | exact kk _ | exact kx _ _
      | true =>
        rw [hbt] at br
        simp (dsimp := false) (disch := (first | (refine dS ?_; kernel_rfl) | (refine dM ?_; kernel_rfl) | (refine dO ?_; simp (disch := ((try simp only [ZL]) <;> omega)) only [ZK, ZL]; done) | (refine dK ?_; (repeat first | exact Keep.refl _ _ | exact Keep.app _ _ (Nat.le_refl _) | assumption | refine Keep.ap ?_ | refine Keep.st (by first | omega | (simp only [ZL]; omega)) ?_); done) | ((try simp only [ZL]) <;> omega) | fail)) only [XOB, ↓XXs, ↓XD, ↓YX, ZB, Nat.reduceAdd, Nat.reducePow, ↓reduceIte, eq_self, Int.reduceEq, Nat.reduceEqDiff, Nat.reduceMul, Nat.reduceLeDiff, Int.reduceBEq, Int.reduceLT, Tryd.f31, ↓XH2, XRN, ZC, ZE, ZH, eq_self, Nat.reduceLeDiff, Nat.reduceBEq, slV_new, reduceIte, ↓op_extract, tupAt_mk, lenV_sl, Bool.not_true, Bool.not_false, a8, a10, hcat, br, e0, hr1]
        with_reducible refine Okr.ret ?_
        refine ⟨?_, u, true, rfl, fx, by rw [hgl, if_pos ⟨rfl, of_decide_eq_true hbt⟩]; rfl⟩
        first | exact kk _ | exact kx _ _
  · have h44 : ((w.length : Int) != 4) = true := by rw [bne_iff_ne]; omega
    simp (dsimp := false) (disch := (first | (refine dS ?_; kernel_rfl) | (refine dM ?_; kernel_rfl) | (refine dO ?_; simp (disch := ((try simp only [ZL]) <;> omega)) only [ZK, ZL]; done) | (refine dK ?_; (repeat first | exact Keep.refl _ _ | exact Keep.app _ _ (Nat.le_refl _) | assumption | refine Keep.ap ?_ | refine Keep.st (by first | omega | (simp only [ZL]; omega)) ?_); done) | ((try simp only [ZL]) <;> omega) | fail)) only [XOB, ↓XXs, ↓XD, ↓YX, ZB, Nat.reduceAdd, Nat.reducePow, ↓reduceIte, eq_self, Int.reduceEq, Nat.reduceEqDiff, Nat.reduceMul, Nat.reduceLeDiff, Int.reduceBEq, Int.reduceLT, Tryd.f31, ↓XH2, XRN, ZC, ZE, ZH, eq_self, Nat.reduceLeDiff, Nat.reduceBEq, slV_new, reduceIte, ↓op_extract, tupAt_mk, lenV_sl, Bool.not_true, Bool.not_false, h44, e0]
    with_reducible refine Okr.ret ?_
    refine ⟨k1.trans (Keep.set _ _ _ (by omega)), ⟨false, [], [], 0⟩, false, rfl, ⟨by simp, by simp⟩, ?_⟩
    rw [hgl]
    have : ruOf w = none := by
      unfold ruOf
      split
      · simp at h4
      · rfl
    rw [this]; rfl
/-- what spec.RulesGet leaves -/
def SrQ (H0 : AH) (o : Option (List Ru)) (v : Value) (h' : AH) : Prop :=
  Keep H0.length H0 h' ∧ ((∃ L i g, o = some L ∧ v = .tuple ⟨[slV i g L.length L.length, .bool true]⟩ ∧ h'[i]? = some (.row g 4 (Ru.R L)) ∧ H0.length ≤ i) ∨ (o = none ∧ v = .tuple ⟨[.slice none 0 0, .bool false]⟩))
theorem L11 (l : Nat) (H0 : AH) (hl : l ≤ H0.length) (xs : List Bs) (hxs : xs.length ≤ 2 ^ 21) (hel : ∀ x ∈ xs, x.length ≤ 2 ^ 20) (iw gw nw iO : Nat) (hnw : nw = xs.length) (hiO : H0.length ≤ iO) (hne : ¬ iw = iO) (hiw : H0.length ≤ iw) :
    ∀ (r d : List Bs) (os : List Ru) (i : Int) (gO no : Nat) (h : AH), d ++ r = xs → os.length = d.length → i = d.length → no = os.length → Keep H0.length H0 h → h[iw]? = some (.row gw 1 (sL xs)) → h[iO]? = some (.row gO 4 (Ru.R os)) →
      Okr (SrQ H0 (getAll r os)) (L11_0 l (slV iO gO no no) (slV iw gw nw nw) (iV i) h) := by
  subst hnw
  intro r
  induction r with
  | nil =>
    rintro d os i gO no h hd hos rfl rfl k ew eO
    rw [List.append_nil] at hd
    subst hd
    have hlt : decide ((d.length : Int) < (d.length : Int)) = false := decide_eq_false (by omega)
    refine okr_code Tryd.func11 rfl rfl ?_
    simp (dsimp := false) (disch := (first | (refine dS ?_; kernel_rfl) | (refine dM ?_; kernel_rfl) | (refine dO ?_; simp (disch := ((try simp only [ZL]) <;> omega)) only [ZK, ZL]; done) | (refine dK ?_; (repeat first | exact Keep.refl _ _ | exact Keep.app _ _ (Nat.le_refl _) | assumption | refine Keep.ap ?_ | refine Keep.st (by first | omega | (simp only [ZL]; omega)) ?_); done) | ((try simp only [ZL]) <;> omega) | fail)) only [XOB, ↓XXs, ↓XD, ↓YX, ZB, Nat.reduceAdd, Nat.reducePow, ↓reduceIte, eq_self, Int.reduceEq, Nat.reduceEqDiff, Nat.reduceMul, Nat.reduceLeDiff, Int.reduceBEq, Int.reduceLT, Tryd.f11, ↓XH2, XRN, ZC, ZE, ZH, eq_self, Nat.reduceLeDiff, Nat.reduceBEq, slV_new, reduceIte, ↓op_extract, tupAt_mk, lenV_sl, Bool.not_true, Bool.not_false, hlt]
    with_reducible refine Okr.ret ?_
    exact ⟨k, .inl ⟨os, iO, gO, rfl, rfl, eO, hiO⟩⟩
  | cons x r ih =>
    rintro d os i gO no h hd hos rfl rfl k ew eO
    have hk := k.1
    have hll : d.length + r.length + 1 = xs.length := by rw [← hd]; simp; omega
    have hlt : decide ((d.length : Int) < (xs.length : Int)) = true := decide_eq_true (by omega)
    have hix : ixAddr (slV iw gw xs.length xs.length) (d.length : Int) 1 = some (pV iw d.length gw) := by rw [ixAddr_sl (by omega)]; simp
    have hget : (sL xs)[d.length]? = some (sV x) := by rw [← hd, sL_get]
    have hw : IntKind.i64.wrap ((d.length : Int) + 1) = ((d.length + 1 : Nat) : Int) := natCast_succ_wrap (by omega) rfl
    have hx := hel x (by rw [← hd]; simp)
    have hlh : l ≤ h.length := by omega
    refine okr_code Tryd.func11 rfl rfl ?_
    simp (dsimp := false) (disch := (first | (refine dS ?_; kernel_rfl) | (refine dM ?_; kernel_rfl) | (refine dO ?_; simp (disch := ((try simp only [ZL]) <;> omega)) only [ZK, ZL]; done) | (refine dK ?_; (repeat first | exact Keep.refl _ _ | exact Keep.app _ _ (Nat.le_refl _) | assumption | refine Keep.ap ?_ | refine Keep.st (by first | omega | (simp only [ZL]; omega)) ?_); done) | ((try simp only [ZL]) <;> omega) | fail)) only [XOB, ↓XXs, ↓XD, ↓YX, ZB, Nat.reduceAdd, Nat.reducePow, ↓reduceIte, eq_self, Int.reduceEq, Nat.reduceEqDiff, Nat.reduceMul, Nat.reduceLeDiff, Int.reduceBEq, Int.reduceLT, Tryd.f11, ↓XH2, XRN, ZC, ZE, ZH, eq_self, Nat.reduceLeDiff, Nat.reduceBEq, slV_new, reduceIte, ↓op_extract, tupAt_mk, lenV_sl, Bool.not_true, Bool.not_false, hlt, hix, ew, hget]
    refine okr_call (r31 x hx l h hlh) ?_
    rintro _ h1 ⟨k1, u, b, rfl, fu, hgx⟩
    have hk1 := k1.1
    have ew1 := k1.get ew (lt_of_get ew)
    have eO1 := k1.get eO (lt_of_get eO)
    have hO1 := lt_of_get eO1
    have hlh1 : l ≤ h1.length := by omega
    have kk : Keep H0.length H0 h1 := k.trans (k1.le hk)
    rw [getAll, hgx]
    cases b with
    | false =>
      rw [if_neg (by simp)]
      simp (dsimp := false) (disch := (first | (refine dS ?_; kernel_rfl) | (refine dM ?_; kernel_rfl) | (refine dO ?_; simp (disch := ((try simp only [ZL]) <;> omega)) only [ZK, ZL]; done) | (refine dK ?_; (repeat first | exact Keep.refl _ _ | exact Keep.app _ _ (Nat.le_refl _) | assumption | refine Keep.ap ?_ | refine Keep.st (by first | omega | (simp only [ZL]; omega)) ?_); done) | ((try simp only [ZL]) <;> omega) | fail)) only [XOB, ↓XXs, ↓XD, ↓YX, ZB, Nat.reduceAdd, Nat.reducePow, ↓reduceIte, eq_self, Int.reduceEq, Nat.reduceEqDiff, Nat.reduceMul, Nat.reduceLeDiff, Int.reduceBEq, Int.reduceLT, Tryd.f11, ↓XH2, XRN, ZC, ZE, ZH, eq_self, Nat.reduceLeDiff, Nat.reduceBEq, slV_new, reduceIte, ↓op_extract, tupAt_mk, lenV_sl, Bool.not_true, Bool.not_false, hlh1]
      with_reducible refine Okr.ret ?_
      exact ⟨kk.trans (Keep.app _ _ (by omega)), .inr ⟨rfl, rfl⟩⟩
    | true =>
      rw [if_pos rfl]
      by_cases h8 : 8 ≤ os.length
      · have h88 : decide ((8 : Int) ≤ (d.length : Int)) = true := decide_eq_true (by omega)
        simp only
        rw [if_pos h8]
        simp (dsimp := false) (disch := (first | (refine dS ?_; kernel_rfl) | (refine dM ?_; kernel_rfl) | (refine dO ?_; simp (disch := ((try simp only [ZL]) <;> omega)) only [ZK, ZL]; done) | (refine dK ?_; (repeat first | exact Keep.refl _ _ | exact Keep.app _ _ (Nat.le_refl _) | assumption | refine Keep.ap ?_ | refine Keep.st (by first | omega | (simp only [ZL]; omega)) ?_); done) | ((try simp only [ZL]) <;> omega) | fail)) only [XOB, ↓XXs, ↓XD, ↓YX, ZB, Nat.reduceAdd, Nat.reducePow, ↓reduceIte, eq_self, Int.reduceEq, Nat.reduceEqDiff, Nat.reduceMul, Nat.reduceLeDiff, Int.reduceBEq, Int.reduceLT, Tryd.f11, ↓XH2, XRN, ZC, ZE, ZH, eq_self, Nat.reduceLeDiff, Nat.reduceBEq, slV_new, reduceIte, ↓op_extract, tupAt_mk, lenV_sl, Bool.not_true, Bool.not_false, hlh1, h88]
        with_reducible refine Okr.ret ?_
        exact ⟨kk.trans (Keep.app _ _ (by omega)), .inr ⟨rfl, rfl⟩⟩
      · have h88 : decide ((8 : Int) ≤ (d.length : Int)) = false := decide_eq_false (by omega)
        simp only
        rw [if_neg h8]
        simp (dsimp := false) (disch := (first | (refine dS ?_; kernel_rfl) | (refine dM ?_; kernel_rfl) | (refine dO ?_; simp (disch := ((try simp only [ZL]) <;> omega)) only [ZK, ZL]; done) | (refine dK ?_; (repeat first | exact Keep.refl _ _ | exact Keep.app _ _ (Nat.le_refl _) | assumption | refine Keep.ap ?_ | refine Keep.st (by first | omega | (simp only [ZL]; omega)) ?_); done) | ((try simp only [ZL]) <;> omega) | fail)) only [XOB, ↓XXs, ↓XD, ↓YX, ZB, Nat.reduceAdd, Nat.reducePow, ↓reduceIte, eq_self, Int.reduceEq, Nat.reduceEqDiff, Nat.reduceMul, Nat.reduceLeDiff, Int.reduceBEq, Int.reduceLT, Tryd.f11, ↓XH2, XRN, ZC, ZE, ZH, eq_self, Nat.reduceLeDiff, Nat.reduceBEq, slV_new, reduceIte, ↓op_extract, tupAt_mk, lenV_sl, Bool.not_true, Bool.not_false, hlh1, h88, hw]
        refine okr_opt (Ru.app3 (os := os) u (by simp (disch := (first | (refine dS ?_; kernel_rfl) | (refine dM ?_; kernel_rfl) | (refine dO ?_; simp (disch := ((try simp only [ZL]) <;> omega)) only [ZK, ZL]; done) | (refine dK ?_; (repeat first | exact Keep.refl _ _ | exact Keep.app _ _ (Nat.le_refl _) | assumption | refine Keep.ap ?_ | refine Keep.st (by first | omega | (simp only [ZL]; omega)) ?_); done) | ((try simp only [ZL]) <;> omega) | fail)) only [↓XH2, XRN, ZC, ZE, ZH, eq_self, Nat.reduceLeDiff, Nat.reduceBEq, eO1]) (by simp (disch := (first | (refine dS ?_; kernel_rfl) | (refine dM ?_; kernel_rfl) | (refine dO ?_; simp (disch := ((try simp only [ZL]) <;> omega)) only [ZK, ZL]; done) | (refine dK ?_; (repeat first | exact Keep.refl _ _ | exact Keep.app _ _ (Nat.le_refl _) | assumption | refine Keep.ap ?_ | refine Keep.st (by first | omega | (simp only [ZL]; omega)) ?_); done) | ((try simp only [ZL]) <;> omega) | fail)) only [↓XH2, XRN, ZC, ZE, ZH, eq_self, Nat.reduceLeDiff, Nat.reduceBEq] <;> rfl) rfl rfl (by omega) (by omega) rfl) ?_
        rintro _ ⟨g4, rfl⟩
        simp (dsimp := false) (disch := (first | (refine dS ?_; kernel_rfl) | (refine dM ?_; kernel_rfl) | (refine dO ?_; simp (disch := ((try simp only [ZL]) <;> omega)) only [ZK, ZL]; done) | (refine dK ?_; (repeat first | exact Keep.refl _ _ | exact Keep.app _ _ (Nat.le_refl _) | assumption | refine Keep.ap ?_ | refine Keep.st (by first | omega | (simp only [ZL]; omega)) ?_); done) | ((try simp only [ZL]) <;> omega) | fail)) only [XOB, ↓XXs, ↓XD, ↓YX, ZB, Nat.reduceAdd, Nat.reducePow, ↓reduceIte, eq_self, Int.reduceEq, Nat.reduceEqDiff, Nat.reduceMul, Nat.reduceLeDiff, Int.reduceBEq, Int.reduceLT, Tryd.f11, ↓XH2, XRN, ZC, ZE, ZH, eq_self, Nat.reduceLeDiff, Nat.reduceBEq, slV_new, reduceIte, ↓op_extract, tupAt_mk, lenV_sl, Bool.not_true, Bool.not_false, hlh1, h88, hw]
        have hO2 := lt_of_get eO1
        exact ih (d ++ [x]) (os ++ [u]) _ g4 _ _ (by rw [← hd]; simp) (by simp; omega) (by simp) (by simp) (kk.trans ((Keep.set h1 iO _ hiO).trans (Keep.app _ _ (by simp; omega)))) (by rw [List.getElem?_append_left (by simp; exact lt_of_get ew1), List.getElem?_set_ne (fun q => hne q.symm)]; exact ew1) (by simp (disch := (first | (refine dS ?_; kernel_rfl) | (refine dM ?_; kernel_rfl) | (refine dO ?_; simp (disch := ((try simp only [ZL]) <;> omega)) only [ZK, ZL]; done) | (refine dK ?_; (repeat first | exact Keep.refl _ _ | exact Keep.app _ _ (Nat.le_refl _) | assumption | refine Keep.ap ?_ | refine Keep.st (by first | omega | (simp only [ZL]; omega)) ?_); done) | ((try simp only [ZL]) <;> omega) | fail)) only [↓XH2, XRN, ZC, ZE, ZH, eq_self, Nat.reduceLeDiff, Nat.reduceBEq])
theorem r11 (s : Bs) (hs : s.length ≤ 2 ^ 20) (l : Nat) (h : AH) (hl : l ≤ h.length) : Okr (SrQ h (specR s)) (run V0 (.fn 11) l [S (sV s)] h) := by
  have hsz := size_B s
  have hn := decB s []
  refine okr_fn Tryd.func11 rfl rfl rfl rfl ?_
  unfold specR
  by_cases hz : s = []
  · rw [decide_eq_true hz] at hn
    rw [if_pos hz]
    simp (dsimp := false) (disch := (first | (refine dS ?_; kernel_rfl) | (refine dM ?_; kernel_rfl) | (refine dO ?_; simp (disch := ((try simp only [ZL]) <;> omega)) only [ZK, ZL]; done) | (refine dK ?_; (repeat first | exact Keep.refl _ _ | exact Keep.app _ _ (Nat.le_refl _) | assumption | refine Keep.ap ?_ | refine Keep.st (by first | omega | (simp only [ZL]; omega)) ?_); done) | ((try simp only [ZL]) <;> omega) | fail)) only [XOB, ↓XXs, ↓XD, ↓YX, ZB, Nat.reduceAdd, Nat.reducePow, ↓reduceIte, eq_self, Int.reduceEq, Nat.reduceEqDiff, Nat.reduceMul, Nat.reduceLeDiff, Int.reduceBEq, Int.reduceLT, Tryd.f11, ↓XH2, XRN, ZC, ZE, ZH, eq_self, Nat.reduceLeDiff, Nat.reduceBEq, slV_new, reduceIte, ↓op_extract, tupAt_mk, lenV_sl, Bool.not_true, Bool.not_false, hn]
    with_reducible refine Okr.ret ?_
    exact ⟨Keep.app _ _ (Nat.le_refl _), .inl ⟨[], h.length, 0, rfl, rfl, by simp (disch := (first | (refine dS ?_; kernel_rfl) | (refine dM ?_; kernel_rfl) | (refine dO ?_; simp (disch := ((try simp only [ZL]) <;> omega)) only [ZK, ZL]; done) | (refine dK ?_; (repeat first | exact Keep.refl _ _ | exact Keep.app _ _ (Nat.le_refl _) | assumption | refine Keep.ap ?_ | refine Keep.st (by first | omega | (simp only [ZL]; omega)) ?_); done) | ((try simp only [ZL]) <;> omega) | fail)) only [↓XH2, XRN, ZC, ZE, ZH, eq_self, Nat.reduceLeDiff, Nat.reduceBEq] <;> rfl, Nat.le_refl _⟩⟩
  · rw [decide_eq_false hz] at hn
    rw [if_neg hz]
    have h6 := List.dropLast_concat_getLast hz
    have hll : s.dropLast.length + 1 = s.length := by rw [← congrArg List.length h6]; simp
    have hw : IntKind.i64.wrap (((B s).size : Int) - 1) = ((s.dropLast.length : Nat) : Int) := by rw [wrap64 (by omega)]; omega
    have hat : strAt (B s) ((s.dropLast.length : Nat) : Int) = some ((s.getLast hz).toNat : Int) := by
      have := strAt_mid s.dropLast (s.getLast hz) []
      rwa [h6] at this
    have htk : s.take s.dropLast.length = s.dropLast := by
      have := List.take_left' (l₁ := s.dropLast) (l₂ := [s.getLast hz]) rfl
      rwa [h6] at this
    have hct : strCut (B s) 0 ((s.dropLast.length : Nat) : Int) = some (B s.dropLast) := by
      rw [cut_to' s _ (by omega), htk]
    rw [List.getLast?_eq_some_getLast hz]
    by_cases h10 : s.getLast hz = 10
    · have hne : (((s.getLast hz).toNat : Int) != 10) = false := by rw [h10]; rfl
      rw [if_pos (by rw [h10])]
      have hci : (((B s).size : Nat) : Int) = ((s.length : Nat) : Int) := by rw [hsz]
      simp (dsimp := false) (disch := (first | (refine dS ?_; kernel_rfl) | (refine dM ?_; kernel_rfl) | (refine dO ?_; simp (disch := ((try simp only [ZL]) <;> omega)) only [ZK, ZL]; done) | (refine dK ?_; (repeat first | exact Keep.refl _ _ | exact Keep.app _ _ (Nat.le_refl _) | assumption | refine Keep.ap ?_ | refine Keep.st (by first | omega | (simp only [ZL]; omega)) ?_); done) | ((try simp only [ZL]) <;> omega) | fail)) only [XOB, ↓XXs, ↓XD, ↓YX, ZB, Nat.reduceAdd, Nat.reducePow, ↓reduceIte, eq_self, Int.reduceEq, Nat.reduceEqDiff, Nat.reduceMul, Nat.reduceLeDiff, Int.reduceBEq, Int.reduceLT, Tryd.f11, ↓XH2, XRN, ZC, ZE, ZH, eq_self, Nat.reduceLeDiff, Nat.reduceBEq, slV_new, reduceIte, ↓op_extract, tupAt_mk, lenV_sl, Bool.not_true, Bool.not_false, hn, hw, hat, hne, hct]
      refine okr_call (r30 s.dropLast 10 (by omega) s.length _ hci (by omega) l _ (by simp; omega)) ?_
      rintro _ h1 ⟨iw, gw, rfl, e1, hiw, k0⟩
      have k1 : Keep h.length h h1 := (Keep.app h _ (Nat.le_refl _)).trans (k0.le (by simp))
      have e0 : h1[h.length]? = some (.row 0 4 (Ru.R [])) := k0.get (by simp (disch := (first | (refine dS ?_; kernel_rfl) | (refine dM ?_; kernel_rfl) | (refine dO ?_; simp (disch := ((try simp only [ZL]) <;> omega)) only [ZK, ZL]; done) | (refine dK ?_; (repeat first | exact Keep.refl _ _ | exact Keep.app _ _ (Nat.le_refl _) | assumption | refine Keep.ap ?_ | refine Keep.st (by first | omega | (simp only [ZL]; omega)) ?_); done) | ((try simp only [ZL]) <;> omega) | fail)) only [↓XH2, XRN, ZC, ZE, ZH, eq_self, Nat.reduceLeDiff, Nat.reduceBEq] <;> rfl) (by simp)
      rw [cutG_all 10 s.dropLast [] s.length (by omega)] at e1 ⊢
      have hne2 : ¬ iw = h.length := by simp at hiw; omega
      have hcl := cutAll_len 10 s.dropLast []
      have hce := cutAll_each 10 s.dropLast []
      try simp (dsimp := false) (disch := (first | (refine dS ?_; kernel_rfl) | (refine dM ?_; kernel_rfl) | (refine dO ?_; simp (disch := ((try simp only [ZL]) <;> omega)) only [ZK, ZL]; done) | (refine dK ?_; (repeat first | exact Keep.refl _ _ | exact Keep.app _ _ (Nat.le_refl _) | assumption | refine Keep.ap ?_ | refine Keep.st (by first | omega | (simp only [ZL]; omega)) ?_); done) | ((try simp only [ZL]) <;> omega) | fail)) only [XOB, ↓XXs, ↓XD, ↓YX, ZB, Nat.reduceAdd, Nat.reducePow, ↓reduceIte, eq_self, Int.reduceEq, Nat.reduceEqDiff, Nat.reduceMul, Nat.reduceLeDiff, Int.reduceBEq, Int.reduceLT, Tryd.f11, ↓XH2, XRN, ZC, ZE, ZH, eq_self, Nat.reduceLeDiff, Nat.reduceBEq, slV_new, reduceIte, ↓op_extract, tupAt_mk, lenV_sl, Bool.not_true, Bool.not_false, hn, hw, hat, hne, hct]
      exact L11 l h hl (cutAll 10 [] s.dropLast) (by omega) (fun x hx => by have := hce x hx; simp at this; omega) iw gw _ h.length rfl (Nat.le_refl _) hne2 (by simp at hiw; omega) (cutAll 10 [] s.dropLast) [] [] 0 0 0 h1 rfl rfl rfl rfl k1 e1 e0
    · have hne : (((s.getLast hz).toNat : Int) != 10) = true := by
        rw [bne_iff_ne]
        intro q
        exact h10 (UInt8.toNat_inj.1 (by have : (10 : UInt8).toNat = 10 := rfl; omega))
      rw [if_neg (by intro q; injection q with q; exact h10 q)]
      simp (dsimp := false) (disch := (first | (refine dS ?_; kernel_rfl) | (refine dM ?_; kernel_rfl) | (refine dO ?_; simp (disch := ((try simp only [ZL]) <;> omega)) only [ZK, ZL]; done) | (refine dK ?_; (repeat first | exact Keep.refl _ _ | exact Keep.app _ _ (Nat.le_refl _) | assumption | refine Keep.ap ?_ | refine Keep.st (by first | omega | (simp only [ZL]; omega)) ?_); done) | ((try simp only [ZL]) <;> omega) | fail)) only [XOB, ↓XXs, ↓XD, ↓YX, ZB, Nat.reduceAdd, Nat.reducePow, ↓reduceIte, eq_self, Int.reduceEq, Nat.reduceEqDiff, Nat.reduceMul, Nat.reduceLeDiff, Int.reduceBEq, Int.reduceLT, Tryd.f11, ↓XH2, XRN, ZC, ZE, ZH, eq_self, Nat.reduceLeDiff, Nat.reduceBEq, slV_new, reduceIte, ↓op_extract, tupAt_mk, lenV_sl, Bool.not_true, Bool.not_false, hn, hw, hat, hne]
      with_reducible refine Okr.ret ?_
      exact ⟨Keep.app _ _ (Nat.le_refl _), .inr ⟨rfl, rfl⟩⟩
end Go.Abs
namespace Go.Abs
open Go.Proofs
set_option maxRecDepth 100000
set_option linter.unusedSimpArgs false
set_option linter.unusedVariables false
set_option pp.maxSteps 20000
set_option pp.deepTerms true
def ansL (s : Bs) : List Ru := (specR s).getD []
def ansB (s : Bs) : Bool := (specR s).isSome
theorem ansL_len (s : Bs) : (ansL s).length ≤ 8 := by
  unfold ansL
  cases hs : specR s with
  | none => simp
  | some L =>
    have hg := specR_good hs
    unfold goodR at hg
    rw [Bool.and_eq_true] at hg
    exact (rok_all hg.1).2
/-- an answer, of the program or of the reference -/
def AnQ (H0 : AH) (s : Bs) (v : Value) (h' : AH) : Prop := Keep H0.length H0 h' ∧ ∃ gv, v = .tuple ⟨[gv, .bool (ansB s)]⟩ ∧ Ru.Rt h' H0.length gv (ansL s)
theorem own_rt {h : AH} {i g lo : Nat} {L : List Ru} (e : h[i]? = some (.row g 4 (Ru.R L))) (hl : lo ≤ i) : Ru.Rt h lo (slV i g L.length L.length) L := .inr ⟨i, g, L.length, [], rfl, by simpa using e, hl⟩
theorem an_spec {H0 : AH} {s : Bs} {v : Value} {h' : AH} (q : SrQ H0 (specR s) v h') : AnQ H0 s v h' := by
  obtain ⟨k, q⟩ := q
  unfold AnQ ansB ansL
  rcases q with ⟨L, i, g, hs, rfl, e, hi⟩ | ⟨hs, rfl⟩
  · rw [hs]; exact ⟨k, _, rfl, own_rt e hi⟩
  · rw [hs]; exact ⟨k, _, rfl, .inl ⟨rfl, rfl⟩⟩
theorem an_impl {H0 : AH} {s : Bs} {v : Value} {h' : AH} (q : RgQ H0 s (parR 9 s []) v h') : AnQ H0 s v h' := by
  obtain ⟨k, q⟩ := q
  unfold AnQ ansB ansL
  rw [spec_impl]
  unfold implR
  rcases q with ⟨hg, L, i, g, hs, rfl, e, hi⟩ | ⟨hg, rfl⟩
  · rw [hs] at hg ⊢
    have hg' : goodR s L = true := hg
    simp only
    rw [if_pos hg']
    exact ⟨k, _, rfl, own_rt e hi⟩
  · cases hs : parR 9 s [] with
    | none => exact ⟨k, _, rfl, .inl ⟨rfl, rfl⟩⟩
    | some L =>
      rw [hs] at hg
      have hg' : goodR s L = false := hg
      simp only
      rw [hg', if_neg (by simp)]
      exact ⟨k, _, rfl, .inl ⟨rfl, rfl⟩⟩
theorem an_s (s : Bs) (hs : s.length ≤ 2 ^ 20) (l : Nat) (h : AH) (hl : l ≤ h.length) : ∃ gv h', run V0 (.fn 11) l [S (sV s)] h = some (.ret (.tuple ⟨[gv, .bool (ansB s)]⟩) h') ∧ Keep h.length h h' ∧ Ru.Rt h' h.length gv (ansL s) := by
  obtain ⟨v, h', e, q⟩ := r11 s hs l h hl
  obtain ⟨k, gv, rfl, t⟩ := an_spec q
  exact ⟨gv, h', e, k, t⟩
theorem an_i (s : Bs) (hs : s.length ≤ 2 ^ 20) (l : Nat) (h : AH) (hl : l ≤ h.length) : ∃ gv h', run V0 (.fn 9) l [S (sV s)] h = some (.ret (.tuple ⟨[gv, .bool (ansB s)]⟩) h') ∧ Keep h.length h h' ∧ Ru.Rt h' h.length gv (ansL s) := by
  obtain ⟨v, h', e, q⟩ := r9 s hs l h hl
  obtain ⟨k, gv, rfl, t⟩ := an_impl q
  exact ⟨gv, h', e, k, t⟩
theorem rt_keep {h h' : AH} {lo : Nat} {v : Value} {xs : List Ru} (q : Ru.Rt h lo v xs) (k : Keep h.length h h') : Ru.Rt h' lo v xs := q.keep k
theorem rt_low {h : AH} {lo lo' : Nat} {v : Value} {xs : List Ru} (q : Ru.Rt h lo v xs) (hl : lo' ≤ lo) : Ru.Rt h lo' v xs := by
  rcases q with q | ⟨id, g, c, ma, rfl, e, hl2⟩
  · exact .inl q
  · exact .inr ⟨id, g, c, ma, rfl, e, by omega⟩
theorem r4 (s : Bs) (l : Nat) (h : AH) (hl : l ≤ h.length) : ∃ h', run V0 (.fn 4) l [S (sV s)] h = some (.ret (.bool true) h') := by
  have hsz := size_B s
  by_cases hs : s.length ≤ 2 ^ 20
  · have hgt : decide ((1048576 : Int) < ((B s).size : Int)) = false := decide_eq_false (by omega)
    have h8 := ansL_len s
    have hbb : (ansB s == ansB s) = true := by simp
    obtain ⟨w, h1, a1, k1, t1⟩ := an_s s hs l h hl
    have hk1 := k1.1
    obtain ⟨gv, h2, a2, k2, t2⟩ := an_i s hs l h1 (by omega)
    have hk2 := k2.1
    obtain ⟨h3, a3, k3⟩ := r12t gv w l h1.length h.length (ansL s) (ansL s) h2 (by omega) t2 (t1.keep k2)
    rw [decide_eq_true rfl] at a3
    have hk3 := k3.1
    have t3 := t2.keep k3
    obtain ⟨h4, a4, t4, ix, hix, x4⟩ := r13 gv l h1.length 1 (ansL s) h3 t3 (by omega) (by omega) (by omega) (by omega)
    have hk4 := x4.1
    obtain ⟨h5, a5, k5⟩ := r14 gv l h1.length 1 (ansL s).length h4 t4 (by omega) (by omega) (by omega)
    have hk5 := k5.1
    have t5 := t4.keep k5
    have W5 : Keep h1.length h1 h5 := k2.trans ((k3.le hk2).trans ((Keep.ofKX x4 (by omega) (by omega)).trans (k5.le (by omega))))
    obtain ⟨gw, h6, a6, k6, t6⟩ := an_i s hs l h5 (by omega)
    have hk6 := k6.1
    obtain ⟨h7, a7, k7⟩ := r12t gw w l h5.length h.length (ansL s) (ansL s) h6 (by omega) t6 ((t1.keep W5).keep k6)
    rw [decide_eq_true rfl] at a7
    obtain ⟨h8', a8, k8⟩ := r14 gv l h1.length 1 (ansL s).length h7 ((t5.keep k6).keep k7) (by omega) (by omega) (by omega)
    have hm0 : decide (((1 + 4 * (ansL s).length : Nat) : Int) < 0) = false := decide_eq_false (by omega)
    have hme : (((1 + 4 * (ansL s).length : Nat) : Int) != ((1 + 4 * (ansL s).length : Nat) : Int)) = false := by simp
    have c1 : ((1 : Nat) : Int) = 1 := rfl
    rw [c1] at a4 a5 a8
    refine ⟨h8', run_fn Tryd.func4 rfl rfl rfl rfl ?_⟩
    simp only [↓XX, ↓XD, ↓YX, ZB, Nat.reduceAdd, Nat.reducePow, ↓reduceIte, eq_self, Int.reduceEq, Nat.reduceEqDiff, Nat.reduceMul, Nat.reduceLeDiff, Tryd.f4, ↓op_extract, tupAt_mk, List.getElem?_cons_zero, List.getElem?_cons_succ, hgt, a1, a2, a3, hbb, a4, a5, hm0, hme, a6, a7, a8, Bool.not_true]
  · have hgt : decide ((1048576 : Int) < ((B s).size : Int)) = true := decide_eq_true (by omega)
    refine ⟨h, run_fn Tryd.func4 rfl rfl rfl rfl ?_⟩
    simp only [↓XX, ↓XD, ↓YX, ZB, Nat.reduceAdd, Nat.reducePow, ↓reduceIte, eq_self, Int.reduceEq, Nat.reduceEqDiff, Nat.reduceMul, Nat.reduceLeDiff, Tryd.f4, hgt]
theorem rz4 (va : Value) (s : Bs) (l : Nat) (h : AH) (e : va = sV s) (hl : l ≤ h.length) : ∃ h', run V0 (.fn 4) l [S va] h = some (.ret (.bool true) h') := by
  subst e
  exact r4 s l h hl
end Go.Abs
