/- How a room is read from a text, in the program and in the reference. For every text of at most 1048576 bytes; no condition. -/
import Derived.Test.YtoijpmokcdifnaaGreatDoorLibA
import Derived.Test.YtoijpmokcdifnaaGreatDoorRoomC
namespace Go.Abs
open Go.Proofs
set_option maxRecDepth 100000
set_option linter.unusedSimpArgs false
set_option pp.maxSteps 20000

/-- a strings.Builder and what was written into it -/
def Bd (h : AH) (ib : Nat) (s : Bs) : Prop :=
  (s = [] ∧ (h[ib]? = some (.row 0 365072220160 [.pointer none, .slice none 0 0]) ∨ h[ib]? = some (.row 0 365072220160 [pV ib 0 0, .slice none 0 0]))) ∨
  ∃ id g, h[ib]? = some (.row 0 365072220160 [pV ib 0 0, slV id g s.length s.length]) ∧ h[id]? = some (.row g 25769803777 (u8c s)) ∧ ib < id ∧ s ≠ []
/-- what writing into a builder leaves -/
structure Wr (ib : Nat) (h h' : AH) : Prop where
  len : h.length ≤ h'.length
  low : ∀ j, j < ib → h'[j]? = h[j]?
  oth : ∀ j g sz cs, h[j]? = some (.row g sz cs) → j ≠ ib → sz ≠ 25769803777 → h'[j]? = some (.row g sz cs)
theorem Wr.refl (ib : Nat) (h : AH) : Wr ib h h := ⟨Nat.le_refl _, fun _ _ => rfl, fun _ _ _ _ e _ _ => e⟩
theorem Wr.trans {ib : Nat} {a b c : AH} (x : Wr ib a b) (y : Wr ib b c) : Wr ib a c :=
  ⟨Nat.le_trans x.len y.len, fun j hj => (y.low j hj).trans (x.low j hj), fun j g sz cs e h1 h2 => y.oth j g sz cs (x.oth j g sz cs e h1 h2) h1 h2⟩
theorem Wr.keep {ib : Nat} {h h' : AH} (x : Wr ib h h') {n : Nat} (hn : n ≤ ib) : Keep n h h' := ⟨x.len, fun j hj => x.low j (by omega)⟩
theorem Bd.keep {h h' : AH} {ib : Nat} {s : Bs} (b : Bd h ib s) (k : Keep h.length h h') : Bd h' ib s := by
  rcases b with ⟨h0, h1 | h1⟩ | ⟨id, g, h1, h2, h3, h4⟩
  · exact .inl ⟨h0, .inl (k.get h1 (lt_of_get h1))⟩
  · exact .inl ⟨h0, .inr (k.get h1 (lt_of_get h1))⟩
  · exact .inr ⟨id, g, k.get h1 (lt_of_get h1), k.get h2 (lt_of_get h2), h3, h4⟩
theorem Bd.lt {h : AH} {ib : Nat} {s : Bs} (b : Bd h ib s) : ib < h.length := by
  rcases b with ⟨h0, h1 | h1⟩ | ⟨id, g, h1, h2, h3, h4⟩ <;> exact lt_of_get h1
theorem cc_fresh {h : AH} {ib l : Nat} {b : Value} (hl : l ≤ ib) (e : h[ib]? = some (.row 0 365072220160 [.pointer none, b])) :
    run V0 (.fn 107) l [S (pV ib 0 0)] h = some (.ret (.tuple #[]) (h.set ib (.row 0 365072220160 [pV ib 0 0, b]))) := by
  refine run_prim (vs := [pV ib 0 0]) (p := pCopyCheck 84) rfl ?_
  simp only [pCopyCheck, rowAt_of e]
  rw [if_pos ⟨True.intro, by decide, hl⟩]
theorem cc_used {h : AH} {ib l : Nat} {b : Value} (hl : l ≤ ib) (e : h[ib]? = some (.row 0 365072220160 [pV ib 0 0, b])) :
    run V0 (.fn 107) l [S (pV ib 0 0)] h = some (.ret (.tuple #[]) h) := by
  refine run_prim (vs := [pV ib 0 0]) (p := pCopyCheck 84) rfl ?_
  simp only [pCopyCheck, rowAt_of e]
  rw [if_pos ⟨True.intro, by decide, hl⟩]
  simp
theorem getElem?_set_ne' {h : AH} {i j : Nat} {o : AObj} (hne : i ≠ j) : (h.set i o)[j]? = h[j]? := List.getElem?_set_ne hne
/-- what copyCheck leaves -/
theorem cc_run {h : AH} {ib l : Nat} {s : Bs} (hl : l ≤ ib) (b : Bd h ib s) : ∃ h' bv, run V0 (.fn 107) l [S (pV ib 0 0)] h = some (.ret (.tuple #[]) h') ∧ h'[ib]? = some (.row 0 365072220160 [pV ib 0 0, bv]) ∧
    ((bv = .slice none 0 0 ∧ s = []) ∨ ∃ id g, bv = slV id g s.length s.length ∧ h'[id]? = some (.row g 25769803777 (u8c s)) ∧ ib < id ∧ s ≠ []) ∧ Wr ib h h' := by
  rcases b with ⟨h0, h1 | h1⟩ | ⟨id, g, h1, h2, h3, h4⟩
  · refine ⟨_, _, cc_fresh hl h1, get_set _ h1, .inl ⟨rfl, h0⟩, by simp, fun j hj => getElem?_set_ne' (by omega), fun j g sz cs e hj _ => by rw [getElem?_set_ne' (fun q => hj q.symm)]; exact e⟩
  · exact ⟨_, _, cc_used hl h1, h1, .inl ⟨rfl, h0⟩, Wr.refl _ _⟩
  · exact ⟨_, _, cc_used hl h1, h1, .inr ⟨id, g, rfl, h2, h3, h4⟩, Wr.refl _ _⟩
/-- append of what was just made to nothing -/
theorem app_newnil {lim : Nat} {h : AH} {sz tg sz2 k by' : Nat} {ds : List Value} (hk : k * sz = ds.length) (h0 : 0 < k) (hb : k * by' ≤ 2 ^ 47) :
    app lim (h ++ [AObj.row 0 sz2 ds]) (.slice none 0 0) (newS h k k) sz tg by' = some (newS (h ++ [AObj.row 0 sz2 ds]) k k, h ++ [AObj.row 0 sz2 ds] ++ [.row 0 tg ds]) := by
  have en : (h ++ [AObj.row 0 sz2 ds])[h.length]? = some (.row 0 sz2 ds) := by simp
  simp only [app, lenOf, newS, Option.bind_some]
  rw [if_neg (by omega)]
  have hs : srcCells (h ++ [AObj.row 0 sz2 ds]) (.slice (some ⟨h.length, 0, some 0⟩) k k) k sz = some ds := by
    simp only [srcCells, rowAt_of en, Option.bind_some, cut]
    rw [if_pos (by omega)]
    simp [hk]
  rw [hs]
  simp only [Option.bind_some]
  rw [if_pos hb]
/-- WriteByte -/
theorem r_WriteByte {h : AH} {ib l : Nat} {s : Bs} (c : UInt8) (hl : l ≤ ib) (b : Bd h ib s) (hlen : s.length ≤ 2 ^ 40) :
    ∃ h', run V0 (.fn 75) l [S (pV ib 0 0), S (.int .u8 c.toNat)] h = some (.ret .nilIface h') ∧ Bd h' ib (s ++ [c]) ∧ Wr ib h h' := by
  obtain ⟨h1, bv, a1, b1, c1, w1⟩ := cc_run hl b
  have ha : addOff (pV ib 0 0) 1 = some (pV ib 1 0) := rfl
  have hn : nonNil (pV ib 0 0) = some (pV ib 0 0) := rfl
  have hld : ld h1 (pV ib 1 0) = some bv := ld_of b1 rfl
  have fin : ∀ v h2, app l (h1 ++ [AObj.row 0 25769803777 [.int .u8 c.toNat]]) bv (newS h1 1 1) 1 25769803777 1 = some (v, h2) → h2[ib]? = some (.row 0 365072220160 [pV ib 0 0, bv]) → oneCell v = true →
      run V0 (.fn 75) l [S (pV ib 0 0), S (.int .u8 c.toNat)] h = some (.ret .nilIface (h2.set ib (.row 0 365072220160 [pV ib 0 0, v]))) := by
    intro v h2 e1 e2 e3
    have hst : stN l h2 (pV ib 1 0) [v] = some (h2.set ib (.row 0 365072220160 [pV ib 0 0, v])) := st1_of hl e2 (by simp) e3
    refine run_fn Tryz.func75 rfl rfl rfl rfl ?_
    simp only [↓XX, ↓XD, ↓YX, ZB, Nat.reduceAdd, Nat.reducePow, ↓reduceIte, eq_self, Int.reduceEq, Nat.reduceEqDiff, Nat.reduceMul, Nat.reduceLeDiff, Tryz.f75, a1, ha, hn, hld, e1, hst]
  have hb1 := lt_of_get b1
  have e1' : (h1 ++ [AObj.row 0 25769803777 [.int .u8 c.toNat]])[ib]? = some (.row 0 365072220160 [pV ib 0 0, bv]) := by rw [List.getElem?_append_left hb1, b1]
  rcases c1 with ⟨rfl, rfl⟩ | ⟨id, g, rfl, d1, d2, d3⟩
  · have e2 : (h1 ++ [AObj.row 0 25769803777 [.int .u8 c.toNat]] ++ [AObj.row 0 25769803777 [.int .u8 c.toNat]])[ib]? = some (.row 0 365072220160 [pV ib 0 0, .slice none 0 0]) := by rw [List.getElem?_append_left (by simp; omega), e1']
    refine ⟨_, fin _ _ (app_newnil (ds := [.int .u8 c.toNat]) rfl (by omega) (by omega)) e2 rfl, .inr ⟨h1.length + 1, 0, ?_, ?_, by omega, by simp⟩, ?_⟩
    · rw [get_set _ e2]; simp [newS]
    · rw [getElem?_set_ne' (by omega)]; simp [u8c]
    · refine w1.trans ⟨by simp, fun j hj => ?_, fun j g sz cs e hj _ => ?_⟩
      · rw [getElem?_set_ne' (by omega), List.getElem?_append_left (by simp; omega), List.getElem?_append_left (by omega)]
      · have := lt_of_get e
        rw [getElem?_set_ne' (fun q => hj q.symm), List.getElem?_append_left (by simp; omega), List.getElem?_append_left (by omega)]; exact e
  · have hid := lt_of_get d1
    have e2 : ((h1 ++ [AObj.row 0 25769803777 [.int .u8 c.toNat]]).set id (AObj.row (g + 1) 25769803777 (u8c s ++ [.int .u8 c.toNat])))[ib]? = some (.row 0 365072220160 [pV ib 0 0, slV id g s.length s.length]) := by rw [getElem?_set_ne' (by omega), e1']
    have hap := app_new (lim := l) (sz := 1) (sz2 := 25769803777) (by' := 1) (k := 1) (ds := [.int .u8 c.toNat]) (by omega) d1 (n := s.length) (by rw [u8c_len]; omega) rfl (by omega) (by omega)
    have d1' : (h1 ++ [AObj.row 0 25769803777 [.int .u8 c.toNat]])[id]? = some (.row g 25769803777 (u8c s)) := by rw [List.getElem?_append_left hid, d1]
    refine ⟨_, fin _ _ hap e2 rfl, .inr ⟨id, g + 1, ?_, ?_, d2, by simp⟩, ?_⟩
    · rw [get_set _ e2]; simp
    · rw [getElem?_set_ne' (by omega), get_set _ d1']
      simp [u8c]
    · refine w1.trans ⟨by simp, fun j hj => ?_, fun j g2 sz cs e hj hz => ?_⟩
      · rw [getElem?_set_ne' (by omega), getElem?_set_ne' (by omega), List.getElem?_append_left (by omega)]
      · have : id ≠ j := by rintro rfl; rw [d1] at e; cases e; exact hz rfl
        have := lt_of_get e
        rw [getElem?_set_ne' (fun q => hj q.symm), getElem?_set_ne' (by assumption), List.getElem?_append_left (by omega)]; exact e
/-- String: what was written; it is not written into again -/
theorem r_String {h : AH} {ib l : Nat} {s : Bs} (hl : l ≤ ib) (b : Bd h ib s) (hlen : s.length ≤ 2 ^ 46) :
    ∃ h' p q, run V0 (.fn 70) l [S (pV ib 0 0)] h = some (.ret (sV s) h') ∧ h'[ib]? = some (.row 0 365072220160 [p, q]) ∧ Wr ib h h' := by
  have ha : addOff (pV ib 0 0) 1 = some (pV ib 1 0) := rfl
  have hn : nonNil (pV ib 0 0) = some (pV ib 0 0) := rfl
  rcases b with ⟨rfl, h1⟩ | ⟨id, g, h1, h2, h3, h4⟩
  · have hld : ld h (pV ib 1 0) = some (.slice none 0 0) := by rcases h1 with h1 | h1 <;> exact ld_of h1 rfl
    have hd : dataP (.slice none 0 0) = some (.pointer none) := rfl
    have hs : strRow l h (.pointer none) 0 5 = some (⟨#[]⟩, h) := rfl
    have hr : run V0 (.fn 70) l [S (pV ib 0 0)] h = some (.ret (sV []) h) := by
      refine run_fn Tryz.func70 rfl rfl rfl rfl ?_
      simp (disch := (refine _root_.id ?_; kernel_rfl)) only [↓XX, ↓XD, ↓YX, ZB, Nat.reduceAdd, Nat.reducePow, ↓reduceIte, eq_self, Int.reduceEq, Nat.reduceEqDiff, Nat.reduceMul, Nat.reduceLeDiff, Tryz.f70, ha, hn, hld, hd, hs, lenV, Int.natCast_zero]
      try rfl
    rcases h1 with h1 | h1
    · exact ⟨h, _, _, hr, h1, Wr.refl _ _⟩
    · exact ⟨h, _, _, hr, h1, Wr.refl _ _⟩
  · have hld : ld h (pV ib 1 0) = some (slV id g s.length s.length) := ld_of h1 rfl
    have h0 : 0 < s.length := List.length_pos_iff.2 h4
    have hd : dataP (slV id g s.length s.length) = some (pV id 0 g) := by simp only [dataP]; rw [if_pos h0]
    have hs : strRow l h (pV id 0 g) (s.length : Int) 5 = some (B s, h.set id (.row (g + 1) 0 [])) := strRow_of (by omega) (e := 5) h2 rfl h0 (by omega)
    refine ⟨h.set id (.row (g + 1) 0 []), _, _, run_fn Tryz.func70 rfl rfl rfl rfl ?_, by rw [getElem?_set_ne' (by omega)]; exact h1, by simp, fun j hj => getElem?_set_ne' (by omega), fun j g2 sz cs e hj hz => ?_⟩
    · simp (disch := (refine _root_.id ?_; kernel_rfl)) only [↓XX, ↓XD, ↓YX, ZB, Nat.reduceAdd, Nat.reducePow, ↓reduceIte, eq_self, Int.reduceEq, Nat.reduceEqDiff, Nat.reduceMul, Nat.reduceLeDiff, Tryz.f70, ha, hn, hld, hd, hs, lenV]
      try rfl
    · have : id ≠ j := by rintro rfl; rw [h2] at e; cases e; exact hz rfl
      rw [getElem?_set_ne' this]; exact e
/-- Reset -/
theorem r_Reset {h : AH} {ib l : Nat} {p q : Value} (hl : l ≤ ib) (e : h[ib]? = some (.row 0 365072220160 [p, q])) :
    ∃ h', run V0 (.fn 76) l [S (pV ib 0 0)] h = some (.ret (.tuple #[]) h') ∧ Bd h' ib [] ∧ Wr ib h h' := by
  have hn : nonNil (pV ib 0 0) = some (pV ib 0 0) := rfl
  have a0 : addOff (pV ib 0 0) 0 = some (pV ib 0 0) := rfl
  have ha : addOff (pV ib 0 0) 1 = some (pV ib 1 0) := rfl
  have s1 : stN l h (pV ib 0 0) [.pointer none] = some (h.set ib (.row 0 365072220160 [.pointer none, q])) := st1_of hl e (by simp) rfl
  have e1 := get_set (AObj.row 0 365072220160 [.pointer none, q]) e
  have s2 : stN l (h.set ib (.row 0 365072220160 [.pointer none, q])) (pV ib 1 0) [.slice none 0 0] = some ((h.set ib (.row 0 365072220160 [.pointer none, q])).set ib (.row 0 365072220160 [.pointer none, .slice none 0 0])) := st1_of hl e1 (by simp) rfl
  refine ⟨_, run_fn Tryz.func76 rfl rfl rfl rfl ?_, .inl ⟨rfl, .inl (get_set _ e1)⟩, ?_⟩
  · simp only [↓XX, ↓XD, ↓YX, ZB, Nat.reduceAdd, Nat.reducePow, ↓reduceIte, eq_self, Int.reduceEq, Nat.reduceEqDiff, Nat.reduceMul, Nat.reduceLeDiff, Tryz.f76, a0, ha, hn, s1, s2]
    try rfl
  · rw [List.set_set]
    exact ⟨by simp, fun j hj => getElem?_set_ne' (by omega), fun j g sz cs e hj _ => by rw [getElem?_set_ne' (fun q => hj q.symm)]; exact e⟩
end Go.Abs
namespace Go.Abs
open Go.Proofs
set_option maxRecDepth 100000
set_option linter.unusedSimpArgs false
set_option linter.unusedVariables false
set_option pp.maxSteps 20000
set_option pp.deepTerms true
theorem eqU8 (b c : UInt8) {k : Int} (hk : (c.toNat : Int) = k) : ((b.toNat : Int) == k) = decide (b = c) := by
  subst hk
  rw [Bool.eq_iff_iff]; simp only [beq_iff_eq, decide_eq_true_eq]
  exact ⟨fun e => UInt8.toNat_inj.1 (by omega), fun e => by subst e; rfl⟩
/-- texts in a row of their own -/
def Ss (h : AH) (v : Value) (xs : List Bs) : Prop := ∃ io g, v = slV io g xs.length xs.length ∧ h[io]? = some (.row g 1 (sL xs))
theorem Ss.keep {h h' : AH} {v : Value} {xs : List Bs} (q : Ss h v xs) (k : Keep h.length h h') : Ss h' v xs := by
  obtain ⟨io, g, rfl, e⟩ := q
  exact ⟨io, g, rfl, k.get e (lt_of_get e)⟩
/-! ### numbers -/
end Go.Abs
namespace Go.Abs
open Go.Proofs
set_option maxRecDepth 100000
set_option linter.unusedSimpArgs false
set_option linter.unusedVariables false
set_option pp.maxSteps 20000
set_option pp.deepTerms true
set_option maxHeartbeats 4000000 in
theorem L32 (l : Nat) (H0 : AH) (hl : l ≤ H0.length) (s : Bs) (hs : s.length ≤ 2 ^ 30) : ∀ (n : Nat) (r d : Bs) (os : List Bs) (cur : Bs) (io g ib : Nat) (h : AH), r.length ≤ n → s = d ++ r → os.length ≤ d.length → cur.length ≤ d.length → H0.length ≤ io → io < ib → Keep H0.length H0 h → h[io]? = some (.row g 1 (sL os)) → Bd h ib cur →
    Okr (fun v h' => Ss h' v (os ++ fieldsL cur r) ∧ Keep H0.length H0 h') (L32_0 l (sV s) (slV io g os.length os.length) (pV ib 0 0) (iV d.length) h) := by
  have hsz := size_B s
  intro n
  induction n with
  | zero =>
    intro r d os cur io g ib h hr hd hos hcu hio hib hk e bd
    obtain rfl : r = [] := List.length_eq_zero_iff.1 (by omega)
    rw [List.append_nil] at hd
    have hdl := congrArg List.length hd
    have hlt : decide ((d.length : Int) < (s.length : Int)) = false := by rw [decide_eq_false_iff_not, hd]; omega
    obtain ⟨h1, p, q, a1, e1, w1⟩ := r_String (l := l) (by omega) bd (by omega)
    have eo := w1.low io hib
    rw [e] at eo
    have hap := app_new (lim := l) (sz := 1) (sz2 := 1) (by' := 16) (k := 1) (ds := [sV cur]) (by omega) eo (n := os.length) (by rw [sL_len]; simp) rfl (by omega) (by omega)
    refine okr_code Tryz.func32 rfl rfl ?_
    simp (disch := first | exact dI | fail) only [↓XX, ↓XD, ↓YX, ZB, Nat.reduceAdd, Nat.reducePow, ↓reduceIte, eq_self, Int.reduceEq, Nat.reduceEqDiff, Nat.reduceMul, Nat.reduceLeDiff, Tryz.f32, hsz, hlt, a1, hap]
    refine Okr.ret ⟨⟨io, g + 1, by simp [fieldsL], ?_⟩, ?_⟩
    · rw [get_set _ (o := .row g 1 (sL os)) (by rw [List.getElem?_append_left (lt_of_get eo)]; exact eo)]
      simp [fieldsL, sL]
    · exact ((hk.trans ((w1.keep (n := H0.length) (by omega)))).trans (Keep.app _ _ (by have := (hk.trans (w1.keep (n := H0.length) (by omega))).1; omega))).trans (Keep.set _ _ _ (by omega))
  | succ n ih =>
    intro r d os cur io g ib h hr hd hos hcu hio hib hk e bd
    cases r with
    | nil => exact ih [] d os cur io g ib h (by simp) hd hos hcu hio hib hk e bd
    | cons b r =>
    have hdl := congrArg List.length hd
    simp only [List.length_append, List.length_cons] at hdl hr
    have hlt : decide ((d.length : Int) < (s.length : Int)) = true := by rw [decide_eq_true_iff]; omega
    have hat : strAt (B s) (d.length : Int) = some (b.toNat : Int) := by rw [hd]; exact strAt_mid d b r
    have hw : IntKind.i64.wrap ((d.length : Int) + 1) = ((d.length + 1 : Nat) : Int) := natCast_succ_wrap (by omega) rfl
    have e1 : ((b.toNat : Int) == 124) = decide (b = 124) := eqU8 b 124 rfl
    have e2 : ((b.toNat : Int) == 92) = decide (b = 92) := eqU8 b 92 rfl
    have wr : ∀ c : UInt8, ∃ h', run V0 (.fn 75) l [S (pV ib 0 0), S (.int .u8 c.toNat)] h = some (.ret .nilIface h') ∧ Bd h' ib (cur ++ [c]) ∧ Wr ib h h' := fun c => r_WriteByte c (by omega) bd (by omega)
    refine okr_code Tryz.func32 rfl rfl ?_
    by_cases h2 : b = 92 ∧ r ≠ []
    · obtain ⟨h2, h3⟩ := h2
      cases r with
      | nil => exact absurd rfl h3
      | cons c r =>
      have q2 : decide (b = 92) = true := decide_eq_true h2
      simp only [List.length_cons] at hdl hr
      have hlt2 : decide (((d.length + 1 : Nat) : Int) < (s.length : Int)) = true := by rw [decide_eq_true_iff]; omega
      have hw2 : IntKind.i64.wrap (((d.length + 1 : Nat) : Int) + 1) = ((d.length + 2 : Nat) : Int) := natCast_succ_wrap (by omega) rfl
      have hat2 : strAt (B s) ((d.length + 1 : Nat) : Int) = some (c.toNat : Int) := by
        have := strAt_mid (d ++ [b]) c r
        simp only [List.append_assoc, List.cons_append, List.nil_append, List.length_append, List.length_cons, List.length_nil, Nat.zero_add] at this
        rw [hd]; exact this
      obtain ⟨h1, a1, bd1, w1⟩ := wr c
      simp (disch := first | exact dI | fail) only [↓XX, ↓XD, ↓YX, ZB, Nat.reduceAdd, Nat.reducePow, ↓reduceIte, eq_self, Int.reduceEq, Nat.reduceEqDiff, Nat.reduceMul, Nat.reduceLeDiff, Tryz.f32, hsz, hlt, hat, e2, q2, hlt2, hw, hw2, hat2, a1]
      have := ih r (d ++ [b, c]) os (cur ++ [c]) io g ib h1 (by omega) (by rw [hd]; simp) (by simp; omega) (by simp; omega) hio hib (hk.trans (w1.keep (by omega))) (by rw [w1.low io hib]; exact e) bd1
      rw [show (d ++ [b, c]).length = d.length + 2 by simp] at this
      rw [h2, fieldsL_esc]
      exact this
    · have hq : (b ≠ 92 ∨ r = []) := by
        by_cases h3 : b = 92
        · exact .inr (Classical.byContradiction fun h4 => h2 ⟨h3, h4⟩)
        · exact .inl h3
      by_cases h1 : b = 124
      · have q1 : decide (b = 124) = true := decide_eq_true h1
        have q2 : decide (b = 92) = false := by rw [h1]; decide
        obtain ⟨h1', p, q, a1, er, w1⟩ := r_String (l := l) (by omega) bd (by omega)
        have eo := w1.low io hib
        rw [e] at eo
        have hap := app_new (lim := l) (sz := 1) (sz2 := 1) (by' := 16) (k := 1) (ds := [sV cur]) (by omega) eo (n := os.length) (by rw [sL_len]; simp) rfl (by omega) (by omega)
        have eo2 : (h1' ++ [AObj.row 0 1 [sV cur]])[io]? = some (.row g 1 (sL os)) := by rw [List.getElem?_append_left (lt_of_get eo)]; exact eo
        have eb : ((h1' ++ [AObj.row 0 1 [sV cur]]).set io (.row (g + 1) 1 (sL os ++ [sV cur])))[ib]? = some (.row 0 365072220160 [p, q]) := by
          rw [List.getElem?_set_ne (by omega), List.getElem?_append_left (lt_of_get er)]; exact er
        obtain ⟨h3, a3, bd3, w3⟩ := r_Reset (l := l) (by omega) eb
        simp (disch := first | exact dI | fail) only [↓XX, ↓XD, ↓YX, ZB, Nat.reduceAdd, Nat.reducePow, ↓reduceIte, eq_self, Int.reduceEq, Nat.reduceEqDiff, Nat.reduceMul, Nat.reduceLeDiff, Tryz.f32, hsz, hlt, hat, e1, q1, e2, q2, hw, a1, hap, a3]
        have K := hk.trans ((w1.keep (n := H0.length) (by omega)))
        have := ih r (d ++ [b]) (os ++ [cur]) [] io (g + 1) ib h3 (by omega) (by rw [hd]; simp) (by simp; omega) (by simp) hio hib (((K.trans (Keep.app _ _ K.1)).trans (Keep.set _ _ _ (by omega))).trans (w3.keep (by omega)))
          (by rw [w3.low io hib, get_set _ eo2]; simp [sL]) bd3
        rw [show (d ++ [b]).length = d.length + 1 by simp, show (os ++ [cur]).length = os.length + 1 by simp] at this
        rw [h1, fieldsL_bar]
        simp only [List.append_assoc, List.cons_append, List.nil_append] at this ⊢
        exact this
      · have q1 : decide (b = 124) = false := decide_eq_false h1
        obtain ⟨h1', a1, bd1, w1⟩ := wr b
        have := ih r (d ++ [b]) os (cur ++ [b]) io g ib h1' (by omega) (by rw [hd]; simp) (by simp; omega) (by simp; omega) hio hib (hk.trans (w1.keep (by omega))) (by rw [w1.low io hib]; exact e) bd1
        rw [show (d ++ [b]).length = d.length + 1 by simp] at this
        rw [fieldsL_one cur r b h1 hq]
        rcases hq with h3 | h3
        · have q2 : decide (b = 92) = false := decide_eq_false h3
          simp (disch := first | exact dI | fail) only [↓XX, ↓XD, ↓YX, ZB, Nat.reduceAdd, Nat.reducePow, ↓reduceIte, eq_self, Int.reduceEq, Nat.reduceEqDiff, Nat.reduceMul, Nat.reduceLeDiff, Tryz.f32, hsz, hlt, hat, e1, q1, e2, q2, hw, a1]
          exact this
        · have hlt2 : decide (((d.length + 1 : Nat) : Int) < (s.length : Int)) = false := by rw [decide_eq_false_iff_not]; simp [h3] at hdl; omega
          cases q2 : decide (b = 92) with
          | true =>
            simp (disch := first | exact dI | fail) only [↓XX, ↓XD, ↓YX, ZB, Nat.reduceAdd, Nat.reducePow, ↓reduceIte, eq_self, Int.reduceEq, Nat.reduceEqDiff, Nat.reduceMul, Nat.reduceLeDiff, Tryz.f32, hsz, hlt, hat, e1, q1, e2, q2, hlt2, hw, a1]
            exact this
          | false =>
            simp (disch := first | exact dI | fail) only [↓XX, ↓XD, ↓YX, ZB, Nat.reduceAdd, Nat.reducePow, ↓reduceIte, eq_self, Int.reduceEq, Nat.reduceEqDiff, Nat.reduceMul, Nat.reduceLeDiff, Tryz.f32, hsz, hlt, hat, e1, q1, e2, q2, hw, a1]
            exact this
theorem rq32 (s : Bs) (hs : s.length ≤ 2 ^ 30) (l : Nat) (h : AH) (hl : l ≤ h.length) : Okr (fun v h' => Ss h' v (fieldsL [] s) ∧ Keep h.length h h') (run V0 (.fn 32) l [S (sV s)] h) := by
  refine okr_fn Tryz.func32 rfl rfl rfl rfl ?_
  simp (disch := first | exact dI | fail) only [↓XX, ↓XD, ↓YX, ZB, Nat.reduceAdd, Nat.reducePow, ↓reduceIte, eq_self, Int.reduceEq, Nat.reduceEqDiff, Nat.reduceMul, Nat.reduceLeDiff, Tryz.f32, newS]
  have hp : newP (h ++ [AObj.row 0 1 []]) = pV (h.length + 1) 0 0 := by simp [newP]
  rw [hp]
  exact L32 l h hl s hs s.length s [] [] [] h.length 0 (h.length + 1) _ (Nat.le_refl _) rfl (by simp) (by simp) (Nat.le_refl _) (by omega) ((Keep.app _ _ (Nat.le_refl _)).trans (Keep.app _ _ (by simp))) (by simp [sL]) (.inl ⟨rfl, .inl (by simp)⟩)
end Go.Abs
namespace Go.Abs
open Go.Proofs
set_option maxRecDepth 100000
set_option linter.unusedSimpArgs false
set_option linter.unusedVariables false
set_option pp.maxSteps 20000
set_option pp.deepTerms true
/-- what is written into rows of one kind leaves -/
structure Ch (k lo : Nat) (h h' : AH) : Prop where
  len : h.length ≤ h'.length
  low : ∀ j, j < lo → h'[j]? = h[j]?
  oth : ∀ (j g sz : Nat) (cs : List Value), h[j]? = some (AObj.row g sz cs) → sz ≠ k → h'[j]? = some (AObj.row g sz cs)
theorem Ch.keep {k lo : Nat} {h h' : AH} (c : Ch k lo h h') : Keep lo h h' := ⟨c.len, c.low⟩
theorem Ch.set {k lo i g : Nat} {h : AH} {cs cs' : List Value} (e : h[i]? = some (AObj.row g k cs)) (hl : lo ≤ i) : Ch k lo h (List.set h i (AObj.row g k cs')) :=
  ⟨by simp, fun j hj => by rw [List.getElem?_set_ne (by omega)], fun j g2 sz cs2 e2 hz => by
    have hne : i ≠ j := by rintro rfl; rw [e] at e2; cases e2; exact hz rfl
    rw [List.getElem?_set_ne hne]; exact e2⟩

/-- a slice of the call's own, all of whose room is taken, not below a bound -/
def Me.OwL (lo : Nat) (h : AH) (v : Value) (xs : List Me) : Prop :=
  (v = .slice none 0 0 ∧ xs = []) ∨ ∃ id g, lo ≤ id ∧ v = slV id g xs.length xs.length ∧ h[id]? = some (.row g 3 (Me.R xs))
theorem Me.OwL.one {lo : Nat} {h : AH} {v : Value} {xs : List Me} (q : Me.OwL lo h v xs) : oneCell v = true := by
  rcases q with ⟨rfl, _⟩ | ⟨_, _, _, rfl, _⟩ <;> rfl
theorem Me.OwL.rd {lo : Nat} {h : AH} {v : Value} {xs : List Me} (q : Me.OwL lo h v xs) : Me.Rd h v xs := by
  rcases q with q | ⟨id, g, _, rfl, e⟩
  · exact .inl q
  · exact .inr ⟨id, g, _, rfl, e⟩
theorem Me.OwL.keep {lo : Nat} {h h' : AH} {v : Value} {xs : List Me} (q : Me.OwL lo h v xs) (k : Keep h.length h h') : Me.OwL lo h' v xs := by
  rcases q with q | ⟨id, g, a, rfl, e⟩
  · exact .inl q
  · exact .inr ⟨id, g, a, rfl, k.get e (lt_of_get e)⟩
theorem Me.OwL.ch {k lo lo' : Nat} {h h' : AH} {v : Value} {xs : List Me} (q : Me.OwL lo h v xs) (c : Ch k lo' h h') (hk : 3 ≠ k) : Me.OwL lo h' v xs := by
  rcases q with q | ⟨id, g, a, rfl, e⟩
  · exact .inl q
  · exact .inr ⟨id, g, a, rfl, c.oth _ _ _ _ e hk⟩
theorem Me.OwL.le {lo lo' : Nat} {h : AH} {v : Value} {xs : List Me} (q : Me.OwL lo h v xs) (hh : lo' ≤ lo) : Me.OwL lo' h v xs := by
  rcases q with q | ⟨id, g, a, rfl, e⟩
  · exact .inl q
  · exact .inr ⟨id, g, by omega, rfl, e⟩
/-- one more -/
theorem Me.push {lim lo : Nat} {h : AH} {v : Value} {xs : List Me} (x : Me) (hl : lim ≤ lo) (hlo : lo ≤ h.length) (q : Me.OwL lo h v xs) (hb : xs.length ≤ 2 ^ 30) :
    ∃ v' h', app lim (h ++ [AObj.row 0 3 (Me.C x)]) v (slV h.length 0 1 1) 3 3 40 = some (v', h') ∧ Me.OwL lo h' v' (xs ++ [x]) ∧ oneCell v' = true ∧ Ch 3 lo h h' := by
  rcases q with ⟨rfl, rfl⟩ | ⟨id, g, a, rfl, e⟩
  · refine ⟨_, _, app_newnil (h := h) (sz := 3) (tg := 3) (sz2 := 3) (k := 1) (by' := 40) (ds := Me.C x) rfl (by omega) (by omega), .inr ⟨h.length + 1, 0, by omega, by simp [newS], by simp [Me.R]⟩, rfl, ⟨by simp, fun j hj => ?_, fun j g sz cs e _ => ?_⟩⟩
    · rw [List.append_assoc, List.getElem?_append_left (by omega)]
    · rw [List.append_assoc, List.getElem?_append_left (lt_of_get e)]; exact e
  · obtain ⟨z, e1, g', rfl⟩ := Me.app1 (lim := lim) x e (by omega) hb
    have hi := lt_of_get e
    refine ⟨_, _, e1, .inr ⟨id, g', a, by simp, ?_⟩, rfl, ⟨by simp, fun j hj => ?_, fun j g2 sz cs e2 hz => ?_⟩⟩
    · exact List.getElem?_set_self (by simp; omega)
    · rw [List.getElem?_set_ne (by omega), List.getElem?_append_left (by omega)]
    · have hne : id ≠ j := by rintro rfl; rw [e] at e2; cases e2; exact hz rfl
      rw [List.getElem?_set_ne hne, List.getElem?_append_left (lt_of_get e2)]; exact e2

/-- a slice of the call's own, all of whose room is taken, not below a bound -/
def Rk.OwL (lo : Nat) (h : AH) (v : Value) (xs : List Rk) : Prop :=
  (v = .slice none 0 0 ∧ xs = []) ∨ ∃ id g, lo ≤ id ∧ v = slV id g xs.length xs.length ∧ h[id]? = some (.row g 2 (Rk.R xs))
theorem Rk.OwL.one {lo : Nat} {h : AH} {v : Value} {xs : List Rk} (q : Rk.OwL lo h v xs) : oneCell v = true := by
  rcases q with ⟨rfl, _⟩ | ⟨_, _, _, rfl, _⟩ <;> rfl
theorem Rk.OwL.rd {lo : Nat} {h : AH} {v : Value} {xs : List Rk} (q : Rk.OwL lo h v xs) : Rk.Rd h v xs := by
  rcases q with q | ⟨id, g, _, rfl, e⟩
  · exact .inl q
  · exact .inr ⟨id, g, _, rfl, e⟩
theorem Rk.OwL.keep {lo : Nat} {h h' : AH} {v : Value} {xs : List Rk} (q : Rk.OwL lo h v xs) (k : Keep h.length h h') : Rk.OwL lo h' v xs := by
  rcases q with q | ⟨id, g, a, rfl, e⟩
  · exact .inl q
  · exact .inr ⟨id, g, a, rfl, k.get e (lt_of_get e)⟩
theorem Rk.OwL.ch {k lo lo' : Nat} {h h' : AH} {v : Value} {xs : List Rk} (q : Rk.OwL lo h v xs) (c : Ch k lo' h h') (hk : 2 ≠ k) : Rk.OwL lo h' v xs := by
  rcases q with q | ⟨id, g, a, rfl, e⟩
  · exact .inl q
  · exact .inr ⟨id, g, a, rfl, c.oth _ _ _ _ e hk⟩
theorem Rk.OwL.le {lo lo' : Nat} {h : AH} {v : Value} {xs : List Rk} (q : Rk.OwL lo h v xs) (hh : lo' ≤ lo) : Rk.OwL lo' h v xs := by
  rcases q with q | ⟨id, g, a, rfl, e⟩
  · exact .inl q
  · exact .inr ⟨id, g, by omega, rfl, e⟩
/-- one more -/
theorem Rk.push {lim lo : Nat} {h : AH} {v : Value} {xs : List Rk} (x : Rk) (hl : lim ≤ lo) (hlo : lo ≤ h.length) (q : Rk.OwL lo h v xs) (hb : xs.length ≤ 2 ^ 30) :
    ∃ v' h', app lim (h ++ [AObj.row 0 2 (Rk.C x)]) v (slV h.length 0 1 1) 2 2 24 = some (v', h') ∧ Rk.OwL lo h' v' (xs ++ [x]) ∧ oneCell v' = true ∧ Ch 2 lo h h' := by
  rcases q with ⟨rfl, rfl⟩ | ⟨id, g, a, rfl, e⟩
  · refine ⟨_, _, app_newnil (h := h) (sz := 2) (tg := 2) (sz2 := 2) (k := 1) (by' := 24) (ds := Rk.C x) rfl (by omega) (by omega), .inr ⟨h.length + 1, 0, by omega, by simp [newS], by simp [Rk.R]⟩, rfl, ⟨by simp, fun j hj => ?_, fun j g sz cs e _ => ?_⟩⟩
    · rw [List.append_assoc, List.getElem?_append_left (by omega)]
    · rw [List.append_assoc, List.getElem?_append_left (lt_of_get e)]; exact e
  · obtain ⟨z, e1, g', rfl⟩ := Rk.app1 (lim := lim) x e (by omega) hb
    have hi := lt_of_get e
    refine ⟨_, _, e1, .inr ⟨id, g', a, by simp, ?_⟩, rfl, ⟨by simp, fun j hj => ?_, fun j g2 sz cs e2 hz => ?_⟩⟩
    · exact List.getElem?_set_self (by simp; omega)
    · rw [List.getElem?_set_ne (by omega), List.getElem?_append_left (by omega)]
    · have hne : id ≠ j := by rintro rfl; rw [e] at e2; cases e2; exact hz rfl
      rw [List.getElem?_set_ne hne, List.getElem?_append_left (lt_of_get e2)]; exact e2

theorem r_num (s : Bs) (hs : s.length ≤ 2 ^ 40) (l : Nat) (h : AH) : run V0 (.fn 33) l [S (sV s)] h = some (.ret (iV (numI s)) h) := by
  refine run_prim (vs := [sV s]) (p := pPure fNum) rfl ?_
  have : (B s).size ≤ 281474976710656 := by rw [size_B]; omega
  simp only [pPure, fNum, if_pos this]
  rfl
/-- a field -/
theorem sL_at {ws : List Bs} {i : Nat} {x : Bs} (e : ws[i]? = some x) : (sL ws)[i]? = some (sV x) := by simp [sL, e]
end Go.Abs
namespace Go.Abs
open Go.Proofs
set_option maxRecDepth 100000
set_option linter.unusedSimpArgs false
set_option linter.unusedVariables false
set_option pp.maxSteps 20000
set_option pp.deepTerms true
/-- an empty room -/
abbrev zR : List Value := [sV [], iV 0, .slice none 0 0, .slice none 0 0, sV []]
/-- a room that is being read -/
structure GSt (iw gw i2 ir : Nat) (ws : List Bs) (R : Rm) (mv rv : Value) (H0 h : AH) : Prop where
  k : Keep H0.length H0 h
  w : h[iw]? = some (.row gw 1 (sL ws))
  z : h[i2]? = some (.row 0 5 zR)
  r : h[ir]? = some (.row 0 5 [sV R.name, iV R.next, mv, rv, sV R.sub])
  m : Me.OwL H0.length h mv R.ms
  q : Rk.OwL H0.length h rv R.rs
  bi2 : H0.length ≤ i2
  bir : H0.length ≤ ir
  bne : i2 ≠ ir
/-- what a reader of a room answers -/
def GetQ (s : Bs) (o : Option Rm) (H0 : AH) (v : Value) (h : AH) : Prop :=
  (match sealL s o with
    | some R => ∃ mv rv, v = .tuple #[(R.ro mv rv).V, .bool true] ∧ Me.OwL H0.length h mv R.ms ∧ Rk.OwL H0.length h rv R.rs
    | none => v = .tuple #[.agg ⟨zR⟩, .bool false]) ∧ Keep H0.length H0 h
theorem GetQ.yes {s : Bs} {R : Rm} {H0 h : AH} {mv rv : Value} (h1 : R.ok = true) (h2 : R.put = s) (m : Me.OwL H0.length h mv R.ms) (q : Rk.OwL H0.length h rv R.rs) (k : Keep H0.length H0 h) : GetQ s (some R) H0 (.tuple #[(R.ro mv rv).V, .bool true]) h := by
  unfold GetQ
  rw [seal_mk h1 h2]
  exact ⟨⟨mv, rv, rfl, m, q⟩, k⟩
theorem GetQ.no {s : Bs} {R : Rm} {H0 h : AH} (h1 : ¬(R.ok = true ∧ R.put = s)) (k : Keep H0.length H0 h) : GetQ s (some R) H0 (.tuple #[.agg ⟨zR⟩, .bool false]) h := by
  unfold GetQ sealL
  rw [Option.bind_some, if_neg h1]
  exact ⟨rfl, k⟩
/-- the texts of a room that was read are small -/
structure WsB (ws : List Bs) : Prop where
  len : ws.length ≤ 2 ^ 20 + 1
  each : ∀ x ∈ ws, x.length ≤ 2 ^ 20
theorem fields_b (s : Bs) (hs : s.length ≤ 2 ^ 20) : WsB (fieldsL [] s) :=
  ⟨by have := fieldsL_len s []; omega, fun x hx => by have := fieldsL_each s [] x hx; simp at this; omega⟩
end Go.Abs
namespace Go.Abs
open Go.Proofs
set_option maxRecDepth 100000
set_option linter.unusedSimpArgs false
set_option linter.unusedVariables false
set_option pp.maxSteps 20000
set_option pp.deepTerms true
theorem takeM_short (num : Bs → Int) (n : Nat) (q : List Bs) (h : n = 0 ∨ q.length < 3) : takeM num n q = ([], q) := by
  rcases h with rfl | h
  · rw [takeM]
  · match n, q, h with
    | 0, q, _ => rw [takeM]
    | n + 1, [], _ => rfl
    | n + 1, [a], _ => rfl
    | n + 1, [a, b], _ => rfl
end Go.Abs
namespace Go.Abs
open Go.Proofs
set_option maxRecDepth 100000
set_option linter.unusedSimpArgs false
set_option linter.unusedVariables false
set_option pp.maxSteps 20000
set_option pp.deepTerms true

theorem rq79 (v : Value) (l : Nat) (h : AH) (xs : List Me) (hl : l ≤ h.length) (hn : xs.length ≤ 2 ^ 30) (q : Me.Rd h v xs) :
    ∃ v' h', run V0 (.fn 79) l [S v] h = some (.ret v' h') ∧ Me.OwL h.length h' v' xs ∧ Keep h.length h h' := by
  have q0 := q
  rcases q with ⟨rfl, rfl⟩ | ⟨id, g, c, rfl, e⟩
  · refine ⟨.slice none 0 0, h, run_fn Tryz.func79 rfl rfl rfl rfl ?_, .inl ⟨rfl, rfl⟩, Keep.refl _ _⟩
    simp (disch := first | exact dI | fail) only [↓XX, ↓XD, ↓YX, ZB, Nat.reduceAdd, Nat.reducePow, ↓reduceIte, eq_self, Int.reduceEq, Nat.reduceEqDiff, Nat.reduceMul, Nat.reduceLeDiff, Tryz.f79, lenV]
  · have kx : Keep h.length h (h ++ [AObj.row 0 3 []]) := Keep.app _ _ (Nat.le_refl _)
    obtain ⟨y, hap, g', rfl⟩ := okr_app (lim := l) (h := h ++ [AObj.row 0 3 []]) (id := h.length) (g := 0) (tg := 3) (sz := 3) (n := 0) (k := xs.length) (by' := 40) (cs := []) (ds := Me.R xs) (x := slV id g xs.length c) (src_keep q0.src kx) (HC2 rfl) rfl hl (by omega)
    rw [Nat.zero_add, List.nil_append] at hap
    refine ⟨slV h.length g' xs.length xs.length, (h ++ [AObj.row 0 3 []]).set h.length (.row g' 3 (Me.R xs)), run_fn Tryz.func79 rfl rfl rfl rfl ?_, .inr ⟨h.length, g', Nat.le_refl _, rfl, by rw [List.getElem?_set_self (by simp)]⟩, kx.trans (Keep.set _ _ _ (Nat.le_refl _))⟩
    simp (disch := first | exact dI | fail) only [↓XX, ↓XD, ↓YX, ZB, Nat.reduceAdd, Nat.reducePow, ↓reduceIte, eq_self, Int.reduceEq, Nat.reduceEqDiff, Nat.reduceMul, Nat.reduceLeDiff, Tryz.f79, slV_new, hap]
theorem rq78 (v : Value) (l lo : Nat) (h : AH) (xs : List Me) (q : Me.OwL lo h v xs) : run V0 (.fn 78) l [S v] h = some (.ret v h) := by
  rcases q with ⟨rfl, rfl⟩ | ⟨id, g, a, rfl, e⟩
  · have hs : slCut h (.slice none 0 0) none (some 0) (some 0) 3 = some (.slice none 0 0) := rfl
    refine run_fn Tryz.func78 rfl rfl rfl rfl ?_
    simp (disch := first | exact dI | fail) only [↓XX, ↓XD, ↓YX, ZB, Nat.reduceAdd, Nat.reducePow, ↓reduceIte, eq_self, Int.reduceEq, Nat.reduceEqDiff, Nat.reduceMul, Nat.reduceLeDiff, Tryz.f78, lenV, hs, Int.natCast_zero]
  · have hs : slCut h (slV id g xs.length xs.length) none (some (xs.length : Int)) (some (xs.length : Int)) 3 = some (slV id g xs.length xs.length) := by
      simp only [slCut, rowAt_of e, Option.bind_some, Option.getD_none, Option.getD_some]
      rw [if_pos ⟨by omega, by omega, rfl, by omega, by omega⟩, if_pos ⟨by omega, by omega⟩]
      simp
    refine run_fn Tryz.func78 rfl rfl rfl rfl ?_
    simp (disch := first | exact dI | fail) only [↓XX, ↓XD, ↓YX, ZB, Nat.reduceAdd, Nat.reducePow, ↓reduceIte, eq_self, Int.reduceEq, Nat.reduceEqDiff, Nat.reduceMul, Nat.reduceLeDiff, Tryz.f78, lenV_sl, hs, Option.isNone_some, Option.isNone_none, Option.isSome_some, Bool.or_true, Bool.false_or]

theorem rq81 (v : Value) (l : Nat) (h : AH) (xs : List Rk) (hl : l ≤ h.length) (hn : xs.length ≤ 2 ^ 30) (q : Rk.Rd h v xs) :
    ∃ v' h', run V0 (.fn 81) l [S v] h = some (.ret v' h') ∧ Rk.OwL h.length h' v' xs ∧ Keep h.length h h' := by
  have q0 := q
  rcases q with ⟨rfl, rfl⟩ | ⟨id, g, c, rfl, e⟩
  · refine ⟨.slice none 0 0, h, run_fn Tryz.func81 rfl rfl rfl rfl ?_, .inl ⟨rfl, rfl⟩, Keep.refl _ _⟩
    simp (disch := first | exact dI | fail) only [↓XX, ↓XD, ↓YX, ZB, Nat.reduceAdd, Nat.reducePow, ↓reduceIte, eq_self, Int.reduceEq, Nat.reduceEqDiff, Nat.reduceMul, Nat.reduceLeDiff, Tryz.f81, lenV]
  · have kx : Keep h.length h (h ++ [AObj.row 0 2 []]) := Keep.app _ _ (Nat.le_refl _)
    obtain ⟨y, hap, g', rfl⟩ := okr_app (lim := l) (h := h ++ [AObj.row 0 2 []]) (id := h.length) (g := 0) (tg := 2) (sz := 2) (n := 0) (k := xs.length) (by' := 24) (cs := []) (ds := Rk.R xs) (x := slV id g xs.length c) (src_keep q0.src kx) (HC2 rfl) rfl hl (by omega)
    rw [Nat.zero_add, List.nil_append] at hap
    refine ⟨slV h.length g' xs.length xs.length, (h ++ [AObj.row 0 2 []]).set h.length (.row g' 2 (Rk.R xs)), run_fn Tryz.func81 rfl rfl rfl rfl ?_, .inr ⟨h.length, g', Nat.le_refl _, rfl, by rw [List.getElem?_set_self (by simp)]⟩, kx.trans (Keep.set _ _ _ (Nat.le_refl _))⟩
    simp (disch := first | exact dI | fail) only [↓XX, ↓XD, ↓YX, ZB, Nat.reduceAdd, Nat.reducePow, ↓reduceIte, eq_self, Int.reduceEq, Nat.reduceEqDiff, Nat.reduceMul, Nat.reduceLeDiff, Tryz.f81, slV_new, hap]
theorem rq80 (v : Value) (l lo : Nat) (h : AH) (xs : List Rk) (q : Rk.OwL lo h v xs) : run V0 (.fn 80) l [S v] h = some (.ret v h) := by
  rcases q with ⟨rfl, rfl⟩ | ⟨id, g, a, rfl, e⟩
  · have hs : slCut h (.slice none 0 0) none (some 0) (some 0) 2 = some (.slice none 0 0) := rfl
    refine run_fn Tryz.func80 rfl rfl rfl rfl ?_
    simp (disch := first | exact dI | fail) only [↓XX, ↓XD, ↓YX, ZB, Nat.reduceAdd, Nat.reducePow, ↓reduceIte, eq_self, Int.reduceEq, Nat.reduceEqDiff, Nat.reduceMul, Nat.reduceLeDiff, Tryz.f80, lenV, hs, Int.natCast_zero]
  · have hs : slCut h (slV id g xs.length xs.length) none (some (xs.length : Int)) (some (xs.length : Int)) 2 = some (slV id g xs.length xs.length) := by
      simp only [slCut, rowAt_of e, Option.bind_some, Option.getD_none, Option.getD_some]
      rw [if_pos ⟨by omega, by omega, rfl, by omega, by omega⟩, if_pos ⟨by omega, by omega⟩]
      simp
    refine run_fn Tryz.func80 rfl rfl rfl rfl ?_
    simp (disch := first | exact dI | fail) only [↓XX, ↓XD, ↓YX, ZB, Nat.reduceAdd, Nat.reducePow, ↓reduceIte, eq_self, Int.reduceEq, Nat.reduceEqDiff, Nat.reduceMul, Nat.reduceLeDiff, Tryz.f80, lenV_sl, hs, Option.isNone_some, Option.isNone_none, Option.isSome_some, Bool.or_true, Bool.false_or]

set_option maxHeartbeats 4000000 in
theorem rq35 (R : Rm) (sm : R.Sm) (mv rv : Value) (l : Nat) (h : AH) (hl : l ≤ h.length) (qm : Me.Rd h mv R.ms) (qr : Rk.Rd h rv R.rs) :
    Okr (fun v h' => ∃ mv' rv', v = (R.ro mv' rv').V ∧ Me.OwL h.length h' mv' R.ms ∧ Rk.OwL h.length h' rv' R.rs ∧ Keep h.length h h') (run V0 (.fn 35) l [S (R.ro mv rv).V] h) := by
  have n5 : ∀ a b c d e : Value, [a, b, c, d, e].length = 5 := fun _ _ _ _ _ => rfl
  have le5 : (5 ≤ 5) = True := by simp
  have tk : ∀ a b c d e : Value, List.take 5 [a, b, c, d, e] = [a, b, c, d, e] := fun _ _ _ _ _ => rfl
  have hm := sm.m
  have hr := sm.k
  refine okr_fn Tryz.func35 rfl rfl rfl rfl ?_
  have kx : Keep h.length h (h ++ [AObj.row 0 5 [sV R.name, iV R.next, mv, rv, sV R.sub], AObj.row 0 5 zR]) := Keep.app _ _ (Nat.le_refl _)
  obtain ⟨m1, h1, a1, o1, k1⟩ := rq79 mv (h.length + 2) (h ++ [AObj.row 0 5 [sV R.name, iV R.next, mv, rv, sV R.sub], AObj.row 0 5 zR]) R.ms (by simp) (by omega) (qm.keep kx)
  have b1 := rq78 m1 h1.length _ h1 R.ms o1
  have K1 := kx.trans (k1.le kx.1)
  obtain ⟨q1, h2, a2, o2, k2⟩ := rq81 rv l h1 R.rs (by have := K1.1; omega) (by omega) (qr.keep K1)
  have b2 := rq80 q1 l _ h2 R.rs o2
  have K2 := K1.trans (k2.le K1.1)
  have er : h2[h.length]? = some (.row 0 5 [sV R.name, iV R.next, mv, rv, sV R.sub]) := (k1.trans (k2.le k1.1)).get (by simp) (by simp)
  have ez : h2[h.length + 1]? = some (.row 0 5 zR) := (k1.trans (k2.le k1.1)).get (by simp) (by simp)
  have oq1 := o1.one
  have oq2 := o2.one
  have g0 : ∀ (H : AH) X, h.length < H.length → (H.set h.length X)[h.length]? = some X := fun H X hh => List.getElem?_set_self hh
  have hl0 := lt_of_get er
  have hl1 := lt_of_get ez
  have g1 : ∀ X, (h2.set h.length X)[h.length]? = some X := fun X => g0 _ _ hl0
  have g2 : ∀ X, (h2.set h.length X)[h.length + 1]? = some (.row 0 5 zR) := fun X => by rw [List.getElem?_set_ne (by omega)]; exact ez
  have g3 : ∀ X Y, ((h2.set h.length X).set (h.length + 1) Y)[h.length + 1]? = some Y := fun X Y => List.getElem?_set_self (by simp; omega)
  have le3 : (3 ≤ 5) = True := by simp
  have le4 : (4 ≤ 5) = True := by simp
  simp (dsimp := false) (disch := first | exact dI | fail) only [XOB, ↓XXs, ↓XD, ↓YX, ZB, Nat.reduceAdd, Nat.reducePow, ↓reduceIte, eq_self, Int.reduceEq, Nat.reduceEqDiff, Nat.reduceMul, Nat.reduceLeDiff, Int.reduceBEq, Int.reduceLT, Tryz.f35, ↓XH2, XRN, ZC, ZE, ZH, eq_self, Nat.reduceLeDiff, Nat.reduceBEq, slV_new, reduceIte, ↓op_extract, tupAt_mk, lenV_sl, Bool.not_true, Bool.not_false, a1, b1, a2, b2, er, oq1, oq2, g1, g2, g3, n5, le3, le4, le5, tk, decide_true, and_self, if_true, List.set_set]
  have c5 : ∀ cs, Ch 5 h.length h2 (h2.set h.length (.row 0 5 cs)) := fun cs => Ch.set er (Nat.le_refl _)
  have c6 : ∀ cs cs', Ch 5 h.length (h2.set h.length (.row 0 5 cs)) ((h2.set h.length (.row 0 5 cs)).set (h.length + 1) (.row 0 5 cs')) := fun cs cs' => Ch.set (g2 _) (by omega)
  exact Okr.ret ⟨m1, q1, rfl, (((o1.keep k2).le kx.1).ch (c5 _) (by decide)).ch (c6 _ _) (by decide), ((o2.le K1.1).ch (c5 _) (by decide)).ch (c6 _ _) (by decide), (K2.trans (c5 _).keep).trans (c6 _ _).keep⟩
end Go.Abs
namespace Go.Abs
open Go.Proofs
set_option maxRecDepth 100000
set_option linter.unusedSimpArgs false
set_option linter.unusedVariables false
set_option pp.maxSteps 20000
set_option pp.deepTerms true
/-- the fields that are left -/
abbrev plV (iw o gw n : Nat) : Value := .slice (some ⟨iw, o, some gw⟩) n n
theorem plV_cut {h : AH} {iw o gw n k : Nat} {cs : List Value} (e : h[iw]? = some (.row gw 1 cs)) (hk : k ≤ n) : slCut h (plV iw o gw n) (some (k : Int)) none none 1 = some (plV iw (o + k) gw (n - k)) := by
  simp only [slCut, rowAt_of e, Option.bind_some, Option.getD_none, Option.getD_some]
  rw [if_pos ⟨by omega, by omega, rfl, by omega, by omega⟩]
  simp
set_option maxHeartbeats 4000000 in
theorem L113 (s : Bs) (l iw gw i2 ir : Nat) (ws : List Bs) (hw : WsB ws) (H0 : AH) (hl : l ≤ H0.length) : ∀ (n : Nat) (q d : List Bs) (R : Rm) (mv rv : Value) (h : AH), q.length ≤ n → q.length % 2 = 0 → ws = d ++ q → R.rs.length ≤ d.length → R.Sm → GSt iw gw i2 ir ws R mv rv H0 h →
    Okr (GetQ s (some { R with rs := R.rs ++ takeR numI q }) H0) (L13_1 l (sV s) (pV i2 0 0) (plV iw d.length gw q.length) (pV ir 0 0) h) := by
  have n5 : ∀ a b c d e : Value, [a, b, c, d, e].length = 5 := fun _ _ _ _ _ => rfl
  have le5 : (5 ≤ 5) = True := by simp
  have tk : ∀ a b c d e : Value, List.take 5 [a, b, c, d, e] = [a, b, c, d, e] := fun _ _ _ _ _ => rfl
  have hwl := hw.len
  intro n
  induction n using Nat.strongRecOn with
  | ind n ih =>
  intro q d R mv rv h hq hq2 hd hrd sm g
  have hdl := congrArg List.length hd
  simp only [List.length_append] at hdl
  have hk := g.k
  have hi2 := g.bi2
  have hir := g.bir
  match q, hq, hd, hdl, hq2 with
  | [], hq, hd, hdl, hq2 =>
    have hlw : lenV (plV iw d.length gw 0) = some 0 := rfl
    have hlt : decide ((0 : Int) < 0) = false := rfl
    rw [show takeR numI [] = [] from rfl, List.append_nil]
    have er := g.r
    have ez := g.z
    refine okr_code Tryz.func13 rfl rfl ?_
    simp (dsimp := false) (disch := first | exact dI | fail) only [XOB, ↓XXs, ↓XD, ↓YX, ZB, Nat.reduceAdd, Nat.reducePow, ↓reduceIte, eq_self, Int.reduceEq, Nat.reduceEqDiff, Nat.reduceMul, Nat.reduceLeDiff, Int.reduceBEq, Int.reduceLT, Tryz.f13, ↓XH2, XRN, ZC, ZE, ZH, eq_self, Nat.reduceLeDiff, Nat.reduceBEq, slV_new, reduceIte, ↓op_extract, tupAt_mk, lenV_sl, Bool.not_true, Bool.not_false, hlw, hlt, er, n5, le5, tk, decide_true, decide_false]
    refine okr_call (rq17 R sm mv rv l _ (by have := hk.1; omega) g.m.rd g.q.rd) ?_
    rintro _ h1 ⟨rfl, k1⟩
    have er1 := k1.get er (lt_of_get er)
    have ez1 := k1.get ez (lt_of_get ez)
    have K1 := hk.trans (k1.le hk.1)
    cases hok : R.ok with
    | false =>
      have gz : ∀ X, (h1.set i2 X)[i2]? = some X := fun X => List.getElem?_set_self (lt_of_get ez1)
      simp (dsimp := false) (disch := first | exact dI | fail) only [XOB, ↓XXs, ↓XD, ↓YX, ZB, Nat.reduceAdd, Nat.reducePow, ↓reduceIte, eq_self, Int.reduceEq, Nat.reduceEqDiff, Nat.reduceMul, Nat.reduceLeDiff, Int.reduceBEq, Int.reduceLT, Tryz.f13, ↓XH2, XRN, ZC, ZE, ZH, eq_self, Nat.reduceLeDiff, Nat.reduceBEq, slV_new, reduceIte, ↓op_extract, tupAt_mk, lenV_sl, Bool.not_true, Bool.not_false, ez1, gz, n5, le5, tk, decide_true]
      exact Okr.ret (GetQ.no (by rw [hok]; simp) (K1.trans (Keep.set _ _ _ hi2)))
    | true =>
      simp (dsimp := false) (disch := first | exact dI | fail) only [XOB, ↓XXs, ↓XD, ↓YX, ZB, Nat.reduceAdd, Nat.reducePow, ↓reduceIte, eq_self, Int.reduceEq, Nat.reduceEqDiff, Nat.reduceMul, Nat.reduceLeDiff, Int.reduceBEq, Int.reduceLT, Tryz.f13, ↓XH2, XRN, ZC, ZE, ZH, eq_self, Nat.reduceLeDiff, Nat.reduceBEq, slV_new, reduceIte, ↓op_extract, tupAt_mk, lenV_sl, Bool.not_true, Bool.not_false, er1, n5, le5, tk, decide_true]
      refine okr_call (rq10 R sm mv rv l _ (by have := K1.1; omega) (g.m.keep k1).rd (g.q.keep k1).rd) ?_
      rintro _ h2 ⟨rfl, k2⟩
      rw [if_pos hok]
      have er2 := k2.get er1 (lt_of_get er1)
      have ez2 := k2.get ez1 (lt_of_get ez1)
      have K2 := K1.trans (k2.le K1.1)
      simp (dsimp := false) (disch := first | exact dI | fail) only [XOB, ↓XXs, ↓XD, ↓YX, ZB, Nat.reduceAdd, Nat.reducePow, ↓reduceIte, eq_self, Int.reduceEq, Nat.reduceEqDiff, Nat.reduceMul, Nat.reduceLeDiff, Int.reduceBEq, Int.reduceLT, Tryz.f13, ↓XH2, XRN, ZC, ZE, ZH, eq_self, Nat.reduceLeDiff, Nat.reduceBEq, slV_new, reduceIte, ↓op_extract, tupAt_mk, lenV_sl, Bool.not_true, Bool.not_false, er2, n5, le5, tk, decide_true, neB]
      have gz : ∀ X, (h2.set i2 X)[i2]? = some X := fun X => List.getElem?_set_self (lt_of_get ez2)
      with_reducible refine okr_if (fun q0 => ?_) (fun q0 => ?_)
      · simp (dsimp := false) (disch := first | exact dI | fail) only [XOB, ↓XXs, ↓XD, ↓YX, ZB, Nat.reduceAdd, Nat.reducePow, ↓reduceIte, eq_self, Int.reduceEq, Nat.reduceEqDiff, Nat.reduceMul, Nat.reduceLeDiff, Int.reduceBEq, Int.reduceLT, Tryz.f13, ↓XH2, XRN, ZC, ZE, ZH, eq_self, Nat.reduceLeDiff, Nat.reduceBEq, slV_new, reduceIte, ↓op_extract, tupAt_mk, lenV_sl, Bool.not_true, Bool.not_false, ez2, gz, n5, le5, tk, decide_true]
        simp only [Bool.not_eq_true', decide_eq_false_iff_not] at q0
        exact Okr.ret (GetQ.no (fun z => q0 z.2) (K2.trans (Keep.set _ _ _ hi2)))
      · simp only [Bool.not_eq_false', decide_eq_true_eq] at q0
        simp (dsimp := false) (disch := first | exact dI | fail) only [XOB, ↓XXs, ↓XD, ↓YX, ZB, Nat.reduceAdd, Nat.reducePow, ↓reduceIte, eq_self, Int.reduceEq, Nat.reduceEqDiff, Nat.reduceMul, Nat.reduceLeDiff, Int.reduceBEq, Int.reduceLT, Tryz.f13, ↓XH2, XRN, ZC, ZE, ZH, eq_self, Nat.reduceLeDiff, Nat.reduceBEq, slV_new, reduceIte, ↓op_extract, tupAt_mk, lenV_sl, Bool.not_true, Bool.not_false, er2, n5, le5, tk, decide_true]
        refine okr_call (rq35 R sm mv rv l _ (by have := K2.1; omega) ((g.m.keep k1).keep k2).rd ((g.q.keep k1).keep k2).rd) ?_
        rintro _ h3 ⟨mv3, rv3, rfl, m3, q3, k3⟩
        have ez3 := k3.get ez2 (lt_of_get ez2)
        have K3 := K2.trans (k3.le K2.1)
        have om := m3.one
        have oq := q3.one
        have gz3 : ∀ X, (h3.set i2 X)[i2]? = some X := fun X => List.getElem?_set_self (lt_of_get ez3)
        have c5 : Ch 5 H0.length h3 (h3.set i2 (.row 0 5 [sV R.name, iV R.next, mv3, rv3, sV R.sub])) := Ch.set ez3 hi2
        simp (dsimp := false) (disch := first | exact dI | fail) only [XOB, ↓XXs, ↓XD, ↓YX, ZB, Nat.reduceAdd, Nat.reducePow, ↓reduceIte, eq_self, Int.reduceEq, Nat.reduceEqDiff, Nat.reduceMul, Nat.reduceLeDiff, Int.reduceBEq, Int.reduceLT, Tryz.f13, ↓XH2, XRN, ZC, ZE, ZH, eq_self, Nat.reduceLeDiff, Nat.reduceBEq, slV_new, reduceIte, ↓op_extract, tupAt_mk, lenV_sl, Bool.not_true, Bool.not_false, ez3, gz3, n5, le5, tk, decide_true, om, oq, Bool.and_true, if_true]
        exact Okr.ret (GetQ.yes hok q0 ((m3.le K2.1).ch c5 (by decide)) ((q3.le K2.1).ch c5 (by decide)) (K3.trans c5.keep))
  | [a], hq, hd, hdl, hq2 => simp at hq2
  | a :: b :: q, hq, hd, hdl, hq2 =>
    rw [show (a :: b :: q).length = q.length + 2 from rfl] at hq hdl hq2 ⊢
    have hlw : lenV (plV iw d.length gw (q.length + 2)) = some ((q.length + 2 : Nat) : Int) := rfl
    have hlt : decide ((0 : Int) < ((q.length + 2 : Nat) : Int)) = true := by rw [decide_eq_true_iff]; omega
    have ha : a.length ≤ 2 ^ 20 := hw.each a (by rw [hd]; simp)
    have hb : b.length ≤ 2 ^ 20 := hw.each b (by rw [hd]; simp)
    have er := g.r
    have ew := g.w
    have hix : ixAddr (plV iw d.length gw (q.length + 2)) 0 1 = some (pV iw d.length gw) := ixAddr_sl (i := 0) (sz := 1) (by omega)
    have hix1 : ixAddr (plV iw d.length gw (q.length + 2)) 1 1 = some (pV iw (d.length + 1) gw) := ixAddr_sl (i := 1) (sz := 1) (by omega)
    have c0 : (sL ws)[d.length]? = some (sV a) := sL_at (by rw [hd]; simp)
    have c1 : (sL ws)[d.length + 1]? = some (sV b) := sL_at (by rw [hd, List.getElem?_append_right (by omega)]; simp)
    have hnum := r_num b (by omega)
    obtain ⟨v', h', hap, ow, one, ch⟩ := Rk.push (lim := l) (x := ⟨a, numI b⟩) hl hk.1 g.q (by omega)
    have er' := ch.oth _ _ _ _ er (by decide)
    have hlir : l ≤ ir := by omega
    have c5 : Ch 5 H0.length h' (h'.set ir (.row 0 5 [sV R.name, iV R.next, mv, v', sV R.sub])) := Ch.set er' hir
    have ew5 := c5.oth _ _ _ _ (ch.oth _ _ _ _ ew (by decide)) (by decide)
    have hcut : slCut (h'.set ir (.row 0 5 [sV R.name, iV R.next, mv, v', sV R.sub])) (plV iw d.length gw (q.length + 2)) (some 2) none none 1 = some (plV iw (d.length + 2) gw q.length) := plV_cut (o := d.length) (n := q.length + 2) (k := 2) ew5 (by omega)
    refine okr_code Tryz.func13 rfl rfl ?_
    simp (dsimp := false) (disch := first | exact dI | fail) only [XOB, ↓XXs, ↓XD, ↓YX, ZB, Nat.reduceAdd, Nat.reducePow, ↓reduceIte, eq_self, Int.reduceEq, Nat.reduceEqDiff, Nat.reduceMul, Nat.reduceLeDiff, Int.reduceBEq, Int.reduceLT, Tryz.f13, ↓XH2, XRN, ZC, ZE, ZH, eq_self, Nat.reduceLeDiff, Nat.reduceBEq, slV_new, reduceIte, ↓op_extract, tupAt_mk, lenV_sl, Bool.not_true, Bool.not_false, hlw, hlt, er, hix, hix1, ew, c0, c1, hnum, hap, er', one, hlir, n5, decide_true, hcut]
    have hlt2 : q.length < n := by omega
    have sm2 : Rm.Sm { R with rs := R.rs ++ [⟨a, numI b⟩] } := ⟨sm.nm, sm.sb, sm.m, by simp; omega, sm.ms, fun x hx => by
      rcases List.mem_append.1 hx with hx | hx
      · exact sm.rs x hx
      · rw [List.mem_singleton] at hx; subst hx; show a.length ≤ _; omega⟩
    have := ih q.length hlt2 q (d ++ [a, b]) { R with rs := R.rs ++ [⟨a, numI b⟩] } mv v' _ (Nat.le_refl _) (by omega) (by rw [hd]; simp) (by simp; omega) sm2
      ⟨(hk.trans ch.keep).trans c5.keep, ew5, by rw [List.getElem?_set_ne (fun z => g.bne z.symm)]; exact ch.oth _ _ _ _ g.z (by decide), get_set _ er', (g.m.ch ch (by decide)).ch c5 (by decide), ow.ch c5 (by decide), hi2, hir, g.bne⟩
    rw [show (d ++ [a, b]).length = d.length + 2 by simp] at this
    simp only [takeR, List.append_assoc, List.cons_append, List.nil_append] at this ⊢
    exact this
end Go.Abs
namespace Go.Abs
open Go.Proofs
set_option maxRecDepth 100000
set_option linter.unusedSimpArgs false
set_option linter.unusedVariables false
set_option pp.maxSteps 20000
set_option pp.deepTerms true
set_option maxHeartbeats 4000000 in
theorem L013 (s : Bs) (l iw gw i2 ir k0 : Nat) (hk0 : k0 ≤ 5) (ws : List Bs) (hw : WsB ws) (H0 : AH) (hl : l ≤ H0.length) : ∀ (j i : Nat) (q d : List Bs) (R : Rm) (mv rv : Value) (h : AH), i + j = k0 → 3 * j ≤ q.length → (q.length - 3 * j) % 2 = 0 → ws = d ++ q → R.ms.length ≤ d.length → R.rs = [] → R.Sm → GSt iw gw i2 ir ws R mv rv H0 h →
    Okr (GetQ s (some { R with ms := R.ms ++ (takeM numI j q).1, rs := takeR numI (takeM numI j q).2 }) H0) (L13_0 l (sV s) (pV i2 0 0) (plV iw d.length gw q.length) (pV ir 0 0) (iV k0) (iV i) h) := by
  have n5 : ∀ a b c d e : Value, [a, b, c, d, e].length = 5 := fun _ _ _ _ _ => rfl
  have hwl := hw.len
  intro j
  induction j with
  | zero =>
    intro i q d R mv rv h hij hq hq2 hd hmd hrs sm g
    have hlt : decide ((i : Int) < (k0 : Int)) = false := by rw [decide_eq_false_iff_not]; omega
    have nx := L113 s l iw gw i2 ir ws hw H0 hl q.length q d R mv rv h (Nat.le_refl _) (by simpa using hq2) hd (by rw [hrs]; simp) sm g
    rw [takeM_short _ _ _ (.inl rfl), List.append_nil]
    rw [hrs, List.nil_append] at nx
    refine okr_code Tryz.func13 rfl rfl ?_
    simp (dsimp := false) (disch := first | exact dI | fail) only [XOB, ↓XXs, ↓XD, ↓YX, ZB, Nat.reduceAdd, Nat.reducePow, ↓reduceIte, eq_self, Int.reduceEq, Nat.reduceEqDiff, Nat.reduceMul, Nat.reduceLeDiff, Int.reduceBEq, Int.reduceLT, Tryz.f13, ↓XH2, XRN, ZC, ZE, ZH, eq_self, Nat.reduceLeDiff, Nat.reduceBEq, slV_new, reduceIte, ↓op_extract, tupAt_mk, lenV_sl, Bool.not_true, Bool.not_false, hlt]
    exact nx
  | succ j ih =>
    intro i q d R mv rv h hij hq hq2 hd hmd hrs sm g
    have hk := g.k
    have hi2 := g.bi2
    have hir := g.bir
    match q, hq, hq2, hd with
    | [], hq, hq2, hd => simp at hq
    | [a], hq, hq2, hd => simp at hq; omega
    | [a, b], hq, hq2, hd => simp at hq; omega
    | a :: b :: c :: q, hq, hq2, hd =>
    have hdl := congrArg List.length hd
    simp only [List.length_append, List.length_cons] at hdl hq hq2
    rw [show (a :: b :: c :: q).length = q.length + 3 from rfl]
    have hlt : decide ((i : Int) < (k0 : Int)) = true := by rw [decide_eq_true_iff]; omega
    have ha : a.length ≤ 2 ^ 20 := hw.each a (by rw [hd]; simp)
    have hb : b.length ≤ 2 ^ 20 := hw.each b (by rw [hd]; simp)
    have hc : c.length ≤ 2 ^ 20 := hw.each c (by rw [hd]; simp)
    have er := g.r
    have ew := g.w
    have hix : ixAddr (plV iw d.length gw (q.length + 3)) 0 1 = some (pV iw d.length gw) := ixAddr_sl (i := 0) (sz := 1) (by omega)
    have hix1 : ixAddr (plV iw d.length gw (q.length + 3)) 1 1 = some (pV iw (d.length + 1) gw) := ixAddr_sl (i := 1) (sz := 1) (by omega)
    have hix2 : ixAddr (plV iw d.length gw (q.length + 3)) 2 1 = some (pV iw (d.length + 2) gw) := ixAddr_sl (i := 2) (sz := 1) (by omega)
    have c0 : (sL ws)[d.length]? = some (sV a) := sL_at (by rw [hd]; simp)
    have c1 : (sL ws)[d.length + 1]? = some (sV b) := sL_at (by rw [hd, List.getElem?_append_right (by omega)]; simp)
    have c2 : (sL ws)[d.length + 2]? = some (sV c) := sL_at (by rw [hd, List.getElem?_append_right (by omega)]; simp)
    have hnum := r_num c (by omega)
    obtain ⟨v', h', hap, ow, one, ch⟩ := Me.push (lim := l) (x := ⟨a, b, numI c⟩) hl hk.1 g.m (by omega)
    have er' := ch.oth _ _ _ _ er (by decide)
    have hlir : l ≤ ir := by omega
    have c5 : Ch 5 H0.length h' (h'.set ir (.row 0 5 [sV R.name, iV R.next, v', rv, sV R.sub])) := Ch.set er' hir
    have ew5 := c5.oth _ _ _ _ (ch.oth _ _ _ _ ew (by decide)) (by decide)
    have hcut : slCut (h'.set ir (.row 0 5 [sV R.name, iV R.next, v', rv, sV R.sub])) (plV iw d.length gw (q.length + 3)) (some 3) none none 1 = some (plV iw (d.length + 3) gw q.length) := plV_cut (o := d.length) (n := q.length + 3) (k := 3) ew5 (by omega)
    have wi : IntKind.i64.wrap ((i : Int) + 1) = ((i + 1 : Nat) : Int) := natCast_succ_wrap (by omega) rfl
    refine okr_code Tryz.func13 rfl rfl ?_
    simp (dsimp := false) (disch := first | exact dI | fail) only [XOB, ↓XXs, ↓XD, ↓YX, ZB, Nat.reduceAdd, Nat.reducePow, ↓reduceIte, eq_self, Int.reduceEq, Nat.reduceEqDiff, Nat.reduceMul, Nat.reduceLeDiff, Int.reduceBEq, Int.reduceLT, Tryz.f13, ↓XH2, XRN, ZC, ZE, ZH, eq_self, Nat.reduceLeDiff, Nat.reduceBEq, slV_new, reduceIte, ↓op_extract, tupAt_mk, lenV_sl, Bool.not_true, Bool.not_false, hlt, er, hix, hix1, hix2, ew, c0, c1, c2, hnum, hap, er', one, hlir, n5, decide_true, hcut, wi]
    have sm2 : Rm.Sm { R with ms := R.ms ++ [⟨a, b, numI c⟩] } := ⟨sm.nm, sm.sb, by simp; omega, sm.k, fun x hx => by
      rcases List.mem_append.1 hx with hx | hx
      · exact sm.ms x hx
      · rw [List.mem_singleton] at hx; subst hx; exact ⟨by show a.length ≤ _; omega, by show b.length ≤ _; omega⟩, sm.rs⟩
    have := ih (i + 1) q (d ++ [a, b, c]) { R with ms := R.ms ++ [⟨a, b, numI c⟩] } v' rv _ (by omega) (by omega) (by rw [← hq2]; congr 1; omega) (by rw [hd]; simp) (by simp; omega) hrs sm2
      ⟨(hk.trans ch.keep).trans c5.keep, ew5, by rw [List.getElem?_set_ne (fun z => g.bne z.symm)]; exact ch.oth _ _ _ _ g.z (by decide), get_set _ er', ow.ch c5 (by decide), (g.q.ch ch (by decide)).ch c5 (by decide), hi2, hir, g.bne⟩
    rw [show (d ++ [a, b, c]).length = d.length + 3 by simp] at this
    simp only [takeM, List.append_assoc, List.cons_append, List.nil_append] at this ⊢
    exact this
set_option maxHeartbeats 8000000 in
theorem rq13 (s : Bs) (hs : s.length ≤ 2 ^ 20) (l : Nat) (h : AH) (hl : l ≤ h.length) : Okr (GetQ s (rdI (fieldsL [] s)) h) (run V0 (.fn 13) l [S (sV s)] h) := by
  have n5 : ∀ a b c d e : Value, [a, b, c, d, e].length = 5 := fun _ _ _ _ _ => rfl
  have le5 : (5 ≤ 5) = True := by simp
  have tk : ∀ a b c d e : Value, List.take 5 [a, b, c, d, e] = [a, b, c, d, e] := fun _ _ _ _ _ => rfl
  have hw := fields_b s hs
  refine okr_fn Tryz.func13 rfl rfl rfl rfl ?_
  simp (dsimp := false) (disch := first | exact dI | fail) only [XOB, ↓XXs, ↓XD, ↓YX, ZB, Nat.reduceAdd, Nat.reducePow, ↓reduceIte, eq_self, Int.reduceEq, Nat.reduceEqDiff, Nat.reduceMul, Nat.reduceLeDiff, Int.reduceBEq, Int.reduceLT, Tryz.f13, ↓XH2, XRN, ZC, ZE, ZH, eq_self, Nat.reduceLeDiff, Nat.reduceBEq, slV_new, reduceIte, ↓op_extract, tupAt_mk, lenV_sl, Bool.not_true, Bool.not_false]
  refine okr_call (rq32 s (by omega) l _ (by simp; omega)) ?_
  rintro _ h1 ⟨⟨iw, gw, rfl, ew⟩, k1⟩
  have kx : Keep h.length h (h ++ [AObj.row 0 5 zR]) := Keep.app _ _ (Nat.le_refl _)
  have K1 := kx.trans (k1.le kx.1)
  have e2 : h1[h.length]? = some (.row 0 5 zR) := k1.get (by simp) (by simp)
  have gz : ∀ X, (h1.set h.length X)[h.length]? = some X := fun X => List.getElem?_set_self (lt_of_get e2)
  generalize hwe : fieldsL [] s = ws at ew hw ⊢
  have hlw : lenV (slV iw gw ws.length ws.length) = some (ws.length : Int) := rfl
  have short : decide ((ws.length : Int) < 4) = true → rdI ws = none := by
    intro q; simp only [decide_eq_true_eq] at q
    match ws, q with
    | [], _ => rfl
    | [a], _ => rfl
    | [a, b], _ => rfl
    | [a, b, c], _ => rfl
    | a :: b :: c :: d :: r, q => simp at q; omega
  simp (dsimp := false) (disch := first | exact dI | fail) only [XOB, ↓XXs, ↓XD, ↓YX, ZB, Nat.reduceAdd, Nat.reducePow, ↓reduceIte, eq_self, Int.reduceEq, Nat.reduceEqDiff, Nat.reduceMul, Nat.reduceLeDiff, Int.reduceBEq, Int.reduceLT, Tryz.f13, ↓XH2, XRN, ZC, ZE, ZH, eq_self, Nat.reduceLeDiff, Nat.reduceBEq, slV_new, reduceIte, ↓op_extract, tupAt_mk, lenV_sl, Bool.not_true, Bool.not_false, hlw]
  with_reducible refine okr_if (fun q0 => ?_) (fun q0 => ?_)
  · rw [short q0]
    simp (dsimp := false) (disch := first | exact dI | fail) only [XOB, ↓XXs, ↓XD, ↓YX, ZB, Nat.reduceAdd, Nat.reducePow, ↓reduceIte, eq_self, Int.reduceEq, Nat.reduceEqDiff, Nat.reduceMul, Nat.reduceLeDiff, Int.reduceBEq, Int.reduceLT, Tryz.f13, ↓XH2, XRN, ZC, ZE, ZH, eq_self, Nat.reduceLeDiff, Nat.reduceBEq, slV_new, reduceIte, ↓op_extract, tupAt_mk, lenV_sl, Bool.not_true, Bool.not_false, e2, gz, n5, le5, tk, decide_true]
    exact Okr.ret ⟨rfl, K1.trans (Keep.set _ _ _ (Nat.le_refl _))⟩
  · simp only [decide_eq_false_iff_not] at q0
    match hwc : ws, q0 with
    | [], q0 => exact absurd (by decide) q0
    | [a], q0 => exact absurd (by simp) q0
    | [a, b], q0 => exact absurd (by simp) q0
    | [a, b, c], q0 => exact absurd (by simp) q0
    | a :: b :: c :: d :: p, q0 =>
    rw [← hwc] at ew hw hlw ⊢
    clear hwe short
    have hwl : ws.length = p.length + 4 := by rw [hwc]; rfl
    have hwb := hw.len
    have ha : a.length ≤ 2 ^ 20 := hw.each a (by rw [hwc]; simp)
    have hb : b.length ≤ 2 ^ 20 := hw.each b (by rw [hwc]; simp)
    have hc : c.length ≤ 2 ^ 20 := hw.each c (by rw [hwc]; simp)
    have hd : d.length ≤ 2 ^ 20 := hw.each d (by rw [hwc]; simp)
    have x0 : ixAddr (slV iw gw ws.length ws.length) 0 1 = some (pV iw 0 gw) := ixAddr_sl (i := 0) (sz := 1) (by omega)
    have x1 : ixAddr (slV iw gw ws.length ws.length) 1 1 = some (pV iw 1 gw) := ixAddr_sl (i := 1) (sz := 1) (by omega)
    have x2 : ixAddr (slV iw gw ws.length ws.length) 2 1 = some (pV iw 2 gw) := ixAddr_sl (i := 2) (sz := 1) (by omega)
    have x3 : ixAddr (slV iw gw ws.length ws.length) 3 1 = some (pV iw 3 gw) := ixAddr_sl (i := 3) (sz := 1) (by omega)
    have c0 : (sL ws)[0]? = some (sV a) := sL_at (by rw [hwc]; rfl)
    have c1 : (sL ws)[1]? = some (sV b) := sL_at (by rw [hwc]; rfl)
    have c2 : (sL ws)[2]? = some (sV c) := sL_at (by rw [hwc]; rfl)
    have c3 : (sL ws)[3]? = some (sV d) := sL_at (by rw [hwc]; rfl)
    have m1 := r_num b (by omega)
    have m2 := r_num d (by omega)
    have hl1 : l ≤ h1.length := by have := K1.1; omega
    have ew2 : ∀ X, (h1 ++ [X])[iw]? = some (.row gw 1 (sL ws)) := fun X => by rw [List.getElem?_append_left (lt_of_get ew)]; exact ew
    have hcut : ∀ X, slCut (h1 ++ [X]) (slV iw gw ws.length ws.length) (some 4) none none 1 = some (plV iw 4 gw p.length) := fun X => by
      have := plV_cut (o := 0) (n := ws.length) (k := 4) (ew2 X) (by omega)
      rw [show ws.length - 4 = p.length by omega] at this
      exact this
    have hlp : lenV (plV iw 4 gw p.length) = some (p.length : Int) := rfl
    have e3 : ∀ X, (h1 ++ [X])[h.length]? = some (.row 0 5 zR) := fun X => by rw [List.getElem?_append_left (lt_of_get e2)]; exact e2
    have gz2 : ∀ X Y, ((h1 ++ [X]).set h.length Y)[h.length]? = some Y := fun X Y => List.getElem?_set_self (by simp; have := lt_of_get e2; omega)
    have wi := fun l h => rq34 (numI d) 0 5 l h
    rw [hwc, rdI]
    rw [← hwc]
    cases hin : inI (numI d) 0 5 with
    | false =>
      rw [if_pos (.inl rfl)]
      simp (dsimp := false) (disch := first | exact dI | fail) only [XOB, ↓XXs, ↓XD, ↓YX, ZB, Nat.reduceAdd, Nat.reducePow, ↓reduceIte, eq_self, Int.reduceEq, Nat.reduceEqDiff, Nat.reduceMul, Nat.reduceLeDiff, Int.reduceBEq, Int.reduceLT, Tryz.f13, ↓XH2, XRN, ZC, ZE, ZH, eq_self, Nat.reduceLeDiff, Nat.reduceBEq, slV_new, reduceIte, ↓op_extract, tupAt_mk, lenV_sl, Bool.not_true, Bool.not_false, x0, x1, x2, x3, c0, c1, c2, c3, ew, ew2, m1, m2, hl1, hcut, hlp, wi, hin, Bool.not_false, e3, gz2, n5, le5, tk, decide_true]
      exact Okr.ret ⟨rfl, (K1.trans (Keep.app _ _ K1.1)).trans (Keep.set _ _ _ (Nat.le_refl _))⟩
    | true =>
      obtain ⟨hn0, hn5⟩ := inI_of hin
      obtain ⟨k, hk⟩ : ∃ k : Nat, numI d = (k : Int) := ⟨(numI d).toNat, by omega⟩
      rw [hk] at hin wi m2 hn0 hn5 ⊢
      rw [Int.toNat_natCast]
      have w3 : IntKind.i64.wrap (3 * (k : Int)) = ((3 * k : Nat) : Int) := by rw [wrap64 (by omega)]; omega
      by_cases h1' : p.length < 3 * k
      · have q1 : decide ((p.length : Int) < ((3 * k : Nat) : Int)) = true := by rw [decide_eq_true_iff]; omega
        rw [if_pos (.inr (.inl h1'))]
        simp (dsimp := false) (disch := first | exact dI | fail) only [XOB, ↓XXs, ↓XD, ↓YX, ZB, Nat.reduceAdd, Nat.reducePow, ↓reduceIte, eq_self, Int.reduceEq, Nat.reduceEqDiff, Nat.reduceMul, Nat.reduceLeDiff, Int.reduceBEq, Int.reduceLT, Tryz.f13, ↓XH2, XRN, ZC, ZE, ZH, eq_self, Nat.reduceLeDiff, Nat.reduceBEq, slV_new, reduceIte, ↓op_extract, tupAt_mk, lenV_sl, Bool.not_true, Bool.not_false, x0, x1, x2, x3, c0, c1, c2, c3, ew, ew2, m1, m2, hl1, hcut, hlp, wi, hin, Bool.not_true, w3, q1, e3, gz2, n5, le5, tk, decide_true]
        exact Okr.ret ⟨rfl, (K1.trans (Keep.app _ _ K1.1)).trans (Keep.set _ _ _ (Nat.le_refl _))⟩
      · have q1 : decide ((p.length : Int) < ((3 * k : Nat) : Int)) = false := by rw [decide_eq_false_iff_not]; omega
        have w4 : IntKind.i64.wrap ((p.length : Int) - ((3 * k : Nat) : Int)) = ((p.length - 3 * k : Nat) : Int) := by rw [wrap64 (by omega)]; omega
        have t2 : ((p.length - 3 * k : Nat) : Int).tmod 2 = (((p.length - 3 * k) % 2 : Nat) : Int) := by rw [Int.tmod_eq_emod_of_nonneg (by omega)]; omega
        by_cases h2' : (p.length - 3 * k) % 2 ≠ 0
        · have q2 : ((((p.length - 3 * k) % 2 : Nat) : Int) != 0) = true := by simp; omega
          rw [if_pos (.inr (.inr (.inl h2')))]
          simp (dsimp := false) (disch := first | exact dI | fail) only [XOB, ↓XXs, ↓XD, ↓YX, ZB, Nat.reduceAdd, Nat.reducePow, ↓reduceIte, eq_self, Int.reduceEq, Nat.reduceEqDiff, Nat.reduceMul, Nat.reduceLeDiff, Int.reduceBEq, Int.reduceLT, Tryz.f13, ↓XH2, XRN, ZC, ZE, ZH, eq_self, Nat.reduceLeDiff, Nat.reduceBEq, slV_new, reduceIte, ↓op_extract, tupAt_mk, lenV_sl, Bool.not_true, Bool.not_false, x0, x1, x2, x3, c0, c1, c2, c3, ew, ew2, m1, m2, hl1, hcut, hlp, wi, hin, Bool.not_true, w3, q1, w4, t2, q2, e3, gz2, n5, le5, tk, decide_true]
          exact Okr.ret ⟨rfl, (K1.trans (Keep.app _ _ K1.1)).trans (Keep.set _ _ _ (Nat.le_refl _))⟩
        · have q2 : ((((p.length - 3 * k) % 2 : Nat) : Int) != 0) = false := by simp at h2' ⊢; omega
          by_cases h3' : 12 < p.length - 3 * k
          · have q3 : decide ((12 : Int) < ((p.length - 3 * k : Nat) : Int)) = true := by rw [decide_eq_true_iff]; omega
            rw [if_pos (.inr (.inr (.inr h3')))]
            simp (dsimp := false) (disch := first | exact dI | fail) only [XOB, ↓XXs, ↓XD, ↓YX, ZB, Nat.reduceAdd, Nat.reducePow, ↓reduceIte, eq_self, Int.reduceEq, Nat.reduceEqDiff, Nat.reduceMul, Nat.reduceLeDiff, Int.reduceBEq, Int.reduceLT, Tryz.f13, ↓XH2, XRN, ZC, ZE, ZH, eq_self, Nat.reduceLeDiff, Nat.reduceBEq, slV_new, reduceIte, ↓op_extract, tupAt_mk, lenV_sl, Bool.not_true, Bool.not_false, x0, x1, x2, x3, c0, c1, c2, c3, ew, ew2, m1, m2, hl1, hcut, hlp, wi, hin, Bool.not_true, w3, q1, w4, t2, q2, q3, e3, gz2, n5, le5, tk, decide_true]
            exact Okr.ret ⟨rfl, (K1.trans (Keep.app _ _ K1.1)).trans (Keep.set _ _ _ (Nat.le_refl _))⟩
          · have q3 : decide ((12 : Int) < ((p.length - 3 * k : Nat) : Int)) = false := by rw [decide_eq_false_iff_not]; omega
            rw [if_neg (by rintro (z | z | z | z); · cases z
                           · exact h1' z
                           · exact h2' z
                           · exact h3' z)]
            simp (dsimp := false) (disch := first | exact dI | fail) only [XOB, ↓XXs, ↓XD, ↓YX, ZB, Nat.reduceAdd, Nat.reducePow, ↓reduceIte, eq_self, Int.reduceEq, Nat.reduceEqDiff, Nat.reduceMul, Nat.reduceLeDiff, Int.reduceBEq, Int.reduceLT, Tryz.f13, ↓XH2, XRN, ZC, ZE, ZH, eq_self, Nat.reduceLeDiff, Nat.reduceBEq, slV_new, reduceIte, ↓op_extract, tupAt_mk, lenV_sl, Bool.not_true, Bool.not_false, x0, x1, x2, x3, c0, c1, c2, c3, ew, ew2, m1, m2, hl1, hcut, hlp, wi, hin, Bool.not_true, w3, q1, w4, t2, q2, q3, n5]
            have := L013 s l iw gw h.length h1.length k (by omega) ws hw h hl k 0 p [a, b, c, d] ⟨a, numI b, [], [], c⟩ (.slice none 0 0) (.slice none 0 0) (h1 ++ [.row 0 5 [sV a, iV (numI b), .slice none 0 0, .slice none 0 0, sV c]]) (by omega) (by omega) (by omega) hwc (by simp) rfl
              ⟨(by show a.length ≤ _; omega), (by show c.length ≤ _; omega), (by simp), (by simp), (fun x hx => by simp at hx), (fun x hx => by simp at hx)⟩
              ⟨K1.trans (Keep.app _ _ K1.1), ew2 _, by rw [List.getElem?_append_left (lt_of_get e2)]; exact e2, by simp, .inl ⟨rfl, rfl⟩, .inl ⟨rfl, rfl⟩, Nat.le_refl _, K1.1, by have := lt_of_get e2; omega⟩
            exact this
end Go.Abs
