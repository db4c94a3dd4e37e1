/- What is drawn as a log: entries and rooms, plain and walked. For every log; no condition. -/
import Derived.Test.YtoijpmokcdifnaaGreatDoorRoomA
namespace Go.Abs
open Go.Proofs
set_option maxRecDepth 100000
set_option linter.unusedSimpArgs false
set_option linter.unusedVariables false
set_option pp.maxSteps 20000

def Me.F (x : Me) : Prop := x.user.length ≤ 64 ∧ x.nick.length ≤ 64
def Rk.F (x : Rk) : Prop := x.user.length ≤ 64
def En.F (x : En) : Prop := x.room.length ≤ 64 ∧ x.user.length ≤ 64 ∧ x.nick.length ≤ 64 ∧ x.text.length ≤ 64 ∧ x.id.length ≤ 64 ∧ x.ref.length ≤ 64
/-- what is known of a room in memory -/
structure RoomAt (h : AH) (ro : Ro) (ms : List Me) (rs : List Rk) : Prop where
  qm : Me.Ow h ro.ms ms
  qr : Rk.Ow h ro.rs rs
  fm : ∀ x ∈ ms, x.F
  fr : ∀ x ∈ rs, x.F
  nm : ro.name.length ≤ 64
  sj : ro.subj.length ≤ 64
theorem RoomAt.keep {h h' : AH} {ro : Ro} {ms : List Me} {rs : List Rk} (r : RoomAt h ro ms rs) (k : Keep h.length h h') : RoomAt h' ro ms rs :=
  ⟨r.qm.keep k, r.qr.keep k, r.fm, r.fr, r.nm, r.sj⟩
abbrev z9 : List Value := [sV [], iV 0, iV 0, sV [], sV [], sV [], sV [], sV [], iV 0]
/-- the nick that an entry bears -/
def entNick (kd : Int) (u : Bs) (ms : List Me) : Bs := match ms.find? (fun x => decide (x.user = u)) with
  | some x => if kd = 6 then [] else x.nick
  | none => []
theorem ofL_find (u : Bs) : ∀ (r : List Me) (k : Nat), (ofL u r k = -1 ∧ r.find? (fun x => decide (x.user = u)) = none) ∨ ∃ d x t, r = d ++ x :: t ∧ x.user = u ∧ ofL u r k = ((k + d.length : Nat) : Int) ∧ r.find? (fun x => decide (x.user = u)) = some x
  | [], k => .inl ⟨rfl, rfl⟩
  | y :: r, k => by
    by_cases h : y.user = u
    · exact .inr ⟨[], y, r, rfl, h, by simp [ofL, h], by simp [h]⟩
    · rcases ofL_find u r (k + 1) with ⟨q, q'⟩ | ⟨d, x, t, q1, q2, q3, q4⟩
      · exact .inl ⟨by simp only [ofL, if_neg h, q], by rw [List.find?_cons_of_neg (by simpa using h), q']⟩
      · exact .inr ⟨y :: d, x, t, by simp [q1], q2, by simp only [ofL, if_neg h, q3, List.length_cons]; omega, by rw [List.find?_cons_of_neg (by simpa using h), q4]⟩
theorem entNick_F {kd : Int} {u : Bs} {ms : List Me} (f : ∀ x ∈ ms, x.F) : (entNick kd u ms).length ≤ 64 := by
  unfold entNick
  cases h : ms.find? (fun x => decide (x.user = u)) with
  | none => simp
  | some x =>
    simp only
    split
    · simp
    · exact (f x (List.mem_of_find?_eq_some h)).2
theorem rq137 (ro : Ro) (ms : List Me) (rs : List Rk) (kd : Int) (u : Bs) (l : Nat) (h : AH) (hl : l ≤ h.length) (hn : ms.length ≤ 2 ^ 40) (q : RoomAt h ro ms rs) :
    run V0 (.fn 137) l [S ro.V, S (iV kd), S (sV u)] h = some (.ret (En.V ⟨ro.name, ro.next, kd, u, entNick kd u ms, [], [], [], 0⟩) (h ++ [AObj.row 0 5 ro.C] ++ [AObj.row 0 9 [sV ro.name, iV ro.next, iV kd, sV u, sV (entNick kd u ms), sV [], sV [], sV [], iV 0]] ++ [AObj.row 0 9 [sV ro.name, iV ro.next, iV kd, sV u, sV (entNick kd u ms), sV [], sV [], sV [], iV 0]] ++ [AObj.row 0 5 ro.C])) := by
  have k0 : Keep h.length h (h ++ [AObj.row 0 5 ro.C] ++ [AObj.row 0 9 z9] ++ [AObj.row 0 9 [sV ro.name, iV ro.next, iV kd, sV u, sV [], sV [], sV [], sV [], iV 0]]) := by
    rw [List.append_assoc, List.append_assoc]; exact Keep.app _ _ (Nat.le_refl _)
  have q0 := q.keep k0
  have a1 := rq101 ro u ms l _ hn q0.qm.rd
  have hl1 : l ≤ (h ++ [AObj.row 0 5 ro.C] ++ [AObj.row 0 9 z9]).length := by simp; omega
  have hl2 : l ≤ (h ++ [AObj.row 0 5 ro.C]).length := by simp; omega
  rcases ofL_find u ms 0 with ⟨hq, hf⟩ | ⟨d, x, t, hm, hxu, hq, hf⟩
  · have hge : decide ((0 : Int) ≤ -1) = false := rfl
    rw [hq] at a1
    have he : entNick kd u ms = [] := by simp only [entNick, hf]
    rw [he]
    refine run_fn Tryz.func137 rfl rfl rfl rfl ?_
    simp only [↓XX, ↓XD, ↓YX, ZB, Nat.reduceAdd, Nat.reducePow, ↓reduceIte, eq_self, Int.reduceEq, Nat.reduceEqDiff, Nat.reduceMul, Nat.reduceLeDiff, Tryz.f137, ↓XH1, ↓XH2, ZC, eq_self, Nat.reduceLeDiff, hl1, hl2, a1, hge]
  · rw [Nat.zero_add] at hq
    have hge : decide ((0 : Int) ≤ (d.length : Int)) = true := decide_eq_true (by omega)
    rw [hq] at a1
    cases hk : (kd == 6) with
    | true =>
      have hne : (kd != 6) = false := by simp [bne, hk]
      have he : entNick kd u ms = [] := by simp only [entNick, hf]; rw [if_pos (by simpa using hk)]
      rw [he]
      refine run_fn Tryz.func137 rfl rfl rfl rfl ?_
      simp only [↓XX, ↓XD, ↓YX, ZB, Nat.reduceAdd, Nat.reducePow, ↓reduceIte, eq_self, Int.reduceEq, Nat.reduceEqDiff, Nat.reduceMul, Nat.reduceLeDiff, Tryz.f137, ↓XH1, ↓XH2, ZC, eq_self, Nat.reduceLeDiff, hl1, hl2, a1, hge, hne]
    | false =>
      have hne : (kd != 6) = true := by simp [bne, hk]
      have he : entNick kd u ms = x.nick := by simp only [entNick, hf]; rw [if_neg (by simpa using hk)]
      rw [he]
      rcases q.qm with ⟨_, q2⟩ | ⟨id, g, hv, e⟩
      · rw [q2] at hm; simp at hm
      have hix : ixAddr ro.ms (d.length : Int) 3 = some (pV id (d.length * 3) g) := by rw [hv, ixAddr_sl (by rw [hm]; simp)]; simp
      have ha3 : ∀ k, addOff (pV id (d.length * 3) g) k = some (pV id (d.length * 3 + k) g) := fun _ => rfl
      have hid := lt_of_get e
      have l1 : ∀ h', Keep h.length h h' → ld h' (pV id (d.length * 3 + 1) g) = some (sV x.nick) := fun h' k => Me.ld1 (d := d) (x := x) (r := t) 1 (by decide) (by rw [k.get e hid, hm])
      have l2 := l1 (h ++ [AObj.row 0 5 ro.C] ++ [AObj.row 0 9 z9] ++ [AObj.row 0 9 [sV ro.name, iV ro.next, iV kd, sV u, sV [], sV [], sV [], sV [], iV 0]] ++ [AObj.row 0 5 ro.C]) (by repeat first | exact Keep.refl _ _ | refine Keep.ap ?_)
      refine run_fn Tryz.func137 rfl rfl rfl rfl ?_
      simp only [↓l2, ↓XX, ↓XD, ↓YX, ZB, Nat.reduceAdd, Nat.reducePow, ↓reduceIte, eq_self, Int.reduceEq, Nat.reduceEqDiff, Nat.reduceMul, Nat.reduceLeDiff, Tryz.f137, ↓XH1, ↓XH2, ZC, eq_self, Nat.reduceLeDiff, hl1, hl2, a1, hge, hne, hix, ha3]
end Go.Abs
namespace Go.Abs
open Go.Proofs
set_option maxRecDepth 100000
set_option linter.unusedSimpArgs false
set_option linter.unusedVariables false
set_option pp.maxSteps 20000
abbrev z5 : List Value := [sV [], iV 0, .slice none 0 0, .slice none 0 0, sV []]
/-- what l6Copy leaves -/
structure CopyQ (ro : Ro) (ms : List Me) (rs : List Rk) (h : AH) (v : Value) (h' : AH) : Prop where
  ex : ∃ i j g1 g2, v = Ro.V ⟨ro.name, ro.next, slV i g1 ms.length ms.length, slV j g2 rs.length rs.length, ro.subj⟩ ∧
      h'[i]? = some (.row g1 3 (Me.R ms)) ∧ h'[j]? = some (.row g2 2 (Rk.R rs)) ∧ h.length ≤ i ∧ h.length ≤ j ∧ i ≠ j ∧ i < h'.length ∧ j < h'.length
  k : Keep h.length h h'
theorem rq114 (ro : Ro) (ms : List Me) (rs : List Rk) (l : Nat) (h : AH) (hl : l ≤ h.length) (hn : ms.length ≤ 2 ^ 30) (hm : rs.length ≤ 2 ^ 30) (q : RoomAt h ro ms rs) :
    Okr (CopyQ ro ms rs h) (run V0 (.fn 114) l [S ro.V] h) := by
  rcases ro with ⟨rn, rx, rm, rr, rj⟩
  have pm := q.qm.rd.src
  have pr := q.qr.rd.src
  have om := q.qm.one
  have or := q.qr.one
  simp only at pm pr om or
  refine okr_fn Tryz.func114 rfl rfl rfl rfl ?_
  simp (disch := first | exact dI | fail) only [↓XX, ↓XD, ↓YX, ZB, Nat.reduceAdd, Nat.reducePow, ↓reduceIte, eq_self, Int.reduceEq, Nat.reduceEqDiff, Nat.reduceMul, Nat.reduceLeDiff, Tryz.f114, ↓XH1, ↓XH2, ZC, eq_self, Nat.reduceLeDiff, XRN, ZE, ZK, Nat.reduceBEq, slV_new, om, or]
  refine okr_opt (okr_app (k := ms.length) (ds := Me.R ms) (cs := []) (src_keep pm ?_) (by first | rfl | omega | (simp (disch := first | exact dI | fail) only [ZK, ZL, ZR] <;> omega) | fail) (by first | rfl | omega | (simp (disch := first | exact dI | fail) only [ZK, ZL, ZR] <;> omega) | fail) (by first | rfl | omega | (simp (disch := first | exact dI | fail) only [ZK, ZL, ZR] <;> omega) | fail) (by first | rfl | omega | (simp (disch := first | exact dI | fail) only [ZK, ZL, ZR] <;> omega) | fail)) ?_
  · (repeat first | exact Keep.refl _ _ | assumption | refine Keep.ap ?_ | refine Keep.st (by first | omega | (simp only [ZL]; omega)) ?_)
  rintro _ ⟨g1, rfl⟩
  simp (disch := first | exact dI | fail) only [↓XX, ↓XD, ↓YX, ZB, Nat.reduceAdd, Nat.reducePow, ↓reduceIte, eq_self, Int.reduceEq, Nat.reduceEqDiff, Nat.reduceMul, Nat.reduceLeDiff, ↓XH1, ↓XH2, ZC, eq_self, Nat.reduceLeDiff, XRN, ZE, ZK, Nat.reduceBEq, slV_new, om, or]
  refine okr_opt (okr_app (k := rs.length) (ds := Rk.R rs) (cs := []) (src_keep pr ?_) (by first | rfl | omega | (simp (disch := first | exact dI | fail) only [ZK, ZL, ZR] <;> omega) | fail) (by first | rfl | omega | (simp (disch := first | exact dI | fail) only [ZK, ZL, ZR] <;> omega) | fail) (by first | rfl | omega | (simp (disch := first | exact dI | fail) only [ZK, ZL, ZR] <;> omega) | fail) (by first | rfl | omega | (simp (disch := first | exact dI | fail) only [ZK, ZL, ZR] <;> omega) | fail)) ?_
  · (repeat first | exact Keep.refl _ _ | assumption | refine Keep.ap ?_ | refine Keep.st (by first | omega | (simp only [ZL]; omega)) ?_)
  rintro _ ⟨g2, rfl⟩
  simp (disch := first | exact dI | fail) only [↓XX, ↓XD, ↓YX, ZB, Nat.reduceAdd, Nat.reducePow, ↓reduceIte, eq_self, Int.reduceEq, Nat.reduceEqDiff, Nat.reduceMul, Nat.reduceLeDiff, ↓XH1, ↓XH2, ZC, eq_self, Nat.reduceLeDiff, XRN, ZE, ZK, Nat.reduceBEq, slV_new, om, or]
  refine Okr.ret ⟨⟨_, _, g1, g2, rfl, ?_, ?_, ?_, ?_, ?_, ?_, ?_⟩, ?_⟩
  all_goals first | exact (by first | rfl | omega | (simp (disch := first | exact dI | fail) only [ZK, ZL, ZR] <;> omega) | fail) | skip
  · (repeat first | exact Keep.refl _ _ | assumption | refine Keep.ap ?_ | refine Keep.st (by first | omega | (simp only [ZL]; omega)) ?_)
end Go.Abs
namespace Go.Abs
open Go.Proofs
set_option maxRecDepth 100000
set_option linter.unusedSimpArgs false
set_option linter.unusedVariables false
set_option pp.maxSteps 20000
/-- a slice of ranks of one's own -/
structure RkQ (m b : Nat) (H0 : AH) (v : Value) (h' : AH) : Prop where
  ex : ∃ id g os, v = slV id g os.length os.length ∧ h'[id]? = some (.row g 2 (Rk.R os)) ∧ m ≤ id ∧ os.length ≤ b ∧ ∀ x ∈ os, x.F
  k : Keep m H0 h'
theorem Rk.F_app {os : List Rk} {y : Rk} (fo : ∀ x ∈ os, x.F) (fy : y.F) : ∀ x ∈ os ++ [y], x.F := by
  intro x hx
  rcases List.mem_append.mp hx with q | q
  · exact fo x q
  · rw [List.mem_singleton.mp q]; exact fy
theorem L115 (l n : Nat) (u : Bs) (nm : Int) (lv : Value) (hn : n ≤ 2 ^ 20) (H0 : AH) (xs : List Rk) (hx : xs.length = n) (hlv : Rk.Rd H0 lv xs) (fu : u.length ≤ 64) (fx : ∀ x ∈ xs, x.F) (hm : l ≤ H0.length) :
    ∀ (r d : List Rk), d ++ r = xs → ∀ (dn : Bool) (os : List Rk) (id g no : Nat) (i : Int) (cs : List Value) (h : AH), Keep H0.length H0 h → H0.length ≤ id → h[id]? = some (.row g 2 cs) → cs = Rk.R os → no = os.length → i = d.length → os.length ≤ d.length + dn.toNat → (∀ x ∈ os, x.F) →
      Okr (RkQ H0.length (n + 1) H0) (L115_0 l lv (sV u) (iV nm) (slV id g no no) (.bool dn) (iV i) h) := by
  intro r
  induction r with
  | nil =>
    rintro d hd dn os id g no i cs h k hid e rfl rfl rfl hos fo
    have hlen := (hlv.keep k).len
    rw [List.append_nil] at hd
    subst hd
    have hlt : decide ((d.length : Int) < (d.length : Int)) = false := decide_eq_false (by omega)
    have hi := lt_of_get e
    refine okr_code Tryz.func115 rfl rfl ?_
    cases dn with
    | true =>
      simp (disch := first | exact dI | fail) only [↓XX, ↓XD, ↓YX, ZB, Nat.reduceAdd, Nat.reducePow, ↓reduceIte, eq_self, Int.reduceEq, Nat.reduceEqDiff, Nat.reduceMul, Nat.reduceLeDiff, Tryz.f115, hlen, hlt, ↓XH1, ↓XH2, ZC, eq_self, Nat.reduceLeDiff, XRN, ZE, ZK, Nat.reduceBEq, slV_new, ZS, reduceIte, ↓op_extract]
      exact Okr.ret ⟨⟨id, g, os, rfl, e, hid, by simp at hos; omega, fo⟩, k⟩
    | false =>
      simp (disch := first | exact dI | fail) only [↓XX, ↓XD, ↓YX, ZB, Nat.reduceAdd, Nat.reducePow, ↓reduceIte, eq_self, Int.reduceEq, Nat.reduceEqDiff, Nat.reduceMul, Nat.reduceLeDiff, Tryz.f115, hlen, hlt, ↓XH1, ↓XH2, ZC, eq_self, Nat.reduceLeDiff, XRN, ZE, ZK, Nat.reduceBEq, slV_new, ZS, reduceIte, ↓op_extract]
      simp only [Bool.toNat_false] at hos
      refine okr_opt (Rk.app1 ⟨u, nm⟩ e (by first | rfl | omega | (simp (disch := first | exact dI | fail) only [ZK, ZL, ZR] <;> omega) | fail) (by first | rfl | omega | (simp (disch := first | exact dI | fail) only [ZK, ZL, ZR] <;> omega) | fail)) ?_
      rintro _ ⟨g1, rfl⟩
      refine Okr.ret ⟨⟨id, g1, os ++ [⟨u, nm⟩], by simp, ?_, hid, by simp; omega, Rk.F_app (y := ⟨u, nm⟩) fo fu⟩, ?_⟩
      · simp (disch := first | exact dI | fail) only [HC4]
      · exact Keep.trans k (Keep.trans (Keep.app _ _ k.1) (Keep.set _ _ _ hid))
  | cons x r ih =>
    rintro d hd dn os id g no i cs h k hid e rfl rfl rfl hos fo
    have q := hlv.keep k
    have hlen := q.len
    obtain ⟨p, g0, hix, hh, hp⟩ := (hd ▸ hlv : Rk.Rd H0 lv (d ++ x :: r)).at
    replace hh := k.get hh hp
    have hlt : decide ((d.length : Int) < (xs.length : Int)) = true := decide_eq_true (by rw [← hd]; simp; omega)
    have hi := lt_of_get e
    have hdl : d.length + r.length + 1 = n := by rw [← hx, ← hd]; simp; omega
    have hw : IntKind.i64.wrap ((d.length : Int) + 1) = (((d ++ [x]).length : Nat) : Int) := natCast_succ_wrap (by omega) (by simp)
    have fxx : x.F := fx x (by rw [← hd]; simp)
    refine okr_code Tryz.func115 rfl rfl ?_
    cases dn with
    | true =>
      simp (disch := first | exact dI | fail) only [↓XX, ↓XD, ↓YX, ZB, Nat.reduceAdd, Nat.reducePow, ↓reduceIte, eq_self, Int.reduceEq, Nat.reduceEqDiff, Nat.reduceMul, Nat.reduceLeDiff, Tryz.f115, hlen, hlt, hix, hh, hw, ↓XH1, ↓XH2, ZC, eq_self, Nat.reduceLeDiff, XRN, ZE, ZK, Nat.reduceBEq, slV_new, ZS, reduceIte, ↓op_extract]
      simp only [Bool.toNat_true] at hos
      refine okr_bool (fun hb => ?_) (fun hb => ?_)
      · refine okr_opt (Rk.app1 x e (by first | rfl | omega | (simp (disch := first | exact dI | fail) only [ZK, ZL, ZR] <;> omega) | fail) (by first | rfl | omega | (simp (disch := first | exact dI | fail) only [ZK, ZL, ZR] <;> omega) | fail)) ?_
        rintro _ ⟨g1, rfl⟩
        simp (disch := first | exact dI | fail) only [↓XX, ↓XD, ↓YX, ZB, Nat.reduceAdd, Nat.reducePow, ↓reduceIte, eq_self, Int.reduceEq, Nat.reduceEqDiff, Nat.reduceMul, Nat.reduceLeDiff, hw, ↓XH1, ↓XH2, ZC, eq_self, Nat.reduceLeDiff, XRN, ZE, ZK, Nat.reduceBEq]
        exact ih (d ++ [x]) (by simp [hd]) true (os ++ [x]) id g1 _ _ _ _ (Keep.trans k (Keep.trans (Keep.app _ _ k.1) (Keep.set _ _ _ hid))) hid (by simp (disch := first | exact dI | fail) only [HC4]) rfl (by simp) (by simp) (by simp; omega) (Rk.F_app fo fxx)
      · exact ih (d ++ [x]) (by simp [hd]) true os id g _ _ _ _ k hid e rfl rfl (by simp) (by simp; omega) fo
    | false =>
      simp (disch := first | exact dI | fail) only [↓XX, ↓XD, ↓YX, ZB, Nat.reduceAdd, Nat.reducePow, ↓reduceIte, eq_self, Int.reduceEq, Nat.reduceEqDiff, Nat.reduceMul, Nat.reduceLeDiff, Tryz.f115, hlen, hlt, hix, hh, hw, ↓XH1, ↓XH2, ZC, eq_self, Nat.reduceLeDiff, XRN, ZE, ZK, Nat.reduceBEq, slV_new, ZS, reduceIte, ↓op_extract]
      simp only [Bool.toNat_false] at hos
      refine okr_bool (fun hb => ?_) (fun hb => ?_)
      · refine okr_opt (Rk.app1 ⟨u, nm⟩ e (by first | rfl | omega | (simp (disch := first | exact dI | fail) only [ZK, ZL, ZR] <;> omega) | fail) (by first | rfl | omega | (simp (disch := first | exact dI | fail) only [ZK, ZL, ZR] <;> omega) | fail)) ?_
        rintro _ ⟨g1, rfl⟩
        simp (disch := first | exact dI | fail) only [↓XX, ↓XD, ↓YX, ZB, Nat.reduceAdd, Nat.reducePow, ↓reduceIte, eq_self, Int.reduceEq, Nat.reduceEqDiff, Nat.reduceMul, Nat.reduceLeDiff, hlen, hlt, hix, hh, hw, ↓XH1, ↓XH2, ZC, eq_self, Nat.reduceLeDiff, XRN, ZE, ZK, Nat.reduceBEq, slV_new, ZS, reduceIte, ↓op_extract]
        have k2 : Keep H0.length H0 ((h ++ [AObj.row 0 2 (Rk.C ⟨u, nm⟩)]).set id (.row g1 2 (Rk.R (os ++ [⟨u, nm⟩])))) := Keep.trans k (Keep.trans (Keep.app _ _ k.1) (Keep.set _ _ _ hid))
        have e2 : ((h ++ [AObj.row 0 2 (Rk.C ⟨u, nm⟩)]).set id (.row g1 2 (Rk.R (os ++ [⟨u, nm⟩]))))[id]? = some (.row g1 2 (Rk.R (os ++ [⟨u, nm⟩]))) := by simp (disch := first | exact dI | fail) only [HC4]
        refine okr_bool (fun hb => ?_) (fun hb => ?_)
        · have a1 := Rk.app1 (lim := l) x e2 (by first | rfl | omega | (simp (disch := first | exact dI | fail) only [ZK, ZL, ZR] <;> omega) | fail) (by first | rfl | omega | (simp (disch := first | exact dI | fail) only [ZK, ZL, ZR] <;> omega) | fail)
          simp only [List.length_append, List.length_set, List.length_cons, List.length_nil, Nat.zero_add] at a1
          refine okr_opt a1 ?_
          rintro _ ⟨g2, rfl⟩
          simp (disch := first | exact dI | fail) only [↓XX, ↓XD, ↓YX, ZB, Nat.reduceAdd, Nat.reducePow, ↓reduceIte, eq_self, Int.reduceEq, Nat.reduceEqDiff, Nat.reduceMul, Nat.reduceLeDiff, hw, ↓XH1, ↓XH2, ZC, eq_self, Nat.reduceLeDiff, XRN, ZE, ZK, Nat.reduceBEq]
          exact ih (d ++ [x]) (by simp [hd]) true (os ++ [⟨u, nm⟩] ++ [x]) id g2 _ _ _ _ (Keep.trans k2 (Keep.trans (Keep.app _ _ k2.1) (Keep.set _ _ _ hid))) hid (by simp (disch := first | exact dI | fail) only [HC4]) rfl (by simp) (by simp) (by simp; omega) (Rk.F_app (Rk.F_app (y := ⟨u, nm⟩) fo fu) fxx)
        · exact ih (d ++ [x]) (by simp [hd]) true (os ++ [⟨u, nm⟩]) id g1 _ _ _ _ k2 hid e2 rfl (by simp) (by simp) (by simp; omega) (Rk.F_app (y := ⟨u, nm⟩) fo fu)
      · refine okr_bool (fun hb => ?_) (fun hb => ?_)
        · refine okr_opt (Rk.app1 x e (by first | rfl | omega | (simp (disch := first | exact dI | fail) only [ZK, ZL, ZR] <;> omega) | fail) (by first | rfl | omega | (simp (disch := first | exact dI | fail) only [ZK, ZL, ZR] <;> omega) | fail)) ?_
          rintro _ ⟨g1, rfl⟩
          simp (disch := first | exact dI | fail) only [↓XX, ↓XD, ↓YX, ZB, Nat.reduceAdd, Nat.reducePow, ↓reduceIte, eq_self, Int.reduceEq, Nat.reduceEqDiff, Nat.reduceMul, Nat.reduceLeDiff, hw, ↓XH1, ↓XH2, ZC, eq_self, Nat.reduceLeDiff, XRN, ZE, ZK, Nat.reduceBEq]
          exact ih (d ++ [x]) (by simp [hd]) false (os ++ [x]) id g1 _ _ _ _ (Keep.trans k (Keep.trans (Keep.app _ _ k.1) (Keep.set _ _ _ hid))) hid (by simp (disch := first | exact dI | fail) only [HC4]) rfl (by simp) (by simp) (by simp; omega) (Rk.F_app fo fxx)
        · exact ih (d ++ [x]) (by simp [hd]) false os id g _ _ _ _ k hid e rfl rfl (by simp) (by simp; omega) fo
theorem rq115 (l n : Nat) (u : Bs) (nm : Int) (lv : Value) (hn : n ≤ 2 ^ 20) (H0 : AH) (xs : List Rk) (hx : xs.length = n) (hlv : Rk.Rd H0 lv xs) (fu : u.length ≤ 64) (fx : ∀ x ∈ xs, x.F) (hm : l ≤ H0.length) :
    Okr (RkQ H0.length (n + 1) H0) (run V0 (.fn 115) l [S lv, S (sV u), S (iV nm)] H0) := by
  refine okr_fn Tryz.func115 rfl rfl rfl rfl ?_
  simp (disch := first | exact dI | fail) only [↓XX, ↓XD, ↓YX, ZB, Nat.reduceAdd, Nat.reducePow, ↓reduceIte, eq_self, Int.reduceEq, Nat.reduceEqDiff, Nat.reduceMul, Nat.reduceLeDiff, Tryz.f115, ↓XH1, ↓XH2, ZC, eq_self, Nat.reduceLeDiff, XRN, ZE, ZK, Nat.reduceBEq, slV_new, ZS, reduceIte, ↓op_extract]
  have a := fun dn => L115 l n u nm lv hn H0 xs hx hlv fu fx hm xs [] rfl dn [] H0.length 0 0 0 [] (H0 ++ [AObj.row 0 2 []]) (Keep.app _ _ (Nat.le_refl _)) (Nat.le_refl _) (by simp (disch := first | exact dI | fail) only [HC2]) rfl rfl rfl (by simp) (by simp)
  exact a _
end Go.Abs
namespace Go.Abs
open Go.Proofs
set_option maxRecDepth 100000
set_option linter.unusedSimpArgs false
set_option linter.unusedVariables false
set_option pp.maxSteps 20000
set_option pp.deepTerms true
theorem slCut_lo {h : AH} {id g n k sz tg : Nat} {cs : List Value} (e : h[id]? = some (.row g tg cs)) (ht : wd tg = sz) (hk : k ≤ n) :
    slCut h (slV id g n n) none (some (k : Int)) none sz = some (.slice (some ⟨id, 0, some g⟩) k n) := by
  simp only [slCut, rowAt_of e, Option.bind_some, Option.getD_none, Option.getD_some]
  rw [if_pos (by refine ⟨?_, ?_, ht, ?_, ?_⟩ <;> omega)]
  simp
theorem slCut_hi {h : AH} {id g n k sz tg : Nat} {cs : List Value} (e : h[id]? = some (.row g tg cs)) (ht : wd tg = sz) (hk : k ≤ n) :
    slCut h (slV id g n n) (some (k : Int)) none none sz = some (.slice (some ⟨id, k * sz, some g⟩) (n - k) (n - k)) := by
  simp only [slCut, rowAt_of e, Option.bind_some, Option.getD_none, Option.getD_some]
  rw [if_pos (by refine ⟨?_, ?_, ht, ?_, ?_⟩ <;> omega)]
  simp only [Int.toNat_natCast, Nat.zero_add]
  congr 2 <;> omega
theorem src_cut {h : AH} {i g n c sz tg o : Nat} {cs ds : List Value} (e : h[i]? = some (.row g tg cs)) (hn : o + n * sz ≤ cs.length) (hd : (cs.drop o).take (n * sz) = ds) : lenOf (.slice (some ⟨i, o, some g⟩) n c) = some n ∧ srcCells h (.slice (some ⟨i, o, some g⟩) n c) n sz = some ds := by
  refine ⟨rfl, ?_⟩
  simp only [srcCells, rowAt_of e, Option.bind_some, cut]
  rw [if_pos hn, hd]
theorem Me.setRole (d : List Me) (x : Me) (t : List Me) (m : Int) : (Me.R (d ++ x :: t)).set (d.length * 3 + 2) (iV m) = Me.R (d ++ ⟨x.user, x.nick, m⟩ :: t) := by
  rw [Me.R_app, Me.R_cons, Me.R_app, Me.R_cons, List.set_append_right _ _ (by rw [Me.R_len]; omega), Me.R_len, show d.length * 3 + 2 - 3 * d.length = 2 by omega]
  rfl
theorem Me.F_app {a b : List Me} (fa : ∀ x ∈ a, x.F) (fb : ∀ x ∈ b, x.F) : ∀ x ∈ a ++ b, x.F := by
  intro x hx
  rcases List.mem_append.mp hx with q | q
  · exact fa x q
  · exact fb x q
/-- slices that do not lie below a bound -/
def Fr (lo : Nat) (m r : Value) : Prop := (m = .slice none 0 0 ∨ ∃ id g n c, lo ≤ id ∧ m = slV id g n c) ∧ (r = .slice none 0 0 ∨ ∃ id g n c, lo ≤ id ∧ r = slV id g n c)
theorem Fr.mk {lo i g n c j g2 n2 c2 : Nat} (hi : lo ≤ i) (hj : lo ≤ j) : Fr lo (slV i g n c) (slV j g2 n2 c2) := ⟨.inr ⟨_, _, _, _, hi, rfl⟩, .inr ⟨_, _, _, _, hj, rfl⟩⟩
theorem Fr.le {lo lo' : Nat} {m r : Value} (q : Fr lo m r) (hh : lo' ≤ lo) : Fr lo' m r := by
  obtain ⟨q1, q2⟩ := q
  refine ⟨?_, ?_⟩
  · rcases q1 with q1 | ⟨a, b, c, d, e, f⟩
    · exact .inl q1
    · exact .inr ⟨a, b, c, d, by omega, f⟩
  · rcases q2 with q1 | ⟨a, b, c, d, e, f⟩
    · exact .inl q1
    · exact .inr ⟨a, b, c, d, by omega, f⟩
structure ApplyQ (ro : Ro) (a b : Nat) (sq : Int) (h : AH) (v : Value) (h' : AH) : Prop where
  ex : ∃ ro' ms' rs', v = Ro.V ro' ∧ RoomAt h' ro' ms' rs' ∧ ro'.name = ro.name ∧ ro'.next = sq ∧ ms'.length ≤ a + 1 ∧ rs'.length ≤ b + 1 ∧ Fr h.length ro'.ms ro'.rs
  k : Keep h.length h h'
theorem rq94 (ro : Ro) (ms : List Me) (rs : List Rk) (e : En) (l : Nat) (h : AH) (hl : l ≤ h.length) (hn : ms.length ≤ 2 ^ 20) (hm : rs.length ≤ 2 ^ 20) (q : RoomAt h ro ms rs) (fe : e.F) (hs : 0 ≤ e.seq ∧ e.seq ≤ 2 ^ 40) :
    Okr (ApplyQ ro ms.length rs.length (e.seq + 1) h) (run V0 (.fn 94) l [S ro.V, S e.V] h) := by
  rcases ro with ⟨rn, rx, rm, rr, rj⟩
  rcases e with ⟨er, es, ek, eu, en, et, ei, ef, em⟩
  have om := q.qm.one
  have or := q.qr.one
  simp only at om or hs
  have hw : IntKind.i64.wrap (es + 1) = es + 1 := wrap64 (by omega)
  have k0 : Keep h.length h (h ++ [AObj.row 0 5 [sV rn, iV rx, rm, rr, sV rj]] ++ [AObj.row 0 9 [sV er, iV es, iV ek, sV eu, sV en, sV et, sV ei, sV ef, iV em]] ++ [AObj.row 0 5 z5]) := by (repeat first | exact Keep.refl _ _ | assumption | refine Keep.ap ?_ | refine Keep.st (by first | omega | (simp only [ZL]; omega)) ?_)
  obtain ⟨v, h2, e2, ⟨i, j, g1, g2, rfl, d1, d2, hi, hj, hij, hi2, hj2⟩, k2⟩ := rq114 ⟨rn, rx, rm, rr, rj⟩ ms rs l _ (Nat.le_trans hl k0.1) (by omega) (by omega) (q.keep k0)
  have k2' := k2.1
  have k3 := k2.2
  simp only [List.length_append, List.length_cons, List.length_nil, Nat.zero_add] at hi hj k2' k3
  have hd : ∀ k : Int, (ek == k) = true ∨ (ek == k) = false := fun k => by cases (ek == k) <;> simp
  refine okr_fn Tryz.func94 rfl rfl rfl rfl ?_
  have fex : (⟨eu, en, em⟩ : Me).F := ⟨fe.2.1, fe.2.2.1⟩
  have kb : Keep h.length h h2 := k0.trans (k2.le (by simp only [List.length_append]; omega))
  have c0 : (h2 ++ [AObj.row 0 5 [sV rn, iV (es + 1), slV i g1 ms.length ms.length, slV j g2 rs.length rs.length, sV rj]]).length = h2.length + 1 := by simp
  have fm := q.fm
  have fr := q.fr
  have nm : rn.length ≤ 64 := q.nm
  have sj : rj.length ≤ 64 := q.sj
  cases hk1 : (ek == 1) with
  | true =>
    simp (disch := first | exact dI | fail) only [↓XX, ↓XD, ↓YX, ZB, Nat.reduceAdd, Nat.reducePow, ↓reduceIte, eq_self, Int.reduceEq, Nat.reduceEqDiff, Nat.reduceMul, Nat.reduceLeDiff, Tryz.f94, ↓XH1, ↓XH2, ZC, eq_self, Nat.reduceLeDiff, XRN, ZE, ZK, Nat.reduceBEq, slV_new, ZS, reduceIte, ↓op_extract, om, or, hw, e2, k3, d1, d2, hk1]
    have a1 := Me.app1 (lim := l) (h := h2 ++ [AObj.row 0 5 [sV rn, iV (es + 1), slV i g1 ms.length ms.length, slV j g2 rs.length rs.length, sV rj]]) (id := i) (g := g1) (os := ms) ⟨eu, en, em⟩ (by simp (disch := first | exact dI | fail) only [HC1, d1]) (by first | rfl | omega | (simp (disch := first | exact dI | fail) only [ZK, ZL, ZR] <;> omega) | fail) (by first | rfl | omega | (simp (disch := first | exact dI | fail) only [ZK, ZL, ZR] <;> omega) | fail)
    simp only [List.length_append, List.length_cons, List.length_nil, Nat.zero_add] at a1
    refine okr_opt a1 ?_
    rintro _ ⟨g3, rfl⟩
    simp (disch := first | exact dI | fail) only [↓XX, ↓XD, ↓YX, ZB, Nat.reduceAdd, Nat.reducePow, ↓reduceIte, eq_self, Int.reduceEq, Nat.reduceEqDiff, Nat.reduceMul, Nat.reduceLeDiff, ↓XH1, ↓XH2, ZC, eq_self, Nat.reduceLeDiff, XRN, ZE, ZK, Nat.reduceBEq, slV_new, ZS, reduceIte, ↓op_extract, om, or, k3]
    refine Okr.ret ⟨⟨⟨rn, es + 1, slV i g3 (ms.length + 1) (ms.length + 1), slV j g2 rs.length rs.length, rj⟩, ms ++ [⟨eu, en, em⟩], rs, rfl, ⟨.inr ⟨i, g3, by simp, ?_⟩, .inr ⟨j, g2, rfl, ?_⟩, Me.F_app fm (by simpa using fex), fr, nm, sj⟩, rfl, rfl, by simp, by simp, Fr.mk (by omega) (by omega)⟩, ?_⟩
    · simp (disch := first | exact dI | fail) only [↓XH1, ↓XH2, ZC, eq_self, Nat.reduceLeDiff, XRN, ZE, ZK, Nat.reduceBEq]
    · simp (disch := first | exact dI | fail) only [↓XH1, ↓XH2, ZC, eq_self, Nat.reduceLeDiff, XRN, ZE, ZK, Nat.reduceBEq, d2]
    · (repeat first | exact Keep.refl _ _ | assumption | refine Keep.ap ?_ | refine Keep.st (by first | omega | (simp only [ZL]; omega)) ?_)
  | false =>
  cases hk2 : (ek == 2) with
  | true =>
    have a2 := rq101 ⟨rn, rx, rm, rr, rj⟩ eu ms l (h2 ++ [AObj.row 0 5 [sV rn, iV (es + 1), slV i g1 ms.length ms.length, slV j g2 rs.length rs.length, sV rj]]) (by omega) ((q.keep kb).keep (Keep.app _ _ (Nat.le_refl _))).qm.rd
    rcases ofL_spec eu ms 0 with hq | ⟨d, x, t, hmd, hxu, hq⟩
    · have hge : decide ((0 : Int) ≤ -1) = false := rfl
      rw [hq] at a2
      simp (disch := first | exact dI | fail) only [↓XX, ↓XD, ↓YX, ZB, Nat.reduceAdd, Nat.reducePow, ↓reduceIte, eq_self, Int.reduceEq, Nat.reduceEqDiff, Nat.reduceMul, Nat.reduceLeDiff, Tryz.f94, ↓XH1, ↓XH2, ZC, eq_self, Nat.reduceLeDiff, XRN, ZE, ZK, Nat.reduceBEq, slV_new, ZS, reduceIte, ↓op_extract, om, or, hw, e2, k3, d1, d2, hk1, hk2, a2, hge]
      refine Okr.ret ⟨⟨⟨rn, es + 1, slV i g1 ms.length ms.length, slV j g2 rs.length rs.length, rj⟩, ms, rs, rfl, ⟨.inr ⟨i, g1, rfl, ?_⟩, .inr ⟨j, g2, rfl, ?_⟩, fm, fr, nm, sj⟩, rfl, rfl, by simp, by simp, Fr.mk (by omega) (by omega)⟩, ?_⟩
      · simp (disch := first | exact dI | fail) only [↓XH1, ↓XH2, ZC, eq_self, Nat.reduceLeDiff, XRN, ZE, ZK, Nat.reduceBEq, d1]
      · simp (disch := first | exact dI | fail) only [↓XH1, ↓XH2, ZC, eq_self, Nat.reduceLeDiff, XRN, ZE, ZK, Nat.reduceBEq, d2]
      · (repeat first | exact Keep.refl _ _ | assumption | refine Keep.ap ?_ | refine Keep.st (by first | omega | (simp only [ZL]; omega)) ?_)
    · rw [Nat.zero_add] at hq
      have hge : decide ((0 : Int) ≤ (d.length : Int)) = true := decide_eq_true (by omega)
      rw [hq] at a2
      have hml : ms.length = d.length + (t.length + 1) := by rw [hmd]; simp
      rcases q.qm with ⟨_, q2⟩ | ⟨id, g, hv, ee⟩
      · rw [q2] at hmd; simp at hmd
      · simp only at hv
        subst hv
        have hid := lt_of_get ee
        have ee2 := kb.get ee hid
        have hw1 : IntKind.i64.wrap ((d.length : Int) + 1) = ((d.length + 1 : Nat) : Int) := by rw [wrap64 (by omega)]; omega
        have sc1 : ∀ h' : AH, h'[id]? = some (.row g 3 (Me.R ms)) → slCut h' (slV id g ms.length ms.length) none (some (d.length : Int)) none 3 = some (.slice (some ⟨id, 0, some g⟩) d.length ms.length) := fun h' e => slCut_lo e rfl (by omega)
        have sc2 : ∀ h' : AH, h'[id]? = some (.row g 3 (Me.R ms)) → slCut h' (slV id g ms.length ms.length) (some ((d.length + 1 : Nat) : Int)) none none 3 = some (.slice (some ⟨id, (d.length + 1) * 3, some g⟩) (ms.length - (d.length + 1)) (ms.length - (d.length + 1))) := fun h' e => slCut_hi e rfl (by omega)
        have eh : ∀ a b, (h2 ++ [a] ++ [b])[id]? = some (.row g 3 (Me.R ms)) := fun a b => by simp (disch := first | exact dI | fail) only [HC1, ee2]
        have sc1' := fun a b => sc1 _ (eh a b)
        have sc2' := fun a b => sc2 _ (eh a b)
        simp (disch := first | exact dI | fail) only [↓XX, ↓XD, ↓YX, ZB, Nat.reduceAdd, Nat.reducePow, ↓reduceIte, eq_self, Int.reduceEq, Nat.reduceEqDiff, Nat.reduceMul, Nat.reduceLeDiff, Tryz.f94, ↓XH1, ↓XH2, ZC, eq_self, Nat.reduceLeDiff, XRN, ZE, ZK, Nat.reduceBEq, slV_new, ZS, reduceIte, ↓op_extract, om, or, hw, e2, k3, d1, d2, hk1, hk2, a2, hge, hw1, sc1', sc2']
        have t1 : ((Me.R ms).drop 0).take (d.length * 3) = Me.R d := by rw [List.drop_zero, hmd, Me.R_app, List.take_left' (by rw [Me.R_len]; omega)]
        have t2 : ((Me.R ms).drop ((d.length + 1) * 3)).take (t.length * 3) = Me.R t := by
          rw [hmd, Me.R_app, Me.R_cons, ← List.append_assoc, List.drop_left' (by rw [List.length_append, Me.R_len]; simp; omega), List.take_of_length_le (by rw [Me.R_len]; omega)]
        have t3 : ms.length - (d.length + 1) = t.length := by omega
        refine okr_opt (okr_app (k := d.length) (ds := Me.R d) (cs := []) (src_cut (g := g) (tg := 3) (cs := Me.R ms) (by simp (disch := first | exact dI | fail) only [HC1, ee2]) (by rw [Me.R_len]; omega) t1) (by first | rfl | omega | (simp (disch := first | exact dI | fail) only [ZK, ZL, ZR] <;> omega) | fail) (by first | rfl | omega | (simp (disch := first | exact dI | fail) only [ZK, ZL, ZR] <;> omega) | fail) (by first | rfl | omega | (simp (disch := first | exact dI | fail) only [ZK, ZL, ZR] <;> omega) | fail) (by first | rfl | omega | (simp (disch := first | exact dI | fail) only [ZK, ZL, ZR] <;> omega) | fail)) ?_
        rintro _ ⟨g3, rfl⟩
        simp (disch := first | exact dI | fail) only [↓XX, ↓XD, ↓YX, ZB, Nat.reduceAdd, Nat.reducePow, ↓reduceIte, eq_self, Int.reduceEq, Nat.reduceEqDiff, Nat.reduceMul, Nat.reduceLeDiff, ↓XH1, ↓XH2, ZC, eq_self, Nat.reduceLeDiff, XRN, ZE, ZK, Nat.reduceBEq, slV_new, ZS, reduceIte, ↓op_extract, om, or, k3, t3]
        refine okr_opt (okr_app (k := t.length) (ds := Me.R t) (cs := Me.R d) (src_cut (g := g) (tg := 3) (cs := Me.R ms) (by simp (disch := first | exact dI | fail) only [HC1, HC3, List.length_append, List.length_cons, List.length_nil, ee2]) (by rw [Me.R_len]; omega) t2) (by first | rfl | omega | (simp (disch := first | exact dI | fail) only [ZK, ZL, ZR] <;> omega) | fail) (by first | rfl | omega | (simp (disch := first | exact dI | fail) only [ZK, ZL, ZR] <;> omega) | fail) (by first | rfl | omega | (simp (disch := first | exact dI | fail) only [ZK, ZL, ZR] <;> omega) | fail) (by first | rfl | omega | (simp (disch := first | exact dI | fail) only [ZK, ZL, ZR] <;> omega) | fail)) ?_
        rintro _ ⟨g4, rfl⟩
        simp (disch := first | exact dI | fail) only [↓XX, ↓XD, ↓YX, ZB, Nat.reduceAdd, Nat.reducePow, ↓reduceIte, eq_self, Int.reduceEq, Nat.reduceEqDiff, Nat.reduceMul, Nat.reduceLeDiff, ↓XH1, ↓XH2, ZC, eq_self, Nat.reduceLeDiff, XRN, ZE, ZK, Nat.reduceBEq, slV_new, ZS, reduceIte, ↓op_extract, om, or, k3, t3]
        refine Okr.ret ⟨⟨⟨rn, es + 1, slV (h2.length + 1 + 1) g4 (d.length + t.length) (d.length + t.length), slV j g2 rs.length rs.length, rj⟩, d ++ t, rs, rfl, ⟨.inr ⟨h2.length + 1 + 1, g4, by simp, ?_⟩, .inr ⟨j, g2, rfl, ?_⟩, ?_, fr, nm, sj⟩, rfl, rfl, by simp; omega, by simp, Fr.mk (by omega) (by omega)⟩, ?_⟩
        · simp (disch := first | exact dI | fail) only [↓XH1, ↓XH2, ZC, eq_self, Nat.reduceLeDiff, XRN, ZE, ZK, Nat.reduceBEq, Me.R_app]
        · simp (disch := first | exact dI | fail) only [↓XH1, ↓XH2, ZC, eq_self, Nat.reduceLeDiff, XRN, ZE, ZK, Nat.reduceBEq, d2]
        · intro x hx
          rcases List.mem_append.mp hx with q1 | q1
          · exact fm x (by rw [hmd]; exact List.mem_append_left _ q1)
          · exact fm x (by rw [hmd]; exact List.mem_append_right _ (List.mem_cons_of_mem _ q1))
        · (repeat first | exact Keep.refl _ _ | assumption | refine Keep.ap ?_ | refine Keep.st (by first | omega | (simp only [ZL]; omega)) ?_)
  | false =>
  cases hk4 : (ek == 4) with
  | true =>
    simp (disch := first | exact dI | fail) only [↓XX, ↓XD, ↓YX, ZB, Nat.reduceAdd, Nat.reducePow, ↓reduceIte, eq_self, Int.reduceEq, Nat.reduceEqDiff, Nat.reduceMul, Nat.reduceLeDiff, Tryz.f94, ↓XH1, ↓XH2, ZC, eq_self, Nat.reduceLeDiff, XRN, ZE, ZK, Nat.reduceBEq, slV_new, ZS, reduceIte, ↓op_extract, om, or, hw, e2, k3, d1, d2, hk1, hk2, hk4]
    refine Okr.ret ⟨⟨⟨rn, es + 1, slV i g1 ms.length ms.length, slV j g2 rs.length rs.length, et⟩, ms, rs, rfl, ⟨.inr ⟨i, g1, rfl, ?_⟩, .inr ⟨j, g2, rfl, ?_⟩, fm, fr, nm, fe.2.2.2.1⟩, rfl, rfl, by simp, by simp, Fr.mk (by omega) (by omega)⟩, ?_⟩
    · simp (disch := first | exact dI | fail) only [↓XH1, ↓XH2, ZC, eq_self, Nat.reduceLeDiff, XRN, ZE, ZK, Nat.reduceBEq, d1]
    · simp (disch := first | exact dI | fail) only [↓XH1, ↓XH2, ZC, eq_self, Nat.reduceLeDiff, XRN, ZE, ZK, Nat.reduceBEq, d2]
    · (repeat first | exact Keep.refl _ _ | assumption | refine Keep.ap ?_ | refine Keep.st (by first | omega | (simp only [ZL]; omega)) ?_)
  | false =>
  cases hk5 : (ek == 5) with
  | true =>
    have a2 := rq101 ⟨rn, rx, rm, rr, rj⟩ eu ms l (h2 ++ [AObj.row 0 5 [sV rn, iV (es + 1), slV i g1 ms.length ms.length, slV j g2 rs.length rs.length, sV rj]]) (by omega) ((q.keep kb).keep (Keep.app _ _ (Nat.le_refl _))).qm.rd
    rcases ofL_spec eu ms 0 with hq | ⟨d, x, t, hmd, hxu, hq⟩
    · have hge : decide ((0 : Int) ≤ -1) = false := rfl
      rw [hq] at a2
      simp (disch := first | exact dI | fail) only [↓XX, ↓XD, ↓YX, ZB, Nat.reduceAdd, Nat.reducePow, ↓reduceIte, eq_self, Int.reduceEq, Nat.reduceEqDiff, Nat.reduceMul, Nat.reduceLeDiff, Tryz.f94, ↓XH1, ↓XH2, ZC, eq_self, Nat.reduceLeDiff, XRN, ZE, ZK, Nat.reduceBEq, slV_new, ZS, reduceIte, ↓op_extract, om, or, hw, e2, k3, d1, d2, hk1, hk2, hk4, hk5, a2, hge]
      refine Okr.ret ⟨⟨⟨rn, es + 1, slV i g1 ms.length ms.length, slV j g2 rs.length rs.length, rj⟩, ms, rs, rfl, ⟨.inr ⟨i, g1, rfl, ?_⟩, .inr ⟨j, g2, rfl, ?_⟩, fm, fr, nm, sj⟩, rfl, rfl, by simp, by simp, Fr.mk (by omega) (by omega)⟩, ?_⟩
      · simp (disch := first | exact dI | fail) only [↓XH1, ↓XH2, ZC, eq_self, Nat.reduceLeDiff, XRN, ZE, ZK, Nat.reduceBEq, d1]
      · simp (disch := first | exact dI | fail) only [↓XH1, ↓XH2, ZC, eq_self, Nat.reduceLeDiff, XRN, ZE, ZK, Nat.reduceBEq, d2]
      · (repeat first | exact Keep.refl _ _ | assumption | refine Keep.ap ?_ | refine Keep.st (by first | omega | (simp only [ZL]; omega)) ?_)
    · rw [Nat.zero_add] at hq
      have hge : decide ((0 : Int) ≤ (d.length : Int)) = true := decide_eq_true (by omega)
      rw [hq] at a2
      have hml : ms.length = d.length + (t.length + 1) := by rw [hmd]; simp
      have hix : ixAddr (slV i g1 ms.length ms.length) (d.length : Int) 3 = some (pV i (d.length * 3) g1) := by rw [ixAddr_sl (by omega)]; simp
      rw [hmd] at d1
      simp (disch := first | exact dI | fail) only [↓XX, ↓XD, ↓YX, ZB, Nat.reduceAdd, Nat.reducePow, ↓reduceIte, eq_self, Int.reduceEq, Nat.reduceEqDiff, Nat.reduceMul, Nat.reduceLeDiff, Tryz.f94, ↓XH1, ↓XH2, ZC, eq_self, Nat.reduceLeDiff, XRN, ZE, ZK, Nat.reduceBEq, slV_new, ZS, reduceIte, ↓op_extract, om, or, hw, e2, k3, d1, d2, hk1, hk2, hk4, hk5, a2, hge, hix]
      refine Okr.ret ⟨⟨⟨rn, es + 1, slV i g1 ms.length ms.length, slV j g2 rs.length rs.length, rj⟩, d ++ ⟨x.user, x.nick, em⟩ :: t, rs, rfl, ⟨.inr ⟨i, g1, by simp [hml], ?_⟩, .inr ⟨j, g2, rfl, ?_⟩, ?_, fr, nm, sj⟩, rfl, rfl, by simp; omega, by simp, Fr.mk (by omega) (by omega)⟩, ?_⟩
      · simp (disch := first | exact dI | fail) only [↓XH1, ↓XH2, ZC, eq_self, Nat.reduceLeDiff, XRN, ZE, ZK, Nat.reduceBEq, Me.setRole]
      · simp (disch := first | exact dI | fail) only [↓XH1, ↓XH2, ZC, eq_self, Nat.reduceLeDiff, XRN, ZE, ZK, Nat.reduceBEq, d2]
      · intro y hy
        rcases List.mem_append.mp hy with q1 | q1
        · exact fm y (by rw [hmd]; exact List.mem_append_left _ q1)
        · rcases List.mem_cons.mp q1 with q1 | q1
          · have := fm x (by rw [hmd]; simp)
            rw [q1]
            exact this
          · exact fm y (by rw [hmd]; exact List.mem_append_right _ (List.mem_cons_of_mem _ q1))
      · (repeat first | exact Keep.refl _ _ | assumption | refine Keep.ap ?_ | refine Keep.st (by first | omega | (simp only [ZL]; omega)) ?_)
  | false =>
  cases hk6 : (ek == 6) with
  | true =>
    obtain ⟨v5, h5, e5, ⟨id5, g5, os, rfl, d5, hid5, hos, fos⟩, k5⟩ := rq115 l rs.length eu em rr hm (h2 ++ [AObj.row 0 5 [sV rn, iV (es + 1), slV i g1 ms.length ms.length, slV j g2 rs.length rs.length, sV rj]]) rs rfl ((q.keep kb).keep (Keep.app _ _ (Nat.le_refl _))).qr.rd fe.2.1 fr (by rw [List.length_append]; omega)
    have k5' := k5.1
    have k5'' := k5.2
    simp only [List.length_append, List.length_cons, List.length_nil, Nat.zero_add] at hid5 k5' k5''
    have hi5 := lt_of_get d5
    have kc : Keep h.length h h5 := (kb.trans (Keep.app _ _ kb.1)).trans (k5.le (by have := kb.1; simp only [List.length_append]; omega))
    simp (disch := first | exact dI | fail) only [↓XX, ↓XD, ↓YX, ZB, Nat.reduceAdd, Nat.reducePow, ↓reduceIte, eq_self, Int.reduceEq, Nat.reduceEqDiff, Nat.reduceMul, Nat.reduceLeDiff, Tryz.f94, ↓XH1, ↓XH2, ZC, eq_self, Nat.reduceLeDiff, XRN, ZE, ZK, Nat.reduceBEq, slV_new, ZS, reduceIte, ↓op_extract, om, or, hw, e2, k3, d1, d2, hk1, hk2, hk4, hk5, hk6, e5, k5'', d5]
    refine Okr.ret ⟨⟨⟨rn, es + 1, slV i g1 ms.length ms.length, slV id5 g5 os.length os.length, rj⟩, ms, os, rfl, ⟨.inr ⟨i, g1, rfl, ?_⟩, .inr ⟨id5, g5, rfl, ?_⟩, fm, fos, nm, sj⟩, rfl, rfl, by simp, hos, Fr.mk (by omega) (by omega)⟩, ?_⟩
    · simp (disch := first | exact dI | fail) only [↓XH1, ↓XH2, ZC, eq_self, Nat.reduceLeDiff, XRN, ZE, ZK, Nat.reduceBEq, k5'', d1]
    · simp (disch := first | exact dI | fail) only [↓XH1, ↓XH2, ZC, eq_self, Nat.reduceLeDiff, XRN, ZE, ZK, Nat.reduceBEq, d5]
    · (repeat first | exact Keep.refl _ _ | assumption | refine Keep.ap ?_ | refine Keep.st (by first | omega | (simp only [ZL]; omega)) ?_)
  | false =>
    simp (disch := first | exact dI | fail) only [↓XX, ↓XD, ↓YX, ZB, Nat.reduceAdd, Nat.reducePow, ↓reduceIte, eq_self, Int.reduceEq, Nat.reduceEqDiff, Nat.reduceMul, Nat.reduceLeDiff, Tryz.f94, ↓XH1, ↓XH2, ZC, eq_self, Nat.reduceLeDiff, XRN, ZE, ZK, Nat.reduceBEq, slV_new, ZS, reduceIte, ↓op_extract, om, or, hw, e2, k3, d1, d2, hk1, hk2, hk4, hk5, hk6]
    refine Okr.ret ⟨⟨⟨rn, es + 1, slV i g1 ms.length ms.length, slV j g2 rs.length rs.length, rj⟩, ms, rs, rfl, ⟨.inr ⟨i, g1, rfl, ?_⟩, .inr ⟨j, g2, rfl, ?_⟩, fm, fr, nm, sj⟩, rfl, rfl, by simp, by simp, Fr.mk (by omega) (by omega)⟩, ?_⟩
    · simp (disch := first | exact dI | fail) only [↓XH1, ↓XH2, ZC, eq_self, Nat.reduceLeDiff, XRN, ZE, ZK, Nat.reduceBEq, d1]
    · simp (disch := first | exact dI | fail) only [↓XH1, ↓XH2, ZC, eq_self, Nat.reduceLeDiff, XRN, ZE, ZK, Nat.reduceBEq, d2]
    · (repeat first | exact Keep.refl _ _ | assumption | refine Keep.ap ?_ | refine Keep.st (by first | omega | (simp only [ZL]; omega)) ?_)
end Go.Abs
namespace Go.Abs
open Go.Proofs
set_option maxRecDepth 100000
set_option linter.unusedSimpArgs false
set_option linter.unusedVariables false
set_option pp.maxSteps 20000
set_option pp.deepTerms true
theorem RoomAt.st {h : AH} {ro : Ro} {ms : List Me} {rs : List Rk} {c : Nat} {cs : List Value} {o : AObj} (q : RoomAt h ro ms rs) (e : h[c]? = some (.row 0 5 cs)) : RoomAt (h.set c o) ro ms rs := by
  refine ⟨?_, ?_, q.fm, q.fr, q.nm, q.sj⟩
  · rcases q.qm with q | ⟨id, g, hv, e2⟩
    · exact .inl q
    · refine .inr ⟨id, g, hv, ?_⟩
      rw [HC3 (by rintro rfl; rw [e] at e2; injection e2 with e2; injection e2 with _ b _; exact absurd b (by decide)), e2]
  · rcases q.qr with q | ⟨id, g, hv, e2⟩
    · exact .inl q
    · refine .inr ⟨id, g, hv, ?_⟩
      rw [HC3 (by rintro rfl; rw [e] at e2; injection e2 with e2; injection e2 with _ b _; exact absurd b (by decide)), e2]
/-- the next number of a room -/
def nextL (nm : Bs) : List En → Int → Int
  | [], a => a
  | e :: r, a => nextL nm r (if e.room = nm then e.seq + 1 else a)
structure RoomQ (nm : Bs) (b : Nat) (nx : Int) (H0 : AH) (v : Value) (h' : AH) : Prop where
  ex : ∃ ro ms rs, v = Ro.V ro ∧ RoomAt h' ro ms rs ∧ ro.name = nm ∧ ro.next = nx ∧ ms.length ≤ b ∧ rs.length ≤ b ∧ Fr H0.length ro.ms ro.rs
  k : Keep H0.length H0 h'
def En.S (e : En) : Prop := 0 ≤ e.seq ∧ e.seq ≤ 20000
theorem L51 (l c4 c5 : Nat) (nm : Bs) (lv : Value) (H0 : AH) (xs : List En) (hn : xs.length ≤ 2 ^ 20) (hlv : En.Rd H0 lv xs) (fx : ∀ x ∈ xs, x.F ∧ x.S) (hm : l ≤ H0.length) (h4 : H0.length ≤ c4) (h5 : H0.length ≤ c5) (h45 : c4 ≠ c5) :
    ∀ (r d : List En), d ++ r = xs → ∀ (i : Int) (ro : Ro) (ms : List Me) (rs : List Rk) (cs4 : List Value) (h : AH), Keep H0.length H0 h → h[c5]? = some (.row 0 5 ro.C) → h[c4]? = some (.row 0 5 cs4) → cs4.length = 5 → RoomAt h ro ms rs → i = d.length → ro.name = nm → ms.length ≤ d.length → rs.length ≤ d.length → Fr H0.length ro.ms ro.rs →
      Okr (RoomQ nm xs.length (nextL nm r ro.next) H0) (L51_0 l lv (sV nm) (pV c4 0 0) (pV c5 0 0) (iV i) h) := by
  intro r
  induction r with
  | nil =>
    rintro d hd i ro ms rs cs4 h k e5 e4 hc4 q rfl rfl hms hrs fr0
    have hlen := (hlv.keep k).len
    rw [List.append_nil] at hd
    subst hd
    rcases ro with ⟨rn, rx, rm, rr, rj⟩
    have om := q.qm.one
    have or := q.qr.one
    simp only at om or
    have hlt : decide ((d.length : Int) < (d.length : Int)) = false := decide_eq_false (by omega)
    have hi5 := lt_of_get e5
    have hi4 := lt_of_get e4
    refine okr_code Tryz.func51 rfl rfl ?_
    match cs4, hc4 with
    | [x0, x1, x2, x3, x4], _ =>
      simp (disch := first | exact dI | fail) only [↓XX, ↓XD, ↓YX, ZB, Nat.reduceAdd, Nat.reducePow, ↓reduceIte, eq_self, Int.reduceEq, Nat.reduceEqDiff, Nat.reduceMul, Nat.reduceLeDiff, Tryz.f51, hlen, hlt, ↓XH1, ↓XH2, ZC, eq_self, Nat.reduceLeDiff, XRN, ZE, ZK, Nat.reduceBEq, slV_new, ZS, reduceIte, ↓op_extract, e4, e5, om, or]
      refine Okr.ret ⟨⟨⟨rn, rx, rm, rr, rj⟩, ms, rs, rfl, q.st e4, rfl, rfl, hms, hrs, fr0⟩, k.trans (Keep.set _ _ _ h4)⟩
  | cons x r ih =>
    rintro d hd i ro ms rs cs4 h k e5 e4 hc4 q rfl hnm hms hrs fr0
    have hlen := (hlv.keep k).len
    obtain ⟨p, g0, hix, hh, hp⟩ := (hd ▸ hlv : En.Rd H0 lv (d ++ x :: r)).at
    replace hh := k.get hh hp
    have hlt : decide ((d.length : Int) < (xs.length : Int)) = true := decide_eq_true (by rw [← hd]; simp; omega)
    have hi5 := lt_of_get e5
    have hi4 := lt_of_get e4
    have hdl : d.length + r.length + 1 = xs.length := by rw [← hd]; simp; omega
    have hw : IntKind.i64.wrap ((d.length : Int) + 1) = (((d ++ [x]).length : Nat) : Int) := natCast_succ_wrap (by omega) (by simp)
    have fxx := fx x (by rw [← hd]; simp)
    have hk1 := k.1
    refine okr_code Tryz.func51 rfl rfl ?_
    cases hq : decide (x.room = nm) with
    | false =>
      have hq2 : x.room ≠ nm := of_decide_eq_false hq
      have hb : decide (B x.room = B nm) = false := by rw [← hq]; congr 1; simp [B]
      simp (disch := first | exact dI | fail) only [↓XX, ↓XD, ↓YX, ZB, Nat.reduceAdd, Nat.reducePow, ↓reduceIte, eq_self, Int.reduceEq, Nat.reduceEqDiff, Nat.reduceMul, Nat.reduceLeDiff, Tryz.f51, hlen, hlt, hix, hh, hw, ↓XH1, ↓XH2, ZC, eq_self, Nat.reduceLeDiff, XRN, ZE, ZK, Nat.reduceBEq, slV_new, ZS, reduceIte, ↓op_extract, e4, e5, hb]
      have := ih (d ++ [x]) (by simp [hd]) _ ro ms rs cs4 h k e5 e4 hc4 q rfl hnm (by simp; omega) (by simp; omega) fr0
      simp only [nextL, if_neg hq2]
      simpa using this
    | true =>
      have hq2 : x.room = nm := of_decide_eq_true hq
      have hb : decide (B x.room = B nm) = true := by rw [hq2]; simp
      obtain ⟨v, h2, ea, ⟨ro2, ms2, rs2, rfl, q2, hn2, hx2, hms2, hrs2, fr2⟩, k2⟩ := rq94 ro ms rs x l h (by omega) (by omega) (by omega) q fxx.1 ⟨fxx.2.1, by have := fxx.2.2; omega⟩
      have k2' := k2.2
      have k2l := k2.1
      have e52 := k2.get e5 hi5
      have e42 := k2.get e4 hi4
      rcases ro with ⟨rn, rx, rm, rr, rj⟩
      rcases ro2 with ⟨rn2, rx2, rm2, rr2, rj2⟩
      have om := q2.qm.one
      have or := q2.qr.one
      simp only at om or hn2 hx2
      simp (disch := first | exact dI | fail) only [↓XX, ↓XD, ↓YX, ZB, Nat.reduceAdd, Nat.reducePow, ↓reduceIte, eq_self, Int.reduceEq, Nat.reduceEqDiff, Nat.reduceMul, Nat.reduceLeDiff, Tryz.f51, hlen, hlt, hix, hh, hw, ↓XH1, ↓XH2, ZC, eq_self, Nat.reduceLeDiff, XRN, ZE, ZK, Nat.reduceBEq, slV_new, ZS, reduceIte, ↓op_extract, e4, e5, hb, ea, e52, e42, om, or]
      have := ih (d ++ [x]) (by simp [hd]) _ ⟨rn2, rx2, rm2, rr2, rj2⟩ ms2 rs2 cs4 (h2.set c5 (.row 0 5 [sV rn2, iV rx2, rm2, rr2, sV rj2])) ((k.trans (k2.le k.1)).trans (Keep.set _ _ _ h5)) (by simp (disch := first | exact dI | fail) only [HC4]) (by simp (disch := first | exact dI | fail) only [HC3, e42]) hc4 (q2.st e52) rfl (hn2.trans hnm) (by simp; omega) (by simp; omega) (fr2.le k.1)
      simp only [nextL, if_pos hq2, ← hx2]
      simpa using this
theorem rq51 (l : Nat) (nm : Bs) (lv : Value) (H0 : AH) (xs : List En) (hn : xs.length ≤ 2 ^ 20) (hlv : En.Rd H0 lv xs) (fx : ∀ x ∈ xs, x.F ∧ x.S) (hm : l ≤ H0.length) (fn : nm.length ≤ 64) :
    Okr (RoomQ nm xs.length (nextL nm xs 0) H0) (run V0 (.fn 51) l [S lv, S (sV nm)] H0) := by
  refine okr_fn Tryz.func51 rfl rfl rfl rfl ?_
  simp (disch := first | exact dI | fail) only [↓XX, ↓XD, ↓YX, ZB, Nat.reduceAdd, Nat.reducePow, ↓reduceIte, eq_self, Int.reduceEq, Nat.reduceEqDiff, Nat.reduceMul, Nat.reduceLeDiff, Tryz.f51, ↓XH1, ↓XH2, ZC, eq_self, Nat.reduceLeDiff, XRN, ZE, ZK, Nat.reduceBEq, slV_new, ZS, reduceIte, ↓op_extract]
  exact L51 l H0.length (H0.length + 1) nm lv H0 xs hn hlv fx hm (Nat.le_refl _) (by omega) (by omega) xs [] rfl 0 ⟨nm, 0, .slice none 0 0, .slice none 0 0, []⟩ [] [] z5 _ (by (repeat first | exact Keep.refl _ _ | assumption | refine Keep.ap ?_ | refine Keep.st (by first | omega | (simp only [ZL]; omega)) ?_)) (by simp (disch := first | exact dI | fail) only [↓XH1, ↓XH2, ZC, eq_self, Nat.reduceLeDiff, XRN, ZE, ZK, Nat.reduceBEq]) (by simp (disch := first | exact dI | fail) only [↓XH1, ↓XH2, ZC, eq_self, Nat.reduceLeDiff, XRN, ZE, ZK, Nat.reduceBEq]) rfl ⟨.inl ⟨rfl, rfl⟩, .inl ⟨rfl, rfl⟩, by simp, by simp, fn, by simp⟩ rfl rfl (by simp) (by simp) ⟨.inl rfl, .inl rfl⟩
end Go.Abs
namespace Go.Abs
open Go.Proofs
set_option maxRecDepth 100000
set_option linter.unusedSimpArgs false
set_option linter.unusedVariables false
set_option pp.maxSteps 20000
set_option pp.deepTerms true
structure BoolQ (H0 : AH) (v : Value) (h' : AH) : Prop where
  ex : ∃ b, v = .bool b
  k : Keep H0.length H0 h'
theorem L138 (l : Nat) (nm us id : Bs) (lv : Value) (H0 : AH) (xs : List En) (hn : xs.length ≤ 2 ^ 20) (hlv : En.Rd H0 lv xs) (hm : l ≤ H0.length) :
    ∀ (r d : List En), d ++ r = xs → ∀ (i : Int) (v9 : Value) (h : AH), Keep H0.length H0 h → i = d.length →
      Okr (BoolQ H0) (L138_0 l lv (sV nm) (sV us) (sV id) (iV i) h) := by
  intro r
  induction r with
  | nil =>
    rintro d hd i v9 h k rfl
    have hlen := (hlv.keep k).len
    rw [List.append_nil] at hd
    subst hd
    have hlt : decide ((d.length : Int) < (d.length : Int)) = false := decide_eq_false (by omega)
    refine okr_code Tryz.func138 rfl rfl ?_
    simp (disch := first | exact dI | fail) only [↓XX, ↓XD, ↓YX, ZB, Nat.reduceAdd, Nat.reducePow, ↓reduceIte, eq_self, Int.reduceEq, Nat.reduceEqDiff, Nat.reduceMul, Nat.reduceLeDiff, Tryz.f138, hlen, hlt, ↓XH1, ↓XH2, ZC, eq_self, Nat.reduceLeDiff, XRN, ZE, ZK, Nat.reduceBEq, slV_new, ZS, reduceIte, ↓op_extract]
    exact Okr.ret ⟨⟨_, rfl⟩, k⟩
  | cons x r ih =>
    rintro d hd i v9 h k rfl
    have hlen := (hlv.keep k).len
    obtain ⟨p, g0, hix, hh, hp⟩ := (hd ▸ hlv : En.Rd H0 lv (d ++ x :: r)).at
    replace hh := k.get hh hp
    have hlt : decide ((d.length : Int) < (xs.length : Int)) = true := decide_eq_true (by rw [← hd]; simp; omega)
    have hdl : d.length + r.length + 1 = xs.length := by rw [← hd]; simp; omega
    have hw : IntKind.i64.wrap ((d.length : Int) + 1) = (((d ++ [x]).length : Nat) : Int) := natCast_succ_wrap (by omega) (by simp)
    have hk1 := k.1
    have hgo : Okr (BoolQ H0) (L138_0 l lv (sV nm) (sV us) (sV id) (iV ((d.length + 1 : Nat) : Int)) (h ++ [AObj.row 0 9 x.C])) := ih (d ++ [x]) (by simp [hd]) _ v9 _ (k.trans (Keep.app _ _ k.1)) (by simp)
    refine okr_code Tryz.func138 rfl rfl ?_
    simp (disch := first | exact dI | fail) only [↓XX, ↓XD, ↓YX, ZB, Nat.reduceAdd, Nat.reducePow, ↓reduceIte, eq_self, Int.reduceEq, Nat.reduceEqDiff, Nat.reduceMul, Nat.reduceLeDiff, Tryz.f138, hlen, hlt, hix, hh, hw, ↓XH1, ↓XH2, ZC, eq_self, Nat.reduceLeDiff, XRN, ZE, ZK, Nat.reduceBEq, slV_new, ZS, reduceIte, ↓op_extract]
    repeat' first | exact hgo | exact Okr.ret ⟨⟨_, rfl⟩, k.trans (Keep.app _ _ k.1)⟩ | refine okr_bool (fun _ => ?_) (fun _ => ?_)
theorem rq138 (l : Nat) (nm us id : Bs) (lv : Value) (H0 : AH) (xs : List En) (hn : xs.length ≤ 2 ^ 20) (hlv : En.Rd H0 lv xs) (hm : l ≤ H0.length) :
    Okr (BoolQ H0) (run V0 (.fn 138) l [S lv, S (sV nm), S (sV us), S (sV id)] H0) := by
  refine okr_fn Tryz.func138 rfl rfl rfl rfl ?_
  simp (disch := first | exact dI | fail) only [↓XX, ↓XD, ↓YX, ZB, Nat.reduceAdd, Nat.reducePow, ↓reduceIte, eq_self, Int.reduceEq, Nat.reduceEqDiff, Nat.reduceMul, Nat.reduceLeDiff, Tryz.f138, ↓XH1, ↓XH2, ZC, eq_self, Nat.reduceLeDiff, XRN, ZE, ZK, Nat.reduceBEq, slV_new, ZS, reduceIte, ↓op_extract]
  exact L138 l nm us id lv H0 xs hn hlv hm xs [] rfl _ E.v _ (Keep.refl _ _) rfl
/-- what is made: entries of one room, one behind the other -/
def EsOk (nm : Bs) : Int → List En → Prop
  | _, [] => True
  | n, e :: r => e.room = nm ∧ e.seq = n ∧ e.F ∧ EsOk nm (n + 1) r
structure DoQ (ro : Ro) (H0 : AH) (v : Value) (h' : AH) : Prop where
  ex : ∃ lv es c, v = .tuple ⟨[lv, iV c]⟩ ∧ En.Rd h' lv es ∧ EsOk ro.name ro.next es ∧ es.length ≤ 3
  k : Keep H0.length H0 h'
theorem rq116 (ro : Ro) (ms : List Me) (rs : List Rk) (us nk : Bs) (l : Nat) (h : AH) (hl : l ≤ h.length) (hn : ms.length ≤ 2 ^ 20) (hm : rs.length ≤ 2 ^ 20) (q : RoomAt h ro ms rs) (fu : us.length ≤ 64) (fk : nk.length ≤ 64) (hs : 0 ≤ ro.next ∧ ro.next ≤ 20001) :
    Okr (DoQ ro h) (run V0 (.fn 116) l [S ro.V, S (sV us), S (sV nk)] h) := by
  have a1 := fun (h' : AH) (k : Keep h.length h h') => rq103 ro us rs l h' (by omega) (q.keep k).qr.rd
  have a2 := fun (h' : AH) (k : Keep h.length h h') => rq101 ro us ms l h' (by omega) (q.keep k).qm.rd
  have a3 := fun (h' : AH) (k : Keep h.length h h') => rq102 ro nk ms l h' (by omega) (q.keep k).qm.rd
  have hlen := q.qm.rd.len
  rcases ro with ⟨rn, rx, rm, rr, rj⟩
  have om := q.qm.one
  have or := q.qr.one
  simp only at om or hs a1 a2 a3 hlen
  have a4 := fun k l h => rq136 k l h
  refine okr_fn Tryz.func116 rfl rfl rfl rfl ?_
  cases hb1 : (rankL us rs == 0) with
  | true =>
    simp (disch := first | exact dI | fail) only [↓XX, ↓XD, ↓YX, ZB, Nat.reduceAdd, Nat.reducePow, ↓reduceIte, eq_self, Int.reduceEq, Nat.reduceEqDiff, Nat.reduceMul, Nat.reduceLeDiff, Tryz.f116, ↓XH1, ↓XH2, ZC, eq_self, Nat.reduceLeDiff, XRN, ZE, ZK, Nat.reduceBEq, slV_new, ZS, reduceIte, ↓op_extract, om, or, a1, hb1]
    exact Okr.ret ⟨⟨_, [], 6, rfl, .inl ⟨rfl, rfl⟩, trivial, by simp⟩, by (repeat first | exact Keep.refl _ _ | assumption | refine Keep.ap ?_ | refine Keep.st (by first | omega | (simp only [ZL]; omega)) ?_)⟩
  | false =>
  cases hb2 : decide (0 ≤ ofL us ms 0) with
  | true =>
    simp (disch := first | exact dI | fail) only [↓XX, ↓XD, ↓YX, ZB, Nat.reduceAdd, Nat.reducePow, ↓reduceIte, eq_self, Int.reduceEq, Nat.reduceEqDiff, Nat.reduceMul, Nat.reduceLeDiff, Tryz.f116, ↓XH1, ↓XH2, ZC, eq_self, Nat.reduceLeDiff, XRN, ZE, ZK, Nat.reduceBEq, slV_new, ZS, reduceIte, ↓op_extract, om, or, a1, a2, hb1, hb2]
    exact Okr.ret ⟨⟨_, [], 3, rfl, .inl ⟨rfl, rfl⟩, trivial, by simp⟩, by (repeat first | exact Keep.refl _ _ | assumption | refine Keep.ap ?_ | refine Keep.st (by first | omega | (simp only [ZL]; omega)) ?_)⟩
  | false =>
  cases hb3 : decide (0 ≤ nickL nk ms 0) with
  | true =>
    simp (disch := first | exact dI | fail) only [↓XX, ↓XD, ↓YX, ZB, Nat.reduceAdd, Nat.reducePow, ↓reduceIte, eq_self, Int.reduceEq, Nat.reduceEqDiff, Nat.reduceMul, Nat.reduceLeDiff, Tryz.f116, ↓XH1, ↓XH2, ZC, eq_self, Nat.reduceLeDiff, XRN, ZE, ZK, Nat.reduceBEq, slV_new, ZS, reduceIte, ↓op_extract, om, or, a1, a2, a3, hb1, hb2, hb3]
    exact Okr.ret ⟨⟨_, [], 4, rfl, .inl ⟨rfl, rfl⟩, trivial, by simp⟩, by (repeat first | exact Keep.refl _ _ | assumption | refine Keep.ap ?_ | refine Keep.st (by first | omega | (simp only [ZL]; omega)) ?_)⟩
  | false =>
  cases hb4 : decide ((5 : Int) ≤ (ms.length : Int)) with
  | true =>
    simp (disch := first | exact dI | fail) only [↓XX, ↓XD, ↓YX, ZB, Nat.reduceAdd, Nat.reducePow, ↓reduceIte, eq_self, Int.reduceEq, Nat.reduceEqDiff, Nat.reduceMul, Nat.reduceLeDiff, Tryz.f116, ↓XH1, ↓XH2, ZC, eq_self, Nat.reduceLeDiff, XRN, ZE, ZK, Nat.reduceBEq, slV_new, ZS, reduceIte, ↓op_extract, om, or, a1, a2, a3, hlen, hb1, hb2, hb3, hb4]
    exact Okr.ret ⟨⟨_, [], 5, rfl, .inl ⟨rfl, rfl⟩, trivial, by simp⟩, by (repeat first | exact Keep.refl _ _ | assumption | refine Keep.ap ?_ | refine Keep.st (by first | omega | (simp only [ZL]; omega)) ?_)⟩
  | false =>
  cases hb5 : (rx == 0) with
  | true =>
    simp (disch := first | exact dI | fail) only [↓XX, ↓XD, ↓YX, ZB, Nat.reduceAdd, Nat.reducePow, ↓reduceIte, eq_self, Int.reduceEq, Nat.reduceEqDiff, Nat.reduceMul, Nat.reduceLeDiff, Tryz.f116, ↓XH1, ↓XH2, ZC, eq_self, Nat.reduceLeDiff, XRN, ZE, ZK, Nat.reduceBEq, slV_new, ZS, reduceIte, ↓op_extract, om, or, a1, a2, a3, a4, hlen, hb1, hb2, hb3, hb4, hb5]
    have hx0 : rx = 0 := by simpa using hb5
    have fe1 : (⟨rn, 0, 6, us, [], [], [], [], 4⟩ : En).F := ⟨q.nm, fu, by simp, by simp, by simp, by simp⟩
    have fe2 : (⟨rn, rx + 1, 1, us, nk, [], [], [], (if (3 : Int) ≤ 4 then 3 else 2)⟩ : En).F := ⟨q.nm, fu, fk, by simp, by simp, by simp⟩
    refine okr_opt (En.app2 (os := []) ⟨rn, 0, 6, us, [], [], [], [], 4⟩ (by simp (disch := first | exact dI | fail) only [↓XH1, ↓XH2, ZC, eq_self, Nat.reduceLeDiff, XRN, ZE, ZK, Nat.reduceBEq]; rfl) rfl rfl (by first | rfl | omega | (simp (disch := first | exact dI | fail) only [ZK, ZL, ZR] <;> omega) | fail) (by first | rfl | omega | (simp (disch := first | exact dI | fail) only [ZK, ZL, ZR] <;> omega) | fail) (by first | rfl | omega | (simp (disch := first | exact dI | fail) only [ZK, ZL, ZR] <;> omega) | fail) rfl) ?_
    rintro _ ⟨g1, rfl⟩
    have hw : IntKind.i64.wrap (rx + ((1 : Nat) : Int)) = rx + 1 := by rw [wrap64 (by omega)]; rfl
    simp (disch := first | exact dI | fail) only [↓XX, ↓XD, ↓YX, ZB, Nat.reduceAdd, Nat.reducePow, ↓reduceIte, eq_self, Int.reduceEq, Nat.reduceEqDiff, Nat.reduceMul, Nat.reduceLeDiff, ↓XH1, ↓XH2, ZC, eq_self, Nat.reduceLeDiff, XRN, ZE, ZK, Nat.reduceBEq, slV_new, ZS, reduceIte, ↓op_extract, hw]
    refine okr_opt (En.app2 (os := [] ++ [⟨rn, 0, 6, us, [], [], [], [], 4⟩]) ⟨rn, rx + 1, 1, us, nk, [], [], [], (if (3 : Int) ≤ 4 then 3 else 2)⟩ (by simp (disch := first | exact dI | fail) only [↓XH1, ↓XH2, ZC, eq_self, Nat.reduceLeDiff, XRN, ZE, ZK, Nat.reduceBEq]) rfl rfl (by first | rfl | omega | (simp (disch := first | exact dI | fail) only [ZK, ZL, ZR] <;> omega) | fail) (by first | rfl | omega | (simp (disch := first | exact dI | fail) only [ZK, ZL, ZR] <;> omega) | fail) (by simp) rfl) ?_
    rintro _ ⟨g2, rfl⟩
    simp (disch := first | exact dI | fail) only [↓XX, ↓XD, ↓YX, ZB, Nat.reduceAdd, Nat.reducePow, ↓reduceIte, eq_self, Int.reduceEq, Nat.reduceEqDiff, Nat.reduceMul, Nat.reduceLeDiff, ↓XH1, ↓XH2, ZC, eq_self, Nat.reduceLeDiff, XRN, ZE, ZK, Nat.reduceBEq]
    refine Okr.ret ⟨⟨_, [⟨rn, 0, 6, us, [], [], [], [], 4⟩, ⟨rn, rx + 1, 1, us, nk, [], [], [], (if (3 : Int) ≤ 4 then 3 else 2)⟩], 0, rfl, .inr ⟨h.length + 1 + 1 + 1 + 1, g2, 2, rfl, ?_⟩, ⟨rfl, hx0.symm, fe1, rfl, rfl, fe2, trivial⟩, by simp⟩, by (repeat first | exact Keep.refl _ _ | assumption | refine Keep.ap ?_ | refine Keep.st (by first | omega | (simp only [ZL]; omega)) ?_)⟩
    simp (disch := first | exact dI | fail) only [↓XH1, ↓XH2, ZC, eq_self, Nat.reduceLeDiff, XRN, ZE, ZK, Nat.reduceBEq]
  | false =>
    have fe2 : (⟨rn, rx, 1, us, nk, [], [], [], (if 3 ≤ rankL us rs then 3 else 2)⟩ : En).F := ⟨q.nm, fu, fk, by simp, by simp, by simp⟩
    have hw : IntKind.i64.wrap (rx + ((0 : Nat) : Int)) = rx := by rw [wrap64 (by omega)]; simp
    simp (disch := first | exact dI | fail) only [↓XX, ↓XD, ↓YX, ZB, Nat.reduceAdd, Nat.reducePow, ↓reduceIte, eq_self, Int.reduceEq, Nat.reduceEqDiff, Nat.reduceMul, Nat.reduceLeDiff, Tryz.f116, ↓XH1, ↓XH2, ZC, eq_self, Nat.reduceLeDiff, XRN, ZE, ZK, Nat.reduceBEq, slV_new, ZS, reduceIte, ↓op_extract, om, or, a1, a2, a3, a4, hlen, hb1, hb2, hb3, hb4, hb5, hw]
    refine okr_opt (En.app2 (os := []) ⟨rn, rx, 1, us, nk, [], [], [], (if 3 ≤ rankL us rs then 3 else 2)⟩ (by simp (disch := first | exact dI | fail) only [↓XH1, ↓XH2, ZC, eq_self, Nat.reduceLeDiff, XRN, ZE, ZK, Nat.reduceBEq]; rfl) rfl rfl (by first | rfl | omega | (simp (disch := first | exact dI | fail) only [ZK, ZL, ZR] <;> omega) | fail) (by first | rfl | omega | (simp (disch := first | exact dI | fail) only [ZK, ZL, ZR] <;> omega) | fail) (by first | rfl | omega | (simp (disch := first | exact dI | fail) only [ZK, ZL, ZR] <;> omega) | fail) rfl) ?_
    rintro _ ⟨g2, rfl⟩
    simp (disch := first | exact dI | fail) only [↓XX, ↓XD, ↓YX, ZB, Nat.reduceAdd, Nat.reducePow, ↓reduceIte, eq_self, Int.reduceEq, Nat.reduceEqDiff, Nat.reduceMul, Nat.reduceLeDiff, ↓XH1, ↓XH2, ZC, eq_self, Nat.reduceLeDiff, XRN, ZE, ZK, Nat.reduceBEq]
    refine Okr.ret ⟨⟨_, [⟨rn, rx, 1, us, nk, [], [], [], (if 3 ≤ rankL us rs then 3 else 2)⟩], 0, rfl, .inr ⟨h.length + 1 + 1 + 1 + 1, g2, 1, rfl, ?_⟩, ⟨rfl, rfl, fe2, trivial⟩, by simp⟩, by (repeat first | exact Keep.refl _ _ | assumption | refine Keep.ap ?_ | refine Keep.st (by first | omega | (simp only [ZL]; omega)) ?_)⟩
    simp (disch := first | exact dI | fail) only [↓XH1, ↓XH2, ZC, eq_self, Nat.reduceLeDiff, XRN, ZE, ZK, Nat.reduceBEq]
end Go.Abs
namespace Go.Abs
open Go.Proofs
set_option maxRecDepth 100000
set_option linter.unusedSimpArgs false
set_option linter.unusedVariables false
set_option pp.maxSteps 20000
set_option pp.deepTerms true
def Sa.F (s : Sa) : Prop := s.room.length ≤ 64 ∧ s.nick.length ≤ 64 ∧ s.name.length ≤ 64 ∧ s.id.length ≤ 64 ∧ s.ref.length ≤ 64 ∧ s.text.length ≤ 64
structure EntQ (ro : Ro) (kd : Int) (u : Bs) (H0 : AH) (v : Value) (h' : AH) : Prop where
  ex : ∃ nk, v = En.V ⟨ro.name, ro.next, kd, u, nk, [], [], [], 0⟩ ∧ nk.length ≤ 64
  k : Keep H0.length H0 h'
theorem okr_entry (ro : Ro) (ms : List Me) (rs : List Rk) (kd : Int) (u : Bs) (l : Nat) (h : AH) (hl : l ≤ h.length) (hn : ms.length ≤ 2 ^ 40) (q : RoomAt h ro ms rs) :
    Okr (EntQ ro kd u h) (run V0 (.fn 137) l [S ro.V, S (iV kd), S (sV u)] h) := by
  exact ⟨_, _, rq137 ro ms rs kd u l h hl hn q, ⟨_, rfl, entNick_F q.fm⟩, by (repeat first | exact Keep.refl _ _ | assumption | refine Keep.ap ?_ | refine Keep.st (by first | omega | (simp only [ZL]; omega)) ?_)⟩
/-- where a member lies -/
structure MeAt (ro : Ro) (ms : List Me) (h : AH) (n : Nat) (x : Me) (id g : Nat) : Prop where
  v : ro.ms = slV id g ms.length ms.length
  e : h[id]? = some (.row g 3 (Me.R ms))
  b : id < h.length
  lt : n < ms.length
  ix : ixAddr (slV id g ms.length ms.length) (n : Int) 3 = some (pV id (n * 3) g)
  c0 : (Me.R ms)[n * 3 + 0]? = some (sV x.user)
  c1 : (Me.R ms)[n * 3 + 1]? = some (sV x.nick)
  c2 : (Me.R ms)[n * 3 + 2]? = some (iV x.role)
  all : ((Me.R ms).drop (n * 3)).take 3 = Me.C x
  f : x.F
theorem RoomAt.meAt {h : AH} {ro : Ro} {ms : List Me} {rs : List Rk} (q : RoomAt h ro ms rs) {d t : List Me} {x : Me} (hm : ms = d ++ x :: t) : ∃ id g, MeAt ro ms h d.length x id g := by
  rcases q.qm with ⟨_, q2⟩ | ⟨id, g, hv, e⟩
  · rw [q2] at hm; simp at hm
  · have hl : d.length < ms.length := by rw [hm]; simp
    refine ⟨id, g, hv, e, lt_of_get e, hl, by rw [ixAddr_sl hl]; simp, ?_, ?_, ?_, ?_, q.fm x (by rw [hm]; simp)⟩
    · rw [hm, Me.c0]
    · rw [hm, Me.c1]
    · rw [hm, Me.c2]
    · rw [hm, Me.get]
theorem rq139 (ro : Ro) (ms : List Me) (rs : List Rk) (us : Bs) (s : Sa) (l : Nat) (h : AH) (hl : l ≤ h.length) (hn : ms.length ≤ 2 ^ 20) (hm : rs.length ≤ 2 ^ 20) (q : RoomAt h ro ms rs) (fu : us.length ≤ 64) (fs : s.F) (hs : 0 ≤ ro.next ∧ ro.next ≤ 20001) (hus : ofL us ms 0 ≠ -1) :
    Okr (DoQ ro h) (run V0 (.fn 139) l [S ro.V, S (sV us), S s.V] h) := by
  have a1 := fun (h' : AH) (l : Nat) (us : Bs) (k : Keep h.length h h') => rq103 ro us rs l h' (by omega) (q.keep k).qr.rd
  have a2 := fun (h' : AH) (l : Nat) (k : Keep h.length h h') => rq101 ro us ms l h' (by omega) (q.keep k).qm.rd
  have a3 := fun (h' : AH) (l : Nat) (nk : Bs) (k : Keep h.length h h') => rq102 ro nk ms l h' (by omega) (q.keep k).qm.rd
  have a5 := fun (h' : AH) (u : Bs) (hl : l ≤ h'.length) (k : Keep h.length h h') => okr_entry ro ms rs 5 u l h' hl (by omega) (q.keep k)
  have fr := q.fr
  have fm := q.fm
  have nm : ro.name.length ≤ 64 := q.nm
  rcases ofL_spec us ms 0 with hq | ⟨d, x, t, hmd, hxu, hq⟩
  · exact absurd hq hus
  rw [Nat.zero_add] at hq
  obtain ⟨id, g, mx⟩ := q.meAt hmd
  rcases ro with ⟨rn, rx, rm, rr, rj⟩
  rcases s with ⟨sk, sr, sn, sm, si, sf, st, su, sa, sb⟩
  have or := q.qr.one
  have hv := mx.v
  simp only at or hs hv a1 a2 a3
  subst hv
  have mb := mx.b
  have ml := mx.lt
  refine okr_fn Tryz.func139 rfl rfl rfl rfl ?_
  cases hb1 : (x.role != 3) with
  | true =>
    simp (disch := first | exact dI | fail) only [↓XX, ↓XD, ↓YX, ZB, Nat.reduceAdd, Nat.reducePow, ↓reduceIte, eq_self, Int.reduceEq, Nat.reduceEqDiff, Nat.reduceMul, Nat.reduceLeDiff, Tryz.f139, ↓XH1, ↓XH2, ZC, eq_self, Nat.reduceLeDiff, XRN, ZE, ZK, Nat.reduceBEq, slV_new, ZS, reduceIte, ↓op_extract, or, a1, a2, a3, hq, mx.ix, mx.e, mx.c2, hb1]
    exact Okr.ret ⟨⟨_, [], 7, rfl, .inl ⟨rfl, rfl⟩, trivial, by simp⟩, by (repeat first | exact Keep.refl _ _ | assumption | refine Keep.ap ?_ | refine Keep.st (by first | omega | (simp only [ZL]; omega)) ?_)⟩
  | false =>
  rcases nickL_spec sn ms 0 with hk | ⟨d2, y, t2, hmd2, hyn, hk⟩
  · have hlt : decide ((-1 : Int) < 0) = true := rfl
    simp (disch := first | exact dI | fail) only [↓XX, ↓XD, ↓YX, ZB, Nat.reduceAdd, Nat.reducePow, ↓reduceIte, eq_self, Int.reduceEq, Nat.reduceEqDiff, Nat.reduceMul, Nat.reduceLeDiff, Tryz.f139, ↓XH1, ↓XH2, ZC, eq_self, Nat.reduceLeDiff, XRN, ZE, ZK, Nat.reduceBEq, slV_new, ZS, reduceIte, ↓op_extract, or, a1, a2, a3, hq, hk, mx.ix, mx.e, mx.c2, hb1, hlt]
    exact Okr.ret ⟨⟨_, [], 8, rfl, .inl ⟨rfl, rfl⟩, trivial, by simp⟩, by (repeat first | exact Keep.refl _ _ | assumption | refine Keep.ap ?_ | refine Keep.st (by first | omega | (simp only [ZL]; omega)) ?_)⟩
  · rw [Nat.zero_add] at hk
    obtain ⟨id2, g2, my⟩ := q.meAt hmd2
    have hv2 := my.v
    simp only at hv2
    have hv3 : id = id2 ∧ g = g2 := by simp only [slV] at hv2; injection hv2 with a b c; injection a with a; injection a with a b c; injection c with c; exact ⟨a, c⟩
    obtain ⟨rfl, rfl⟩ := hv3
    have hlt : decide (((d2.length : Nat) : Int) < 0) = false := decide_eq_false (by omega)
    have ml2 := my.lt
    simp (disch := first | exact dI | fail) only [↓XX, ↓XD, ↓YX, ZB, Nat.reduceAdd, Nat.reducePow, ↓reduceIte, eq_self, Int.reduceEq, Nat.reduceEqDiff, Nat.reduceMul, Nat.reduceLeDiff, Tryz.f139, ↓XH1, ↓XH2, ZC, eq_self, Nat.reduceLeDiff, XRN, ZE, ZK, Nat.reduceBEq, slV_new, ZS, reduceIte, ↓op_extract, or, a1, a2, a3, hq, hk, mx.ix, mx.e, mx.c2, hb1, hlt, my.ix, my.c0, my.c1, my.c2, my.all]
    repeat' first | exact Okr.ret ⟨⟨_, [], _, rfl, .inl ⟨rfl, rfl⟩, trivial, by simp⟩, by (repeat first | exact Keep.refl _ _ | assumption | refine Keep.ap ?_ | refine Keep.st (by first | omega | (simp only [ZL]; omega)) ?_)⟩ | refine okr_bool (fun _ => ?_) (fun _ => ?_) | refine okr_call (a5 _ _ (by first | rfl | omega | (simp (disch := first | exact dI | fail) only [ZK, ZL, ZR] <;> omega) | fail) (by (repeat first | exact Keep.refl _ _ | assumption | refine Keep.ap ?_ | refine Keep.st (by first | omega | (simp only [ZL]; omega)) ?_))) ?_
    all_goals
      rintro _ h1 ⟨⟨nk, rfl, fnk⟩, k1⟩
      have k1' := k1.1
      have k1'' := k1.2
      simp only [List.length_append, List.length_set, List.length_cons, List.length_nil, Nat.zero_add] at k1' k1''
      have kb : Keep h.length h h1 := Keep.trans (by (repeat first | exact Keep.refl _ _ | assumption | refine Keep.ap ?_ | refine Keep.st (by first | omega | (simp only [ZL]; omega)) ?_)) (k1.le (by simp only [List.length_append, List.length_set]; omega))
      simp (disch := first | exact dI | fail) only [↓XX, ↓XD, ↓YX, ZB, Nat.reduceAdd, Nat.reducePow, ↓reduceIte, eq_self, Int.reduceEq, Nat.reduceEqDiff, Nat.reduceMul, Nat.reduceLeDiff, ↓XH1, ↓XH2, ZC, eq_self, Nat.reduceLeDiff, XRN, ZE, ZK, Nat.reduceBEq, slV_new, ZS, reduceIte, ↓op_extract, k1'', aggOf]
      refine okr_bool (fun _ => ?_) (fun _ => ?_)
      · refine Okr.ret ⟨⟨_, [⟨rn, rx, 2, y.user, nk, [], [], [], 1⟩], 0, rfl, .inr ⟨h1.length + 1, 0, 1, rfl, ?_⟩, ⟨rfl, rfl, ⟨nm, my.f.1, fnk, by simp, by simp, by simp⟩, trivial⟩, by simp⟩, by (repeat first | exact Keep.refl _ _ | assumption | refine Keep.ap ?_ | refine Keep.st (by first | omega | (simp only [ZL]; omega)) ?_)⟩
        simp (disch := first | exact dI | fail) only [↓XH1, ↓XH2, ZC, eq_self, Nat.reduceLeDiff, XRN, ZE, ZK, Nat.reduceBEq]
        rfl
      · refine Okr.ret ⟨⟨_, [⟨rn, rx, 5, y.user, nk, [], [], [], su⟩], 0, rfl, .inr ⟨h1.length + 1, 0, 1, rfl, ?_⟩, ⟨rfl, rfl, ⟨nm, my.f.1, fnk, by simp, by simp, by simp⟩, trivial⟩, by simp⟩, by (repeat first | exact Keep.refl _ _ | assumption | refine Keep.ap ?_ | refine Keep.st (by first | omega | (simp only [ZL]; omega)) ?_)⟩
        simp (disch := first | exact dI | fail) only [↓XH1, ↓XH2, ZC, eq_self, Nat.reduceLeDiff, XRN, ZE, ZK, Nat.reduceBEq]
        rfl
end Go.Abs
