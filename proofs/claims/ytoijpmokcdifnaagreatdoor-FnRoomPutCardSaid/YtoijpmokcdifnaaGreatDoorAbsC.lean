/- How an operation of the abstract interpreter is rewritten, one by one. No statement of the program is proved here; no condition. -/
import Derived.Test.YtoijpmokcdifnaaGreatDoorAbsB
namespace Go.Abs
set_option linter.unusedVariables false

/-- one operation, without what is said of its place -/
def op1 (V : Env) (C : Hnd) (lim : Nat) (pan : Value → AH → R) (fr : Frm) (h : AH) (op : Op) (t : TypeId) (act : Option Bool) (K : Slot → AH → R) : R :=
  opK V C lim pan fr h ⟨none, op, t, "", #[], none⟩ act K
def retQ (P : Program) (rs : List ResultVar) (fr : Frm) (h : AH) : R :=
  (retL rs fr h P).bind fun vs => match vs with | [v] => some (.ret v h) | vs => some (.ret (.tuple vs.toArray) h)
/-- the destination of an operation -/
def dstOf : List Oper → Nat → Option Tmp
  | [], _ => none
  | o :: _, 0 => o.dst
  | _ :: os, j + 1 => dstOf os j
theorem dstOf_eq (ops : Array Oper) (j : Nat) : (ops[j]?).bind (·.dst) = dstOf ops.toList j := by
  obtain ⟨l⟩ := ops
  simp only [List.getElem?_toArray]
  induction l generalizing j with
  | nil => rfl
  | cons o os ih => cases j with
    | zero => rfl
    | succ j => simp only [List.getElem?_cons_succ, dstOf]; exact ih j
def padF : Nat → Frm → Frm
  | 0, fr => fr
  | n + 1, [] => E :: padF n []
  | n + 1, s :: fr => s :: padF n fr
theorem padF_eq : ∀ (n : Nat) (fr : Frm), fr ++ List.replicate (n - fr.length) E = padF n fr
  | 0, fr => by simp [padF]
  | n + 1, [] => by simp only [padF, List.nil_append, List.length_nil, Nat.sub_zero, List.replicate_succ]; rw [← padF_eq n []]; simp
  | n + 1, s :: fr => by simp only [padF, List.cons_append, List.length_cons]; rw [← padF_eq n fr]; simp [Nat.add_sub_add_right]

def force (fr : Frm) (X : Frm → R) : R := match fr with | [] => X [] | a :: l => X (a :: l)
theorem force_eq (fr : Frm) (X : Frm → R) : force fr X = X fr := by cases fr <;> rfl
/-- a guard: what is known of it is written into its slot -/
def gSp (s : Slot) (w : Bool) (X : Slot → Bool → R) : R :=
  match s with
  | ⟨g, u, v⟩ => match v with
    | .bool b => match u with
      | true => match g with
        | true => match b with | true => X ⟨true, true, .bool true⟩ w | false => X ⟨true, true, .bool false⟩ (!w)
        | false => X ⟨false, true, .bool b⟩ false
      | false => chk g (X ⟨g, false, .bool b⟩ (eqW b w))
    | _ => none
theorem gAct_gSp (s : Slot) (w : Bool) (X : Bool → R) (Y : Slot → Bool → R) (hxy : ∀ a, Y s a = X a) : gAct s w X = gSp s w Y := by
  obtain ⟨g, u, v⟩ := s
  cases v <;> try rfl
  rename_i b
  cases u with
  | true => cases g with
    | true => cases b <;> simp only [gAct, gSp, eqW] <;> cases w <;> simp only [Bool.not_true, Bool.not_false, hxy]
    | false => simp only [gAct, gSp, hxy]
  | false => simp only [gAct, gSp, hxy]
theorem set_getD (fr : Frm) (e : Nat) : fr.set e (fr.getD e E) = fr := by
  induction fr generalizing e with
  | nil => rfl
  | cons a l ih => cases e with
    | zero => rfl
    | succ e => simp only [List.set_cons_succ, List.getD_cons_succ, ih]

theorem XR {V C lim pan} {l : List Oper} : (∀ fr h K, regN V C lim pan ⟨l⟩ [] fr h K = K fr h) ∧
  (∀ d op t pos aft os fr h K, regN V C lim pan ⟨l⟩ (⟨some d, op, t, pos, aft, none⟩ :: os) fr h K = op1 V C lim pan fr h op t none fun s h => force (fr.set d s) fun fr => regN V C lim pan ⟨l⟩ os fr h K) ∧
  (∀ op t pos aft os fr h K, regN V C lim pan ⟨l⟩ (⟨none, op, t, pos, aft, none⟩ :: os) fr h K = op1 V C lim pan fr h op t none fun _ h => regN V C lim pan ⟨l⟩ os fr h K) ∧
  (∀ d op t pos aft j w os fr h K, regN V C lim pan ⟨l⟩ (⟨some d, op, t, pos, aft, some (j, w)⟩ :: os) fr h K =
    match dstOf l j with
    | some e => gSp (fr.getD e E) w fun s a => force (fr.set e s) fun fr => op1 V C lim pan fr h op t (some a) fun s h => force (fr.set d s) fun fr => regN V C lim pan ⟨l⟩ os fr h K
    | none => none) ∧
  (∀ op t pos aft j w os fr h K, regN V C lim pan ⟨l⟩ (⟨none, op, t, pos, aft, some (j, w)⟩ :: os) fr h K =
    match dstOf l j with
    | some e => gSp (fr.getD e E) w fun s a => force (fr.set e s) fun fr => op1 V C lim pan fr h op t (some a) fun _ h => regN V C lim pan ⟨l⟩ os fr h K
    | none => none) := by
  refine ⟨fun _ _ _ => rfl, fun _ _ _ _ _ _ _ _ _ => ?_, fun _ _ _ _ _ _ _ _ => rfl, ?_, ?_⟩
  · simp only [force_eq]; rfl
  · intro d op t pos aft j w os fr h K
    simp only [regN, dstOf_eq]
    cases hd : dstOf l j with
    | none => rfl
    | some e => exact gAct_gSp _ _ _ _ fun a => by simp only [force_eq, set_getD]; rfl
  · intro op t pos aft j w os fr h K
    simp only [regN, dstOf_eq]
    cases hd : dstOf l j with
    | none => rfl
    | some e => exact gAct_gSp _ _ _ _ fun a => by simp only [force_eq, set_getD]; rfl
/-- a slot as an option: so that it is looked at before it is used -/
def getO (fr : Frm) (t : Nat) : Option Slot := some (fr.getD t E)
theorem fg0 (a0 : Slot) (l : Frm) : getO (a0 :: l) 0 = some a0 := rfl
theorem fs0 (a0 s : Slot) (l : Frm) : List.set (a0 :: l) 0 s = s :: l := rfl
theorem fg1 (a0 a1 : Slot) (l : Frm) : getO (a0 :: a1 :: l) 1 = some a1 := rfl
theorem fs1 (a0 a1 s : Slot) (l : Frm) : List.set (a0 :: a1 :: l) 1 s = a0 :: s :: l := rfl
theorem fg2 (a0 a1 a2 : Slot) (l : Frm) : getO (a0 :: a1 :: a2 :: l) 2 = some a2 := rfl
theorem fs2 (a0 a1 a2 s : Slot) (l : Frm) : List.set (a0 :: a1 :: a2 :: l) 2 s = a0 :: a1 :: s :: l := rfl
theorem fg3 (a0 a1 a2 a3 : Slot) (l : Frm) : getO (a0 :: a1 :: a2 :: a3 :: l) 3 = some a3 := rfl
theorem fs3 (a0 a1 a2 a3 s : Slot) (l : Frm) : List.set (a0 :: a1 :: a2 :: a3 :: l) 3 s = a0 :: a1 :: a2 :: s :: l := rfl
theorem fg4 (a0 a1 a2 a3 a4 : Slot) (l : Frm) : getO (a0 :: a1 :: a2 :: a3 :: a4 :: l) 4 = some a4 := rfl
theorem fs4 (a0 a1 a2 a3 a4 s : Slot) (l : Frm) : List.set (a0 :: a1 :: a2 :: a3 :: a4 :: l) 4 s = a0 :: a1 :: a2 :: a3 :: s :: l := rfl
theorem fg5 (a0 a1 a2 a3 a4 a5 : Slot) (l : Frm) : getO (a0 :: a1 :: a2 :: a3 :: a4 :: a5 :: l) 5 = some a5 := rfl
theorem fs5 (a0 a1 a2 a3 a4 a5 s : Slot) (l : Frm) : List.set (a0 :: a1 :: a2 :: a3 :: a4 :: a5 :: l) 5 s = a0 :: a1 :: a2 :: a3 :: a4 :: s :: l := rfl
theorem fg6 (a0 a1 a2 a3 a4 a5 a6 : Slot) (l : Frm) : getO (a0 :: a1 :: a2 :: a3 :: a4 :: a5 :: a6 :: l) 6 = some a6 := rfl
theorem fs6 (a0 a1 a2 a3 a4 a5 a6 s : Slot) (l : Frm) : List.set (a0 :: a1 :: a2 :: a3 :: a4 :: a5 :: a6 :: l) 6 s = a0 :: a1 :: a2 :: a3 :: a4 :: a5 :: s :: l := rfl
theorem fg7 (a0 a1 a2 a3 a4 a5 a6 a7 : Slot) (l : Frm) : getO (a0 :: a1 :: a2 :: a3 :: a4 :: a5 :: a6 :: a7 :: l) 7 = some a7 := rfl
theorem fs7 (a0 a1 a2 a3 a4 a5 a6 a7 s : Slot) (l : Frm) : List.set (a0 :: a1 :: a2 :: a3 :: a4 :: a5 :: a6 :: a7 :: l) 7 s = a0 :: a1 :: a2 :: a3 :: a4 :: a5 :: a6 :: s :: l := rfl
theorem fg8 (a0 a1 a2 a3 a4 a5 a6 a7 : Slot) (l : Frm) (n : Nat) : getO (a0 :: a1 :: a2 :: a3 :: a4 :: a5 :: a6 :: a7 :: l) (n + 8) = getO l n := rfl
theorem fs8 (a0 a1 a2 a3 a4 a5 a6 a7 s : Slot) (l : Frm) (n : Nat) : List.set (a0 :: a1 :: a2 :: a3 :: a4 :: a5 :: a6 :: a7 :: l) (n + 8) s = a0 :: a1 :: a2 :: a3 :: a4 :: a5 :: a6 :: a7 :: List.set l n s := rfl
end Go.Abs
namespace Go.Abs
/-- what is static of a slice's element: its size and its zero -/
def elT (P : Program) (e : TypeId) : Option (Nat × List Value) :=
  match zeroOf P e with
  | some z => if sizeT P e = z.cells.size ∧ (0 < sizeT P e ∧ sizeT P e < 4294967296) ∧ z.cells.toList.all flat0 = true then some (sizeT P e, z.cells.toList) else none
  | none => none
def bsT (P : Program) (t : TypeId) : Option (Nat × Nat × List Value) := (elemT P t).bind fun e => (elT P e).map fun r => (r.1, tgE P e (sizeT P e), r.2)
def alT (P : Program) (t : TypeId) : Option (Nat × List Value) :=
  match zeroOf P t with
  | some z => if z.cells.toList.all flat0 = true then some (szA P t, z.cells.toList) else none
  | none => none
def apT (P : Program) (t0 t1 : TypeId) : Option (Nat × Nat × Nat) :=
  match elemT P t0, P.underlying t1 with
  | _, some (.int _) => none
  | some e, some _ => (match zeroOf P e, sizeO P e with
    | some z, some sz => if z.cells.size = sz ∧ (0 < bytesT P e ∧ (0 < sz ∧ sz < 4294967296)) then some (sz, tgE P e sz, bytesT P e) else none
    | _, _ => none)
  | _, _ => none
def msT (P : Program) (t : TypeId) : Option (Nat × Nat × List Value) := (elemT P t).bind fun e => (elT P e).map fun r => (bytesT P e, tgE P e (sizeT P e), r.2)
/-- what is static of a struct: its zero, and where its fields lie -/
def buT (P : Program) (s : TypeId) : Option (List Value × List (Nat × Nat)) :=
  match zeroOf P s, P.underlying s with
  | some z, some (.struct fs) => if (z.cells.toList.all flat0 && fs.toList.all fun f => (P.info? f.type).isSome) = true then some (z.cells.toList, fs.toList.map fun f => (f.offset, sizeT P f.type)) else none
  | _, _ => none
def cellsL (v : Value) : List Value := v.cells.toList
def pk (act : Option Bool) (c a b : Slot) (X : Value → R) : R :=
  match c with
  | ⟨gc, _, vc⟩ => useG act gc (asBool vc fun q => match a with | ⟨ga, _, va⟩ => match b with | ⟨gb, _, vb⟩ => useG act (pickG q ga gb) (X (pickV q va vb)))
section
variable (V : Env) (C : Hnd) (lim : Nat) (pan : Value → AH → R) (fr : Frm) (h : AH) (t : TypeId) (act : Option Bool) (K : Slot → AH → R)

theorem XO1 :
  (∀ x, op1 V C lim pan fr h (.move x) t act K = use act (slot fr x) fun v => K (mkS act v) h) ∧
  (∀ x, op1 V C lim pan fr h (.assign x) t act K = use act (slot fr x) fun v => K (mkS act v) h) ∧
  (∀ c a b, op1 V C lim pan fr h (.pick c a b) t act K = pk act (slot fr c) (slot fr a) (slot fr b) fun v => K (mkS act v) h) ∧
  (∀ s x, op1 V C lim pan fr h (.box s x) t act K = use act (slot fr x) fun v => noTup v <| mk2 act (newP h) (h ++ [.row 0 (szC V.P s) (cellsL v)]) h K) ∧
  (∀ s a, op1 V C lim pan fr h (.load s a) t act K = use act (slot fr a) fun p =>
    match aggK V.P s with
    | some (some n) => oE act (ldN h p n) [] fun l => K (mkS act (.agg l.toArray)) h
    | some none => oE act (ld h p) (dflt1 V.P s) fun v => ty1 V.P s v fun v => K (mkS act v) h
    | none => none) ∧
  (∀ s a x, op1 V C lim pan fr h (.store s a x) t act K = use act (slot fr a) fun p => use act (slot fr x) fun v =>
    match aggK V.P s with
    | some (some n) => heapE act ((aggOf v).bind fun cs => if cs.length = n then stN lim h p cs else none) h fun h => K (mkS act undef) h
    | some none => if sizeO V.P s = some 1 then heapE act (stN lim h p [v]) h fun h => K (mkS act undef) h else none
    | none => none) ∧
  (∀ x, op1 V C lim pan fr h (.nilCheck x) t act K = use act (slot fr x) fun v => oE act (nonNil v) v fun v => K (mkS act v) h) ∧
  (∀ op s x y e, op1 V C lim pan fr h (.binOp op s x y e) t act K = use act (slot fr x) fun a => use act (slot fr y) fun b => binK V.P op s a b act fun v => K (mkS act v) h) ∧
  (∀ op s x, op1 V C lim pan fr h (.unOp op s x) t act K = use act (slot fr x) fun a => oE act (unA op a) undef fun v => K (mkS act v) h) ∧
  (∀ s x, op1 V C lim pan fr h (.makeInterface s x) t act K = use act (slot fr x) fun v => if isIface V.P s then none else K (mkS act (.iface s v)) h) ∧
  (∀ fn a b, op1 V C lim pan fr h (.makeFunc fn ⟨a⟩ ⟨b⟩) t act K = useL act (a.map (slot fr)) fun a => useL act (b.map (slot fr)) fun b => K (mkS act (.func fn a.toArray b.toArray)) h) ∧
  (∀ s x f, op1 V C lim pan fr h (.fieldAddr s x f) t act K = use act (slot fr x) fun v =>
    match fieldOf V.P s f with
    | some (off, t) => if sizeT V.P t = 0 then none else oE act (addOff v off) v fun v => K (mkS act v) h
    | none => none) ∧
  (∀ s x f, op1 V C lim pan fr h (.field s x f) t act K = use act (slot fr x) fun v =>
    match fieldOf V.P s f with
    | some (off, t) => oE act ((aggOf v).bind fun cs => partA V.P t cs off) undef fun v => ty1 V.P t v fun v => K (mkS act v) h
    | none => none) ∧
  (∀ s x i, op1 V C lim pan fr h (.extract x i) s act K = use act (slot fr x) fun v => oE act (tupAt v i) undef fun v => K (mkS act v) h) :=
  ⟨fun _ => rfl, fun _ => rfl, fun _ _ _ => rfl, fun _ _ => rfl, fun _ _ => rfl, fun _ _ _ => rfl, fun _ => rfl, fun _ _ _ _ _ => rfl, fun _ _ _ => rfl, fun _ _ => rfl, fun _ _ _ => rfl, fun _ _ _ => rfl, fun _ _ _ => rfl, fun _ _ _ => rfl⟩

theorem op_build (s : TypeId) (ps : List (Nat × Operand)) : op1 V C lim pan fr h (.build s ⟨ps⟩) t act K = useL act (ps.map fun p => slot fr p.2) fun vs =>
    match zeroOf V.P s, V.P.underlying s with
    | some z, some (.struct fs) => chk (z.cells.toList.all flat0 && fs.toList.all fun f => (V.P.info? f.type).isSome) <| noTups vs <| oE act (fillA (fun i => (fs[i]?).map fun f => (f.offset, sizeT V.P f.type)) z.cells.toList ((ps.map (·.1)).zip vs)) [] fun cs => K (mkS act (.agg cs.toArray)) h
    | _, _ => none := rfl
theorem op_build' (s : TypeId) (ps : List (Nat × Operand)) : op1 V C lim pan fr h (.build s ⟨ps⟩) t act K = useL act (ps.map fun p => slot fr p.2) fun vs =>
    match buT V.P s with
    | some (z, fs) => noTups vs <| oE act (fillA (fun i => fs[i]?) z ((ps.map (·.1)).zip vs)) [] fun cs => K (mkS act (.agg cs.toArray)) h
    | none => none := by
  rw [op_build]
  congr 1; funext vs
  unfold buT
  cases zeroOf V.P s with
  | none => rfl
  | some z =>
    rcases V.P.underlying s with _ | u
    · rfl
    · cases u <;> try rfl
      rename_i fs
      simp only []
      by_cases hq : (z.cells.toList.all flat0 && fs.toList.all fun f => (V.P.info? f.type).isSome) = true
      · rw [hq]; simp only [chk, if_true]
        congr 2
        congr 1
        funext i
        simp
      · rw [Bool.eq_false_iff.2 hq]; simp [chk]
theorem op_buildSlice (s : TypeId) (len : Nat) (ps : List (Nat × Operand)) : op1 V C lim pan fr h (.buildSlice s len ⟨ps⟩) t act K = useL act (ps.map fun p => slot fr p.2) fun vs =>
    match bsT V.P s with
    | some (sz, tg, z) => if len * sz ≤ 2 ^ 24 then noTups vs <| oE act (fillA (fun i => some (i * sz, sz)) (repL len z) ((ps.map (·.1)).zip vs)) [] fun cs => mk2 act (newS h len len) (h ++ [.row 0 tg cs]) h K else none
    | none => none := by
  have e : op1 V C lim pan fr h (.buildSlice s len ⟨ps⟩) t act K = useL act (ps.map fun p => slot fr p.2) fun vs =>
    match elemT V.P s with
    | some e =>
      match zeroOf V.P e with
      | some z =>
        if sizeT V.P e = z.cells.size ∧ (0 < sizeT V.P e ∧ sizeT V.P e < 4294967296) ∧ len * sizeT V.P e ≤ 2 ^ 24 ∧ z.cells.toList.all flat0 = true then
        noTups vs <| oE act (fillA (fun i => some (i * sizeT V.P e, sizeT V.P e)) (repL len z.cells.toList) ((ps.map (·.1)).zip vs)) [] fun cs => mk2 act (newS h len len) (h ++ [.row 0 (tgE V.P e (sizeT V.P e)) cs]) h K
        else none
      | none => none
    | none => none := rfl
  rw [e]
  congr 1; funext vs
  unfold bsT elT
  cases elemT V.P s with
  | none => rfl
  | some el =>
    simp only [Option.bind_some]
    cases zeroOf V.P el with
    | none => rfl
    | some z =>
      simp only []
      by_cases h1 : sizeT V.P el = z.cells.size ∧ (0 < sizeT V.P el ∧ sizeT V.P el < 4294967296) ∧ z.cells.toList.all flat0 = true
      · rw [if_pos h1]
        by_cases h2 : len * sizeT V.P el ≤ 2 ^ 24
        · rw [if_pos ⟨h1.1, h1.2.1, h2, h1.2.2⟩]; simp only [Option.map_some]; rw [if_pos h2]
        · rw [if_neg (fun q => h2 q.2.2.1)]; simp only [Option.map_some]; rw [if_neg h2]
      · rw [if_neg (fun q => h1 ⟨q.1, q.2.1, q.2.2.2⟩), if_neg h1]; rfl
theorem op_alloc (s : TypeId) : op1 V C lim pan fr h (.alloc s) t act K = match alT V.P s with
    | some (sz, z) => mk2 act (newP h) (h ++ [AObj.row 0 sz z]) h K
    | none => none := by
  have e : op1 V C lim pan fr h (.alloc s) t act K = (match zeroOf V.P s with
    | some z => chk (z.cells.toList.all flat0) <| mk2 act (newP h) (h ++ [AObj.row 0 (szA V.P s) z.cells.toList]) h K
    | none => none) := rfl
  rw [e]
  unfold alT
  cases zeroOf V.P s with
  | none => rfl
  | some z =>
    simp only []
    by_cases hq : z.cells.toList.all flat0 = true
    · rw [hq, if_pos rfl]; rfl
    · rw [Bool.eq_false_iff.2 hq]; simp [chk]
theorem op_convert (src dst : TypeId) (x : Operand) : op1 V C lim pan fr h (.convert src dst x) t act K = use act (slot fr x) fun v =>
    match V.P.underlying src, V.P.underlying dst with
    | some (.int _), _ => opK.asInt2 v fun n => oE act (convNum V.P dst n) undef fun v => K (mkS act v) h
    | some .string, some .string => asStr v fun s => K (mkS act (.string s)) h
    | some (.slice e), some .string => match V.P.underlying e with | some (.int .u8) => oE act (b2s h v) ⟨#[]⟩ fun s => K (mkS act (.string s)) h | _ => none
    | some .string, some (.slice e) =>
      match V.P.underlying e with
      | some (.int .u8) => asStr v fun s => mk2 act (newS h s.size s.size) (h ++ [.row 0 (tgE V.P e 1) (s.data.toList.map fun b => .int .u8 b.toNat)]) h K
      | _ => none
    | _, _ => none := rfl
theorem op_makeSlice (s : TypeId) (l c : Operand) : op1 V C lim pan fr h (.makeSlice s l c) t act K = use act (slot fr l) fun vl => use act (slot fr c) fun vc =>
    opK.asInt2 vl fun n => opK.asInt2 vc fun m =>
    match elemT V.P s with
    | some e =>
      match zeroOf V.P e with
      | some z =>
        if 0 ≤ n ∧ n ≤ m ∧ m ≤ 9223372036854775807 ∧ bytesT V.P e * m ≤ 2 ^ 47 ∧ sizeT V.P e = z.cells.size ∧ (0 < sizeT V.P e ∧ sizeT V.P e < 4294967296) ∧ z.cells.toList.all flat0 = true then mk2 act (newS h n.toNat n.toNat) (h ++ [.row 0 (tgE V.P e (sizeT V.P e)) (repL n.toNat z.cells.toList)]) h K else none
      | none => none
    | none => none := by
  simp only [op1, opK]
  congr 1; funext vl; congr 1; funext vc
  cases vl <;> cases vc <;> first | rfl | (cases elemT V.P s <;> rfl)
theorem op_slice (s : TypeId) (x : Operand) (lo hi mx : Option Operand) : op1 V C lim pan fr h (.slice s x lo hi mx) t act K = (chk (mx.isNone || hi.isSome) <| use act (slot fr x) fun v => useO act fr lo fun l => useO act fr hi fun m => useO act fr mx fun k =>
    match V.P.underlying s with
    | some .string => asStr v fun s => match k with | none => oE act (strCut s (l.getD 0) (m.getD s.size)) ⟨#[]⟩ fun s => K (mkS act (.string s)) h | some _ => none
    | some (.slice e) => match sizeO V.P e with
      | some sz => oE act (slCut h v l m k sz) (.slice none 0 0) fun v => K (mkS act v) h
      | none => none
    | _ => none) := rfl
theorem op_indexAddr (s : TypeId) (x i : Operand) : op1 V C lim pan fr h (.indexAddr s x i) t act K = use act (slot fr x) fun v => use act (slot fr i) fun vi =>
    opK.asInt2 vi fun n => match (elemT V.P s).bind (sizeO V.P) with
    | some sz => oE act (ixAddr v n sz) v fun v => K (mkS act v) h
    | none => (match arrT V.P s with | some p => oE act (ixArr v n p.1 p.2) v fun v => K (mkS act v) h | none => none) := by
  simp only [op1, opK]
  congr 1; funext v; congr 1; funext vi
  cases vi <;> first | rfl | (cases (elemT V.P s).bind (sizeO V.P) <;> rfl)
theorem op_index (s : TypeId) (x i : Operand) : op1 V C lim pan fr h (.index s x i) t act K = use act (slot fr x) fun v => use act (slot fr i) fun vi =>
    opK.asInt2 vi fun n => match V.P.underlying s with
    | some .string => asStr v fun s => oE act (strAt s n) 0 fun b => K (mkS act (.int .u8 b)) h
    | _ => none := by
  simp only [op1, opK]
  congr 1; funext v; congr 1; funext vi
  cases vi <;> first | rfl | (generalize V.P.underlying s = u; rcases u with _ | u <;> first | rfl | (cases u <;> rfl))
theorem op_len (a : Operand) (t0 : TypeId) : op1 V C lim pan fr h (.call ⟨.builtin .len, ⟨[a]⟩, ⟨[t0]⟩⟩) t act K = use act (slot fr a) fun v =>
    (match V.P.underlying t0 with
        | some .string => asStr v fun s => K (mkS act (.int .i64 s.size)) h
        | some (.slice _) => oE act (lenV v) 0 fun n => K (mkS act (.int .i64 n)) h
        | _ => none) := rfl
theorem op_append0 (a b : Operand) (t0 t1 : TypeId) : op1 V C lim pan fr h (.call ⟨.builtin .append, ⟨[a, b]⟩, ⟨[t0, t1]⟩⟩) t act K = use act (slot fr a) fun s => use act (slot fr b) fun x =>
    (match elemT V.P t0, V.P.underlying t1 with
        | _, some (.int _) => none
        | some e, some _ => (match V.P.info? e with
          | some i => (match i.zero with
            | some z => if z.cells.size = i.size ∧ (0 < i.bytes ∧ (0 < i.size ∧ i.size < 4294967296)) then heapE act (app lim h s x i.size (tgE V.P e i.size) i.bytes) (s, h) fun r => K (mkS act r.1) r.2 else none
            | none => none)
          | none => none)
        | _, _ => none) := rfl
theorem op_append (a b : Operand) (t0 t1 : TypeId) : op1 V C lim pan fr h (.call ⟨.builtin .append, ⟨[a, b]⟩, ⟨[t0, t1]⟩⟩) t act K = use act (slot fr a) fun s => use act (slot fr b) fun x =>
    (match elemT V.P t0, V.P.underlying t1 with
        | _, some (.int _) => none
        | some e, some _ => (match zeroOf V.P e, sizeO V.P e with
          | some z, some sz => if z.cells.size = sz ∧ (0 < bytesT V.P e ∧ (0 < sz ∧ sz < 4294967296)) then heapE act (app lim h s x sz (tgE V.P e sz) (bytesT V.P e)) (s, h) fun r => K (mkS act r.1) r.2 else none
          | _, _ => none)
        | _, _ => none) := by
  rw [op_append0]
  congr 1; funext v; congr 1; funext x
  simp only [zeroOf, sizeO, bytesT]
  generalize elemT V.P t0 = e
  generalize V.P.underlying t1 = u
  have key : ∀ e, (match V.P.info? e with
          | some i => (match i.zero with
            | some z => if z.cells.size = i.size ∧ (0 < i.bytes ∧ (0 < i.size ∧ i.size < 4294967296)) then heapE act (app lim h v x i.size (tgE V.P e i.size) i.bytes) (v, h) fun r => K (mkS act r.1) r.2 else none
            | none => none)
          | none => none) = (match (V.P.info? e).bind (·.zero), (V.P.info? e).map (·.size) with
          | some z, some sz => if z.cells.size = sz ∧ (0 < (match V.P.info? e with | some i => i.bytes | none => 0) ∧ (0 < sz ∧ sz < 4294967296)) then heapE act (app lim h v x sz (tgE V.P e sz) (match V.P.info? e with | some i => i.bytes | none => 0)) (v, h) fun r => K (mkS act r.1) r.2 else none
          | _, _ => none) := by
    intro e
    cases V.P.info? e with
    | none => rfl
    | some i => simp only [Option.map_some, Option.bind_some]; cases i.zero <;> rfl
  rcases u with _ | u <;> rcases e with _ | e
  · rfl
  · rfl
  · cases u <;> rfl
  · cases u <;> first | rfl | exact key e
theorem op_append' (a b : Operand) (t0 t1 : TypeId) : op1 V C lim pan fr h (.call ⟨.builtin .append, ⟨[a, b]⟩, ⟨[t0, t1]⟩⟩) t act K = use act (slot fr a) fun s => use act (slot fr b) fun x =>
    match apT V.P t0 t1 with
    | some (sz, tg, by') => heapE act (app lim h s x sz tg by') (s, h) fun r => K (mkS act r.1) r.2
    | none => none := by
  rw [op_append]
  congr 1; funext v; congr 1; funext x
  unfold apT
  generalize elemT V.P t0 = e
  generalize V.P.underlying t1 = u
  have key : ∀ e, (match zeroOf V.P e, sizeO V.P e with
          | some z, some sz => if z.cells.size = sz ∧ (0 < bytesT V.P e ∧ (0 < sz ∧ sz < 4294967296)) then heapE act (app lim h v x sz (tgE V.P e sz) (bytesT V.P e)) (v, h) fun r => K (mkS act r.1) r.2 else none
          | _, _ => none) = (match (match zeroOf V.P e, sizeO V.P e with
    | some z, some sz => if z.cells.size = sz ∧ (0 < bytesT V.P e ∧ (0 < sz ∧ sz < 4294967296)) then some (sz, tgE V.P e sz, bytesT V.P e) else none
    | _, _ => none) with
    | some (sz, tg, by') => heapE act (app lim h v x sz tg by') (v, h) fun r => K (mkS act r.1) r.2
    | none => none) := by
    intro e
    rcases zeroOf V.P e with _ | z <;> rcases sizeO V.P e with _ | sz <;> try rfl
    simp only []
    by_cases hq : z.cells.size = sz ∧ (0 < bytesT V.P e ∧ (0 < sz ∧ sz < 4294967296))
    · rw [if_pos hq, if_pos hq]
    · rw [if_neg hq, if_neg hq]
  rcases u with _ | u <;> rcases e with _ | e
  · rfl
  · rfl
  · cases u <;> rfl
  · cases u <;> first | rfl | exact key e
theorem op_makeSlice' (s : TypeId) (l c : Operand) : op1 V C lim pan fr h (.makeSlice s l c) t act K = use act (slot fr l) fun vl => use act (slot fr c) fun vc =>
    opK.asInt2 vl fun n => opK.asInt2 vc fun m =>
    match msT V.P s with
    | some (by', tg, z) => if 0 ≤ n ∧ n ≤ m ∧ m ≤ 9223372036854775807 ∧ by' * m ≤ 2 ^ 47 then mk2 act (newS h n.toNat n.toNat) (h ++ [.row 0 tg (repL n.toNat z)]) h K else none
    | none => none := by
  rw [op_makeSlice]
  congr 1; funext vl; congr 1; funext vc; congr 1; funext n; congr 1; funext m
  unfold msT elT
  cases elemT V.P s with
  | none => rfl
  | some el =>
    simp only [Option.bind_some]
    cases zeroOf V.P el with
    | none => rfl
    | some z =>
      simp only []
      by_cases h1 : sizeT V.P el = z.cells.size ∧ (0 < sizeT V.P el ∧ sizeT V.P el < 4294967296) ∧ z.cells.toList.all flat0 = true
      · rw [if_pos h1]
        simp only [Option.map_some]
        by_cases h2 : 0 ≤ n ∧ n ≤ m ∧ m ≤ 9223372036854775807 ∧ bytesT V.P el * m ≤ 2 ^ 47
        · rw [if_pos ⟨h2.1, h2.2.1, h2.2.2.1, h2.2.2.2, h1⟩, if_pos h2]
        · rw [if_neg (fun q => h2 ⟨q.1, q.2.1, q.2.2.1, q.2.2.2.1⟩), if_neg h2]
      · rw [if_neg (fun q => h1 q.2.2.2.2), if_neg h1]; rfl
theorem op_copy (a b : Operand) (t0 t1 : TypeId) : op1 V C lim pan fr h (.call ⟨.builtin .copy, ⟨[a, b]⟩, ⟨[t0, t1]⟩⟩) t act K = use act (slot fr a) fun d => use act (slot fr b) fun x =>
    match (elemT V.P t0).bind (sizeO V.P) with
    | some sz => heapE act (copyA lim h d x sz) (0, h) fun r => K (mkS act (.int .i64 r.1)) r.2
    | none => none := rfl
theorem op_sliceData (a : Operand) (t0 : TypeId) : op1 V C lim pan fr h (.call ⟨.builtin .unsafeSliceData, ⟨[a]⟩, ⟨[t0]⟩⟩) t act K = use act (slot fr a) fun v => oE act (dataP v) undef fun v => K (mkS act v) h := rfl
/-- the type to whose variables a pointer points, if they are bytes -/
def ptT (P : Program) (t : TypeId) : Option TypeId := match P.underlying t with | some (.pointer e) => if P.cellsOf e = 1 then some e else none | _ => none
theorem op_string (a b : Operand) (t0 t1 : TypeId) : op1 V C lim pan fr h (.call ⟨.builtin .unsafeString, ⟨[a, b]⟩, ⟨[t0, t1]⟩⟩) t act K = use act (slot fr a) fun p => use act (slot fr b) fun n => asInt .i64 n fun k =>
    match ptT V.P t0 with
    | some e => heapE act (strRow lim h p k e) (⟨#[]⟩, h) fun r => K (mkS act (.string r.1)) r.2
    | none => none := by
  have e : op1 V C lim pan fr h (.call ⟨.builtin .unsafeString, ⟨[a, b]⟩, ⟨[t0, t1]⟩⟩) t act K = use act (slot fr a) fun p => use act (slot fr b) fun n =>
      (match n, V.P.underlying t0 with
        | .int .i64 k, some (.pointer e) => if V.P.cellsOf e = 1 then heapE act (strRow lim h p k e) (⟨#[]⟩, h) fun r => K (mkS act (.string r.1)) r.2 else none
        | _, _ => none) := rfl
  rw [e]
  congr 1; funext p; congr 1; funext n
  unfold ptT
  generalize V.P.underlying t0 = u
  cases n with
  | int k n =>
    cases k <;> first | rfl | skip
    rcases u with _ | u
    · rfl
    · cases u <;> first | rfl | skip
      rename_i el
      by_cases hq : V.P.cellsOf el = 1
      · simp only [if_pos hq]; rfl
      · simp only [if_neg hq]; rfl
  | _ => rfl
theorem op_min (a b : Operand) (t0 t1 : TypeId) : op1 V C lim pan fr h (.call ⟨.builtin .min, ⟨[a, b]⟩, ⟨[t0, t1]⟩⟩) t act K = use act (slot fr a) fun x => use act (slot fr b) fun y => oE act (minmax true [x, y]) undef fun v => K (mkS act v) h := rfl
theorem op_max (a b : Operand) (t0 t1 : TypeId) : op1 V C lim pan fr h (.call ⟨.builtin .max, ⟨[a, b]⟩, ⟨[t0, t1]⟩⟩) t act K = use act (slot fr a) fun x => use act (slot fr b) fun y => oE act (minmax false [x, y]) undef fun v => K (mkS act v) h := rfl
theorem op_call (f : Operand) (a : List Operand) (ty : Array TypeId) : op1 V C lim pan fr h (.call ⟨.value f, ⟨a⟩, ty⟩) t act K = use act (slot fr f) fun vf => useL act (a.map (slot fr)) fun vs =>
    match vf with
    | .func (.func g) first caps => callE act (C (.fn g) lim ((first.toList ++ vs ++ caps.toList).map S) h) (dflt V.P t) h (fun v h => Abs.ty V.P t v fun v => K (mkS act v) h) pan
    | _ => none := rfl
end
end Go.Abs
namespace Go.Abs
set_option linter.unusedVariables false

/-- the plan of a region that draws: the operations in their order; true: what is called may not write what stood -/
def planG (P : Program) (ops : Array Oper) (an : List Nat) : List Nat → List Nat → Option (List (Nat × Bool))
  | [], _ => some []
  | i :: is, done =>
    match ops[i]? with
    | some o =>
      match isN P o, isA P o, isL P o with
      | true, _, _ => (planG P ops an is (done ++ [i])).map ((i, false) :: ·)
      | false, true, _ =>
        match unord P ops an i isA (List.range ops.size), unord P ops an i isN done with
        | [], [] => match unord P ops an i isL done with
          | [] => (planG P ops an is (done ++ [i])).map ((i, false) :: ·)
          | _ => (planG P ops an is (done ++ [i])).map ((i, true) :: ·)
        | _, _ => none
      | false, false, true =>
        match unord P ops an i isA done, unord P ops an i isN done with
        | [], [] => (planG P ops an is (done ++ [i])).map ((i, false) :: ·)
        | _, _ => none
      | false, false, false => (planG P ops an is (done ++ [i])).map ((i, false) :: ·)
    | none => none
def drawS (P : Program) (ops : Array Oper) : Option (List (Nat × Bool)) :=
  let an := ancs ops.toList []
  let ord := ordF P ops an ops.size []
  match drawOk ops an ord with
  | true => planG P ops an ord []
  | false => none
def panN : Value → AH → R := fun _ _ => none
noncomputable def regP (V : Env) (C : Hnd) (lim : Nat) (ops : Array Oper) : List (Nat × Bool) → Frm → AH → (Frm → AH → R) → R
  | [], fr, h, K => K fr h
  | (i, m) :: is, fr, h, K =>
    match ops[i]? with
    | some o => regN V C (match m with | true => h.length | false => lim) panN ops [o] fr h fun fr h => regP V C lim ops is fr h K
    | none => none

theorem unordD_ids (P : Program) (ops : Array Oper) (an : List Nat) (i : Nat) (f : Program → Oper → Bool) (done : List Did) :
    unord P ops an i f (ids done) = ids (unordD P ops an i f done) := by
  induction done with
  | nil => rfl
  | cons d ds ih =>
    simp only [unord, unordD, ids, List.map_cons, List.filter_cons] at ih ⊢
    split <;> rename_i hq <;> simp only [List.map_cons, ih]
theorem ids_nil {l : List Did} (h : ids l = []) : l = [] := by cases l with | nil => rfl | cons _ _ => cases h

theorem regD_plan {V : Env} {C : Hnd} {lim : Nat} {ops : Array Oper} {an : List Nat} : ∀ (is : List Nat) (done : List Did) (plan : List (Nat × Bool)) (fr : Frm) (h : AH) (K : Frm → AH → R),
    planG V.P ops an is (ids done) = some plan → regD V C lim false ops an is fr done h K = regP V C lim ops plan fr h K := by
  intro is
  induction is with
  | nil => intro done plan fr h K e; cases e; rfl
  | cons i is ih =>
    intro done plan fr h K e
    simp only [planG] at e
    cases ho : ops[i]? with
    | none => rw [ho] at e; cases e
    | some o =>
      rw [ho] at e
      simp only [] at e
      have key : ∀ m, (planG V.P ops an is (ids done ++ [i])).map ((i, m) :: ·) = some plan →
          (∀ act fr (K : Slot → AH → R), dOp V C lim false ops an done i o act fr h K = opK V C (match m with | true => h.length | false => lim) panN fr h o act K) →
          regD V C lim false ops an (i :: is) fr done h K = regP V C lim ops plan fr h K := by
        intro m hm hd
        cases hp : planG V.P ops an is (ids done ++ [i]) with
        | none => rw [hp] at hm; cases hm
        | some pl =>
          rw [hp] at hm; cases hm
          have hi : ∀ d : Did, d.i = i → ids (done ++ [d]) = ids done ++ [i] := by intro d hd; simp [ids, hd]
          simp only [regD, regP, ho, regN, hd]
          cases hg : o.guard with
          | none =>
            simp only []
            congr 1; funext s h'
            exact ih _ _ _ _ _ (by rw [hi _ rfl]; exact hp)
          | some jw =>
            obtain ⟨j, w⟩ := jw
            simp only []
            split
            · congr 1; funext a; congr 1; funext s h'
              exact ih _ _ _ _ _ (by rw [hi _ rfl]; exact hp)
            · rfl
      have hA := unordD_ids V.P ops an i isA done
      have hN := unordD_ids V.P ops an i isN done
      have hL := unordD_ids V.P ops an i isL done
      cases h1 : isN V.P o with
      | true =>
        rw [h1] at e
        exact key false e fun act fr K => by simp only [dOp, h1]; rfl
      | false =>
        cases h2 : isA V.P o with
        | true =>
          rw [h1, h2] at e
          simp only [] at e
          split at e
          · rename_i ea en
            rw [hN] at en
            split at e
            · rename_i el
              rw [hL] at el
              exact key false e fun act fr K => by simp only [dOp, h1, h2, ea, ids_nil en, ids_nil el]; rfl
            · rename_i el
              exact key true e fun act fr K => by
                simp only [dOp, h1, h2, ea, ids_nil en]
                split
                · rename_i hq; rw [hL, hq] at el; exact absurd rfl el
                · rfl
          · cases e
        | false =>
          cases h3 : isL V.P o with
          | true =>
            rw [h1, h2, h3] at e
            simp only [] at e
            split at e
            · rename_i ea en
              rw [hN] at en; rw [hA] at ea
              exact key false e fun act fr K => by simp only [dOp, h1, h2, h3, ids_nil ea, ids_nil en]; rfl
            · cases e
          | false =>
            rw [h1, h2, h3] at e
            exact key false e fun act fr K => by simp only [dOp, h1, h2, h3]; rfl

theorem draw_rule {V : Env} {C : Hnd} {f lim : Nat} {ret : Frm → AH → R} {pan : Value → AH → R} {id : Nat} {ops : Array Oper} {plan : List (Nat × Bool)} {p : List Nat} {n : Frm → AH → R} {x : Nat → Frm → AH → R} {fr : Frm} {h : AH}
    (hh : V.hide f id = false) (hd : drawS V.P ops = some plan) : exec V C f lim ret pan (.region id ops true) p ⟨n, x⟩ fr h = regP V C lim ops plan fr h n := by
  simp only [drawS] at hd
  simp only [exec]
  split at hd
  · rename_i hq
    rw [hq, hh]
    exact regD_plan _ [] plan fr h n hd
  · cases hd
end Go.Abs
namespace Go.Abs
set_option linter.unusedVariables false

/-! ### regions that draw, with what is looked at while it runs -/
def planM (P : Program) (hide : Bool) (ops : Array Oper) (an : List Nat) : List Nat → List Nat → Option (List (Nat × Nat × List Nat × List Nat))
  | [], _ => some []
  | i :: is, done =>
    match ops[i]? with
    | some o =>
      match isN P o, isA P o, isL P o with
      | true, _, _ => (planM P hide ops an is (done ++ [i])).map ((i, 0, [], []) :: ·)
      | false, true, _ =>
        match unord P ops an i isA (List.range ops.size), unord P ops an i isN done with
        | [], [] => match unord P ops an i isL done with
          | [] => (planM P hide ops an is (done ++ [i])).map ((i, 0, [], []) :: ·)
          | ls => match hide with
            | false => (planM P hide ops an is (done ++ [i])).map ((i, 1, [], []) :: ·)
            | true => if o.guard.isNone then (planM P hide ops an is (done ++ [i])).map ((i, 3, ls, []) :: ·) else none
        | _, _ => none
      | false, false, true =>
        match unord P ops an i isA done, unord P ops an i isN done with
        | [], [] => (planM P hide ops an is (done ++ [i])).map ((i, 0, [], []) :: ·)
        | as1, ns => if o.guard.isNone then (planM P hide ops an is (done ++ [i])).map ((i, 2, as1, ns) :: ·) else none
      | false, false, false => (planM P hide ops an is (done ++ [i])).map ((i, 0, [], []) :: ·)
    | none => none
def drawM (P : Program) (hide : Bool) (ops : Array Oper) : Option (List (Nat × Nat × List Nat × List Nat)) :=
  let an := ancs ops.toList []
  let ord := ordF P ops an ops.size []
  match drawOk ops an ord with
  | true => planM P hide ops an ord []
  | false => none
def sel (l : List Nat) (done : List Did) : List Did := done.filter fun d => l.contains d.i
def bq (hide : Bool) (P : Program) (fr : Frm) (o : Oper) : Option Nat := match hide with | true => baseOf P fr o | false => none
noncomputable def regM (V : Env) (C : Hnd) (lim : Nat) (hide : Bool) (ops : Array Oper) : List (Nat × Nat × List Nat × List Nat) → Frm → List Did → AH → (Frm → AH → R) → R
  | [], fr, _, h, K => K fr h
  | (i, md, as1, ns) :: is, fr, done, h, K =>
    match ops[i]? with
    | some o =>
      match md with
      | 0 => regN V C lim panN ops [o] fr h fun fr' h' => regM V C lim hide ops is fr' (done ++ [⟨i, h.length, h'.length, bq hide V.P fr o⟩]) h' K
      | 1 => regN V C h.length panN ops [o] fr h fun fr' h' => regM V C lim hide ops is fr' (done ++ [⟨i, h.length, h'.length, bq hide V.P fr o⟩]) h' K
      | 2 => match baseOf V.P fr o with
        | some b => freshAt b (otherAt b (regN V C lim panN ops [o] fr h fun fr' h' => regM V C lim hide ops is fr' (done ++ [⟨i, h.length, h'.length, bq hide V.P fr o⟩]) h' K) (sel ns done)) (sel as1 done)
        | none => none
      | _ => regN V C lim panN ops [o] fr h fun fr' h' => sameAt h h' (regM V C lim hide ops is fr' (done ++ [⟨i, h.length, h'.length, bq hide V.P fr o⟩]) h' K) (sel as1 done)
    | none => none

def strip (hide : Bool) (d : Did) : Did := ⟨d.i, d.n, d.m, match hide with | true => d.b | false => none⟩
theorem sel_unordD (P : Program) (ops : Array Oper) (an : List Nat) (i : Nat) (f : Program → Oper → Bool) (done : List Did) : unordD P ops an i f done = sel (unord P ops an i f (ids done)) done := by
  unfold sel unordD
  refine List.filter_congr fun d hd => ?_
  have hm : d.i ∈ ids done := List.mem_map.2 ⟨d, hd, rfl⟩
  rw [List.contains_eq_mem]
  unfold unord
  rw [Bool.eq_iff_iff]
  simp only [decide_eq_true_eq, List.mem_filter, hm, true_and]
theorem sel_strip (hide : Bool) (l : List Nat) (done : List Did) : sel l (done.map (strip hide)) = (sel l done).map (strip hide) := by
  unfold sel
  rw [List.filter_map]
  rfl
theorem fresh_strip (hide : Bool) (b : Nat) (X : R) : ∀ (l : List Did), freshAt b X (l.map (strip hide)) = freshAt b X l
  | [] => rfl
  | d :: l => by simp only [List.map_cons, freshAt, strip, fresh_strip hide b X l]
theorem other_strip (hide : Bool) (b : Nat) (X : R) : ∀ (l : List Did), otherAt b X (l.map (strip hide)) = otherAt b X l
  | [] => rfl
  | d :: l => by simp only [List.map_cons, otherAt, strip, other_strip hide b X l]
theorem strip_true (l : List Did) : l.map (strip true) = l := by
  induction l with
  | nil => rfl
  | cons d l ih => rw [List.map_cons, ih]; rfl
theorem regD_planM {V : Env} {C : Hnd} {lim : Nat} {hide : Bool} {ops : Array Oper} {an : List Nat} : ∀ (is : List Nat) (done : List Did) (plan : List (Nat × Nat × List Nat × List Nat)) (fr : Frm) (h : AH) (K : Frm → AH → R),
    planM V.P hide ops an is (ids done) = some plan → regD V C lim hide ops an is fr done h K = regM V C lim hide ops plan fr (done.map (strip hide)) h K := by
  intro is
  induction is with
  | nil => intro done plan fr h K e; cases e; rfl
  | cons i is ih =>
    intro done plan fr h K e
    simp only [planM] at e
    cases ho : ops[i]? with
    | none => rw [ho] at e; cases e
    | some o =>
      rw [ho] at e
      simp only [] at e
      have hi : ∀ d : Did, d.i = i → ids (done ++ [d]) = ids done ++ [i] := by intro d hd; simp [ids, hd]
      have hst : ∀ (fr : Frm) (h h' : AH), (done ++ [(⟨i, h.length, h'.length, baseOf V.P fr o⟩ : Did)]).map (strip hide) = done.map (strip hide) ++ [⟨i, h.length, h'.length, bq hide V.P fr o⟩] := by
        intro fr h h'; rw [List.map_append]; rfl
      have next : ∀ pl, planM V.P hide ops an is (ids done ++ [i]) = some pl → ∀ (fr fr' : Frm) (h h' : AH), regD V C lim hide ops an is fr' (done ++ [⟨i, h.length, h'.length, baseOf V.P fr o⟩]) h' K =
          regM V C lim hide ops pl fr' (done.map (strip hide) ++ [⟨i, h.length, h'.length, bq hide V.P fr o⟩]) h' K := by
        intro pl hp fr fr' h h'
        rw [← hst]
        exact ih _ _ _ _ _ (by rw [hi ⟨i, h.length, h'.length, baseOf V.P fr o⟩ rfl]; exact hp)
      have key : ∀ (md : Nat) as1 ns, (md = 0 ∨ md = 1) → (planM V.P hide ops an is (ids done ++ [i])).map ((i, md, as1, ns) :: ·) = some plan →
          (∀ act fr (K : Slot → AH → R), dOp V C lim hide ops an done i o act fr h K = opK V C (match md with | 1 => h.length | _ => lim) panN fr h o act K) →
          regD V C lim hide ops an (i :: is) fr done h K = regM V C lim hide ops plan fr (done.map (strip hide)) h K := by
        intro md as1 ns hmd hm hd
        cases hp : planM V.P hide ops an is (ids done ++ [i]) with
        | none => rw [hp] at hm; cases hm
        | some pl =>
          rw [hp] at hm; cases hm
          have nx := next pl hp
          rcases hmd with rfl | rfl
          · simp only [regD, regM, ho, regN, hd]
            cases hg : o.guard with
            | none => simp only []; congr 1; funext s h'; exact nx _ _ _ _
            | some jw =>
              obtain ⟨j, w⟩ := jw
              simp only []
              split
              · congr 1; funext a; congr 1; funext s h'; exact nx _ _ _ _
              · rfl
          · simp only [regD, regM, ho, regN, hd]
            cases hg : o.guard with
            | none => simp only []; congr 1; funext s h'; exact nx _ _ _ _
            | some jw =>
              obtain ⟨j, w⟩ := jw
              simp only []
              split
              · congr 1; funext a; congr 1; funext s h'; exact nx _ _ _ _
              · rfl
      have hA := unordD_ids V.P ops an i isA done
      have hN := unordD_ids V.P ops an i isN done
      have hL := unordD_ids V.P ops an i isL done
      cases h1 : isN V.P o with
      | true =>
        rw [h1] at e
        exact key 0 _ _ (.inl rfl) e fun act fr K => by simp only [dOp, h1]; rfl
      | false =>
        cases h2 : isA V.P o with
        | true =>
          rw [h1, h2] at e
          simp only [] at e
          split at e
          · rename_i ea en
            rw [hN] at en
            split at e
            · rename_i el
              rw [hL] at el
              exact key 0 _ _ (.inl rfl) e fun act fr K => by simp only [dOp, h1, h2, ea, ids_nil en, ids_nil el]; rfl
            · rename_i el
              split at e
              · exact key 1 _ _ (.inr rfl) e fun act fr K => by
                  simp only [dOp, h1, h2, ea, ids_nil en]
                  split
                  · rename_i hq; rw [hL, hq] at el; exact absurd rfl el
                  · rfl
              · split at e
                · rename_i hgn
                  have hg : o.guard = none := by cases hq : o.guard with | none => rfl | some x => rw [hq] at hgn; cases hgn
                  cases hp : planM V.P true ops an is (ids done ++ [i]) with
                  | none => rw [hp] at e; cases e
                  | some pl =>
                    rw [hp] at e; cases e
                    have nx := next pl hp
                    simp only [regD, regM, ho, regN, hg]
                    have hd : ∀ act fr (K : Slot → AH → R), dOp V C lim true ops an done i o act fr h K = opK V C lim panN fr h o act fun s h' => sameAt h h' (K s h') (unordD V.P ops an i isL done) := by
                      intro act fr K
                      simp only [dOp, h1, h2, ea, ids_nil en]
                      split
                      · rename_i hq; rw [hL, hq] at el; exact absurd rfl el
                      · rfl
                    rw [hd]
                    congr 1; funext s h'
                    rw [nx, sel_strip, ← sel_unordD, strip_true]
                    simp only [strip_true]
                · cases e
          · cases e
        | false =>
          cases h3 : isL V.P o with
          | true =>
            rw [h1, h2, h3] at e
            simp only [] at e
            split at e
            · rename_i ea en
              rw [hN] at en; rw [hA] at ea
              exact key 0 _ _ (.inl rfl) e fun act fr K => by simp only [dOp, h1, h2, h3, ids_nil ea, ids_nil en]; rfl
            · rename_i hne
              split at e
              · rename_i hgn
                have hg : o.guard = none := by cases hq : o.guard with | none => rfl | some x => rw [hq] at hgn; cases hgn
                cases hp : planM V.P hide ops an is (ids done ++ [i]) with
                | none => rw [hp] at e; cases e
                | some pl =>
                  rw [hp] at e; cases e
                  have nx := next pl hp
                  simp only [regD, regM, ho, regN, hg]
                  have hd : ∀ act fr (K : Slot → AH → R), dOp V C lim hide ops an done i o act fr h K = match baseOf V.P fr o with
                      | some b => freshAt b (otherAt b (opK V C lim panN fr h o act K) (unordD V.P ops an i isN done)) (unordD V.P ops an i isA done)
                      | none => none := by
                    intro act fr K
                    simp only [dOp, h1, h2, h3]
                    split
                    · rename_i q1 q2
                      refine False.elim (hne ?_ ?_)
                      · rw [hA, q1]; rfl
                      · rw [hN, q2]; rfl
                    · rfl
                  have hx : (opK V C lim panN fr h o none fun s h' => regD V C lim hide ops an is (put fr o.dst s) (done ++ [⟨i, h.length, h'.length, baseOf V.P fr o⟩]) h' K) =
                      opK V C lim panN fr h o none fun s h' => regM V C lim hide ops pl (put fr o.dst s) (done.map (strip hide) ++ [⟨i, h.length, h'.length, bq hide V.P fr o⟩]) h' K := by
                    congr 1; funext s h'; exact nx _ _ _ _
                  rw [hd, hx, sel_strip, ← sel_unordD, sel_strip, ← sel_unordD]
                  simp only [fresh_strip, other_strip]
              · cases e
          | false =>
            rw [h1, h2, h3] at e
            exact key 0 _ _ (.inl rfl) e fun act fr K => by simp only [dOp, h1, h2, h3]; rfl

theorem draw_ruleM {V : Env} {C : Hnd} {f lim : Nat} {ret : Frm → AH → R} {pan : Value → AH → R} {id : Nat} {hide : Bool} {ops : Array Oper} {plan : List (Nat × Nat × List Nat × List Nat)} {p : List Nat} {n : Frm → AH → R} {x : Nat → Frm → AH → R} {fr : Frm} {h : AH}
    (hh : V.hide f id = hide) (hd : drawM V.P hide ops = some plan) : exec V C f lim ret pan (.region id ops true) p ⟨n, x⟩ fr h = regM V C lim hide ops plan fr [] h n := by
  simp only [drawM] at hd
  simp only [exec]
  split at hd
  · rename_i hq
    rw [hq, hh]
    exact regD_planM _ [] plan fr h n hd
  · cases hd
end Go.Abs
