/- The abstract interpreter is sound: what it computes, the model computes. No statement of the program is proved here; no condition. -/
import Derived.Test.YtoijpmokcdifnaaGreatDoorAbsA
import Derived.Lib.IndexMore
import Derived.Lib.Strings
import Derived.Lib.IndexAny
import Derived.Lib.Join
import Derived.Lib.AtoiAll
import Derived.Lib.ItoaNum
import Derived.Shelf.Unicode.DecodeSlow
import Derived.Shelf.Strings.Count
namespace Go.Abs
set_option linter.unusedSimpArgs false
set_option linter.unusedVariables false
set_option linter.unusedSectionVars false

/-- what is handed on does not depend on who takes it -/
def Sh (act : Option Bool) (h : AH) (F : (Slot → AH → R) → R) : Prop :=
  (∀ K, F K = none) ∨ ∃ v h', (act = some false → h' = h) ∧ ∀ K, F K = K (mkS act v) h'

section
variable {act : Option Bool} {h : AH}
theorem Sh.none : Sh act h (fun _ => none) := .inl fun _ => rfl
theorem Sh.ret (v : Value) : Sh act h (fun K => K (mkS act v) h) := .inr ⟨v, h, fun _ => rfl, fun _ => rfl⟩
theorem Sh.useG {g : Bool} {F : (Slot → AH → R) → R} (s : Sh act h F) : Sh act h (fun K => useG act g (F K)) := by
  cases g with
  | true => exact s
  | false =>
    cases act with
    | none => exact Sh.none
    | some q =>
      cases q with
      | true => exact Sh.none
      | false => exact s
theorem Sh.use {x : Slot} {F : Value → (Slot → AH → R) → R} (s : ∀ v, Sh act h (F v)) : Sh act h (fun K => use act x (fun v => F v K)) := Sh.useG (s _)
theorem Sh.useL : ∀ {l : List Slot} {F : List Value → (Slot → AH → R) → R} (_ : ∀ v, Sh act h (F v)), Sh act h (fun K => useL act l (fun v => F v K))
  | [], _, s => s []
  | x :: l, F, s => Sh.use fun v => Sh.useL (F := fun vs => F (v :: vs)) fun vs => s _
theorem Sh.useO {fr : Frm} {x : Option Operand} {F : Option Int → (Slot → AH → R) → R} (s : ∀ v, Sh act h (F v)) : Sh act h (fun K => useO act fr x (fun v => F v K)) := by
  cases x with
  | none => exact s _
  | some x =>
    refine Sh.use (F := fun v K => match v with | .int _ n => F (some n) K | _ => Option.none) fun v => ?_
    cases v <;> first | exact Sh.none | exact s _
theorem Sh.oE {α : Type} {x : Option α} {d : α} {F : α → (Slot → AH → R) → R} (s : ∀ v, Sh act h (F v)) : Sh act h (fun K => oE act x d (fun v => F v K)) := by
  cases x with
  | some v => exact s v
  | none =>
    cases act with
    | none => exact Sh.none
    | some q =>
      cases q with
      | true => exact Sh.none
      | false => exact s d
theorem Sh.heapE {α : Type} {x : Option α} {d : α} (g : α → Value) (k : α → AH) (hd : k d = h) : Sh act h (fun K => heapE act x d (fun p => K (mkS act (g p)) (k p))) := by
  have pos : act ≠ some false → Sh act h (fun K => x.bind (fun p => K (mkS act (g p)) (k p))) := by
    intro hn
    cases x with
    | none => exact Sh.none
    | some p => exact .inr ⟨g p, k p, fun e => absurd e hn, fun _ => rfl⟩
  cases act with
  | none => exact pos (by simp)
  | some q =>
    cases q with
    | true => exact pos (by simp)
    | false => exact .inr ⟨g d, k d, fun _ => hd, fun _ => rfl⟩
theorem Sh.mk2 {v : Value} {h' : AH} : Sh act h (fun K => mk2 act v h' h K) := Sh.heapE (fun (p : Value × AH) => p.1) (fun (p : Value × AH) => p.2) rfl
theorem Sh.chk {g : Bool} {F : (Slot → AH → R) → R} (s : Sh act h F) : Sh act h (fun K => chk g (F K)) := by
  cases g with
  | true => exact s
  | false => exact Sh.none
theorem Sh.asStr {v : Value} {F : ByteArray → (Slot → AH → R) → R} (s : ∀ v, Sh act h (F v)) : Sh act h (fun K => asStr v (fun v => F v K)) := by
  cases v <;> first | exact Sh.none | exact s _
theorem Sh.asBool {v : Value} {F : Bool → (Slot → AH → R) → R} (s : ∀ v, Sh act h (F v)) : Sh act h (fun K => asBool v (fun v => F v K)) := by
  cases v <;> first | exact Sh.none | exact s _
theorem Sh.asInt {k : IntKind} {v : Value} {F : Int → (Slot → AH → R) → R} (s : ∀ v, Sh act h (F v)) : Sh act h (fun K => asInt k v (fun v => F v K)) := by
  cases v with
  | int k' n =>
    unfold Abs.asInt
    by_cases hk : k' = k
    · simp only [hk, if_true]; exact s _
    · simp only [hk, if_false]; exact Sh.none
  | _ => exact Sh.none
theorem Sh.asInt2 {v : Value} {F : Int → (Slot → AH → R) → R} (s : ∀ v, Sh act h (F v)) : Sh act h (fun K => opK.asInt2 v (fun v => F v K)) := by
  cases v <;> first | exact Sh.none | exact s _
theorem Sh.ty1 {P : Program} {t : TypeId} {v : Value} {F : Value → (Slot → AH → R) → R} (s : ∀ v, Sh act h (F v)) : Sh act h (fun K => ty1 P t v (fun v => F v K)) := by
  unfold Abs.ty1
  cases tk P t with
  | int k => exact Sh.asInt fun _ => s _
  | bool => exact Sh.asBool fun _ => s _
  | str => exact Sh.asStr fun _ => s _
  | other => exact s _
theorem Sh.noTup {v : Value} {F : (Slot → AH → R) → R} (s : Sh act h F) : Sh act h (fun K => noTup v (F K)) := by
  cases v <;> first | exact s | exact Sh.none
theorem Sh.noTups : ∀ {v : List Value} {F : (Slot → AH → R) → R} (_ : Sh act h F), Sh act h (fun K => noTups v (F K))
  | [], F, s => s
  | v :: vs, F, s => Sh.noTup (F := fun K => Abs.noTups vs (F K)) (Sh.noTups s)
theorem Sh.ite {c : Prop} [Decidable c] {F G : (Slot → AH → R) → R} (s : Sh act h F) (s' : Sh act h G) : Sh act h (fun K => if c then F K else G K) := by
  by_cases hc : c
  · simpa only [if_pos hc] using s
  · simpa only [if_neg hc] using s'
theorem Sh.binK {P : Program} {op : BinOp} {t : TypeId} {x y : Value} {F : Value → (Slot → AH → R) → R} (s : ∀ v, Sh act h (F v)) : Sh act h (fun K => binK P op t x y act (fun v => F v K)) := by
  have dflt : Sh act h (fun K => match op with
    | .eql => Abs.chk (eqOk P t x) <| Abs.oE act (eqA P 50 t x y) false fun q => F (.bool q) K
    | .neq => Abs.chk (eqOk P t x) <| Abs.oE act (eqA P 50 t x y) false fun q => F (.bool (!q)) K
    | _ => Option.none) := by
    cases op <;> first | exact Sh.none | exact Sh.chk (Sh.oE fun _ => s _)
  cases x with
  | int k a =>
    cases y with
    | int k' b =>
      unfold Abs.binK
      cases isCmp op
      · cases isSh op
        · exact Sh.ite (F := fun K => Abs.oE act (arA op k a b) 0 fun n => F (.int k n) K) (Sh.oE fun _ => s _) Sh.none
        · exact Sh.oE (F := fun n K => F (.int k n) K) fun _ => s _
      · exact Sh.ite (F := fun K => Abs.oE act (cmpA op a b) false fun n => F (.bool n) K) (Sh.oE fun _ => s _) Sh.none
    | _ => exact dflt
  | string a =>
    cases y with
    | string b =>
      unfold Abs.binK
      cases isCmp op
      · cases op <;> first | exact Sh.none | exact Sh.oE (F := fun n K => F (.string n) K) fun _ => s _
      · exact Sh.oE (F := fun n K => F (.bool n) K) fun _ => s _
    | _ => exact dflt
  | _ => exact dflt

end

/-- an operation that neither calls nor panics -/
def still (o : Oper) : Bool :=
  match o.op with
  | .panic _ => false
  | .call c => match c.callee with | .value _ => false | _ => true
  | _ => true

theorem opK_still {V : Env} {lim : Nat} {fr : Frm} {h : AH} {o : Oper} {act : Option Bool} (hs : still o = true) :
    (∀ C pan K, opK V C lim pan fr h o act K = none) ∨ ∃ v h', (act = some false → h' = h) ∧ ∀ C pan K, opK V C lim pan fr h o act K = K (mkS act v) h' := by
  have irr : ∀ C pan C' pan' K, opK V C lim pan fr h o act K = opK V C' lim pan' fr h o act K := by
    intro C pan C' pan' K
    unfold opK
    cases ho : o.op with
    | panic x => simp [still, ho] at hs
    | call c =>
      cases hc : c.callee with
      | value x => simp [still, ho, hc] at hs
      | _ => simp only [hc]
    | _ => rfl
  suffices H : Sh act h (fun K => opK V (fun _ _ _ _ => none) lim (fun _ _ => none) fr h o act K) by
    rcases H with H | ⟨v, h', e, H⟩
    · exact .inl fun C pan K => (irr _ _ _ _ K).trans (H K)
    · exact .inr ⟨v, h', e, fun C pan K => (irr _ _ _ _ K).trans (H K)⟩
  unfold opK
  cases ho : o.op with
  | move x => exact Sh.use fun v => Sh.ret v
  | assign x => exact Sh.use fun v => Sh.ret v
  | pick c x y =>
    refine Sh.use fun v => ?_
    cases v <;> first | exact Sh.none | exact Sh.useG (Sh.ret _)
  | alloc t =>
    dsimp only
    cases zeroOf V.P t with
    | none => exact Sh.none
    | some z => exact Sh.chk Sh.mk2
  | box t x => exact Sh.use fun v => Sh.noTup Sh.mk2
  | build t ps =>
    refine Sh.useL fun vs => ?_
    cases zeroOf V.P t with
    | none => exact Sh.none
    | some z =>
      rcases V.P.underlying t with _ | d
      · exact Sh.none
      · cases d <;> first | exact Sh.none | exact Sh.chk (Sh.noTups (Sh.oE fun cs => Sh.ret _))
  | buildSlice t n ps =>
    refine Sh.useL fun vs => ?_
    cases elemT V.P t with
    | none => exact Sh.none
    | some e =>
      dsimp only
      cases zeroOf V.P e with
      | none => exact Sh.none
      | some z => exact Sh.ite (Sh.noTups (Sh.oE fun cs => Sh.mk2)) Sh.none
  | load t x =>
    refine Sh.use fun p => ?_
    rcases aggK V.P t with _ | _ | n
    · exact Sh.none
    · exact Sh.oE fun v => Sh.ty1 fun v => Sh.ret v
    · exact Sh.oE fun v => Sh.ret _
  | store t x y =>
    refine Sh.use fun p => Sh.use fun v => ?_
    rcases aggK V.P t with _ | _ | n
    · exact Sh.none
    · exact Sh.ite (Sh.heapE (fun _ => undef) (fun h => h) rfl) Sh.none
    · exact Sh.heapE (fun _ => undef) (fun h => h) rfl
  | nilCheck x => exact Sh.use fun v => Sh.oE fun v => Sh.ret v
  | binOp op t x y z => exact Sh.use fun a => Sh.use fun b => Sh.binK fun v => Sh.ret v
  | unOp op t x => exact Sh.use fun a => Sh.oE fun v => Sh.ret v
  | convert s d x =>
    refine Sh.use fun v => ?_
    rcases V.P.underlying s with _ | ds
    · exact Sh.none
    · cases ds with
      | int k => exact Sh.asInt2 fun n => Sh.oE fun v => Sh.ret v
      | string =>
        rcases V.P.underlying d with _ | dd
        · exact Sh.none
        · cases dd with
          | string => exact Sh.asStr fun s => Sh.ret _
          | slice e =>
            dsimp only
            rcases V.P.underlying e with _ | de
            · exact Sh.none
            · cases de with
              | int k => cases k <;> first | exact Sh.none | exact Sh.asStr fun s => Sh.mk2
              | _ => exact Sh.none
          | _ => exact Sh.none
      | slice e =>
        rcases V.P.underlying d with _ | dd
        · exact Sh.none
        · cases dd with
          | string =>
            dsimp only
            rcases V.P.underlying e with _ | de
            · exact Sh.none
            · cases de with
              | int k => cases k <;> first | exact Sh.none | exact Sh.oE fun s => Sh.ret _
              | _ => exact Sh.none
          | _ => exact Sh.none
      | _ => exact Sh.none
  | makeInterface t x => exact Sh.use fun v => Sh.ite Sh.none (Sh.ret _)
  | makeFunc fn x y => exact Sh.useL fun a => Sh.useL fun b => Sh.ret _
  | makeSlice t x y =>
    refine Sh.use fun a => Sh.use fun b => ?_
    cases a <;> first | exact Sh.none | skip
    cases b <;> first | exact Sh.none | skip
    cases elemT V.P t with
    | none => exact Sh.none
    | some e =>
      dsimp only
      cases zeroOf V.P e with
      | none => exact Sh.none
      | some z => exact Sh.ite Sh.mk2 Sh.none
  | slice t x lo hi mx =>
    refine Sh.chk (Sh.use fun v => Sh.useO fun l => Sh.useO fun m => Sh.useO fun k => ?_)
    rcases V.P.underlying t with _ | d
    · exact Sh.none
    · cases d with
      | string =>
        refine Sh.asStr fun s => ?_
        cases k with
        | none => exact Sh.oE fun s => Sh.ret _
        | some k => exact Sh.none
      | slice e =>
        dsimp only
        cases sizeO V.P e with
        | none => exact Sh.none
        | some sz => exact Sh.oE fun v => Sh.ret _
      | _ => exact Sh.none
  | fieldAddr t x i =>
    refine Sh.use fun v => ?_
    rcases fieldOf V.P t i with _ | ⟨off, ft⟩
    · exact Sh.none
    · exact Sh.ite Sh.none (Sh.oE fun v => Sh.ret _)
  | field t x i =>
    refine Sh.use fun v => ?_
    rcases fieldOf V.P t i with _ | ⟨off, ft⟩
    · exact Sh.none
    · exact Sh.oE fun v => Sh.ty1 fun v => Sh.ret _
  | indexAddr t x i =>
    refine Sh.use fun a => Sh.use fun b => ?_
    cases b <;> first | exact Sh.none | skip
    cases (elemT V.P t).bind (sizeO V.P) with
    | none =>
      dsimp only
      cases arrT V.P t with
      | none => exact Sh.none
      | some p => exact Sh.oE fun v => Sh.ret _
    | some sz => exact Sh.oE fun v => Sh.ret _
  | index t x i =>
    refine Sh.use fun a => Sh.use fun b => ?_
    cases b <;> first | exact Sh.none | skip
    rcases V.P.underlying t with _ | d
    · exact Sh.none
    · cases d <;> first | exact Sh.none | exact Sh.asStr fun s => Sh.oE fun b => Sh.ret _
  | extract x i => exact Sh.use fun v => Sh.oE fun v => Sh.ret _
  | typeAssert x t as1 ok =>
    refine Sh.use fun v => ?_
    cases v <;> first | exact Sh.none | skip
    · cases isIface V.P as1
      · cases zeroOf V.P as1 with
        | none => exact Sh.none
        | some z => exact Sh.ite (Sh.ret _) (Sh.ite (Sh.ret _) Sh.none)
      · exact Sh.none
    · cases isIface V.P as1
      · cases zeroOf V.P as1 with
        | none => exact Sh.none
        | some z => exact Sh.ite (Sh.ret _) Sh.none
      · exact Sh.none
  | panic x => simp [still, ho] at hs
  | call c =>
    cases hc : c.callee with
    | value x => simp [still, ho, hc] at hs
    | invoke x n => simp only [hc]; exact Sh.none
    | builtin b =>
      simp only [hc]
      refine Sh.chk (Sh.useL fun vs => ?_)
      cases b <;> first | exact Sh.none | skip
      case append =>
        rcases vs with _ | ⟨x, _ | ⟨y, _ | ⟨z, l⟩⟩⟩ <;> first | exact Sh.none | skip
        dsimp only
        cases elemT V.P (c.argTypes.getD 0 0) with
        | none =>
          rcases V.P.underlying (c.argTypes.getD 1 0) with _ | d
          · exact Sh.none
          · cases d <;> exact Sh.none
        | some e =>
          rcases V.P.underlying (c.argTypes.getD 1 0) with _ | d
          · exact Sh.none
          · have key : Sh act h (fun K => match V.P.info? e with
              | some i => (match i.zero with
                | some z => if z.cells.size = i.size ∧ (0 < i.bytes ∧ (0 < i.size ∧ i.size < 4294967296)) then heapE act (app lim h x y i.size (tgE V.P e i.size) i.bytes) (x, h) fun r => K (mkS act r.1) r.2 else Option.none
                | Option.none => Option.none)
              | Option.none => Option.none) := by
              rcases V.P.info? e with _ | i
              · exact Sh.none
              · dsimp only
                rcases i.zero with _ | z
                · exact Sh.none
                · exact Sh.ite (Sh.heapE (fun (p : Value × AH) => p.1) (fun (p : Value × AH) => p.2) rfl) Sh.none
            cases d <;> first | exact Sh.none | exact key
      case clear =>
        rcases vs with _ | ⟨x, _ | ⟨y, l⟩⟩ <;> first | exact Sh.none | skip
        dsimp only
        cases elemT V.P (c.argTypes.getD 0 0) with
        | none => exact Sh.none
        | some e =>
          dsimp only
          cases zeroOf V.P e with
          | none => exact Sh.none
          | some z => exact Sh.ite (Sh.heapE (fun _ => undef) (fun h => h) rfl) Sh.none
      case copy =>
        rcases vs with _ | ⟨x, _ | ⟨y, _ | ⟨z, l⟩⟩⟩ <;> first | exact Sh.none | skip
        dsimp only
        cases (elemT V.P (c.argTypes.getD 0 0)).bind (sizeO V.P) with
        | none => exact Sh.none
        | some sz => exact Sh.heapE (fun (p : Int × AH) => .int .i64 p.1) (fun (p : Int × AH) => p.2) rfl
      case unsafeSliceData =>
        rcases vs with _ | ⟨x, _ | ⟨y, l⟩⟩ <;> first | exact Sh.none | exact Sh.oE fun v => Sh.ret v
      case unsafeString =>
        rcases vs with _ | ⟨x, _ | ⟨y, _ | ⟨z, l⟩⟩⟩ <;> first | exact Sh.none | skip
        dsimp only
        rcases V.P.underlying (c.argTypes.getD 0 0) with _ | d
        · cases y <;> first | exact Sh.none | (rename_i k _; cases k <;> exact Sh.none)
        · cases y <;> first | exact Sh.none | (rename_i k _; cases k <;> first | exact Sh.none | skip) <;> (cases d <;> first | exact Sh.none | exact Sh.ite (Sh.heapE (fun (p : ByteArray × AH) => .string p.1) (fun (p : ByteArray × AH) => p.2) rfl) Sh.none)
      case len =>
        rcases vs with _ | ⟨x, _ | ⟨y, l⟩⟩ <;> first | exact Sh.none | skip
        dsimp only
        rcases V.P.underlying (c.argTypes.getD 0 0) with _ | d
        · exact Sh.none
        · cases d <;> first | exact Sh.none | exact Sh.asStr fun s => Sh.ret _ | exact Sh.oE fun s => Sh.ret _
      case max =>
        rcases vs with _ | ⟨x, _ | ⟨y, _ | ⟨z, l⟩⟩⟩ <;> first | exact Sh.none | exact Sh.oE fun v => Sh.ret v
      case min =>
        rcases vs with _ | ⟨x, _ | ⟨y, _ | ⟨z, l⟩⟩⟩ <;> first | exact Sh.none | exact Sh.oE fun v => Sh.ret v
  | _ => exact Sh.none

end Go.Abs
namespace Go.Abs
set_option linter.unusedSimpArgs false
set_option linter.unusedVariables false
set_option linter.unusedSectionVars false

theorem use_false {s : Slot} {X : Value → R} : use (some false) s X = X s.v := by
  unfold use useG
  cases s.g <;> rfl
theorem useL_false : ∀ {l : List Slot} {X : List Value → R}, useL (some false) l X = X (l.map (·.v))
  | [], _ => rfl
  | s :: l, X => by simp only [useL, use_false, useL_false, List.map_cons]

theorem opK_skip {V : Env} {C : Hnd} {lim : Nat} {pan : Value → AH → R} {fr : Frm} {h : AH} {o : Oper} {K : Slot → AH → R} {out : Out} (e : opK V C lim pan fr h o (some false) K = some out) : ∃ v, K ⟨false, true, v⟩ h = some out := by
  by_cases hs : still o = true
  · rcases opK_still (V := V) (lim := lim) (fr := fr) (h := h) (act := some false) hs with H | ⟨v, h', hh, H⟩
    · rw [H] at e; cases e
    · rw [H, hh rfl] at e
      exact ⟨v, e⟩
  · unfold still at hs
    split at hs
    · rename_i x ho
      simp only [opK, ho, use_false] at e
      cases e
    · rename_i c ho
      split at hs
      · rename_i x hc
        simp only [opK, ho, hc, use_false, useL_false] at e
        split at e
        · exact ⟨dflt V.P o.type, ty_some (t := o.type) (v := dflt V.P o.type) (K := fun v => K (mkS (some false) v) h) e⟩
        · cases e
      · simp at hs
    · simp at hs

theorem gAct_some {s : Slot} {want : Bool} {X : Bool → R} {out : Out} (e : gAct s want X = some out) : ∃ b q, s.v = .bool b ∧ X q = some out ∧ ((s.g = true ∧ q = eqW b want) ∨ (s.g = false ∧ s.u = true ∧ q = false)) := by
  unfold gAct at e
  split at e
  · rename_i b hb
    split at e
    · rename_i hu
      cases hg : s.g
      · rw [hg] at e; exact ⟨b, false, hb, e, .inr ⟨rfl, hu, rfl⟩⟩
      · rw [hg] at e; exact ⟨b, _, hb, e, .inl ⟨rfl, rfl⟩⟩
    · obtain ⟨h1, h2⟩ := chk_some e
      exact ⟨b, _, hb, h2, .inl ⟨h1, rfl⟩⟩
  · cases e

theorem wanted_some {ι h fr a} (f : FR ι h fr a) {ops : Array Oper} {o : Oper} {j d : Nat} {want : Bool} (hg : o.guard = some (j, want)) (hd : (ops[j]?).bind (·.dst) = some d) {X : Bool → R} {out : Out} (e : gAct (fr.getD d E) want X = some out) :
    ∃ q, X q = some out ∧ Region.wanted o (yielded ops a.tmps) = q := by
  obtain ⟨b, q, h1, h2, h3⟩ := gAct_some e
  refine ⟨q, h2, ?_⟩
  simp only [Region.wanted, hg, yielded, hd, Option.bind_some]
  cases hfr : fr[d]? with
  | none =>
    rw [List.getD_eq_getElem?_getD, hfr] at h3
    rcases h3 with ⟨h3, _⟩ | ⟨_, h3, _⟩ <;> cases h3
  | some s =>
    rw [List.getD_eq_getElem?_getD, hfr] at h1 h3
    simp only [Option.getD_some] at h1 h3
    have hlt : d < a.tmps.size := by rw [← f.len]; exact (List.getElem?_eq_some_iff.1 hfr).1
    have ht : a.tmps[d]? = some (a.tmps.getD d undef) := by simp [Array.getD, hlt]
    obtain ⟨v1, v2⟩ := f.val d s hfr
    rw [ht]
    rcases h3 with ⟨hg, rfl⟩ | ⟨hg, hu, rfl⟩
    · have := v1 hg
      rw [h1] at this
      rw [this.bool_inv]
      cases b <;> cases want <;> rfl
    · rw [v2 hg hu]
      cases want <;> rfl

section
variable {V : Env} {C : Hnd} {w0 : World} {l0 lim : Nat} {pan : Value → AH → R} {out : Out} {Q : Exit → Act → World → Prop} {ops : Array Oper} {K : Frm → AH → R}

structure Nxt (w0 : World) (l0 lim : Nat) (ι : Iota) (h : AH) (w : World) (fr : Frm) (a : Act) (ι' : Iota) (h' : AH) (w' : World) (fr' : Frm) (a' : Act) : Prop where
  rel : Rel w0 l0 ι' h' w'
  step : Step lim ι h w ι' h' w'
  fr : FR ι' h' fr' a'
  defers : a'.defers = []

theorem put_defers' (a : Act) (d : Option Tmp) (v : Value) : (a.put d v).defers = a.defers := by cases d <;> rfl

theorem regN_sound (hC : FnSnd V.P C) (hl0 : l0 ≤ lim) : ∀ (l : List Oper) (i : Nat) {ι : Iota} {h : AH} {w : World} {fr : Frm} {a : Act}, l = ops.toList.drop i → Rel w0 l0 ι h w → FR ι h fr a → a.defers = [] →
    (∀ fr' h' ι' w' a', K fr' h' = some out → Nxt w0 l0 lim ι h w fr a ι' h' w' fr' a' → Q .normal a' w') →
    (∀ v h' v' w' ι' a', pan v h' = some out → Rel w0 l0 ι' h' w' → Step lim ι h w ι' h' w' → VR ι' h' v v' → a'.defers = [] → Q (.panic [{ v := v', recovered := false }]) a' w') →
    regN V C lim pan ops l fr h K = some out → wpOps V.P ops Q (List.range' i l.length) a w
  | [], i, ι, h, w, fr, a, hl, r, f, hd, hK, hp, e => by
    simp only [regN] at e
    exact hK _ _ _ _ _ e ⟨r, Step.refl _ _ _ _, f, hd⟩
  | o :: os, i, ι, h, w, fr, a, hl, r, f, hd, hK, hp, e => by
    have hoi : ops[i]? = some o := by
      have : (ops.toList.drop i)[0]? = some o := by rw [← hl]; rfl
      simpa using this
    have hos : os = ops.toList.drop (i + 1) := by
      have := congrArg (List.drop 1) hl
      simpa [List.drop_drop, Nat.add_comm] using this
    have next : ∀ s h' ι' w' v', regN V C lim pan ops os (put fr o.dst s) h' K = some out → Rel w0 l0 ι' h' w' → Step lim ι h w ι' h' w' → (s.g = true → VR ι' h' s.v v') → (s.g = false → s.u = true → v' = undef) →
        wpOps V.P ops Q (List.range' (i + 1) os.length) (a.put o.dst v') w' := by
      intro s h' ι' w' v' e1 r1 s1 hv hu
      refine regN_sound hC hl0 os (i + 1) hos r1 ((f.mono s1.compat).put hv hu) (by rw [put_defers']; exact hd) ?_ ?_ e1
      · intro fr2 h2 ι2 w2 a2 ek n
        exact hK _ _ _ _ _ ek ⟨n.rel, s1.trans n.step, n.fr, n.defers⟩
      · intro v2 h2 v2' w2 ι2 a2 ep r2 s2 hv2 hd2
        exact hp _ _ _ _ _ _ ep r2 (s1.trans s2) hv2 hd2
    have done : ∀ act, Acts act → opK V C lim pan fr h o act (fun s h => regN V C lim pan ops os (put fr o.dst s) h K) = some out → o.wp V.P a w (wpOps V.P ops Q (List.range' (i + 1) os.length)) Q := by
      intro act ha e1
      refine op_sound r f ha (fun s h' v' w' ι' ek r1 s1 hg hv => ?_) hC hl0 (fun v h' v' w' ι' ep r1 s1 hv => hp _ _ _ _ _ _ ep r1 s1 hv hd) e1
      exact next s h' ι' w' v' ek r1 s1 (fun _ => hv) (fun h0 => by rw [hg] at h0; cases h0)
    simp only [List.length_cons, List.range'_succ, wpOps, hoi]
    simp only [regN] at e
    split at e
    · rename_i hg
      have hw : Region.wanted o (yielded ops a.tmps) = true := by simp [Region.wanted, hg]
      rw [if_pos hw]
      exact .inl (done none (fun q hq => by cases hq) e)
    · rename_i j wnt hg
      split at e
      · rename_i d hdst
        obtain ⟨q, e1, hw⟩ := wanted_some f hg hdst e
        cases q
        · rw [if_neg (by rw [hw]; simp)]
          obtain ⟨v, e2⟩ := opK_skip e1
          exact next ⟨false, true, v⟩ h ι w undef e2 r (Step.refl _ _ _ _) (fun h0 => by cases h0) (fun _ _ => rfl)
        · rw [if_pos hw]
          exact .inl (done (some true) (fun q hq => by injection hq with hq; exact hq.symm) e1)
      · cases e

end
end Go.Abs
namespace Go.Abs
set_option linter.unusedSimpArgs false
set_option linter.unusedVariables false
set_option linter.unusedSectionVars false

/-- a round of a loop, and what follows it -/
def LoopW (P : Program) (c : Code) (Q : Exit → Act → World → Prop) (a : Act) (w : World) : Prop :=
  ∀ (b : Frame) (k : List Item) (cs : List Frame), ∃ e a' w', Q e a' w' ∧ Arrives P (lone (b.at a (.code c :: .inLoop c :: k)) cs w) b k cs e a' w'

theorem LoopW.wp {P : Program} {c : Code} {Q : Exit → Act → World → Prop} {a : Act} {w : World} (h : LoopW P c Q a w) : (Code.loop c).wp P Q a w :=
  fun b k cs => let ⟨e, a', w', q, r⟩ := h b k cs; ⟨e, a', w', q, .of_steps (.one step_loop) r⟩

theorem LoopW.mono {P : Program} {c : Code} {Q Q' : Exit → Act → World → Prop} {a : Act} {w : World} (h : LoopW P c Q a w) (hq : ∀ e a w, Q e a w → Q' e a w) : LoopW P c Q' a w :=
  fun b k cs => let ⟨e, a', w', q, r⟩ := h b k cs; ⟨e, a', w', hq _ _ _ q, r⟩

theorem LoopW.unroll {P : Program} {c : Code} {Q : Exit → Act → World → Prop} {a : Act} {w : World} (h : c.wp P (Exit.then (LoopW P c Q) Q) a w) : LoopW P c Q a w := by
  intro b k cs
  obtain ⟨e, a₁, w₁, hq, harr⟩ := h b (.inLoop c :: k) cs
  cases e with
  | normal =>
    obtain ⟨e₂, a₂, w₂, hq₂, harr₂⟩ := hq b k cs
    exact ⟨e₂, a₂, w₂, hq₂, .of_steps (Steps.trans harr (.one step_inLoop)) harr₂⟩
  | exit id => exact ⟨_, a₁, w₁, hq, .pass (x := .inLoop c) rfl (fun _ _ => .inl (by simp)) harr⟩
  | goto l => exact ⟨_, a₁, w₁, hq, .pass (x := .inLoop c) rfl (fun _ _ => .inl (by simp)) harr⟩
  | ret => exact ⟨_, a₁, w₁, hq, .pass (x := .inLoop c) rfl (fun _ _ => .inl (by simp)) harr⟩
  | panic ch => exact ⟨_, a₁, w₁, hq, .pass (x := .inLoop c) rfl (fun _ _ => .inl (by simp)) harr⟩
  | outgrown => exact ⟨_, a₁, w₁, hq, .pass (x := .inLoop c) rfl (fun _ _ => .inl (by simp)) harr⟩

/-- code, or the rounds of a loop that has begun -/
def codeW (P : Program) (c : Code) (Q : Exit → Act → World → Prop) (a : Act) (w : World) : Prop :=
  match c with
  | .loop b => LoopW P b Q a w
  | c => c.wp P Q a w
theorem codeW.wp {P : Program} {c : Code} {Q : Exit → Act → World → Prop} {a : Act} {w : World} (h : codeW P c Q a w) : c.wp P Q a w := by
  cases c <;> first | exact h | exact LoopW.wp h
theorem codeW.mono {P : Program} {c : Code} {Q Q' : Exit → Act → World → Prop} {a : Act} {w : World} (h : codeW P c Q a w) (hq : ∀ e a w, Q e a w → Q' e a w) : codeW P c Q' a w := by
  cases c <;> first | exact wp_mono h hq | exact LoopW.mono h hq

/-! ### places -/
def subQ (P : Program) (c : Code) (Q : Exit → Act → World → Prop) (i : Nat) : Option (Code × (Exit → Act → World → Prop)) :=
  match c, i with
  | .seq x y, 0 => some (x, Exit.then (y.wp P Q) Q)
  | .seq _ y, 1 => some (y, Q)
  | .cond _ x _, 0 => some (x, Q)
  | .cond _ _ y, 1 => some (y, Q)
  | .block id b, 0 => some (b, Exit.inBlock id Q)
  | .loop b, 0 => some (b, Exit.then (LoopW P b Q) Q)
  | _, _ => none
def goQ (P : Program) : List Nat → Code → (Exit → Act → World → Prop) → Option (Code × (Exit → Act → World → Prop))
  | [], c, Q => some (c, Q)
  | i :: is, c, Q => match subQ P c Q i with | some x => goQ P is x.1 x.2 | none => none

theorem goQ_snoc {P : Program} : ∀ {p : List Nat} {c c' : Code} {Q Q' : Exit → Act → World → Prop} {i : Nat}, goQ P p c Q = some (c', Q') → goQ P (p ++ [i]) c Q = subQ P c' Q' i
  | [], c, c', Q, Q', i, e => by
    injection e with e; injection e with e1 e2; subst e1 e2
    simp only [List.nil_append, goQ]
    cases subQ P c Q i <;> rfl
  | j :: p, c, c', Q, Q', i, e => by
    simp only [List.cons_append, goQ] at e ⊢
    cases h : subQ P c Q j with
    | none => simp [h] at e
    | some x => simp only [h] at e ⊢; exact goQ_snoc e

theorem then_mono {f f' : Act → World → Prop} {Q Q' : Exit → Act → World → Prop} (h1 : ∀ a w, f a w → f' a w) (h2 : ∀ e a w, Q e a w → Q' e a w) : ∀ e a w, Exit.then f Q e a w → Exit.then f' Q' e a w := by
  intro e a w h
  cases e <;> first | exact h1 _ _ h | exact h2 _ _ _ h
theorem inBlock_mono {id : Nat} {Q Q' : Exit → Act → World → Prop} (h2 : ∀ e a w, Q e a w → Q' e a w) : ∀ e a w, Exit.inBlock id Q e a w → Exit.inBlock id Q' e a w := by
  intro e a w h
  cases e <;> first | exact h2 _ _ _ h | skip
  simp only [Exit.inBlock] at h ⊢
  split <;> rename_i hc <;> simp [hc] at h <;> exact h2 _ _ _ h

theorem subQ_mono {P : Program} {c c' : Code} {Q Q2 Q' : Exit → Act → World → Prop} {i : Nat} (hm : ∀ e a w, Q e a w → Q2 e a w) (e : subQ P c Q i = some (c', Q')) :
    ∃ Q2', subQ P c Q2 i = some (c', Q2') ∧ ∀ e a w, Q' e a w → Q2' e a w := by
  unfold subQ at e
  split at e <;> first | (cases e; done) | skip
  · injection e with e; injection e with e1 e2; subst e1 e2
    exact ⟨_, rfl, then_mono (fun a w h => wp_mono h hm) hm⟩
  · injection e with e; injection e with e1 e2; subst e1 e2; exact ⟨_, rfl, hm⟩
  · injection e with e; injection e with e1 e2; subst e1 e2; exact ⟨_, rfl, hm⟩
  · injection e with e; injection e with e1 e2; subst e1 e2; exact ⟨_, rfl, hm⟩
  · injection e with e; injection e with e1 e2; subst e1 e2; exact ⟨_, rfl, inBlock_mono hm⟩
  · injection e with e; injection e with e1 e2; subst e1 e2
    exact ⟨_, rfl, then_mono (fun a w h => h.mono hm) hm⟩
theorem goQ_mono {P : Program} : ∀ {p : List Nat} {c c' : Code} {Q Q2 Q' : Exit → Act → World → Prop} (_ : ∀ e a w, Q e a w → Q2 e a w) (_ : goQ P p c Q = some (c', Q')),
    ∃ Q2', goQ P p c Q2 = some (c', Q2') ∧ ∀ e a w, Q' e a w → Q2' e a w
  | [], c, c', Q, Q2, Q', hm, e => by
    injection e with e; injection e with e1 e2; subst e1 e2
    exact ⟨Q2, rfl, hm⟩
  | i :: p, c, c', Q, Q2, Q', hm, e => by
    simp only [goQ] at e ⊢
    cases h : subQ P c Q i with
    | none => simp [h] at e
    | some x =>
      obtain ⟨c1, Q1⟩ := x
      simp only [h] at e
      obtain ⟨Q12, h1, h2⟩ := subQ_mono hm h
      simp only [h1]
      exact goQ_mono h2 e

/-- how a function ends passes through all that is round about a place -/
structure Thru (Q0 Q : Exit → Act → World → Prop) : Prop where
  ret : ∀ a w, Q0 .ret a w → Q .ret a w
  pan : ∀ ch a w, Q0 (.panic ch) a w → Q (.panic ch) a w
theorem Thru.sub {P : Program} {Q0 Q Q' : Exit → Act → World → Prop} {c c' : Code} {i : Nat} (t : Thru Q0 Q) (e : subQ P c Q i = some (c', Q')) : Thru Q0 Q' := by
  unfold subQ at e
  split at e <;> first | (cases e; done) | (injection e with e; injection e with e1 e2; subst e1 e2; exact ⟨fun a w h => t.ret a w h, fun ch a w h => t.pan ch a w h⟩)

/-! ### what a function returns -/
theorem ldT_sound {w0 l0 ι h w} (r : Rel w0 l0 ι h w) {P : Program} {t : TypeId} {x x' v : Value} (hx : VR ι h x x') (e : ldT P h t x = some v) : ∃ v', (do loadVar t (← asAddr x') : Sem Value).run P w = .ok v' w ∧ VR ι h v v' := by
  unfold ldT at e
  split at e
  · rename_i n hk
    simp only [Option.map_eq_some_iff] at e
    obtain ⟨l, e1, e2⟩ := e
    subst e2
    obtain ⟨ad, l', q1, q2, q3, q4⟩ := ldN_sound r (P := P) hx e1
    obtain ⟨k1, k2⟩ := aggK_some hk w
    subst q1
    exact ⟨_, by simp [asAddr, loadVar, k1, k2, q2], LR.agg q3 q4⟩
  · rename_i hk
    obtain ⟨b, off, v', q1, q2, q3, q4⟩ := ld_sound r hx e
    have k1 := aggK_none hk w
    subst q1
    exact ⟨v', by simp [asAddr, loadVar, k1, q2], q3⟩
  · cases e

theorem getD_sound {ι h fr a} (f : FR ι h fr a) {t : Nat} (hg : (fr.getD t E).g = true) : VR ι h (fr.getD t E).v (a.tmps.getD t undef) := by
  rw [List.getD_eq_getElem?_getD] at hg ⊢
  cases e : fr[t]? with
  | none => simp [e] at hg
  | some s =>
    simp only [e, Option.getD_some] at hg ⊢
    exact (f.val t s e).1 hg

def resVar (tmps : Array Value) : ResultVar → Sem Value
  | .tmp t => pure (tmps.getD t undef)
  | .cell b t => do loadVar t (← asAddr (tmps.getD b undef))
theorem results_eq (fn : Func) (tmps : Array Value) : results fn tmps = (do
    let vs ← fn.results.mapM (resVar tmps)
    pure (if h : vs.size = 1 then vs[0] else .tuple vs)) := by
  unfold results
  have : (fun (x : ResultVar) => match x with
    | .tmp t => (pure (tmps.getD t undef) : Sem Value)
    | .cell a t => do loadVar t (← asAddr (tmps.getD a undef))) = resVar tmps := by
    funext x
    cases x <;> rfl
  exact congrArg (fun g => (do
    let vs ← fn.results.mapM g
    pure (if h : vs.size = 1 then vs[0] else .tuple vs) : Sem Value)) this

theorem retL_sound {w0 l0 ι h w fr a} (r : Rel w0 l0 ι h w) (f : FR ι h fr a) {P : Program} : ∀ {rs : List ResultVar} {vs : List Value}, retL rs fr h P = some vs →
    ∃ vs', (rs.mapM (resVar a.tmps)).run P w = .ok vs' w ∧ LR ι h vs vs'
  | [], vs, e => by injection e with e; subst e; exact ⟨[], by simp, LR.nil⟩
  | .tmp t :: rs, vs, e => by
    simp only [retL] at e
    split at e
    · rename_i hg
      simp only [Option.map_eq_some_iff] at e
      obtain ⟨l, e1, e2⟩ := e
      subst e2
      obtain ⟨l', q1, q2⟩ := retL_sound r f e1
      refine ⟨a.tmps.getD t undef :: l', ?_, (LR.one (getD_sound f hg)).append q2⟩
      simp only [List.mapM_cons, Sem.run_bind, resVar, Sem.run_pure, Result.andThen_ok, q1]
    · cases e
  | .cell b t :: rs, vs, e => by
    simp only [retL] at e
    split at e
    · rename_i hg
      simp only [Option.bind_eq_some_iff, Option.map_eq_some_iff] at e
      obtain ⟨v, e0, l, e1, e2⟩ := e
      subst e2
      obtain ⟨l', q1, q2⟩ := retL_sound r f e1
      obtain ⟨v', z1, z2⟩ := ldT_sound r (P := P) (getD_sound f hg) e0
      refine ⟨v' :: l', ?_, (LR.one z2).append q2⟩
      have z1' : (resVar a.tmps (.cell b t)).run P w = .ok v' w := z1
      simp only [List.mapM_cons, Sem.run_bind, z1', Result.andThen_ok, q1, Sem.run_pure]
    · cases e

theorem retK_sound {w0 l0 ι h w fr a} (r : Rel w0 l0 ι h w) (f : FR ι h fr a) {P : Program} {F : Func} {out : Out} (e : retK P F fr h = some out) :
    ∃ v v', out = .ret v h ∧ (results F a.tmps).run P w = .ok v' w ∧ VR ι h v v' := by
  unfold retK at e
  simp only [Option.bind_eq_some_iff] at e
  obtain ⟨vs, e1, e2⟩ := e
  obtain ⟨vs', q1, q2⟩ := retL_sound r f e1
  have hm : (F.results.mapM (resVar a.tmps)).run P w = .ok vs'.toArray w := by
    rw [Array.mapM_eq_mapM_toList]
    simp only [Sem.run_map, q1, Result.andThen_ok]
  split at e2
  · rename_i v
    injection e2 with e2
    obtain ⟨v', rfl, hv⟩ := q2.single
    refine ⟨v, v', e2.symm, ?_, hv⟩
    rw [results_eq, Sem.run_bind, hm]
    rfl
  · rename_i hne
    injection e2 with e2
    refine ⟨_, .tuple vs'.toArray, e2.symm, ?_, .tuple q2.to_agg.1 q2.to_agg.2⟩
    rw [results_eq, Sem.run_bind, hm]
    have : ¬ vs'.toArray.size = 1 := by
      intro h1
      have h2 : vs.length = 1 := by rw [q2.1]; simpa using h1
      match vs, h2, hne with
      | [x], _, hne => exact hne x rfl
    simp only [Result.andThen_ok, dif_neg this, Sem.run_pure]

end Go.Abs
namespace Go.Abs
set_option linter.unusedSimpArgs false
set_option linter.unusedVariables false
set_option linter.unusedSectionVars false

theorem erase_sound {ι h fr a} (f : FR ι h fr a) (l : Option Nat) : FR ι h (erase l fr) a := by
  have key : ∀ (m i : Nat) (fr : Frm), (eraseFrom m i fr).length = fr.length ∧ ∀ (t : Nat) s, (eraseFrom m i fr)[t]? = some s → fr[t]? = some s ∨ s = E := by
    intro m i fr
    induction fr generalizing i with
    | nil => exact ⟨rfl, fun t s e => by simp [eraseFrom] at e⟩
    | cons x fr ih =>
      refine ⟨by simp [eraseFrom, (ih (i + 1)).1], fun t s e => ?_⟩
      cases t with
      | zero =>
        simp only [eraseFrom, List.getElem?_cons_zero, Option.some.injEq] at e
        split at e
        · exact .inl (by simp [e])
        · exact .inr e.symm
      | succ t =>
        simp only [eraseFrom, List.getElem?_cons_succ] at e ⊢
        exact (ih (i + 1)).2 t s e
  cases l with
  | none => exact f
  | some l =>
    obtain ⟨h1, h2⟩ := key l 0 fr
    refine ⟨h1.trans f.len, fun t s e => ?_⟩
    rcases h2 t s e with h3 | rfl
    · exact f.val t s h3
    · exact ⟨fun h => (by cases h), fun _ h => (by cases h)⟩

abbrev Post (P : Program) (F : Func) (w0 : World) (l0 lim : Nat) (ι : Iota) (h : AH) (w : World) (out : Out) : Exit → Act → World → Prop := bodyPost P F (RetR w0 l0 lim ι h w out)

theorem RetR.mono {w0 l0 lim ι h w ι1 h1 w1 out} (s : Step lim ι h w ι1 h1 w1) {e : Ending} {w' : World} (q : RetR w0 l0 lim ι1 h1 w1 out e w') : RetR w0 l0 lim ι h w out e w' := by
  cases e with
  | returned v' => obtain ⟨v, h', ι', a, b, c, d⟩ := q; exact ⟨v, h', ι', a, b, s.trans c, d⟩
  | panicked ch => obtain ⟨v, v', h', ι', a, b, c, d, e⟩ := q; exact ⟨v, v', h', ι', a, b, c, s.trans d, e⟩
  | outgrown => exact q

theorem Post.mono {P F w0 l0 lim ι h w ι1 h1 w1 out} (s : Step lim ι h w ι1 h1 w1) : ∀ e a w', Post P F w0 l0 lim ι1 h1 w1 out e a w' → Post P F w0 l0 lim ι h w out e a w' := by
  intro e a w' q
  cases e with
  | normal => obtain ⟨a, v, b, c⟩ := q; exact ⟨a, v, b, c.mono s⟩
  | ret => obtain ⟨a, v, b, c⟩ := q; exact ⟨a, v, b, c.mono s⟩
  | panic ch => exact ⟨q.1, q.2.mono s⟩
  | outgrown => exact False.elim q
  | exit id => exact q
  | goto l => exact q

/-- what the labels of a function's places stand for -/
def CodeSnd (P : Program) (X : Hnd) : Prop :=
  ∀ f p lim fr h out, X (.code f p) lim fr h = some out → ∀ F c, P.funcs[f]? = some F → F.body = some c → ∀ w0 l0 ι w a, l0 ≤ lim → Rel w0 l0 ι h w → FR ι h fr a → a.defers = [] →
    ∃ c' Q', goQ P p c (Post P F w0 l0 lim ι h w out) = some (c', Q') ∧ codeW P c' Q' a w

structure Ok (w0 : World) (l0 lim : Nat) (ιi : Iota) (hi : AH) (wi : World) (ι : Iota) (h : AH) (w : World) (fr : Frm) (a : Act) : Prop where
  rel : Rel w0 l0 ι h w
  step : Step lim ιi hi wi ι h w
  fr : FR ι h fr a
  defers : a.defers = []

theorem Nxt.ok {w0 l0 lim ιi hi wi ι h w fr a ι' h' w' fr' a'} (k : Ok w0 l0 lim ιi hi wi ι h w fr a) (n : Nxt w0 l0 lim ι h w fr a ι' h' w' fr' a') : Ok w0 l0 lim ιi hi wi ι' h' w' fr' a' :=
  ⟨n.rel, k.step.trans n.step, n.fr, n.defers⟩

/-- regions that draw their order -/
def DrawSnd (V : Env) : Prop :=
  ∀ (C : Hnd) (lim : Nat) (id : Nat) (hide : Bool) (ops : Array Oper) (K : Frm → AH → R) (out : Out) (w0 : World) (l0 : Nat) (ι : Iota) (h : AH) (w : World) (fr : Frm) (a : Act) (Q : Exit → Act → World → Prop), FnSnd V.P C → l0 ≤ lim →
    Rel w0 l0 ι h w → FR ι h fr a → a.defers = [] → drawOk ops (ancs ops.toList []) (ordF V.P ops (ancs ops.toList []) ops.size []) = true →
    (∀ fr' h' ι' w' a', K fr' h' = some out → Nxt w0 l0 lim ι h w fr a ι' h' w' fr' a' → Q .normal a' w') →
    regD V C lim hide ops (ancs ops.toList []) (ordF V.P ops (ancs ops.toList []) ops.size []) fr [] h K = some out → (Code.region id ops true).wp V.P Q a w

section
variable {V : Env} {C : Hnd} {w0 : World} {l0 lim : Nat} {ιi : Iota} {hi : AH} {wi : World} {f : Nat} {F : Func} {c0 : Code} {out : Out}

structure ContOk (V : Env) (w0 : World) (l0 lim : Nat) (ιi : Iota) (hi : AH) (wi : World) (out : Out) (K : Conts) (Q : Exit → Act → World → Prop) : Prop where
  n : ∀ fr h ι w a, K.n fr h = some out → Ok w0 l0 lim ιi hi wi ι h w fr a → Q .normal a w
  x : ∀ id fr h ι w a, K.x id fr h = some out → Ok w0 l0 lim ιi hi wi ι h w fr a → Q (.exit id) a w

variable (hD : DrawSnd V) (hF : FnSnd V.P C) (hC : CodeSnd V.P C) (hl0 : l0 ≤ lim) (hf : V.P.funcs[f]? = some F) (hb : F.body = some c0)
include hD hF hC hl0 hf hb

theorem label_sound {p : List Nat} {c : Code} {Q : Exit → Act → World → Prop} (hg : goQ V.P p c0 (Post V.P F w0 l0 lim ιi hi wi out) = some (c, Q)) {l : Option Nat} {fr : Frm} {h : AH} {ι : Iota} {w : World} {a : Act} (k : Ok w0 l0 lim ιi hi wi ι h w fr a)
    (e : C (.code f p) lim (erase l fr) h = some out) : codeW V.P c Q a w := by
  obtain ⟨c', Q', h1, h2⟩ := hC f p lim _ h out e F c0 hf hb w0 l0 ι w a hl0 k.rel (erase_sound k.fr l) k.defers
  obtain ⟨Q2, h3, h4⟩ := goQ_mono (Post.mono k.step) h1
  rw [hg] at h3
  injection h3 with h3; injection h3 with e1 e2; subst e1 e2
  exact h2.mono h4

theorem exec_sound : ∀ (c : Code) (p : List Nat) (K : Conts) (Q : Exit → Act → World → Prop), goQ V.P p c0 (Post V.P F w0 l0 lim ιi hi wi out) = some (c, Q) → Thru (Post V.P F w0 l0 lim ιi hi wi out) Q →
    ContOk V w0 l0 lim ιi hi wi out K Q → ∀ {fr : Frm} {h : AH} {ι : Iota} {w : World} {a : Act}, Ok w0 l0 lim ιi hi wi ι h w fr a → exec V C f lim (retK V.P F) panK c p K fr h = some out → c.wp V.P Q a w := by
  intro c
  induction c with
  | skip =>
    intro p K Q hg ht hK fr h ι w a k e
    exact wp_skip (hK.n _ _ _ _ _ e k)
  | region id ops d =>
    intro p K Q hg ht hK fr h ι w a k e
    have hp : ∀ v h' v' w' ι' a', panK v h' = some out → Rel w0 l0 ι' h' w' → Step lim ι h w ι' h' w' → VR ι' h' v v' → a'.defers = [] → Q (.panic [{ v := v', recovered := false }]) a' w' := by
      intro v h' v' w' ι' a' ep r1 s1 hv hd
      injection ep with ep
      exact ht.pan _ _ _ ⟨hd, v, v', h', ι', ep.symm, rfl, r1, k.step.trans s1, hv⟩
    cases d with
    | false =>
      simp only [exec] at e
      have := regN_sound hF hl0 ops.toList 0 (K := K.n) (pan := panK) (Q := Q) (by simp) k.rel k.fr k.defers (fun fr' h' ι' w' a' ek n => hK.n _ _ _ _ _ ek (n.ok k)) hp e
      refine wp_region ?_
      rw [List.range_eq_range']
      simpa using this
    | true =>
      simp only [exec] at e
      split at e
      · rename_i hok
        exact hD C lim id _ ops K.n out w0 l0 ι h w fr a Q hF hl0 k.rel k.fr k.defers hok (fun fr' h' ι' w' a' ek n => hK.n _ _ _ _ _ ek (n.ok k)) e
      · cases e
  | seq x y ihx ihy =>
    intro p K Q hg ht hK fr h ι w a k e
    have g0 := goQ_snoc (i := 0) hg
    have g1 := goQ_snoc (i := 1) hg
    simp only [subQ] at g0 g1
    simp only [exec] at e
    refine wp_seq (ihx (p ++ [0]) { K with n := seqK V C f lim (p ++ [1]) (exec V C f lim (retK V.P F) panK y (p ++ [1]) K) } _ g0 ⟨fun a w h => ht.ret a w h, fun ch a w h => ht.pan ch a w h⟩ ⟨fun fr' h' ι' w' a' en k' => ?_, fun id fr' h' ι' w' a' ex k' => hK.x _ _ _ _ _ _ ex k'⟩ k e)
    show y.wp V.P Q a' w'
    simp only [seqK] at en
    split at en
    · exact (label_sound hD hF hC hl0 hf hb g1 k' en).wp
    · exact ihy (p ++ [1]) K Q g1 ht hK k' en
  | cond x a b iha ihb =>
    intro p K Q hg ht hK fr h ι w ac k e
    have g0 := goQ_snoc (i := 0) hg
    have g1 := goQ_snoc (i := 1) hg
    simp only [subQ] at g0 g1
    simp only [exec, onCond] at e
    split at e
    · rename_i q hq
      obtain ⟨h1, h2⟩ := chk_some e
      have hs := slot_sound k.fr h1
      rw [hq] at hs
      have hs := hs.bool_inv
      cases q
      · exact wp_cond_false hs (ihb (p ++ [1]) K Q g1 ht hK k h2)
      · exact wp_cond_true hs (iha (p ++ [0]) K Q g0 ht hK k h2)
    · cases e
  | block id b ih =>
    intro p K Q hg ht hK fr h ι w a k e
    have g0 := goQ_snoc (i := 0) hg
    simp only [subQ] at g0
    simp only [exec] at e
    refine wp_block (ih (p ++ [0]) { n := K.n, x := fun i => if i = id then K.n else K.x i } _ g0 ⟨fun a w h => ht.ret a w h, fun ch a w h => ht.pan ch a w h⟩ ⟨fun fr' h' ι' w' a' en k' => hK.n _ _ _ _ _ en k', fun i fr' h' ι' w' a' ex k' => ?_⟩ k e)
    show if i = id then Q .normal a' w' else Q (.exit i) a' w'
    simp only at ex
    split at ex
    · rename_i hi; rw [if_pos hi]; exact hK.n _ _ _ _ _ ex k'
    · rename_i hi; rw [if_neg hi]; exact hK.x _ _ _ _ _ _ ex k'
  | loop b ih =>
    intro p K Q hg ht hK fr h ι w a k e
    simp only [exec] at e
    exact (label_sound hD hF hC hl0 hf hb hg k e).wp
  | exit i =>
    intro p K Q hg ht hK fr h ι w a k e
    exact wp_exit (hK.x _ _ _ _ _ _ e k)
  | ret =>
    intro p K Q hg ht hK fr h ι w a k e
    simp only [exec] at e
    obtain ⟨v, v', e1, e2, e3⟩ := retK_sound k.rel k.fr e
    exact wp_ret (ht.ret _ _ ⟨k.defers, v', e2, v, h, ι, e1, k.rel, k.step, e3⟩)
  | _ => intros; rename_i e; simp [exec] at e

theorem loop_sound {b : Code} {p : List Nat} {K : Conts} {Q : Exit → Act → World → Prop} (hg : goQ V.P p c0 (Post V.P F w0 l0 lim ιi hi wi out) = some (.loop b, Q)) (ht : Thru (Post V.P F w0 l0 lim ιi hi wi out) Q)
    (hK : ContOk V w0 l0 lim ιi hi wi out K Q) : ContOk V w0 l0 lim ιi hi wi out { K with n := fun fr h => C (.code f p) lim (erase (V.cut f p) fr) h } (Exit.then (LoopW V.P b Q) Q) :=
  ⟨fun fr' h' ι' w' a' en k' => label_sound hD hF hC hl0 hf hb hg k' en, fun i fr' h' ι' w' a' ex k' => hK.x _ _ _ _ _ _ ex k'⟩

theorem go_sound : ∀ (is : List Nat) (x y : At) (Q : Exit → Act → World → Prop), goQ V.P x.p c0 (Post V.P F w0 l0 lim ιi hi wi out) = some (x.c, Q) → Thru (Post V.P F w0 l0 lim ιi hi wi out) Q → ContOk V w0 l0 lim ιi hi wi out x.K Q →
    At.go V C f lim (retK V.P F) panK is x = some y → ∃ Q', y.p = x.p ++ is ∧ goQ V.P y.p c0 (Post V.P F w0 l0 lim ιi hi wi out) = some (y.c, Q') ∧ Thru (Post V.P F w0 l0 lim ιi hi wi out) Q' ∧ ContOk V w0 l0 lim ιi hi wi out y.K Q'
  | [], x, y, Q, hg, ht, hK, e => by
    injection e with e; subst e
    exact ⟨Q, by simp, hg, ht, hK⟩
  | i :: is, x, y, Q, hg, ht, hK, e => by
    simp only [At.go] at e
    have g := goQ_snoc (i := i) hg
    have step : ∀ (z : At) (Q2 : Exit → Act → World → Prop), z.p = x.p ++ [i] → subQ V.P x.c Q i = some (z.c, Q2) → ContOk V w0 l0 lim ιi hi wi out z.K Q2 → At.go V C f lim (retK V.P F) panK is z = some y →
        ∃ Q', y.p = x.p ++ (i :: is) ∧ goQ V.P y.p c0 (Post V.P F w0 l0 lim ιi hi wi out) = some (y.c, Q') ∧ Thru (Post V.P F w0 l0 lim ιi hi wi out) Q' ∧ ContOk V w0 l0 lim ιi hi wi out y.K Q' := by
      intro z Q2 hz hs hk ez
      obtain ⟨Q', h1, h2, h3, h4⟩ := go_sound is z y Q2 (by rw [hz, g, hs]) (ht.sub hs) hk ez
      exact ⟨Q', by rw [h1, hz]; simp, h2, h3, h4⟩
    obtain ⟨c, p, K⟩ := x
    simp only at hg hK g step e
    unfold At.sub at e
    split at e
    · rename_i z hz
      split at hz <;> first | (cases hz; done) | skip
      · rename_i a b hc
        injection hz with hz; subst hz
        simp only at hc; subst hc
        refine step _ (Exit.then (b.wp V.P Q) Q) rfl rfl ⟨fun fr' h' ι' w' a' en k' => ?_, fun id fr' h' ι' w' a' ex k' => hK.x _ _ _ _ _ _ ex k'⟩ e
        show b.wp V.P Q a' w'
        have g1 := goQ_snoc (i := 1) hg
        simp only [subQ] at g1
        simp only [seqK] at en
        split at en
        · exact (label_sound hD hF hC hl0 hf hb g1 k' en).wp
        · exact exec_sound hD hF hC hl0 hf hb b (p ++ [1]) K Q g1 ht hK k' en
      · rename_i a b hc
        injection hz with hz; subst hz
        simp only at hc; subst hc
        exact step _ _ rfl rfl hK e
      · rename_i x a b hc
        injection hz with hz; subst hz
        simp only at hc; subst hc
        exact step _ _ rfl rfl hK e
      · rename_i x a b hc
        injection hz with hz; subst hz
        simp only at hc; subst hc
        exact step _ _ rfl rfl hK e
      · rename_i id b hc
        injection hz with hz; subst hz
        simp only at hc; subst hc
        refine step _ (Exit.inBlock id Q) rfl rfl ⟨fun fr' h' ι' w' a' en k' => hK.n _ _ _ _ _ en k', fun i fr' h' ι' w' a' ex k' => ?_⟩ e
        show if i = id then Q .normal a' w' else Q (.exit i) a' w'
        simp only at ex
        split at ex
        · rename_i hi; rw [if_pos hi]; exact hK.n _ _ _ _ _ ex k'
        · rename_i hi; rw [if_neg hi]; exact hK.x _ _ _ _ _ _ ex k'
      · rename_i b hc
        injection hz with hz; subst hz
        simp only at hc; subst hc
        exact step _ _ rfl rfl (loop_sound hD hF hC hl0 hf hb hg ht hK) e
    · cases e

end
end Go.Abs
namespace Go.Abs
set_option linter.unusedSimpArgs false
set_option linter.unusedVariables false
set_option linter.unusedSectionVars false

def PrimSnd (P : Program) (g : Nat) (p : Hnd → Nat → List Value → AH → R) : Prop :=
  ∀ C, FnSnd P C → ∀ lim vs h out, p C lim vs h = some out → Enters P g ∧
    ∀ w0 l0 ι w vs', l0 ≤ lim → Rel w0 l0 ι h w → LR ι h vs vs' → Calls P g vs'.toArray w (RetR w0 l0 lim ι h w out)

structure Good (V : Env) : Prop where
  draw : DrawSnd V
  prim : ∀ g p, V.prim g = some p → PrimSnd V.P g p
  name : ∀ (f : Nat) F, V.P.funcs[f]? = some F → F.body.isSome = true → (F.name == "runtime.NumGoroutine") = false

section
variable {V : Env} {C : Hnd}

theorem root_cont {w0 : World} {l0 lim : Nat} {ι : Iota} {h : AH} {w : World} {F : Func} {out : Out} :
    ContOk V w0 l0 lim ι h w out ⟨retK V.P F, fun _ _ _ => none⟩ (Post V.P F w0 l0 lim ι h w out) := by
  refine ⟨fun fr h' ι' w' a e k => ?_, fun _ _ _ _ _ _ e => by cases e⟩
  obtain ⟨v, v', e1, e2, e3⟩ := retK_sound k.rel k.fr e
  exact ⟨k.defers, v', e2, v, h', ι', e1, k.rel, k.step, e3⟩

theorem frame_sound {ι : Iota} {h : AH} {vs vs' : List Value} (q : LR ι h vs vs') (n : Nat) : FR ι h (vs.map S ++ List.replicate (n - (vs.map S).length) E) { tmps := vs'.toArray ++ Array.replicate (n - vs'.toArray.size) undef, defers := [] } := by
  have hl := q.1
  refine ⟨by simp [hl], fun t s e => ?_⟩
  by_cases ht : t < vs.length
  · rw [List.getElem?_append_left (by simpa using ht)] at e
    simp only [List.getElem?_map, Option.map_eq_some_iff] at e
    obtain ⟨v, e1, e2⟩ := e
    subst e2
    obtain ⟨v', z1, z2⟩ := q.2 t v e1
    have ht' : t < vs'.length := by omega
    have hv : (vs'.toArray ++ Array.replicate (n - vs'.toArray.size) undef).getD t undef = v' := by
      rw [Array.getD_eq_getD_getElem?, Array.getElem?_append_left (by simpa using ht')]
      simp [z1]
    refine ⟨fun _ => ?_, fun h0 => by cases h0⟩
    show VR ι h v _
    rw [hv]; exact z2
  · rw [List.getElem?_append_right (by simpa using ht)] at e
    have := List.mem_of_getElem? e
    simp only [List.mem_replicate] at this
    rw [this.2]
    exact ⟨fun h0 => (by cases h0), fun _ h0 => (by cases h0)⟩

theorem step_fn (G : Good V) (hF : FnSnd V.P C) (hC : CodeSnd V.P C) : FnSnd V.P (step V C) := by
  intro g lim vs h out e
  simp only [step] at e
  split at e
  · rename_i p hp
    have := G.prim g p hp C hF lim vs h out (by simpa [Function.comp_def] using e)
    exact this
  · split at e
    · rename_i F hf
      split at e
      · rename_i c hb
        refine ⟨⟨F, hf, by simp [hb], G.name g F hf (by simp [hb])⟩, fun w0 l0 ι w vs' hl0 r q => ?_⟩
        refine calls_of_wp hf hb ?_
        exact exec_sound G.draw hF hC hl0 hf hb c [] ⟨retK V.P F, fun _ _ _ => none⟩ (Post V.P F w0 l0 lim ι h w out) rfl ⟨fun _ _ h => h, fun _ _ _ h => h⟩ root_cont ⟨r, Step.refl _ _ _ _, frame_sound q F.ntmps, rfl⟩ e
      · cases e
    · cases e

theorem step_code (G : Good V) (hF : FnSnd V.P C) (hC : CodeSnd V.P C) : CodeSnd V.P (step V C) := by
  intro f p lim fr h out e F c hf hb w0 l0 ι w a hl0 r hfr hd
  simp only [step, hf, hb] at e
  split at e
  · rename_i y hy
    obtain ⟨Q', h1, h2, h3, h4⟩ := go_sound G.draw hF hC hl0 hf hb p ⟨c, [], ⟨retK V.P F, fun _ _ _ => none⟩⟩ y (Post V.P F w0 l0 lim ι h w out) rfl ⟨fun _ _ h => h, fun _ _ _ h => h⟩ root_cont hy
    simp only [List.nil_append] at h1
    have k : Ok w0 l0 lim ι h w ι h w fr a := ⟨r, Step.refl _ _ _ _, hfr, hd⟩
    rw [h1] at h2 e
    refine ⟨y.c, Q', h2, ?_⟩
    split at e
    · rename_i b hyc
      rw [hyc] at h2 ⊢
      have g0 := goQ_snoc (i := 0) h2
      simp only [subQ] at g0
      refine LoopW.unroll ?_
      exact exec_sound G.draw hF hC hl0 hf hb b (p ++ [0]) { y.K with n := fun fr h => C (.code f p) lim (erase (V.cut f p) fr) h } _ g0 ⟨fun a w h => h3.ret a w h, fun ch a w h => h3.pan ch a w h⟩ (loop_sound G.draw hF hC hl0 hf hb h2 h3 h4) k e
    · rename_i hnl
      have := exec_sound G.draw hF hC hl0 hf hb y.c p y.K Q' h2 h3 h4 k e
      unfold codeW
      split
      · rename_i b hyc; exact absurd hyc (hnl b)
      · exact this
  · cases e

theorem runN_sound (G : Good V) : ∀ n, FnSnd V.P (runN V n) ∧ CodeSnd V.P (runN V n)
  | 0 => ⟨fun _ _ _ _ _ e => (by cases e), fun _ _ _ _ _ _ e => (by cases e)⟩
  | n + 1 => ⟨step_fn G (runN_sound G n).1 (runN_sound G n).2, step_code G (runN_sound G n).1 (runN_sound G n).2⟩

/-! ### without fuel -/
def Ev (V : Env) (l : Label) (lim : Nat) (fr : Frm) (h : AH) (out : Out) : Prop := ∃ n, ∀ m, n ≤ m → runN V m l lim fr h = some out
theorem Ev.unique {l : Label} {lim : Nat} {fr : Frm} {h : AH} {o o' : Out} (a : Ev V l lim fr h o) (b : Ev V l lim fr h o') : o = o' := by
  obtain ⟨n, hn⟩ := a
  obtain ⟨m, hm⟩ := b
  have h1 := hn (max n m) (by omega)
  have h2 := hm (max n m) (by omega)
  rw [h1] at h2
  injection h2
open Classical in
noncomputable def run (V : Env) : Hnd := fun l lim fr h => if e : ∃ out, Ev V l lim fr h out then some (Classical.choose e) else none
theorem run_some {l : Label} {lim : Nat} {fr : Frm} {h : AH} {out : Out} : run V l lim fr h = some out ↔ Ev V l lim fr h out := by
  unfold run
  constructor
  · intro e
    split at e
    · rename_i he
      injection e with e
      rw [← e]
      exact Classical.choose_spec he
    · cases e
  · intro e
    rw [dif_pos ⟨out, e⟩]
    exact congrArg some (Ev.unique (Classical.choose_spec (p := fun o => Ev V l lim fr h o) ⟨out, e⟩) e)

/-- what comes of ever more fuel -/
def Lim (x : Nat → R) (y : R) : Prop := ∀ out, y = some out → ∃ n, ∀ m, n ≤ m → x m = some out
theorem Lim.const (y : R) : Lim (fun _ => y) y := fun _ e => ⟨0, fun _ _ => e⟩
theorem Lim.run (l : Label) (lim : Nat) (fr : Frm) (h : AH) : Lim (fun n => runN V n l lim fr h) (run V l lim fr h) := fun _ e => run_some.1 e
theorem Lim.none {x : Nat → R} : Lim x none := fun _ e => by cases e
theorem Lim.onRet {x : Nat → R} {y : R} {k : Nat → Value → AH → R} {k' : Value → AH → R} {p : Nat → Value → AH → R} {p' : Value → AH → R} (hx : Lim x y) (hk : ∀ v h, Lim (fun n => k n v h) (k' v h)) (hp : ∀ v h, Lim (fun n => p n v h) (p' v h)) :
    Lim (fun n => onRet (x n) (k n) (p n)) (onRet y k' p') := by
  intro out e
  rcases onRet_some e with ⟨v, h, e1, e2⟩ | ⟨v, h, e1, e2⟩
  · obtain ⟨n, hn⟩ := hx _ e1
    obtain ⟨m, hm⟩ := hk v h _ e2
    exact ⟨max n m, fun j hj => by show Abs.onRet (x j) (k j) (p j) = _; rw [hn j (by omega)]; exact hm j (by omega)⟩
  · obtain ⟨n, hn⟩ := hx _ e1
    obtain ⟨m, hm⟩ := hp v h _ e2
    exact ⟨max n m, fun j hj => by show Abs.onRet (x j) (k j) (p j) = _; rw [hn j (by omega)]; exact hm j (by omega)⟩
theorem Lim.callE {act : Option Bool} {x : Nat → R} {y : R} {d : Value} {h : AH} {k : Nat → Value → AH → R} {k' : Value → AH → R} {p : Nat → Value → AH → R} {p' : Value → AH → R} (hx : Lim x y) (hk : ∀ v h, Lim (fun n => k n v h) (k' v h)) (hp : ∀ v h, Lim (fun n => p n v h) (p' v h)) :
    Lim (fun n => callE act (x n) d h (k n) (p n)) (callE act y d h k' p') := by
  cases act with
  | none => exact Lim.onRet hx hk hp
  | some q => cases q with
    | true => exact Lim.onRet hx hk hp
    | false => exact hk d h
theorem Lim.useG {act : Option Bool} {g : Bool} {x : Nat → R} {y : R} (hx : Lim x y) : Lim (fun n => useG act g (x n)) (useG act g y) := by
  cases g with
  | true => exact hx
  | false =>
    cases act with
    | none => exact Lim.none
    | some q => cases q with
      | true => exact Lim.none
      | false => exact hx
theorem Lim.use {act : Option Bool} {s : Slot} {x : Nat → Value → R} {y : Value → R} (hx : ∀ v, Lim (fun n => x n v) (y v)) : Lim (fun n => use act s (x n)) (use act s y) := Lim.useG (hx _)
theorem Lim.useL {act : Option Bool} : ∀ {l : List Slot} {x : Nat → List Value → R} {y : List Value → R} (_ : ∀ v, Lim (fun n => x n v) (y v)), Lim (fun n => useL act l (x n)) (useL act l y)
  | [], _, _, hx => hx []
  | s :: l, x, y, hx => Lim.use (x := fun n v => Abs.useL act l fun vs => x n (v :: vs)) (y := fun v => Abs.useL act l fun vs => y (v :: vs)) fun v => Lim.useL fun vs => hx _
theorem Lim.asInt {k : IntKind} {v : Value} {x : Nat → Int → R} {y : Int → R} (hx : ∀ v, Lim (fun n => x n v) (y v)) : Lim (fun n => asInt k v (x n)) (asInt k v y) := by
  unfold Abs.asInt
  split
  · split
    · exact hx _
    · exact Lim.none
  · exact Lim.none
theorem Lim.asBool {v : Value} {x : Nat → Bool → R} {y : Bool → R} (hx : ∀ v, Lim (fun n => x n v) (y v)) : Lim (fun n => asBool v (x n)) (asBool v y) := by
  unfold Abs.asBool; split
  · exact hx _
  · exact Lim.none
theorem Lim.asStr {v : Value} {x : Nat → ByteArray → R} {y : ByteArray → R} (hx : ∀ v, Lim (fun n => x n v) (y v)) : Lim (fun n => asStr v (x n)) (asStr v y) := by
  unfold Abs.asStr; split
  · exact hx _
  · exact Lim.none
theorem Lim.ty1 {P : Program} {t : TypeId} {v : Value} {x : Nat → Value → R} {y : Value → R} (hx : ∀ v, Lim (fun n => x n v) (y v)) : Lim (fun n => ty1 P t v (x n)) (ty1 P t v y) := by
  unfold Abs.ty1
  cases tk P t with
  | int k => exact Lim.asInt (x := fun n i => x n (.int k i)) (y := fun i => y (.int k i)) fun _ => hx _
  | bool => exact Lim.asBool (x := fun n i => x n (.bool i)) (y := fun i => y (.bool i)) fun _ => hx _
  | str => exact Lim.asStr (x := fun n i => x n (.string i)) (y := fun i => y (.string i)) fun _ => hx _
  | other => exact hx _
theorem Lim.tyL {P : Program} : ∀ {ts : List TypeId} {l : List Value} {x : Nat → List Value → R} {y : List Value → R} (_ : ∀ v, Lim (fun n => x n v) (y v)), Lim (fun n => tyL P ts l (x n)) (tyL P ts l y)
  | [], [], _, _, hx => hx []
  | [], _ :: _, _, _, _ => Lim.none
  | t :: ts, [], _, _, _ => Lim.none
  | t :: ts, v :: l, x, y, hx => Lim.ty1 (x := fun n a => Abs.tyL P ts l fun r => x n (a :: r)) (y := fun a => Abs.tyL P ts l fun r => y (a :: r)) fun a => Lim.tyL fun r => hx _
theorem Lim.ty {P : Program} {t : TypeId} {v : Value} {x : Nat → Value → R} {y : Value → R} (hx : ∀ v, Lim (fun n => x n v) (y v)) : Lim (fun n => ty P t v (x n)) (ty P t v y) := by
  unfold Abs.ty
  split
  · unfold Abs.asTup
    split
    · exact Lim.tyL (x := fun n r => x n (.tuple r.toArray)) (y := fun r => y (.tuple r.toArray)) fun _ => hx _
    · exact Lim.none
  · exact Lim.ty1 hx

/-- one operation -/
theorem Lim.opK {lim : Nat} {fr : Frm} {h : AH} {o : Oper} {act : Option Bool} {p : Nat → Value → AH → R} {p' : Value → AH → R} {k : Nat → Slot → AH → R} {k' : Slot → AH → R} (hp : ∀ v h, Lim (fun n => p n v h) (p' v h)) (hk : ∀ s h, Lim (fun n => k n s h) (k' s h)) :
    Lim (fun n => Abs.opK V (runN V n) lim (p n) fr h o act (k n)) (Abs.opK V (Abs.run V) lim p' fr h o act k') := by
  by_cases hs : still o = true
  · rcases opK_still (V := V) (lim := lim) (fr := fr) (h := h) (act := act) hs with H | ⟨v, h', hh, H⟩
    · rw [H]; exact Lim.none
    · simp only [H]; exact hk _ _
  · unfold still at hs
    split at hs
    · rename_i x ho
      simp only [Abs.opK, ho]
      refine Lim.use (x := fun n v => match v, act with | .iface .., Option.none => p n v h | _, _ => Option.none) (y := fun v => match v, act with | .iface .., Option.none => p' v h | _, _ => Option.none) fun v => ?_
      cases v <;> first | exact Lim.none | skip
      cases act with
      | none => exact hp _ _
      | some q => exact Lim.none
    · rename_i c ho
      split at hs
      · rename_i x hc
        simp only [Abs.opK, ho, hc]
        refine Lim.use fun v => Lim.useL fun vs => ?_
        split
        · exact Lim.callE (Lim.run _ _ _ _) (fun v h => Lim.ty fun v => hk _ _) hp
        · exact Lim.none
      · simp at hs
    · simp at hs

end
end Go.Abs
namespace Go.Abs
set_option linter.unusedSimpArgs false
set_option linter.unusedVariables false
set_option linter.unusedSectionVars false

section
variable {V : Env}

theorem Lim.chk {g : Bool} {x : Nat → R} {y : R} (hx : Lim x y) : Lim (fun n => Abs.chk g (x n)) (Abs.chk g y) := by
  cases g with
  | true => exact hx
  | false => exact Lim.none
theorem Lim.gAct {s : Slot} {w : Bool} {x : Nat → Bool → R} {y : Bool → R} (hx : ∀ v, Lim (fun n => x n v) (y v)) : Lim (fun n => Abs.gAct s w (x n)) (Abs.gAct s w y) := by
  unfold Abs.gAct
  split
  · split
    · exact hx _
    · exact Lim.chk (hx _)
  · exact Lim.none

theorem Lim.regN {lim : Nat} {ops : Array Oper} {p : Nat → Value → AH → R} {p' : Value → AH → R} (hp : ∀ v h, Lim (fun n => p n v h) (p' v h)) : ∀ (l : List Oper) {fr : Frm} {h : AH} {k : Nat → Frm → AH → R} {k' : Frm → AH → R} (_ : ∀ s h, Lim (fun n => k n s h) (k' s h)),
    Lim (fun n => Abs.regN V (runN V n) lim (p n) ops l fr h (k n)) (Abs.regN V (Abs.run V) lim p' ops l fr h k')
  | [], fr, h, k, k', hk => hk _ _
  | o :: os, fr, h, k, k', hk => by
    simp only [Abs.regN]
    split
    · exact Lim.opK hp fun s h => Lim.regN hp os hk
    · split
      · exact Lim.gAct fun a => Lim.opK hp fun s h => Lim.regN hp os hk
      · exact Lim.none

theorem Lim.sameAt {h h' : AH} {x : Nat → R} {y : R} (hx : Lim x y) : ∀ (l : List Did), Lim (fun n => Abs.sameAt h h' (x n) l) (Abs.sameAt h h' y l)
  | [] => hx
  | d :: l => by
    simp only [Abs.sameAt]
    split
    · split
      · exact Lim.sameAt hx l
      · exact Lim.none
    · exact Lim.sameAt hx l
theorem Lim.freshAt {b : Nat} {x : Nat → R} {y : R} (hx : Lim x y) : ∀ (l : List Did), Lim (fun n => Abs.freshAt b (x n) l) (Abs.freshAt b y l)
  | [] => hx
  | d :: l => by
    simp only [Abs.freshAt]
    split
    · exact Lim.freshAt hx l
    · exact Lim.none
theorem Lim.otherAt {b : Nat} {x : Nat → R} {y : R} (hx : Lim x y) : ∀ (l : List Did), Lim (fun n => Abs.otherAt b (x n) l) (Abs.otherAt b y l)
  | [] => hx
  | d :: l => by
    simp only [Abs.otherAt]
    split
    · exact Lim.none
    · exact Lim.otherAt hx l

theorem Lim.dOp {lim : Nat} {hide : Bool} {ops : Array Oper} {an : List Nat} {done : List Did} {i : Nat} {o : Oper} {act : Option Bool} {fr : Frm} {h : AH} {k : Nat → Slot → AH → R} {k' : Slot → AH → R} (hk : ∀ s h, Lim (fun n => k n s h) (k' s h)) :
    Lim (fun n => Abs.dOp V (runN V n) lim hide ops an done i o act fr h (k n)) (Abs.dOp V (Abs.run V) lim hide ops an done i o act fr h k') := by
  simp only [Abs.dOp]
  split
  · exact Lim.opK (fun _ _ => Lim.none) hk
  · split
    · split
      · exact Lim.opK (fun _ _ => Lim.none) hk
      · split
        · exact Lim.opK (fun _ _ => Lim.none) hk
        · exact Lim.opK (fun _ _ => Lim.none) fun s h => Lim.sameAt (hk _ _) _
    · exact Lim.none
  · split
    · exact Lim.opK (fun _ _ => Lim.none) hk
    · split
      · exact Lim.freshAt (Lim.otherAt (Lim.opK (fun _ _ => Lim.none) hk) _) _
      · exact Lim.none
  · exact Lim.opK (fun _ _ => Lim.none) hk
theorem Lim.regD {lim : Nat} {hide : Bool} {ops : Array Oper} {an : List Nat} : ∀ (l : List Nat) {fr : Frm} {done : List Did} {h : AH} {k : Nat → Frm → AH → R} {k' : Frm → AH → R} (_ : ∀ s h, Lim (fun n => k n s h) (k' s h)),
    Lim (fun n => Abs.regD V (runN V n) lim hide ops an l fr done h (k n)) (Abs.regD V (Abs.run V) lim hide ops an l fr done h k')
  | [], fr, hist, h, k, k', hk => hk _ _
  | i :: is, fr, hist, h, k, k', hk => by
    simp only [Abs.regD]
    split
    · split
      · exact Lim.dOp fun s h => Lim.regD is hk
      · split
        · exact Lim.gAct fun a => Lim.dOp fun s h => Lim.regD is hk
        · exact Lim.none
    · exact Lim.none

structure LimC (k : Nat → Conts) (k' : Conts) : Prop where
  n : ∀ fr h, Lim (fun n => (k n).n fr h) (k'.n fr h)
  x : ∀ i fr h, Lim (fun n => (k n).x i fr h) (k'.x i fr h)

theorem Lim.exec {f lim : Nat} {ret : Frm → AH → R} {pan : Value → AH → R} : ∀ (c : Code) (p : List Nat) {k : Nat → Conts} {k' : Conts} (_ : LimC k k') (fr : Frm) (h : AH),
    Lim (fun n => Abs.exec V (runN V n) f lim ret pan c p (k n) fr h) (Abs.exec V (Abs.run V) f lim ret pan c p k' fr h) := by
  intro c
  induction c with
  | skip => intro p k k' hk fr h; exact hk.n fr h
  | region id ops d =>
    intro p k k' hk fr h
    cases d with
    | false => exact Lim.regN (p := fun _ => pan) (p' := pan) (fun _ _ => Lim.const _) _ hk.n
    | true =>
      simp only [Abs.exec]
      split
      · exact Lim.regD _ hk.n
      · exact Lim.none
  | seq a b iha ihb =>
    intro p k k' hk fr h
    refine iha (p ++ [0]) (k := fun n => { k n with n := seqK V (runN V n) f lim (p ++ [1]) (Abs.exec V (runN V n) f lim ret pan b (p ++ [1]) (k n)) }) (k' := { k' with n := seqK V (Abs.run V) f lim (p ++ [1]) (Abs.exec V (Abs.run V) f lim ret pan b (p ++ [1]) k') }) ⟨fun fr h => ?_, hk.x⟩ fr h
    simp only [seqK]
    split
    · exact Lim.run _ _ _ _
    · exact ihb _ hk _ _
  | cond c a b iha ihb =>
    intro p k k' hk fr h
    simp only [Abs.exec, onCond]
    split
    · rename_i q _
      cases q
      · exact Lim.chk (ihb _ hk _ _)
      · exact Lim.chk (iha _ hk _ _)
    · exact Lim.none
  | block id b ih =>
    intro p k k' hk fr h
    refine ih (p ++ [0]) (k := fun n => { n := (k n).n, x := fun i => if i = id then (k n).n else (k n).x i }) (k' := { n := k'.n, x := fun i => if i = id then k'.n else k'.x i }) ⟨hk.n, fun i fr h => ?_⟩ fr h
    by_cases hi : i = id
    · simp only [hi, if_true]; exact hk.n _ _
    · simp only [hi, if_false]; exact hk.x _ _ _
  | loop b ih => intro p k k' hk fr h; exact Lim.run _ _ _ _
  | exit i => intro p k k' hk fr h; exact hk.x _ _ _
  | ret => intro p k k' hk fr h; exact Lim.const _
  | _ => intros; exact Lim.none

structure LimA (x : Nat → Option At) (y : Option At) : Prop where
  rel : (y = none) ∨ ∃ c p k k', y = some ⟨c, p, k'⟩ ∧ (∀ n, x n = some ⟨c, p, k n⟩) ∧ LimC k k'

theorem Lim.go {f lim : Nat} {ret : Frm → AH → R} {pan : Value → AH → R} : ∀ (is : List Nat) (c : Code) (p : List Nat) {k : Nat → Conts} {k' : Conts} (_ : LimC k k'),
    LimA (fun n => At.go V (runN V n) f lim ret pan is ⟨c, p, k n⟩) (At.go V (Abs.run V) f lim ret pan is ⟨c, p, k'⟩)
  | [], c, p, k, k', hk => ⟨.inr ⟨c, p, k, k', rfl, fun _ => rfl, hk⟩⟩
  | i :: is, c, p, k, k', hk => by
    simp only [At.go]
    unfold At.sub
    simp only
    split
    · rename_i a b
      refine Lim.go is a (p ++ [0]) (k := fun n => { k n with n := seqK V (runN V n) f lim (p ++ [1]) (Abs.exec V (runN V n) f lim ret pan b (p ++ [1]) (k n)) }) ⟨fun fr h => ?_, hk.x⟩
      simp only [seqK]
      split
      · exact Lim.run _ _ _ _
      · exact Lim.exec _ _ hk _ _
    · exact Lim.go is _ _ hk
    · exact Lim.go is _ _ hk
    · exact Lim.go is _ _ hk
    · rename_i id b
      refine Lim.go is b (p ++ [0]) (k := fun n => { n := (k n).n, x := fun i => if i = id then (k n).n else (k n).x i }) ⟨hk.n, fun i fr h => ?_⟩
      by_cases hi : i = id
      · simp only [hi, if_true]; exact hk.n _ _
      · simp only [hi, if_false]; exact hk.x _ _ _
    · rename_i b
      exact Lim.go is b (p ++ [0]) (k := fun n => { k n with n := fun fr h => runN V n (.code f p) lim (erase (V.cut f p) fr) h }) ⟨fun fr h => Lim.run _ _ _ _, hk.x⟩
    · exact ⟨.inl rfl⟩

def PrimLim (V : Env) (p : Hnd → Nat → List Value → AH → R) : Prop := ∀ lim vs h, Lim (fun n => p (runN V n) lim vs h) (p (Abs.run V) lim vs h)

theorem Lim.step (hp : ∀ g p, V.prim g = some p → PrimLim V p) (l : Label) (lim : Nat) (fr : Frm) (h : AH) : Lim (fun n => Abs.step V (runN V n) l lim fr h) (Abs.step V (Abs.run V) l lim fr h) := by
  cases l with
  | fn f =>
    simp only [Abs.step]
    split
    · rename_i p hpf
      exact hp f p hpf _ _ _
    · split
      · split
        · exact Lim.exec _ _ ⟨fun _ _ => Lim.const _, fun _ _ _ => Lim.none⟩ _ _
        · exact Lim.none
      · exact Lim.none
  | code f p =>
    simp only [Abs.step]
    split
    · rename_i F hf
      split
      · rename_i c hb
        obtain ⟨H⟩ := Lim.go (V := V) (f := f) (lim := lim) (ret := retK V.P F) (pan := panK) p c [] (k := fun _ => ⟨retK V.P F, fun _ _ _ => Option.none⟩) (k' := ⟨retK V.P F, fun _ _ _ => Option.none⟩) ⟨fun _ _ => Lim.const _, fun _ _ _ => Lim.none⟩
        rcases H with H | ⟨c1, p1, k, k', h1, h2, h3⟩
        · rw [H]; exact Lim.none
        · simp only [h1, h2]
          split
          · rename_i b
            exact Lim.exec _ _ (k := fun n => { k n with n := fun fr h => runN V n (.code f p1) lim (erase (V.cut f p1) fr) h }) (k' := { k' with n := fun fr h => Abs.run V (.code f p1) lim (erase (V.cut f p1) fr) h }) ⟨fun _ _ => Lim.run _ _ _ _, h3.x⟩ _ _
          · exact Lim.exec _ _ h3 _ _
      · exact Lim.none
    · exact Lim.none

/-- a step is a step of the run -/
theorem run_step (hp : ∀ g p, V.prim g = some p → PrimLim V p) {l : Label} {lim : Nat} {fr : Frm} {h : AH} {out : Out} (e : Abs.step V (run V) l lim fr h = some out) : run V l lim fr h = some out := by
  obtain ⟨n, hn⟩ := Lim.step hp l lim fr h out e
  refine run_some.2 ⟨n + 1, fun m hm => ?_⟩
  cases m with
  | zero => omega
  | succ m => exact hn m (by omega)

theorem run_sound (G : Good V) : FnSnd V.P (run V) := by
  intro g lim vs h out e
  obtain ⟨n, hn⟩ := run_some.1 e
  exact (runN_sound G n).1 g lim vs h out (hn n (Nat.le_refl _))

end
end Go.Abs
namespace Go.Abs
set_option linter.unusedSimpArgs false
set_option linter.unusedVariables false
set_option linter.unusedSectionVars false

theorem slots_congr {fr fr2 : Frm} : ∀ {l : List Operand}, (∀ x ∈ l, slot fr x = slot fr2 x) → l.map (slot fr) = l.map (slot fr2) := fun h => List.map_congr_left h

/-- an operation looks at its operands alone -/
theorem opK_frame {V : Env} {C : Hnd} {lim : Nat} {pan : Value → AH → R} {fr fr2 : Frm} {h : AH} {o : Oper} {act : Option Bool} {K : Slot → AH → R} (H : ∀ x ∈ o.op.operands.toList, slot fr x = slot fr2 x) :
    opK V C lim pan fr h o act K = opK V C lim pan fr2 h o act K := by
  unfold opK
  cases ho : o.op with
  | move x => simp only [H x (by simp [ho, Op.operands])]
  | assign x => simp only [H x (by simp [ho, Op.operands])]
  | pick c x y => simp only [H c (by simp [ho, Op.operands]), H x (by simp [ho, Op.operands]), H y (by simp [ho, Op.operands])]
  | alloc t => rfl
  | box t x => simp only [H x (by simp [ho, Op.operands])]
  | build t ps =>
    have : ps.toList.map (fun p => slot fr p.2) = ps.toList.map (fun p => slot fr2 p.2) := List.map_congr_left fun p hp => H p.2 (by simp only [ho, Op.operands, List.mem_map]; exact ⟨p, hp, rfl⟩)
    simp only [this]
  | buildSlice t n ps =>
    have : ps.toList.map (fun p => slot fr p.2) = ps.toList.map (fun p => slot fr2 p.2) := List.map_congr_left fun p hp => H p.2 (by simp only [ho, Op.operands, List.mem_map]; exact ⟨p, hp, rfl⟩)
    simp only [this]
  | load t x => simp only [H x (by simp [ho, Op.operands])]
  | store t x y => simp only [H x (by simp [ho, Op.operands]), H y (by simp [ho, Op.operands])]
  | nilCheck x => simp only [H x (by simp [ho, Op.operands])]
  | binOp op t x y z => simp only [H x (by simp [ho, Op.operands]), H y (by simp [ho, Op.operands])]
  | unOp op t x => simp only [H x (by simp [ho, Op.operands])]
  | convert s d x => simp only [H x (by simp [ho, Op.operands])]
  | makeInterface t x => simp only [H x (by simp [ho, Op.operands])]
  | makeFunc fn x y =>
    have h1 := slots_congr (l := x.toList) fun z hz => H z (by simp [ho, Op.operands] at hz ⊢; exact .inl hz)
    have h2 := slots_congr (l := y.toList) fun z hz => H z (by simp [ho, Op.operands] at hz ⊢; exact .inr hz)
    simp only [h1, h2]
  | makeSlice t x y => simp only [H x (by simp [ho, Op.operands]), H y (by simp [ho, Op.operands])]
  | slice t x lo hi mx =>
    have hx := H x (by simp [ho, Op.operands])
    have ho' : ∀ (z : Option Operand), (∀ q, z = some q → q ∈ o.op.operands.toList) → ∀ X : Option Int → R, useO act fr z X = useO act fr2 z X := by
      intro z hz X
      cases z with
      | none => rfl
      | some q => simp only [useO, H q (hz q rfl)]
    have h1 := ho' lo (fun q hq => by subst hq; simp [ho, Op.operands])
    have h2 := ho' hi (fun q hq => by subst hq; simp [ho, Op.operands])
    have h3 := ho' mx (fun q hq => by subst hq; simp [ho, Op.operands])
    simp only [hx, h1, h2, h3]
  | fieldAddr t x i => simp only [H x (by simp [ho, Op.operands])]
  | field t x i => simp only [H x (by simp [ho, Op.operands])]
  | indexAddr t x i => simp only [H x (by simp [ho, Op.operands]), H i (by simp [ho, Op.operands])]
  | index t x i => simp only [H x (by simp [ho, Op.operands]), H i (by simp [ho, Op.operands])]
  | extract x i => simp only [H x (by simp [ho, Op.operands])]
  | typeAssert x t as1 ok => simp only [H x (by simp [ho, Op.operands])]
  | panic x => simp only [H x (by simp [ho, Op.operands])]
  | call c =>
    cases hc : c.callee with
    | builtin b =>
      have := slots_congr (l := c.args.toList) fun z hz => H z (by simp [ho, Op.operands, Call.operands, hc] at hz ⊢; exact hz)
      simp only [hc, this]
    | value x =>
      have h1 := slots_congr (l := c.args.toList) fun z hz => H z (by simp [ho, Op.operands, Call.operands, hc] at hz ⊢; exact .inr hz)
      have h2 := H x (by simp [ho, Op.operands, Call.operands, hc])
      simp only [hc, h1, h2]
    | invoke x n => simp only [hc]
  | _ => rfl

/-- what neither makes memory nor looks at it nor writes -/
theorem opK_pure {V : Env} {C : Hnd} {lim : Nat} {pan : Value → AH → R} {fr : Frm} {h h2 : AH} {o : Oper} {act : Option Bool} {K : Slot → AH → R} (hn : isN V.P o = false) (ha : isA V.P o = false) (hl : isL V.P o = false) :
    opK V C lim pan fr h o act K = opK V C lim pan fr h2 o act (fun s _ => K s h) := by
  unfold opK
  cases ho : o.op with
  | alloc t => simp [isN, ho] at hn
  | box t x => simp [isN, ho] at hn
  | buildSlice t n ps => simp [isN, ho] at hn
  | makeSlice t x y => simp [isN, ho] at hn
  | load t x => simp [isL, ho] at hl
  | store t x y => simp [isA, ho] at ha
  | panic x => simp [isA, ho] at ha
  | slice t x lo hi mx =>
    simp only [isL, ho] at hl
    dsimp only
    rcases hu : V.P.underlying t with _ | d
    · rfl
    · cases d <;> first | rfl | (rw [hu] at hl; simp at hl)
  | convert s d x =>
    simp only [isL, isN, ho] at hl hn
    dsimp only
    rcases hs : V.P.underlying s with _ | ds
    · rfl
    · rcases hd : V.P.underlying d with _ | dd
      · cases ds <;> rfl
      · rw [hs, hd] at hl hn
        cases ds <;> cases dd <;> first | rfl | (simp at hl; done) | (simp at hn; done)
  | call c =>
    simp only [isA, ho] at ha
    cases hc : c.callee with
    | builtin b =>
      rw [hc] at ha
      simp only [hc]
      refine congrArg (chk _) (congrArg (useL act _) (funext fun vs => ?_))
      cases b <;> first | rfl | (simp at ha; done) | (rcases vs with _ | ⟨x, _ | ⟨y, _ | ⟨z, l⟩⟩⟩ <;> rfl)
    | value x => rw [hc] at ha; simp at ha
    | invoke x n => simp only [hc]
  | _ => rfl

theorem rowAt_at {h h2 : AH} {id : Nat} (e : h[id]? = h2[id]?) (g : Nat) : rowAt h id g = rowAt h2 id g := by unfold rowAt; rw [e]

/-- what looks at memory looks at one object -/
theorem opK_look {V : Env} {C : Hnd} {lim : Nat} {pan : Value → AH → R} {fr : Frm} {h h2 : AH} {o : Oper} {act : Option Bool} {K : Slot → AH → R} (hl : isL V.P o = true) (he : ∀ b, baseOf V.P fr o = some b → h[b]? = h2[b]?) :
    opK V C lim pan fr h o act K = opK V C lim pan fr h2 o act (fun s _ => K s h) := by
  have hb : ∀ x xs, o.op.operands.toList = x :: xs → ∀ id, baseId (slot fr x).v = some id → h[id]? = h2[id]? := by
    intro x xs hx id hid
    refine he id ?_
    simp only [baseOf, hl, hx, hid]
  unfold opK
  cases ho : o.op with
  | load t x =>
    have hx := hb x [] (by simp [ho, Op.operands])
    dsimp only
    have h1 : ld h (slot fr x).v = ld h2 (slot fr x).v := by
      unfold ld
      split
      · rename_i id off g hv; rw [rowAt_at (hx id (by rw [hv]; rfl)) g]
      · rfl
    have h2' : ∀ n, ldN h (slot fr x).v n = ldN h2 (slot fr x).v n := by
      intro n
      unfold ldN
      split
      · rename_i id off g hv; rw [rowAt_at (hx id (by rw [hv]; rfl)) g]
      · rfl
    unfold use
    simp only [h1, h2']
  | slice t x lo hi mx =>
    have hx := hb x (lo.toArray ++ hi.toArray ++ mx.toArray).toList (by simp [ho, Op.operands])
    dsimp only
    have h1 : ∀ a b c n, slCut h (slot fr x).v a b c n = slCut h2 (slot fr x).v a b c n := by
      intro a b c n
      unfold slCut
      split
      · rfl
      · rename_i id off g n c hv; rw [rowAt_at (hx id (by rw [hv]; rfl)) g]
      · rfl
    unfold use
    simp only [h1]
  | convert s d x =>
    have hx := hb x [] (by simp [ho, Op.operands])
    dsimp only
    have h1 : b2s h (slot fr x).v = b2s h2 (slot fr x).v := by
      unfold b2s
      split
      · rfl
      · rename_i id off g n c hv; rw [rowAt_at (hx id (by rw [hv]; rfl)) g]
      · rfl
    unfold use
    simp only [isL, ho] at hl
    rcases hs : V.P.underlying s with _ | ds
    · simp [hs] at hl
    · rcases hd : V.P.underlying d with _ | dd
      · rw [hs, hd] at hl; cases ds <;> first | (simp at hl; done) | (cases hl; done)
      · rw [hs, hd] at hl
        cases ds <;> cases dd <;> first | (simp at hl; done) | simp only [h1]
  | lookup t x i ok => rfl
  | _ => simp [isL, ho] at hl

end Go.Abs
namespace Go.Abs
open Go.RowKit
set_option linter.unusedSimpArgs false
set_option linter.unusedVariables false
set_option linter.unusedSectionVars false

/-! ### what is handed on is the same for all who take it -/
theorem useG_any {act : Option Bool} {g : Bool} {X X2 : R} {out : Out} (e : useG act g X = some out) : X = some out ∧ useG act g X2 = X2 := by
  unfold useG at *
  cases g with
  | true => exact ⟨e, rfl⟩
  | false =>
    cases act with
    | none => cases e
    | some a => cases a with
      | true => cases e
      | false => exact ⟨e, rfl⟩
theorem use_any {act : Option Bool} {s : Slot} {X X2 : Value → R} {out : Out} (e : use act s X = some out) : X s.v = some out ∧ use act s X2 = X2 s.v := useG_any e
theorem useL_any {act : Option Bool} : ∀ {l : List Slot} {X : List Value → R} {out : Out}, useL act l X = some out → X (l.map (·.v)) = some out ∧ ∀ X2 : List Value → R, useL act l X2 = X2 (l.map (·.v))
  | [], X, out, e => ⟨e, fun _ => rfl⟩
  | s :: l, X, out, e => by
    obtain ⟨h1, _⟩ := use_any (X2 := fun _ => none) e
    obtain ⟨h3, h4⟩ := useL_any h1
    refine ⟨h3, fun X2 => ?_⟩
    have := (use_any (X2 := fun v => useL act l fun vs => X2 (v :: vs)) e).2
    simp only [useL]
    rw [this]
    exact h4 _
theorem ty1_any {P : Program} {t : TypeId} {v : Value} {X X2 : Value → R} {out : Out} (e : ty1 P t v X = some out) : ty1 P t v X2 = X2 v := by
  unfold ty1 at *
  cases h : tk P t with
  | int k =>
    rw [h] at e
    obtain ⟨n, rfl, _⟩ := asInt_some e
    simp [asInt]
  | bool =>
    rw [h] at e
    obtain ⟨n, rfl, _⟩ := asBool_some e
    rfl
  | str =>
    rw [h] at e
    obtain ⟨n, rfl, _⟩ := asStr_some e
    rfl
  | other => rfl
theorem tyL_any {P : Program} : ∀ {ts : List TypeId} {l : List Value} {X X2 : List Value → R} {out : Out}, tyL P ts l X = some out → tyL P ts l X2 = X2 l
  | [], [], X, X2, out, e => rfl
  | [], _ :: _, X, X2, out, e => by cases e
  | t :: ts, [], X, X2, out, e => by cases e
  | t :: ts, v :: l, X, X2, out, e => by
    simp only [tyL, unc] at e ⊢
    rw [ty1_any (X2 := fun a => tyL P ts l fun r => X2 (a :: r)) e]
    exact tyL_any (X2 := fun r => X2 (v :: r)) (ty1_some e)
theorem ty_any {P : Program} {t : TypeId} {v : Value} {X X2 : Value → R} {out : Out} (e : ty P t v X = some out) : ty P t v X2 = X2 v := by
  unfold ty at *
  cases h : P.underlying t with
  | none => rw [h] at e; exact ty1_any e
  | some d =>
    rw [h] at e
    cases d <;> first | exact ty1_any e | skip
    rename_i ts
    simp only at e ⊢
    unfold asTup at *
    cases v <;> first | (cases e; done) | skip
    simp only at e ⊢
    rw [tyL_any (X2 := fun r => X2 (.tuple r.toArray)) e]

/-- one operation that cannot panic hands on one thing -/
theorem opK_par {V : Env} {C : Hnd} {lim : Nat} {fr : Frm} {h : AH} {o : Oper} {act : Option Bool} {K : Slot → AH → R} {out : Out} (e : opK V C lim (fun _ _ => none) fr h o act K = some out) :
    ∃ v h', K (mkS act v) h' = some out ∧ (act = some false → h' = h) ∧ ∀ K2, opK V C lim (fun _ _ => none) fr h o act K2 = K2 (mkS act v) h' := by
  by_cases hs : still o = true
  · rcases opK_still (V := V) (lim := lim) (fr := fr) (h := h) (act := act) hs with H | ⟨v, h', hh, H⟩
    · rw [H] at e; cases e
    · exact ⟨v, h', (H _ _ _).symm.trans e, hh, fun K2 => H _ _ _⟩
  · unfold still at hs
    split at hs
    · rename_i x ho
      simp only [opK, ho] at e
      obtain ⟨e1, _⟩ := use_any (X2 := fun _ => none) e
      split at e1 <;> cases e1
    · rename_i c ho
      split at hs
      · rename_i x hc
        simp only [opK, ho, hc] at e ⊢
        obtain ⟨e1, _⟩ := use_any (X2 := fun _ => none) e
        have u1 := fun X2 => (use_any (X2 := X2) e).2
        obtain ⟨e2, u2⟩ := useL_any e1
        simp only [u1, u2]
        split at e2
        · rename_i g first caps hv
          have hact : ∀ {X : R} {kk : Value → AH → R} {d : Value}, act ≠ some false → callE act X d h kk (fun _ _ => none) = onRet X kk (fun _ _ => none) := by
            intro X kk d ha
            cases act with
            | none => rfl
            | some q => cases q with
              | true => rfl
              | false => exact absurd rfl ha
          by_cases ha : act = some false
          · subst ha
            have e3 : ty V.P o.type (dflt V.P o.type) (fun v => K (mkS (some false) v) h) = some out := e2
            refine ⟨dflt V.P o.type, h, ty_some e3, fun _ => rfl, fun K2 => ?_⟩
            exact ty_any (X2 := fun v => K2 (mkS (some false) v) h) e3
          · rw [hact ha] at e2
            rcases onRet_some e2 with ⟨v, h', q1, q2⟩ | ⟨v, h', q1, q2⟩
            · refine ⟨v, h', ty_some q2, fun h0 => absurd h0 ha, fun K2 => ?_⟩
              rw [hact ha, q1]
              exact ty_any (X2 := fun v => K2 (mkS act v) h') q2
            · cases q2
        · cases e2
      · simp at hs
    · simp at hs

/-- a new row's cells, and what refers to it -/
structure Made (P : Program) (ι : Iota) (S : AH) (w : World) (a : Act) (o : Oper) (sz : Nat) (cs : List Value) (mk : Nat → Value) : Prop where
  ex : ∃ (arr : Array Value) (t : TypeId) (fz : Nat × Nat) (v' : Value) (w' : World), (execOp a.eval o).run P w = .ok (.value v') w' ∧ w'.heap = w.heap.push (.cells arr t fz) ∧ w'.os = w.os ∧ w'.tape = w.tape ∧ w'.output = w.output ∧
    (∀ (i : Nat) v, cs[i]? = some v → ∃ v', arr[i]? = some v' ∧ VR ι S v v' ∧ oneCell v = true) ∧ (∀ i, i < arr.size → ¬ (fz.1 ≤ i ∧ i < fz.2)) ∧ (4294967296 ≤ sz → sz / 4294967296 = t + 1 ∧ (wd sz = 0 → arr.size = cs.length)) ∧
    ∀ (ι' : Iota) (H : AH) (id : Nat), H[id]? = some (.row 0 sz cs) → ι' id = ⟨w.heap.size, 0, arr.size⟩ → VR ι' H (mk id) v'

theorem made_ptr {ι' : Iota} {H : AH} {id sz b top : Nat} {cs : List Value} (h : H[id]? = some (.row 0 sz cs)) (hi : ι' id = ⟨b, 0, top⟩) : VR ι' H (.pointer (some ⟨id, 0, some 0⟩)) (.pointer (some ⟨b, 0, none⟩)) := by
  refine .ptr (.inl ⟨_, _, _, h⟩) fun g' sz' cs' e => ?_
  rw [h] at e
  injection e with e; injection e with e1 e2 e3
  subst e1
  exact ⟨Nat.le_refl _, fun _ => by rw [hi]⟩
theorem made_slice {ι' : Iota} {H : AH} {id sz b top n c c' : Nat} {cs : List Value} (h : H[id]? = some (.row 0 sz cs)) (hi : ι' id = ⟨b, 0, top⟩) (h1 : n ≤ c') (h2 : c ≤ c') (h3 : c' * wd sz ≤ top) :
    VR ι' H (.slice (some ⟨id, 0, some 0⟩) n c) (.slice (some ⟨b, 0, none⟩) n c') := by
  refine .slice (.inl ⟨_, _, _, h⟩) h1 h2 fun g' sz' cs' e => ?_
  rw [h] at e
  injection e with e; injection e with e1 e2 e3
  subst e1 e2
  exact ⟨Nat.le_refl _, fun _ => by rw [hi]; exact ⟨.inr rfl, by simpa using h3⟩⟩

end Go.Abs
namespace Go.Abs
open Go.RowKit
set_option linter.unusedSimpArgs false
set_option linter.unusedVariables false
set_option linter.unusedSectionVars false

theorem LR.arr {ι h cs cs'} (q : LR ι h cs cs') (ho : ∀ v ∈ cs, oneCell v = true) : ∀ (i : Nat) v, cs[i]? = some v → ∃ v', cs'.toArray[i]? = some v' ∧ VR ι h v v' ∧ oneCell v = true :=
  fun i v e => let ⟨v', a, b⟩ := q.2 i v e; ⟨v', by simpa using a, b, ho v (List.mem_of_getElem? e)⟩
section
variable {V : Env} {C : Hnd} {lim : Nat} {ι : Iota} {S h : AH} {w : World} {fr : Frm} {a : Act} {o : Oper} {act : Option Bool} {K : Slot → AH → R} {pan : Value → AH → R} {out : Out}

/-- what makes memory -/
theorem made (f : FR ι S fr a) (ha : Acts act) (hn : isN V.P o = true) (e : opK V C lim pan fr h o act K = some out) :
    ∃ sz cs mk, K (mkS act (mk h.length)) (h ++ [.row 0 sz cs]) = some out ∧ Made V.P ι S w a o sz cs mk := by
  cases ho : o.op with
  | alloc t =>
    simp only [opK, ho] at e
    split at e
    · rename_i z hz
      obtain ⟨hfl, e⟩ := chk_some e
      have e := mk2_some ha e
      obtain ⟨q1, q2⟩ := LR.flat (ι := ι) (h := S) hfl
      refine ⟨_, _, fun id => .pointer (some ⟨id, 0, some 0⟩), e, ⟨z.cells.toList.toArray, t, (0, 0), .pointer (some ⟨w.heap.size, 0, none⟩), w.alloc (.cells z.cells.toList.toArray t), ?_, rfl, rfl, rfl, rfl, q1.arr q2, fun j _ hj => by simp at hj, (fun q => ⟨szA_tag _ _ q, fun _ => by simp⟩), fun ι' H id h1 h2 => made_ptr h1 h2⟩⟩
      simp [execOp, ho, Instr.alloc, zero_cells V.P hz, newVar, newRow]
    · cases e
  | box t x =>
    simp only [opK, ho] at e
    obtain ⟨h1, e⟩ := use_some ha e
    obtain ⟨h2, e⟩ := noTup_some e
    have e := mk2_some ha e
    obtain ⟨q1, q2⟩ := cells_sound (slot_sound f h1) h2
    refine ⟨_, _, fun id => .pointer (some ⟨id, 0, some 0⟩), e, ⟨(a.eval x).cells.toList.toArray, t, (0, 0), .pointer (some ⟨w.heap.size, 0, none⟩), w.alloc (.cells (a.eval x).cells.toList.toArray t), ?_, rfl, rfl, rfl, rfl, q1.arr q2, fun j _ hj => by simp at hj, (fun q => absurd (szC_lt V.P t) (by omega)), fun ι' H id h1 h2 => made_ptr h1 h2⟩⟩
    simp [execOp, ho, Instr.box, newVar, newRow]
  | makeSlice t x y =>
    simp only [opK, ho] at e
    obtain ⟨h1, e⟩ := use_some ha e
    obtain ⟨h2, e⟩ := use_some ha e
    have v1 := slot_sound f h1
    have v2 := slot_sound f h2
    split at e
    · rename_i k n k' m el hk hk' hel
      rw [hk] at v1
      rw [hk'] at v2
      have v1 := v1.int_inv
      have v2 := v2.int_inv
      split at e
      · rename_i z hz
        split at e
        · rename_i hc
          obtain ⟨c1, c2, c3, c4, c5, c6, c7⟩ := hc
          have e := mk2_some ha e
          have hu := elemT_some hel
          unfold zeroOf at hz
          simp only [Option.bind_eq_some_iff] at hz
          obtain ⟨i, hi, hz⟩ := hz
          have hb : bytesT V.P el = i.bytes := by simp [bytesT, hi]
          have hs : sizeT V.P el = i.size := by simp [sizeT, hi]
          rw [hb] at c4
          rw [hs] at c5 c6 e
          have hrun := run_make (P := V.P) w t el i z hu hi hz k k' n m c1 c2 (by omega) c3
          obtain ⟨nn, hnn⟩ := Int.eq_ofNat_of_zero_le c1
          obtain ⟨mm, hmm⟩ := Int.eq_ofNat_of_zero_le (show (0 : Int) ≤ m by omega)
          subst hnn hmm
          simp only [Int.toNat_natCast] at hrun e
          have hcells : madeCells z.cells (mm * i.size) = (repL mm z.cells.toList).toArray := repL_cells z i.size c5 c6.1 mm
          refine ⟨_, _, fun id => .slice (some ⟨id, 0, some 0⟩) nn nn, e, ⟨madeCells z.cells (mm * i.size), el, (0, 0), .slice (some ⟨w.heap.size, 0, none⟩) nn mm, w.alloc (.cells (madeCells z.cells (mm * i.size)) el), ?_, rfl, rfl, rfl, rfl, fun j v ev => ?_, fun j _ hj => by simp at hj, (fun q => ⟨tgE_tag _ _ c6.2 q, fun q0 => absurd q0 (by rw [tgE_wd _ _ c6.2]; omega)⟩),
            fun ι' H id h1 h2 => made_slice h1 h2 (by omega) (by omega) (by rw [size_madeCells, tgE_wd _ _ c6.2]; exact Nat.le_refl _)⟩⟩
          · simp only [execOp, ho, v1, v2, Sem.run_bind, hrun, Result.andThen_ok, Sem.run_pure]
          · have h2 := repL_prefix (show nn ≤ mm by omega) j v ev
            obtain ⟨q1, q2⟩ := LR.flat (ι := ι) (h := S) (repL_flat (n := mm) c7)
            obtain ⟨v', z1, z2⟩ := q1.2 j v h2
            exact ⟨v', by rw [hcells]; simpa using z1, z2, q2 v (List.mem_of_getElem? h2)⟩
        · cases e
      · cases e
    · cases e
  | buildSlice t len ps =>
    simp only [opK, ho] at e
    obtain ⟨h1, e⟩ := useL_some ha e
    split at e
    · rename_i el hel
      split at e
      · rename_i z hz
        split at e
        · rename_i hc
          obtain ⟨c1, c2, c3, c4⟩ := hc
          obtain ⟨hnt, e⟩ := noTups_some e
          obtain ⟨cs, e1, e2⟩ := oE_some ha e
          have e2 := mk2_some ha e2
          have hu := elemT_some hel
          have hsz : sizeO V.P el = some (sizeT V.P el) := by
            unfold sizeT sizeO at *
            cases hi : V.P.info? el with
            | none => simp [hi] at c2
            | some i => simp [hi]
          obtain ⟨q1, q2⟩ := LR.flat (ι := ι) (h := S) (repL_flat (n := len) c4)
          have hL : LR ι S ((ps.toList.map (fun p => slot fr p.2)).map (·.v)) ((ps.map fun (i, x) => (i, a.eval x)).toList.map (·.2)) := by
            have := slots_sound f (xs := ps.toList.map (·.2)) (fun s hs => h1 s (by simpa using hs))
            simp only [List.map_map] at this ⊢
            simpa [Function.comp_def] using this
          obtain ⟨cs', z1, z2, z3⟩ := fill_sound (place' := fun i => some (i * sizeT V.P el, sizeT V.P el)) (fun i => rfl) q1 q2 (ps' := (ps.map fun (i, x) => (i, a.eval x)).toList) (by
            rw [List.map_fst_zip]
            · simp [Function.comp_def]
            · simp) (by
            rw [List.map_snd_zip]
            · exact hL
            · simp) (fun p hp ws => hnt p.2 (List.of_mem_zip hp).2 ws) e1
          have hlen : cs'.length = len * sizeT V.P el := by rw [← z2.1, c1]; exact fillA_len e1 (repL_length _ _)
          refine ⟨_, _, fun id => .slice (some ⟨id, 0, some 0⟩) len len, e2, ⟨cs'.toArray, el, (0, 0), .slice (some ⟨w.heap.size, 0, none⟩) len len, w.alloc (.cells cs'.toArray el), ?_, rfl, rfl, rfl, rfl, z2.arr z3, fun j _ hj => by simp at hj, (fun q => ⟨tgE_tag _ _ c2.2 q, fun q0 => absurd q0 (by rw [tgE_wd _ _ c2.2]; omega)⟩),
            fun ι' H id h1 h2 => made_slice h1 h2 (Nat.le_refl _) (Nat.le_refl _) (by simp [hlen, tgE_wd _ _ c2.2])⟩⟩
          have hfill : (Array.range (len * sizeT V.P el)).map (fun i => (if len * sizeT V.P el = 0 then #[] else z.cells)[i % (if len * sizeT V.P el = 0 then #[] else z.cells).size]!) = (repL len z.cells.toList).toArray := by
            split
            · rename_i h0
              have : len = 0 := by
                rcases Nat.mul_eq_zero.1 h0 with h | h
                · exact h
                · omega
              subst this
              simp [repL]
            · exact repL_cells z _ c1 c2.1 len
          have hgt : ¬ (len * sizeT V.P el > 2 ^ 24) := by omega
          by_cases h0 : len * sizeT V.P el = 0
          · have hl0 : len = 0 := by
              rcases Nat.mul_eq_zero.1 h0 with h | h
              · exact h
              · omega
            subst hl0
            have hr0 : (repL 0 z.cells.toList).toArray = #[] := by simp [repL]
            rw [hr0] at z1
            have hm0 : ∀ g : Nat → Value, (Array.range 0).map g = #[] := fun g => by simp
            simp only [execOp, ho, Instr.buildSlice, Sem.run_bind, run_underlying hu, Result.andThen_ok, run_sizeO hsz, Nat.zero_mul, gt_iff_lt, Nat.not_lt_zero, if_false, if_true, Sem.run_pure, hm0, z1]
            simp [newRow]
          · simp only [if_neg h0] at hfill
            simp only [execOp, ho, Instr.buildSlice, Sem.run_bind, run_underlying hu, Result.andThen_ok, run_sizeO hsz, if_neg hgt, if_neg h0, Sem.run_pure, zero_cells V.P hz, hfill, z1]
            simp [newRow]
        · cases e
      · cases e
    · cases e
  | convert src dst x =>
    have hs : V.P.underlying src = some .string ∧ ∃ el, V.P.underlying dst = some (.slice el) := by
      simp only [isN, ho] at hn
      split at hn
      · rename_i el h1 h2; exact ⟨h1, el, h2⟩
      · cases hn
    obtain ⟨hs, el, hd⟩ := hs
    simp only [opK, ho, hs, hd] at e
    obtain ⟨h1, e⟩ := use_some ha e
    have hx := slot_sound f h1
    split at e
    · rename_i hel
      obtain ⟨s, hv, e⟩ := asStr_some e
      rw [hv] at hx
      have hx := hx.str_inv
      have e := mk2_some ha e
      have hrun := run_bytes_of_string (P := V.P) w src dst el s hs hd hel
      have hsz : (bytesRow s (grownCap w s.size 0 el)).size = s.size + (grownCap w s.size 0 el - s.size) := by simp [bytesRow]
      have hcap : s.size ≤ grownCap w s.size 0 el := by simp only [grownCap, Question.cut]; omega
      refine ⟨_, _, fun id => .slice (some ⟨id, 0, some 0⟩) s.size s.size, e, ⟨bytesRow s (grownCap w s.size 0 el), el, ((bytesRow s (grownCap w s.size 0 el)).size, (bytesRow s (grownCap w s.size 0 el)).size + 1), .slice (some ⟨w.heap.size, 0, none⟩) s.size (grownCap w s.size 0 el),
        w.drew.alloc (.cells (bytesRow s (grownCap w s.size 0 el)) el ((bytesRow s (grownCap w s.size 0 el)).size, (bytesRow s (grownCap w s.size 0 el)).size + 1)), by simp [execOp, ho, hx, hrun], rfl, rfl, rfl, rfl, fun j v ev => ?_, fun j hj => by simp; omega, (fun q => ⟨tgE_tag _ _ (by decide) q, fun q0 => absurd q0 (by rw [tgE_wd _ _ (by decide)]; omega)⟩),
        fun ι' H id h1 h2 => made_slice h1 h2 hcap hcap (by rw [hsz, tgE_wd _ _ (by decide)]; omega)⟩⟩
      refine ⟨v, ?_, ?_, ?_⟩
      · unfold bytesRow
        rw [Array.getElem?_append_left]
        · simpa using ev
        · have := (List.getElem?_eq_some_iff.1 ev).1; simpa using this
      · simp at ev; obtain ⟨b, _, rfl⟩ := ev; exact .int _ _
      · simp at ev; obtain ⟨b, _, rfl⟩ := ev; rfl
    · cases e
  | makeMap t r => simp [opK, ho] at e
  | _ => simp [isN, ho] at hn

end
end Go.Abs
namespace Go.Abs
open Go.RowKit
set_option linter.unusedSimpArgs false
set_option linter.unusedVariables false
set_option linter.unusedSectionVars false

theorem live_same {S h : AH} {id : Nat} (e : S[id]? = h[id]?) : live S id ↔ live h id := by unfold live; rw [e]

theorem VR.sub {ι S ι2 h v v'} (r : VR ι S v v') (hs : ∀ id, live h id → S[id]? = h[id]?) : ∀ {v2}, VR ι2 h v v2 → VR ι h v v' := by
  induction r with
  | bool b => intro _ _; exact .bool b
  | int k n => intro _ _; exact .int k n
  | str s => intro _ _; exact .str s
  | nilFunc => intro _ _; exact .nilFunc
  | nilIface => intro _ _; exact .nilIface
  | pnil => intro _ _; exact .pnil
  | snil => intro _ _; exact .snil
  | mnil => intro _ _; exact .mnil
  | ptr hid hr =>
    intro v2 q
    cases q with
    | ptr hid2 _ => exact .ptr hid2 fun g' sz cs e => hr g' sz cs ((hs _ hid2).trans e)
  | slice hid hn hc hr =>
    intro v2 q
    cases q with
    | slice hid2 _ _ _ => exact .slice hid2 hn hc fun g' sz cs e => hr g' sz cs ((hs _ hid2).trans e)
  | map hid hr =>
    intro v2 q
    cases q with
    | map hid2 _ => exact .map hid2 fun es e => hr es ((hs _ hid2).trans e)
  | func fn hx hxv hy hyv ihx ihy =>
    intro v2 q
    cases q with
    | func _ hx2 hxv2 hy2 hyv2 =>
      exact .func fn hx (fun i a b => ihx i a b (hxv2 i a (by omega))) hy (fun i a b => ihy i a b (hyv2 i a (by omega)))
  | iface t hv ih =>
    intro v2 q
    cases q with
    | iface _ h2 => exact .iface t (ih h2)
  | agg hx hxv ho ih =>
    intro v2 q
    cases q with
    | agg hx2 hxv2 _ => exact .agg hx (fun i a b => ih i a b (hxv2 i a (by omega))) ho
  | tuple hx hxv ih =>
    intro v2 q
    cases q with
    | tuple hx2 hxv2 => exact .tuple hx (fun i a b => ih i a b (hxv2 i a (by omega)))

theorem VR.grow {ι h ι' S v v'} (r : VR ι h v v') (hs : ∀ id, live h id → S[id]? = h[id]? ∧ ι' id = ι id) : VR ι' S v v' := by
  induction r with
  | bool b => exact .bool b
  | int k n => exact .int k n
  | str s => exact .str s
  | nilFunc => exact .nilFunc
  | nilIface => exact .nilIface
  | pnil => exact .pnil
  | snil => exact .snil
  | mnil => exact .mnil
  | ptr hid hr =>
    obtain ⟨e1, e2⟩ := hs _ hid
    exact .ptr ((live_same e1).2 hid) fun g' sz cs e => by rw [e2]; exact hr g' sz cs (e1.symm.trans e)
  | slice hid hn hc hr =>
    obtain ⟨e1, e2⟩ := hs _ hid
    exact .slice ((live_same e1).2 hid) hn hc fun g' sz cs e => by rw [e2]; exact hr g' sz cs (e1.symm.trans e)
  | map hid hr =>
    obtain ⟨e1, e2⟩ := hs _ hid
    exact .map ((live_same e1).2 hid) fun es e => by rw [e2]; exact hr es (e1.symm.trans e)
  | func fn hx _ hy _ ihx ihy => exact .func fn hx ihx hy ihy
  | iface t _ ih => exact .iface t ih
  | agg hx _ ho ih => exact .agg hx ih ho
  | tuple hx _ ih => exact .tuple hx ih

/-- a part of what stands, of which it is known that it stands by itself -/
theorem Rel.sub {w0 l0 ι S w} (r : Rel w0 l0 ι S w) {w02 l02 ι2 h w2} (r2 : Rel w02 l02 ι2 h w2) (hs : ∀ id, live h id → S[id]? = h[id]?) : Rel w0 l0 ι h w := by
  have hl : ∀ id, live h id → live S id := fun id l => (live_same (hs id l)).2 l
  refine ⟨r.below, fun id g sz cs e => ?_, fun id es e => ?_, fun i j hij li lj hi => r.inj i j hij (hl i li) (hl j lj) hi, r.glob⟩
  · obtain ⟨arr, t, fr, q1, q2, q3, q4⟩ := r.row id g sz cs ((hs id (.inl ⟨_, _, _, e⟩)).trans e)
    obtain ⟨arr2, t2, fr2, p1, p2, p3, p4⟩ := r2.row id g sz cs e
    refine ⟨arr, t, fr, q1, q2, fun i v ev => ?_, q4⟩
    obtain ⟨v', z1, z2, z3⟩ := q3 i v ev
    obtain ⟨v2, y1, y2, y3⟩ := p3 i v ev
    exact ⟨v', z1, z2.sub hs y2, z3⟩
  · obtain ⟨q0, en, cl, q1, q2, q3⟩ := r.map id es ((hs id (.inr ⟨_, e⟩)).trans e)
    obtain ⟨p0, en2, cl2, p1, p2, p3⟩ := r2.map id es e
    refine ⟨q0, en, cl, q1, q2, fun i k v ev => ?_⟩
    obtain ⟨x, z1, z2, z3⟩ := q3 i k v ev
    obtain ⟨x2, y1, y2, y3⟩ := p3 i k v ev
    exact ⟨x, z1, z2.sub hs y2, z3.sub hs y3⟩

theorem Rel.blt' {w0 l0 ι h w} (r : Rel w0 l0 ι h w) {j : Nat} (l : live h j) : (ι j).b < w.heap.size := by
  rcases l with ⟨g, s, c, e⟩ | ⟨es, e⟩
  · obtain ⟨a, t', f, q, _⟩ := r.row j g s c e; exact (Array.getElem?_eq_some_iff.1 q).1
  · obtain ⟨_, a, c, q, _⟩ := r.map j es e; exact (Array.getElem?_eq_some_iff.1 q).1

/-- an object comes where none was -/
theorem Rel.fill {w0 l0 lim ι S w} (r : Rel w0 l0 ι S w) {id sz : Nat} {cs : List Value} {arr : Array Value} {t : TypeId} {fz : Nat × Nat} {w' : World} (hd : S[id]? = some .dead)
    (hw : w'.heap = w.heap.push (.cells arr t fz)) (ho : w'.os = w.os) (ht : w'.tape = w.tape) (hu : w'.output = w.output)
    (hcs : ∀ (i : Nat) v, cs[i]? = some v → ∃ v', arr[i]? = some v' ∧ VR ι S v v' ∧ oneCell v = true) (hf : ∀ i, i < arr.size → ¬ (fz.1 ≤ i ∧ i < fz.2)) (hz : 4294967296 ≤ sz → sz / 4294967296 = t + 1 ∧ (wd sz = 0 → arr.size = cs.length)) :
    ∃ ι', ι' id = ⟨w.heap.size, 0, arr.size⟩ ∧ Rel w0 l0 ι' (S.set id (.row 0 sz cs)) w' ∧ Step lim ι S w ι' (S.set id (.row 0 sz cs)) w' := by
  have hid : id < S.length := (List.getElem?_eq_some_iff.1 hd).1
  have hnl : ¬ live S id := by rintro (⟨_, _, _, e⟩ | ⟨_, e⟩) <;> rw [hd] at e <;> cases e
  let ι' : Iota := fun j => if j = id then ⟨w.heap.size, 0, arr.size⟩ else ι j
  have hι : ∀ j, j ≠ id → ι' j = ι j := fun j hj => by simp [ι', hj]
  have hn : ι' id = ⟨w.heap.size, 0, arr.size⟩ := by simp [ι']
  have hget : ∀ j, j ≠ id → (S.set id (AObj.row 0 sz cs))[j]? = S[j]? := fun j hj => List.getElem?_set_ne (fun e => hj e.symm)
  have hnew : (S.set id (AObj.row 0 sz cs))[id]? = some (.row 0 sz cs) := List.getElem?_set_self hid
  have hne : ∀ j, live S j → j ≠ id := fun j l e => hnl (e ▸ l)
  have hc : Compat ι S ι' (S.set id (.row 0 sz cs)) := by
    refine ⟨by simp, fun j l => live_set (.inl ⟨_, _, _, rfl⟩) l, fun j l g' sz' cs' ej => ?_, fun j l es' ej => ?_⟩
    · rw [hget j (hne j l)] at ej; exact ⟨g', _, cs', ej, Nat.le_refl _, fun _ => ⟨rfl, hι j (hne j l)⟩⟩
    · rw [hget j (hne j l)] at ej; exact ⟨es', ej, hι j (hne j l)⟩
  have hblk : ∀ k, k < w.heap.size → w'.heap[k]? = w.heap[k]? := fun k hk => by rw [hw, Array.getElem?_push, if_neg (by omega)]
  have hB : w0.heap.size ≤ w.heap.size := r.below.size
  refine ⟨ι', hn, ⟨?_, fun j g' sz' cs' ej => ?_, fun j es' ej => ?_, fun i j hij li lj hi => ?_, r.glob⟩, hc, fun j _ l => ⟨hget j (hne j l), hι j (hne j l)⟩, by rw [hw]; simp, fun b hb _ => hblk b hb, fun j l => ?_⟩
  · exact ⟨ho.trans r.below.os, ht.trans r.below.tape, hu.trans r.below.output, by rw [hw]; simp; omega, fun k hk => (hblk k (by omega)).trans (r.below.block k hk)⟩
  · by_cases hj : j = id
    · subst hj
      rw [hnew] at ej
      injection ej with ej; injection ej with a b c
      subst a b c
      rw [hn]
      refine ⟨arr, t, fz, by rw [hw]; simp, rfl, fun i v ev => ?_, fun _ => ⟨hB, fun _ => hf, fun q => ⟨(hz q).1, rfl, (hz q).2⟩⟩⟩
      obtain ⟨v', q1, q2, q3⟩ := hcs i v ev
      exact ⟨v', by simpa using q1, q2.mono hc, q3⟩
    · rw [hget j hj] at ej
      obtain ⟨a, t', f, q1, q2, q3, q4⟩ := r.row j g' sz' cs' ej
      rw [hι j hj]
      refine ⟨a, t', f, (hblk _ (r.blt' (.inl ⟨_, _, _, ej⟩))).trans q1, q2, fun i v ev => ?_, q4⟩
      obtain ⟨v', z1, z2, z3⟩ := q3 i v ev
      exact ⟨v', z1, z2.mono hc, z3⟩
  · have hj : j ≠ id := by rintro rfl; rw [hnew] at ej; cases ej
    rw [hget j hj] at ej
    obtain ⟨h0, en, cl, q1, q2, q3⟩ := r.map j es' ej
    rw [hι j hj]
    refine ⟨h0, en, cl, (hblk _ (r.blt' (.inr ⟨_, ej⟩))).trans q1, q2, fun i k v ev => ?_⟩
    obtain ⟨x, z1, z2, z3⟩ := q3 i k v ev
    exact ⟨x, z1, z2.mono hc, z3.mono hc⟩
  · have hl : ∀ j, j ≠ id → live (S.set id (AObj.row 0 sz cs)) j → live S j := fun j hj l => (live_set_ne hj).1 l
    by_cases h1 : i = id
    · subst h1
      have h2 : j ≠ i := fun e => hij e.symm
      rw [hn, hι j h2]
      have := r.blt' (hl j h2 lj)
      simp; omega
    · rw [hι i h1]
      by_cases h2 : j = id
      · subst h2
        rw [hn]
        have := r.blt' (hl i h1 li)
        simp; omega
      · rw [hι j h2]
        exact r.inj i j hij (hl i h1 li) (hl j h2 lj) hi
  · by_cases h1 : j = id
    · subst h1; rw [hn]; exact .inr (Nat.le_refl _)
    · exact .inl ⟨(live_set_ne h1).1 l, by rw [hι j h1]⟩

/-- what was done to a part of what stands -/
theorem Rel.merge {w0 l0 lim ι S w} (r : Rel w0 l0 ι S w) (hl0 : l0 ≤ lim) {ι' : Iota} {h h' : AH} {w' : World} (hs : ∀ id, id < h.length → S[id]? = h[id]?) (hh : ∀ id, h.length ≤ id → id < h'.length → S[id]? = some .dead) (hlen : h'.length ≤ S.length)
    (r' : Rel w0 l0 ι' h' w') (s' : Step lim ι h w ι' h' w') :
    ∃ ι2, (∀ id, id < h'.length → ι2 id = ι' id) ∧ Rel w0 l0 ι2 (h' ++ S.drop h'.length) w' ∧ Step lim ι S w ι2 (h' ++ S.drop h'.length) w' := by
  let ι2 : Iota := fun id => if id < h'.length then ι' id else ι id
  have i1 : ∀ id, id < h'.length → ι2 id = ι' id := fun id hid => by simp [ι2, hid]
  have i2 : ∀ id, h'.length ≤ id → ι2 id = ι id := fun id hid => by simp [ι2, Nat.not_lt.2 hid]
  have g1 : ∀ id, id < h'.length → (h' ++ S.drop h'.length)[id]? = h'[id]? := fun id hid => List.getElem?_append_left hid
  have g2 : ∀ id, h'.length ≤ id → (h' ++ S.drop h'.length)[id]? = S[id]? := fun id hid => by rw [List.getElem?_append_right hid, List.getElem?_drop]; congr 1; omega
  have hhl : h.length ≤ h'.length := s'.compat.len
  have liveS : ∀ id, live h id → live S id := fun id l => (live_same (hs id (live_lt l))).2 l
  have liveh : ∀ id, id < h'.length → live S id → live h id := fun id hid l => by
    by_cases h1 : id < h.length
    · exact (live_same (hs id h1)).1 l
    · have := hh id (by omega) hid
      rcases l with ⟨_, _, _, e⟩ | ⟨_, e⟩ <;> rw [this] at e <;> cases e
  have hc : Compat ι S ι2 (h' ++ S.drop h'.length) := by
    refine ⟨by simp; omega, fun id l => ?_, fun id l g' sz' cs' e => ?_, fun id l es' e => ?_⟩
    · by_cases hid : id < h'.length
      · exact (live_same (g1 id hid)).2 (s'.compat.keeps id (liveh id hid l))
      · exact (live_same (g2 id (by omega))).2 l
    · by_cases hid : id < h'.length
      · rw [g1 id hid] at e
        have lh := liveh id hid l
        obtain ⟨g, sz, cs, q1, q2, q3⟩ := s'.compat.row id lh g' sz' cs' e
        exact ⟨g, sz, cs, (hs id (live_lt lh)).trans q1, q2, fun hg => by rw [i1 id hid]; exact q3 hg⟩
      · rw [g2 id (by omega)] at e
        exact ⟨g', _, cs', e, Nat.le_refl _, fun _ => ⟨rfl, i2 id (by omega)⟩⟩
    · by_cases hid : id < h'.length
      · rw [g1 id hid] at e
        have lh := liveh id hid l
        obtain ⟨es, q1, q2⟩ := s'.compat.map id lh es' e
        exact ⟨es, (hs id (live_lt lh)).trans q1, by rw [i1 id hid]; exact q2⟩
      · rw [g2 id (by omega)] at e
        exact ⟨es', e, i2 id (by omega)⟩
  have grow : ∀ v v', VR ι' h' v v' → VR ι2 (h' ++ S.drop h'.length) v v' := fun v v' q => q.grow fun id l => ⟨g1 id (live_lt l), i1 id (live_lt l)⟩
  have keepB : ∀ id, h'.length ≤ id → live S id → w'.heap[(ι id).b]? = w.heap[(ι id).b]? := fun id hid l => by
    refine s'.frame _ (r.blt' l) fun j hj lj => ?_
    have := live_lt lj
    exact r.inj j id (by omega) (liveS j lj) l (by omega)
  refine ⟨ι2, i1, ⟨r'.below, fun id g sz cs e => ?_, fun id es e => ?_, fun i j hij li lj hi => ?_, r.glob⟩, hc, fun id h1 l => ?_, s'.size, fun b hb hn => s'.frame b hb fun id h1 l => hn id h1 (liveS id l), fun id l => ?_⟩
  · by_cases hid : id < h'.length
    · rw [g1 id hid] at e
      obtain ⟨arr, t, fr, q1, q2, q3, q4⟩ := r'.row id g sz cs e
      rw [i1 id hid]
      exact ⟨arr, t, fr, q1, q2, fun i v ev => let ⟨v', z1, z2, z3⟩ := q3 i v ev; ⟨v', z1, grow _ _ z2, z3⟩, q4⟩
    · rw [g2 id (by omega)] at e
      obtain ⟨arr, t, fr, q1, q2, q3, q4⟩ := r.row id g sz cs e
      rw [i2 id (by omega)]
      exact ⟨arr, t, fr, (keepB id (by omega) (.inl ⟨_, _, _, e⟩)).trans q1, q2, fun i v ev => let ⟨v', z1, z2, z3⟩ := q3 i v ev; ⟨v', z1, z2.mono hc, z3⟩, q4⟩
  · by_cases hid : id < h'.length
    · rw [g1 id hid] at e
      obtain ⟨q0, en, cl, q1, q2, q3⟩ := r'.map id es e
      rw [i1 id hid]
      exact ⟨q0, en, cl, q1, q2, fun i k v ev => let ⟨x, z1, z2, z3⟩ := q3 i k v ev; ⟨x, z1, grow _ _ z2, grow _ _ z3⟩⟩
    · rw [g2 id (by omega)] at e
      obtain ⟨q0, en, cl, q1, q2, q3⟩ := r.map id es e
      rw [i2 id (by omega)]
      exact ⟨q0, en, cl, (keepB id (by omega) (.inr ⟨_, e⟩)).trans q1, q2, fun i k v ev => let ⟨x, z1, z2, z3⟩ := q3 i k v ev; ⟨x, z1, z2.mono hc, z3.mono hc⟩⟩
  · have cross : ∀ i j, i < h'.length → h'.length ≤ j → live (h' ++ S.drop h'.length) i → live (h' ++ S.drop h'.length) j → (l0 ≤ i ∨ l0 ≤ j) → (ι2 i).b ≠ (ι2 j).b := by
      intro i j hi hj li lj hl
      have li' := (live_same (g1 i hi)).1 li
      have lj' := (live_same (g2 j hj)).1 lj
      rw [i1 i hi, i2 j hj]
      rcases s'.born i li' with ⟨l, e⟩ | e
      · rw [e]
        rcases hl with hl | hl
        · exact r.inj i j (by omega) (liveS i l) lj' hl
        · exact fun q => r.inj j i (by omega) lj' (liveS i l) hl q.symm
      · have := r.blt' lj'
        omega
    by_cases h1 : i < h'.length
    · by_cases h2 : j < h'.length
      · rw [i1 i h1, i1 j h2]
        exact r'.inj i j hij ((live_same (g1 i h1)).1 li) ((live_same (g1 j h2)).1 lj) hi
      · exact cross i j h1 (by omega) li lj (.inl hi)
    · by_cases h2 : j < h'.length
      · exact fun q => cross j i h2 (by omega) lj li (.inr hi) q.symm
      · rw [i2 i (by omega), i2 j (by omega)]
        exact r.inj i j hij ((live_same (g2 i (by omega))).1 li) ((live_same (g2 j (by omega))).1 lj) hi
  · by_cases hid : id < h'.length
    · have lh := liveh id hid l
      obtain ⟨q1, q2⟩ := s'.ro id h1 lh
      exact ⟨by rw [g1 id hid, q1, hs id (live_lt lh)], by rw [i1 id hid]; exact q2⟩
    · exact ⟨g2 id (by omega), i2 id (by omega)⟩
  · by_cases hid : id < h'.length
    · have l' := (live_same (g1 id hid)).1 l
      rw [i1 id hid]
      rcases s'.born id l' with ⟨a, b⟩ | b
      · exact .inl ⟨liveS id a, b⟩
      · exact .inr b
    · exact .inl ⟨(live_same (g2 id (by omega))).1 l, by rw [i2 id (by omega)]⟩

end Go.Abs
namespace Go.Abs
set_option linter.unusedSimpArgs false
set_option linter.unusedVariables false
set_option linter.unusedSectionVars false

def anStep (acc : List Nat) (o : Oper) : Nat := o.after.toList.foldl (fun s e => if Region.binds .any e then s ||| 2 ^ e.on ||| acc.getD e.on 0 else s) 0

theorem ancs_spec : ∀ (l : List Oper) (acc : List Nat), (ancs l acc).take acc.length = acc ∧ ∀ (m : Nat) o, l[m]? = some o → (ancs l acc).getD (acc.length + m) 0 = anStep ((ancs l acc).take (acc.length + m)) o
  | [], acc => ⟨by simp [ancs], fun m o e => by simp at e⟩
  | o :: os, acc => by
    obtain ⟨h1, h2⟩ := ancs_spec os (acc ++ [anStep acc o])
    have e0 : ancs (o :: os) acc = ancs os (acc ++ [anStep acc o]) := rfl
    rw [e0]
    have hl : (acc ++ [anStep acc o]).length = acc.length + 1 := by simp
    rw [hl] at h1 h2
    have ht : (ancs os (acc ++ [anStep acc o])).take acc.length = acc := by
      have := congrArg (List.take acc.length) h1
      rw [List.take_take, Nat.min_eq_left (by omega)] at this
      rw [this]; simp
    refine ⟨ht, fun m o' e => ?_⟩
    cases m with
    | zero =>
      simp at e; subst e
      rw [Nat.add_zero, ht]
      have : (ancs os (acc ++ [anStep acc o]))[acc.length]? = some (anStep acc o) := by
        have := congrArg (fun l => l[acc.length]?) h1
        simp only [List.getElem?_take_of_lt (Nat.lt_succ_self _)] at this
        rw [this]; simp
      rw [List.getD_eq_getElem?_getD, this]; rfl
    | succ m =>
      simp at e
      have := h2 m o' e
      rw [show acc.length + (m + 1) = acc.length + 1 + m by omega]
      exact this

theorem bit_fold (acc : List Nat) (j : Nat) : ∀ (l : List Edge) (s : Nat), (l.foldl (fun s e => if Region.binds .any e then s ||| 2 ^ e.on ||| acc.getD e.on 0 else s) s).testBit j = true ↔
    s.testBit j = true ∨ ∃ e ∈ l, Region.binds .any e = true ∧ (j = e.on ∨ (acc.getD e.on 0).testBit j = true)
  | [], s => by simp
  | e :: l, s => by
    rw [List.foldl_cons, bit_fold acc j l]
    by_cases hb : Region.binds .any e = true
    · rw [if_pos hb]
      simp only [Nat.testBit_or, Nat.testBit_two_pow, Bool.or_eq_true, decide_eq_true_eq, List.mem_cons, exists_eq_or_imp]
      constructor
      · rintro (((h | h) | h) | h)
        · exact .inl h
        · exact .inr (.inl ⟨hb, .inl h.symm⟩)
        · exact .inr (.inl ⟨hb, .inr h⟩)
        · exact .inr (.inr h)
      · rintro (h | ⟨_, (h | h)⟩ | h)
        · exact .inl (.inl (.inl h))
        · exact .inl (.inl (.inr h.symm))
        · exact .inl (.inr h)
        · exact .inr h
    · rw [if_neg hb]
      simp only [List.mem_cons, exists_eq_or_imp]
      constructor
      · rintro (h | h)
        · exact .inl h
        · exact .inr (.inr h)
      · rintro (h | ⟨h, _⟩ | h)
        · exact .inl h
        · exact absurd h hb
        · exact .inr h

section
variable {ops : Array Oper} {ord : List Nat}

def Anc (ops : Array Oper) (i j : Nat) : Prop := ((ancs ops.toList []).getD i 0).testBit j = true

structure Draw (ops : Array Oper) (ord : List Nat) : Prop where
  nodup : ord.Nodup
  mem : ∀ i, i ∈ ord ↔ i < ops.size
  back : ∀ (i : Nat) o, ops[i]? = some o → ∀ e ∈ o.after.toList, Region.binds .any e = true → e.on < i
  guard : ∀ (i : Nat) o k b, ops[i]? = some o → o.guard = some (k, b) → Anc ops i k
  apart : ∀ (i j : Nat) a b, i < j → ops[i]? = some a → ops[j]? = some b → Anc ops j i ∨ a.apart ops b = true
  topo : Abs.topo ops ord [] = true

theorem drawOk_spec (h : drawOk ops (ancs ops.toList []) ord = true) : Draw ops ord := by
  unfold drawOk at h
  simp only [Bool.and_eq_true, decide_eq_true_eq, List.all_eq_true, List.mem_range] at h
  obtain ⟨⟨⟨hnd, hlt⟩, htopo⟩, hall⟩ := h
  have hcont : ∀ j, j < ops.size → j ∈ ord := fun j hj => by have := (hall j hj).1.1; simpa using this
  refine ⟨hnd, fun i => ⟨fun hi => by simpa using hlt i hi, hcont i⟩, fun i o ho e he hb => ?_, fun i o k b ho hg => ?_, fun i j a b hij ha hb => ?_, htopo⟩
  · have hi : i < ops.size := (Array.getElem?_eq_some_iff.1 ho).1
    have := (hall i hi).1.2
    rw [ho] at this
    simp only [Bool.and_eq_true, List.all_eq_true] at this
    have := this.1.1 e he
    simpa [hb] using this
  · have hi : i < ops.size := (Array.getElem?_eq_some_iff.1 ho).1
    have := (hall i hi).1.2
    rw [ho] at this
    simp only [Bool.and_eq_true, List.all_eq_true, hg] at this
    exact this.1.2
  · have hj : j < ops.size := (Array.getElem?_eq_some_iff.1 hb).1
    have := (hall j hj).2 i hij
    rw [ha, hb] at this
    simp only [Bool.or_eq_true] at this
    exact this

variable (dr : Draw ops ord)
include dr

theorem Draw.anc {i j : Nat} {o : Oper} (ho : ops[i]? = some o) : Anc ops i j ↔ ∃ e ∈ o.after.toList, Region.binds .any e = true ∧ (j = e.on ∨ Anc ops e.on j) := by
  have := (ancs_spec ops.toList []).2 i o (by simpa using ho)
  unfold Anc
  simp only [List.length_nil, Nat.zero_add] at this
  rw [this, anStep, bit_fold]
  simp only [Nat.zero_testBit, Bool.false_eq_true, false_or]
  constructor
  · rintro ⟨e, he, hb, h⟩
    refine ⟨e, he, hb, ?_⟩
    rcases h with h | h
    · exact .inl h
    · right
      have hlt := dr.back i o ho e he hb
      rw [List.getD_eq_getElem?_getD, List.getElem?_take_of_lt hlt] at h
      rw [List.getD_eq_getElem?_getD]; exact h
  · rintro ⟨e, he, hb, h⟩
    refine ⟨e, he, hb, ?_⟩
    rcases h with h | h
    · exact .inl h
    · right
      have hlt := dr.back i o ho e he hb
      rw [List.getD_eq_getElem?_getD, List.getElem?_take_of_lt hlt]
      rw [List.getD_eq_getElem?_getD] at h; exact h

def Closed (ops : Array Oper) (D : Nat → Prop) : Prop := ∀ i, i < ops.size → D i → ∀ j, Anc ops i j → D j

theorem Draw.ready {D : Nat → Prop} (hc : Closed ops D) {i : Nat} {o : Oper} (ho : ops[i]? = some o) (hr : ∀ e ∈ o.after.toList, Region.binds .any e = true → D e.on) {j : Nat} (ha : Anc ops i j) : D j := by
  obtain ⟨e, he, hb, h⟩ := (dr.anc ho).1 ha
  have hD := hr e he hb
  rcases h with rfl | h
  · exact hD
  · have := dr.back i o ho e he hb
    have hi := (Array.getElem?_eq_some_iff.1 ho).1
    exact hc e.on (by omega) hD j h

theorem Draw.topo_go : ∀ (is done : List Nat), Abs.topo ops is done = true → Closed ops (· ∈ done) → ∀ (pre : List Nat) (i : Nat) (post : List Nat), is = pre ++ i :: post → ∀ j, Anc ops i j → j ∈ done ++ pre
  | [], done, ht, hc, pre, i, post, e, j, ha => by simp at e
  | k :: is, done, ht, hc, pre, i, post, e, j, ha => by
    simp only [Abs.topo, Bool.and_eq_true] at ht
    obtain ⟨h1, h2⟩ := ht
    obtain ⟨o, ho, h1⟩ : ∃ o, ops[k]? = some o ∧ (o.after.toList.all fun e => !Region.binds .any e || done.contains e.on) = true := by
      cases h : ops[k]? with
      | none => simp [h] at h1
      | some o => simp [h] at h1; exact ⟨o, rfl, by simpa using h1⟩
    have hr : ∀ e ∈ o.after.toList, Region.binds .any e = true → e.on ∈ done := by
      intro e he hb
      have := List.all_eq_true.1 h1 e he
      simpa [hb] using this
    have hk : ∀ j, Anc ops k j → j ∈ done := fun j ha => dr.ready (D := (· ∈ done)) hc ho hr ha
    cases pre with
    | nil =>
      simp at e
      obtain ⟨rfl, _⟩ := e
      simpa using hk j ha
    | cons p pre =>
      simp at e
      obtain ⟨rfl, e⟩ := e
      have := Draw.topo_go is (done ++ [k]) h2 (by
        intro x hx hd y hy
        simp only [List.mem_append, List.mem_singleton] at hd ⊢
        rcases hd with hd | rfl
        · exact .inl (hc x hx hd y hy)
        · exact .inl (hk y hy)) pre i post e j ha
      simpa using this

theorem Draw.before {pre post : List Nat} {i : Nat} (e : ord = pre ++ i :: post) {j : Nat} (ha : Anc ops i j) : j ∈ pre := by
  have := dr.topo_go ord [] dr.topo (fun _ _ h => by simp at h) pre i post e j ha
  simpa using this

/-- two operations that are not apart are in an order -/
theorem Draw.order {i j : Nat} {a b : Oper} (hij : i ≠ j) (ha : ops[i]? = some a) (hb : ops[j]? = some b) (hn : ¬ Anc ops i j) (hn' : ¬ Anc ops j i) :
    (∀ d, a.dst = some d → d ∉ b.looksAt ops) ∧ (∀ d, a.dst = some d → b.dst ≠ some d) := by
  rcases Nat.lt_or_gt_of_ne hij with h | h
  · have := (dr.apart i j a b h ha hb).resolve_left hn'
    obtain ⟨h1, h2, h3⟩ := Oper.apart_spec this
    exact ⟨h1, h2⟩
  · have := (dr.apart j i b a h hb ha).resolve_left hn
    obtain ⟨h1, h2, h3⟩ := Oper.apart_spec this
    exact ⟨h3, fun d hd he => h2 d he hd⟩

end
end Go.Abs
namespace Go.Abs
set_option linter.unusedSimpArgs false
set_option linter.unusedVariables false
set_option linter.unusedSectionVars false

/-- an operation of a region that draws, as it was carried out in the order that was chosen -/
structure Rc where
  i : Nat
  o : Oper
  act : Option Bool
  fr : Frm
  h : AH
  v : Value
  h' : AH
  done : List Did
def Rc.s (r : Rc) : Slot := mkS r.act r.v
def Rc.did (P : Program) (r : Rc) : Did := ⟨r.i, r.h.length, r.h'.length, baseOf P r.fr r.o⟩

def Runs (V : Env) (C : Hnd) (lm : Nat) (r : Rc) : Prop := ∀ K, opK V C lm (fun _ _ => none) r.fr r.h r.o r.act K = K r.s r.h'

structure DOk (V : Env) (C : Hnd) (lim : Nat) (ops : Array Oper) (r : Rc) : Prop where
  skip : r.act = some false → r.h' = r.h
  how : (isN V.P r.o = true ∧ Runs V C lim r) ∨
    (isN V.P r.o = false ∧ isA V.P r.o = true ∧ unord V.P ops (ancs ops.toList []) r.i isA (List.range ops.size) = [] ∧ unordD V.P ops (ancs ops.toList []) r.i isN r.done = [] ∧
      ((Runs V C r.h.length r) ∨ (Runs V C lim r ∧ ∀ d ∈ unordD V.P ops (ancs ops.toList []) r.i isL r.done, ∀ b, d.b = some b → r.h'[b]? = r.h[b]?))) ∨
    (isN V.P r.o = false ∧ isA V.P r.o = false ∧ isL V.P r.o = true ∧ Runs V C lim r ∧
      ((unordD V.P ops (ancs ops.toList []) r.i isA r.done = [] ∧ unordD V.P ops (ancs ops.toList []) r.i isN r.done = []) ∨
        ∃ b, baseOf V.P r.fr r.o = some b ∧ (∀ d ∈ unordD V.P ops (ancs ops.toList []) r.i isA r.done, d.m ≤ b) ∧ ∀ d ∈ unordD V.P ops (ancs ops.toList []) r.i isN r.done, b ≠ d.n)) ∨
    (isN V.P r.o = false ∧ isA V.P r.o = false ∧ isL V.P r.o = false ∧ Runs V C lim r)

theorem sameAt_some {h h' : AH} {X : R} {out : Out} : ∀ {l : List Did}, sameAt h h' X l = some out → X = some out ∧ ∀ d ∈ l, ∀ b, d.b = some b → h'[b]? = h[b]?
  | [], e => ⟨e, by simp⟩
  | d :: l, e => by
    simp only [sameAt] at e
    split at e
    · rename_i b hb
      split at e
      · rename_i hq
        obtain ⟨h1, h2⟩ := sameAt_some e
        refine ⟨h1, fun d' hd b' hb' => ?_⟩
        cases hd with
        | head => rw [hb] at hb'; injection hb' with hb'; subst hb'; exact hq
        | tail _ hd => exact h2 d' hd b' hb'
      · cases e
    · rename_i hb
      obtain ⟨h1, h2⟩ := sameAt_some e
      refine ⟨h1, fun d' hd b' hb' => ?_⟩
      cases hd with
      | head => rw [hb] at hb'; cases hb'
      | tail _ hd => exact h2 d' hd b' hb'
theorem freshAt_some {b : Nat} {X : R} {out : Out} : ∀ {l : List Did}, freshAt b X l = some out → X = some out ∧ ∀ d ∈ l, d.m ≤ b
  | [], e => ⟨e, by simp⟩
  | d :: l, e => by
    simp only [freshAt] at e
    split at e
    · rename_i hq
      obtain ⟨h1, h2⟩ := freshAt_some e
      exact ⟨h1, fun d' hd => by cases hd with | head => exact hq | tail _ hd => exact h2 d' hd⟩
    · cases e
theorem otherAt_some {b : Nat} {X : R} {out : Out} : ∀ {l : List Did}, otherAt b X l = some out → X = some out ∧ ∀ d ∈ l, b ≠ d.n
  | [], e => ⟨e, by simp⟩
  | d :: l, e => by
    simp only [otherAt] at e
    split at e
    · cases e
    · rename_i hq
      obtain ⟨h1, h2⟩ := otherAt_some e
      exact ⟨h1, fun d' hd => by cases hd with | head => exact hq | tail _ hd => exact h2 d' hd⟩

section
variable {V : Env} {C : Hnd} {lim : Nat} {hide : Bool} {ops : Array Oper} {out : Out}

theorem dOp_some {done : List Did} {i : Nat} {o : Oper} {act : Option Bool} {fr : Frm} {h : AH} {K : Slot → AH → R} (e : dOp V C lim hide ops (ancs ops.toList []) done i o act fr h K = some out) :
    ∃ v h', K (mkS act v) h' = some out ∧ DOk V C lim ops ⟨i, o, act, fr, h, v, h', done⟩ := by
  simp only [dOp] at e
  split at e
  · rename_i hn
    obtain ⟨v, h', e1, e2, e3⟩ := opK_par e
    exact ⟨v, h', e1, ⟨e2, .inl ⟨hn, e3⟩⟩⟩
  · rename_i hn ha
    split at e
    · rename_i hu1 hu2
      split at e
      · rename_i hl
        obtain ⟨v, h', e1, e2, e3⟩ := opK_par e
        exact ⟨v, h', e1, ⟨e2, .inr (.inl ⟨hn, ha, hu1, hu2, .inr ⟨e3, by rw [hl]; simp⟩⟩)⟩⟩
      · split at e
        · obtain ⟨v, h', e1, e2, e3⟩ := opK_par e
          exact ⟨v, h', e1, ⟨e2, .inr (.inl ⟨hn, ha, hu1, hu2, .inl e3⟩)⟩⟩
        · obtain ⟨v, h', e1, e2, e3⟩ := opK_par e
          obtain ⟨e4, e5⟩ := sameAt_some e1
          exact ⟨v, h', e4, ⟨e2, .inr (.inl ⟨hn, ha, hu1, hu2, .inr ⟨e3, e5⟩⟩)⟩⟩
    · cases e
  · rename_i hn ha hl
    split at e
    · rename_i hu1 hu2
      obtain ⟨v, h', e1, e2, e3⟩ := opK_par e
      exact ⟨v, h', e1, ⟨e2, .inr (.inr (.inl ⟨hn, ha, hl, e3, .inl ⟨hu1, hu2⟩⟩))⟩⟩
    · split at e
      · rename_i b hb
        obtain ⟨e1, q1⟩ := freshAt_some e
        obtain ⟨e1, q2⟩ := otherAt_some e1
        obtain ⟨v, h', e1, e2, e3⟩ := opK_par e1
        exact ⟨v, h', e1, ⟨e2, .inr (.inr (.inl ⟨hn, ha, hl, e3, .inr ⟨b, hb, q1, q2⟩⟩))⟩⟩
      · cases e
  · rename_i hn ha hl
    obtain ⟨v, h', e1, e2, e3⟩ := opK_par e
    exact ⟨v, h', e1, ⟨e2, .inr (.inr (.inr ⟨hn, ha, hl, e3⟩))⟩⟩

/-- what the guard says -/
def GOk (ops : Array Oper) (r : Rc) : Prop :=
  (r.o.guard = none ∧ r.act = none) ∨ ∃ j w d q b, r.o.guard = some (j, w) ∧ (ops[j]?).bind (·.dst) = some d ∧ r.act = some q ∧ (r.fr.getD d E).v = .bool b ∧
    (((r.fr.getD d E).g = true ∧ q = eqW b w) ∨ ((r.fr.getD d E).g = false ∧ (r.fr.getD d E).u = true ∧ q = false))

def Chain (V : Env) (C : Hnd) (lim : Nat) (ops : Array Oper) : List Rc → Frm → List Did → AH → Frm → AH → Prop
  | [], fr, _, h, frn, hn => fr = frn ∧ h = hn
  | r :: rs, fr, done, h, frn, hn => r.fr = fr ∧ r.done = done ∧ r.h = h ∧ ops[r.i]? = some r.o ∧ GOk ops r ∧ DOk V C lim ops r ∧ Chain V C lim ops rs (put fr r.o.dst r.s) (done ++ [r.did V.P]) r.h' frn hn

theorem regD_chain : ∀ (is : List Nat) {fr : Frm} {done : List Did} {h : AH} {K : Frm → AH → R}, regD V C lim hide ops (ancs ops.toList []) is fr done h K = some out →
    ∃ rs frn hn, rs.map (·.i) = is ∧ Chain V C lim ops rs fr done h frn hn ∧ K frn hn = some out
  | [], fr, done, h, K, e => ⟨[], fr, h, rfl, ⟨rfl, rfl⟩, e⟩
  | i :: is, fr, done, h, K, e => by
    simp only [regD] at e
    split at e
    · rename_i o ho
      split at e
      · rename_i hg
        obtain ⟨v, h', e1, d⟩ := dOp_some e
        obtain ⟨rs, frn, hn, q1, q2, q3⟩ := regD_chain is e1
        exact ⟨⟨i, o, none, fr, h, v, h', done⟩ :: rs, frn, hn, by simp [q1], ⟨rfl, rfl, rfl, ho, .inl ⟨hg, rfl⟩, d, q2⟩, q3⟩
      · rename_i j w hg
        split at e
        · rename_i dd hd
          obtain ⟨b, q, g1, g2, g3⟩ := gAct_some e
          obtain ⟨v, h', e1, d⟩ := dOp_some g2
          obtain ⟨rs, frn, hn, q1, q2, q3⟩ := regD_chain is e1
          exact ⟨⟨i, o, some q, fr, h, v, h', done⟩ :: rs, frn, hn, by simp [q1], ⟨rfl, rfl, rfl, ho, .inr ⟨j, w, dd, q, b, hg, hd, rfl, g1, g3⟩, d, q2⟩, q3⟩
        · cases e
    · cases e

theorem Chain.mem {rs : List Rc} : ∀ {fr : Frm} {done : List Did} {h : AH} {frn : Frm} {hn : AH}, Chain V C lim ops rs fr done h frn hn → ∀ r ∈ rs, ops[r.i]? = some r.o ∧ GOk ops r ∧ DOk V C lim ops r := by
  induction rs with
  | nil => intro _ _ _ _ _ _ r hr; cases hr
  | cons x rs ih =>
    intro fr done h frn hn c r hr
    obtain ⟨_, _, _, h1, h2, h3, c⟩ := c
    cases hr with
    | head => exact ⟨h1, h2, h3⟩
    | tail _ hr => exact ih c r hr

/-- a chain in two -/
theorem Chain.split : ∀ (pre : List Rc) {post : List Rc} {fr : Frm} {done : List Did} {h : AH} {frn : Frm} {hn : AH}, Chain V C lim ops (pre ++ post) fr done h frn hn →
    ∃ frm hm, Chain V C lim ops pre fr done h frm hm ∧ Chain V C lim ops post frm (done ++ pre.map (Rc.did V.P)) hm frn hn
  | [], post, fr, done, h, frn, hn, c => ⟨fr, h, ⟨rfl, rfl⟩, by simpa using c⟩
  | r :: pre, post, fr, done, h, frn, hn, c => by
    obtain ⟨h1, h2, h3, h4, h5, h6, c⟩ := c
    obtain ⟨frm, hm, c1, c2⟩ := Chain.split pre c
    exact ⟨frm, hm, ⟨h1, h2, h3, h4, h5, h6, c1⟩, by simpa using c2⟩

/-- the frame when some are done -/
def frD (p : Rc → Bool) (fr : Frm) : List Rc → Frm
  | [] => fr
  | r :: rs => frD p (if p r = true then put fr r.o.dst r.s else fr) rs

theorem frD_append (p : Rc → Bool) : ∀ (a b : List Rc) (fr : Frm), frD p fr (a ++ b) = frD p (frD p fr a) b
  | [], b, fr => rfl
  | r :: a, b, fr => frD_append p a b _

theorem put_len (fr : Frm) (d : Option Tmp) (s : Slot) : (put fr d s).length = fr.length := by cases d <;> simp [put]
theorem put_ne {fr : Frm} {d : Option Tmp} {s : Slot} {t : Nat} (h : d ≠ some t) : (put fr d s)[t]? = fr[t]? := by
  cases d with
  | none => rfl
  | some d => exact List.getElem?_set_ne (fun e => h (by rw [e]))
theorem put_at {fr fr2 : Frm} {d : Option Tmp} {s : Slot} {t : Nat} (hl : fr.length = fr2.length) (e : fr[t]? = fr2[t]?) : (put fr d s)[t]? = (put fr2 d s)[t]? := by
  cases d with
  | none => exact e
  | some d =>
    by_cases h : d = t
    · subst h; simp only [put, List.getElem?_set, hl, if_true]
    · rw [put_ne (by simpa using h), put_ne (by simpa using h)]; exact e
theorem frD_len (p : Rc → Bool) : ∀ (l : List Rc) (fr : Frm), (frD p fr l).length = fr.length
  | [], fr => rfl
  | r :: l, fr => by
    simp only [frD]
    rw [frD_len p l]
    split
    · exact put_len _ _ _
    · rfl
/-- only those matter that write the place -/
theorem frD_agree {p q : Rc → Bool} {t : Nat} : ∀ {l : List Rc} {fr fr2 : Frm}, (∀ r ∈ l, r.o.dst = some t → p r = q r) → fr.length = fr2.length → fr[t]? = fr2[t]? → (frD p fr l)[t]? = (frD q fr2 l)[t]?
  | [], fr, fr2, _, _, e => e
  | r :: l, fr, fr2, hpq, hl, e => by
    simp only [frD]
    refine frD_agree (fun r hr => hpq r (by simp [hr])) ?_ ?_
    · split <;> split <;> simp [put_len, hl]
    · by_cases hd : r.o.dst = some t
      · rw [hpq r (by simp) hd]
        split
        · exact put_at hl e
        · exact e
      · split <;> split <;> first | (simp only [put_ne hd]; exact e) | exact e
theorem frD_none {t : Nat} {p : Rc → Bool} {l : List Rc} {fr : Frm} (h : ∀ r ∈ l, r.o.dst = some t → p r = false) : (frD p fr l)[t]? = fr[t]? := by
  have h1 := frD_agree (p := p) (q := fun _ => false) (t := t) (l := l) (fr := fr) (fr2 := fr) h rfl rfl
  rw [h1]
  have : ∀ (l : List Rc) (fr : Frm), frD (fun _ => false) fr l = fr := by
    intro l
    induction l with
    | nil => intro fr; rfl
    | cons r l ih => intro fr; exact ih _
  rw [this]
theorem Chain.fr_all {rs : List Rc} : ∀ {fr : Frm} {done : List Did} {h : AH} {frn : Frm} {hn : AH}, Chain V C lim ops rs fr done h frn hn → frn = frD (fun _ => true) fr rs := by
  induction rs with
  | nil => intro _ _ _ _ _ c; exact c.1.symm
  | cons r rs ih =>
    intro fr done h frn hn c
    obtain ⟨_, _, _, _, _, _, c⟩ := c
    exact ih c

end
end Go.Abs
namespace Go.Abs
set_option linter.unusedSimpArgs false
set_option linter.unusedVariables false
set_option linter.unusedSectionVars false

theorem wp_get {P : Program} {o : Oper} {a : Act} {w : World} {X : Prop} (h : o.wp P a w (fun _ _ => X) (fun _ _ _ => False)) : X := by
  unfold Oper.wp at h
  generalize (execOp a.eval o).run P w = r at h
  cases r with
  | ok n w' =>
    cases n <;> simp only [Oper.upon] at h <;> first | exact h | exact h.elim | skip
    · obtain ⟨e, w2, fr, hR, _⟩ := h []
      cases e with
      | returned v => exact hR
      | panicked ch => exact hR.elim
      | outgrown => obtain ⟨_, _, hf⟩ := hR; exact hf.elim
    · obtain ⟨v, w2, hR, _⟩ := h default []
      exact hR
  | halt x w' => cases x <;> simp only [Oper.upon] at h

theorem Rel.l0_mono {w0 l0 l1 ι h w} (r : Rel w0 l0 ι h w) (hl : l0 ≤ l1) : Rel w0 l1 ι h w :=
  ⟨r.below, fun id g sz cs e => let ⟨arr, t, fr, q1, q2, q3, q4⟩ := r.row id g sz cs e; ⟨arr, t, fr, q1, q2, q3, fun h1 => q4 (by omega)⟩, r.map, (fun i j a b c d => r.inj i j a b c (by omega)), r.glob⟩
theorem Rel.cap {w0 l0 ι h w} (r : Rel w0 l0 ι h w) : Rel w0 (min l0 h.length) ι h w := by
  refine ⟨r.below, fun id g sz cs e => ?_, r.map, fun i j a b c d => ?_, r.glob⟩
  · obtain ⟨arr, t, fr, q1, q2, q3, q4⟩ := r.row id g sz cs e
    have := (List.getElem?_eq_some_iff.1 e).1
    exact ⟨arr, t, fr, q1, q2, q3, fun h1 => q4 (by omega)⟩
  · have := live_lt b
    exact r.inj i j a b c (by omega)
theorem Step.any {lim ι h w ι' h' w'} (s : Step h.length ι h w ι' h' w') : Step lim ι h w ι' h' w' :=
  ⟨s.compat, fun id _ l => s.ro id (live_lt l) l, s.size, fun b hb _ => s.frame b hb fun id h1 l => absurd (live_lt l) (by omega), s.born⟩

open Classical in
theorem pick_K {A B : Type} (x : A) (y : B) (z : Out) : ∃ K : A → B → R, K x y = some z ∧ ∀ a b, K a b = some z → a = x ∧ b = y := by
  refine ⟨fun a b => if a = x ∧ b = y then some z else none, by simp, fun a b e => ?_⟩
  simp only at e
  split at e
  · assumption
  · cases e

section
variable {V : Env} {C : Hnd} {lim : Nat} {ops : Array Oper}

theorem Runs.only {lm : Nat} {r : Rc} (h : Runs V C lm r) {s : Slot} {h2 : AH} (e : ∀ K out, opK V C lm (fun _ _ => none) r.fr r.h r.o r.act K = some out → K s h2 = some out) : s = r.s ∧ h2 = r.h' := by
  obtain ⟨K, k1, k2⟩ := pick_K r.s r.h' (.ret undef [])
  exact k2 _ _ (e K _ ((h K).trans k1))

theorem Runs.still {lm : Nat} {r : Rc} (h : Runs V C lm r) (e : ∀ K, opK V C lm (fun _ _ => none) r.fr r.h r.o r.act K = opK V C lm (fun _ _ => none) r.fr r.h r.o r.act (fun s _ => K s r.h)) : r.h' = r.h := by
  obtain ⟨K, k1, k2⟩ := pick_K r.s r.h' (.ret undef [])
  have : K r.s r.h = some (.ret undef []) := by
    have h1 := e K
    rw [h K, h] at h1
    rw [← h1]; exact k1
  exact (k2 _ _ this).2.symm

theorem Runs.quiet {lm : Nat} {r : Rc} (h : Runs V C lm r) (hn : isN V.P r.o = false) (ha : isA V.P r.o = false) : r.h' = r.h := by
  refine h.still fun K => ?_
  cases hl : isL V.P r.o with
  | false => exact opK_pure hn ha hl
  | true => exact opK_look hl fun b _ => rfl

/-- in the order that was chosen there is a run -/
theorem canon_step (hF : FnSnd V.P C) {w0 : World} {l0 lm : Nat} {ι : Iota} {w : World} {a : Act} {r : Rc} (hr : Runs V C lm r) (hlm : lm = r.h.length ∨ l0 ≤ lm) (ha : Acts r.act) (R0 : Rel w0 l0 ι r.h w) (f : FR ι r.h r.fr a) :
    ∃ ι' w' a', Rel w0 l0 ι' r.h' w' ∧ FR ι' r.h' (put r.fr r.o.dst r.s) a' ∧ Step lm ι r.h w ι' r.h' w' := by
  have key : ∀ l1, l1 ≤ lm → l1 ≤ l0 → Rel w0 l1 ι r.h w → ∃ ι' w' a', Rel w0 l0 ι' r.h' w' ∧ FR ι' r.h' (put r.fr r.o.dst r.s) a' ∧ Step lm ι r.h w ι' r.h' w' := by
    intro l1 h1 h2 R1
    obtain ⟨K, k1, k2⟩ := pick_K r.s r.h' (.ret undef [])
    refine wp_get (P := V.P) (o := r.o) (a := a) (w := w) ?_
    refine op_sound (V := V) (C := C) (pan := fun _ _ => none) (K := K) (out := .ret undef []) (act := r.act) R1 f ha (fun s h' v' w' ι' ek r1 s1 hg hv => ?_) hF h1 (fun v h' v' w' ι' ep => by cases ep) ((hr K).trans k1)
    obtain ⟨rfl, rfl⟩ := k2 _ _ ek
    refine ⟨ι', w', a.put r.o.dst v', r1.l0_mono h2, (f.mono s1.compat).put (fun _ => hv) (fun h0 => by rw [hg] at h0; cases h0), s1⟩
  rcases hlm with rfl | hlm
  · exact key _ (Nat.min_le_right _ _) (Nat.min_le_left _ _) R0.cap
  · exact key l0 hlm (Nat.le_refl _) R0

/-- a new row at a place -/
def MadeAt (P : Program) (ι : Iota) (S : AH) (w : World) (a : Act) (o : Oper) (sz : Nat) (cs : List Value) (n : Nat) (v : Value) : Prop :=
  ∃ (arr : Array Value) (t : TypeId) (fz : Nat × Nat) (v' : Value) (w' : World), (execOp a.eval o).run P w = .ok (.value v') w' ∧ w'.heap = w.heap.push (.cells arr t fz) ∧ w'.os = w.os ∧ w'.tape = w.tape ∧ w'.output = w.output ∧
    (∀ (i : Nat) v, cs[i]? = some v → ∃ v', arr[i]? = some v' ∧ VR ι S v v' ∧ oneCell v = true) ∧ (∀ i, i < arr.size → ¬ (fz.1 ≤ i ∧ i < fz.2)) ∧ (4294967296 ≤ sz → sz / 4294967296 = t + 1 ∧ (wd sz = 0 → arr.size = cs.length)) ∧
    ∀ (ι' : Iota) (H : AH), H[n]? = some (.row 0 sz cs) → ι' n = ⟨w.heap.size, 0, arr.size⟩ → VR ι' H v v'

/-- what an operation did to memory -/
structure Eff (V : Env) (C : Hnd) (r : Rc) : Prop where
  n : isN V.P r.o = true → r.act ≠ some false → ∃ sz cs v, r.h' = r.h ++ [.row 0 sz cs] ∧ r.s = mkS r.act v ∧
    ∀ (ι : Iota) (S : AH) (w : World) (fr : Frm) (a : Act), FR ι S fr a → (∀ x ∈ r.o.op.operands.toList, slot r.fr x = slot fr x) → MadeAt V.P ι S w a r.o sz cs r.h.length v
  a : isA V.P r.o = true → r.act ≠ some false → r.h.length ≤ r.h'.length ∧ (Runs V C r.h.length r → ∀ id, live r.h id → r.h'[id]? = r.h[id]?)
  q : isN V.P r.o = false → isA V.P r.o = false → r.h' = r.h
  s : r.act = some false → r.h' = r.h

theorem acts_of {act : Option Bool} (h : act ≠ some false) : Acts act := fun q hq => by
  cases q with
  | true => rfl
  | false => exact absurd hq h

theorem DOk.runs {r : Rc} (d : DOk V C lim ops r) : ∃ lm, (lm = lim ∨ lm = r.h.length) ∧ Runs V C lm r := by
  rcases d.how with ⟨_, h⟩ | ⟨_, _, _, _, h | ⟨h, _⟩⟩ | ⟨_, _, _, h, _⟩ | ⟨_, _, _, h⟩
  · exact ⟨_, .inl rfl, h⟩
  · exact ⟨_, .inr rfl, h⟩
  · exact ⟨_, .inl rfl, h⟩
  · exact ⟨_, .inl rfl, h⟩
  · exact ⟨_, .inl rfl, h⟩

theorem eff (hF : FnSnd V.P C) {w0 : World} {l0 : Nat} {ι : Iota} {w : World} {a : Act} {r : Rc} (d : DOk V C lim ops r) (hl0 : l0 ≤ lim) (R0 : Rel w0 l0 ι r.h w) (f : FR ι r.h r.fr a) : Eff V C r := by
  refine ⟨fun hn hact => ?_, fun ha hact => ?_, fun hn ha => ?_, d.skip⟩
  · have hr : Runs V C lim r := by
      rcases d.how with ⟨_, h⟩ | ⟨h, _⟩ | ⟨h, _⟩ | ⟨h, _⟩ <;> first | exact h | (rw [hn] at h; cases h)
    obtain ⟨K, k1, k2⟩ := pick_K r.s r.h' (.ret undef [])
    obtain ⟨sz, cs, mk, e1, _⟩ := made (w := w) f (acts_of hact) hn ((hr K).trans k1)
    obtain ⟨q1, q2⟩ := k2 _ _ e1
    refine ⟨sz, cs, mk r.h.length, q2.symm, q1.symm, fun ι2 S2 w2 fr2 a2 f2 hop => ?_⟩
    have e2 := (hr K).trans k1
    rw [opK_frame hop] at e2
    obtain ⟨sz2, cs2, mk2, e3, m2⟩ := made (w := w2) f2 (acts_of hact) hn e2
    obtain ⟨p1, p2⟩ := k2 _ _ e3
    rw [← p2] at q2
    have hcs : sz2 = sz ∧ cs2 = cs := by
      have := List.append_cancel_left q2
      injection this with this _
      injection this with _ x1 x2
      exact ⟨x1.symm, x2.symm⟩
    obtain ⟨rfl, rfl⟩ := hcs
    have hm : mk2 r.h.length = mk r.h.length := by
      have := p1.trans q1.symm
      rw [← (mkS_g (v := mk2 r.h.length) (acts_of hact)).2, this, (mkS_g (acts_of hact)).2]
    obtain ⟨arr, t, fz, v', w', x1, x2, x3, x4, x5, x6, x7, x9, x8⟩ := m2.ex
    exact ⟨arr, t, fz, v', w', x1, x2, x3, x4, x5, x6, x7, x9, fun ι' H h1 h2 => by rw [← hm]; exact x8 ι' H _ h1 h2⟩
  · obtain ⟨lm, hlm, hr⟩ := d.runs
    obtain ⟨ι', w', a', _, _, s⟩ := canon_step hF hr (hlm.elim (fun h => .inr (h ▸ hl0)) .inl) (acts_of hact) R0 f
    refine ⟨s.compat.len, fun hr2 id l => ?_⟩
    obtain ⟨ι2, w2, a2, _, _, s2⟩ := canon_step hF hr2 (.inl rfl) (acts_of hact) R0 f
    exact (s2.ro id (live_lt l) l).1
  · obtain ⟨lm, hlm, hr⟩ := d.runs
    exact hr.quiet hn ha

end
end Go.Abs
namespace Go.Abs
set_option linter.unusedSimpArgs false
set_option linter.unusedVariables false
set_option linter.unusedSectionVars false

/-- does an operation change an object? -/
def touch (P : Program) (r : Rc) (id : Nat) : Bool :=
  (match r.act with | some false => false | _ => true) && (match isN P r.o with | true => decide (id = r.h.length) | false => isA P r.o && decide (id < r.h'.length))
def heAt (P : Program) (p : Rc → Bool) (id : Nat) : Option AObj → List Rc → Option AObj
  | x, [] => x
  | x, r :: rs => heAt P p id (if (p r && touch P r id) = true then r.h'[id]? else x) rs
def pad (h : AH) (id : Nat) : Option AObj := if id < h.length then h[id]? else some .dead

section
variable {V : Env} {C : Hnd} {lim : Nat} {ops : Array Oper} {P : Program}

theorem heAt_append {p : Rc → Bool} {id : Nat} : ∀ {a b : List Rc} {x : Option AObj}, heAt P p id x (a ++ b) = heAt P p id (heAt P p id x a) b
  | [], b, x => rfl
  | r :: a, b, x => heAt_append (a := a)
theorem heAt_agree {p q : Rc → Bool} {id : Nat} : ∀ {l : List Rc} {x : Option AObj}, (∀ r ∈ l, touch P r id = true → p r = q r) → heAt P p id x l = heAt P q id x l
  | [], x, _ => rfl
  | r :: l, x, h => by
    simp only [heAt]
    rw [heAt_agree (p := p) (q := q) (fun r hr => h r (by simp [hr]))]
    congr 1
    by_cases ht : touch P r id = true
    · rw [h r (by simp) ht]
    · simp [ht]
theorem heAt_none {p : Rc → Bool} {id : Nat} : ∀ {l : List Rc} {x : Option AObj}, (∀ r ∈ l, touch P r id = true → p r = false) → heAt P p id x l = x
  | [], x, _ => rfl
  | r :: l, x, h => by
    simp only [heAt]
    rw [heAt_none (fun r hr => h r (by simp [hr]))]
    by_cases ht : touch P r id = true
    · rw [h r (by simp) ht]; simp
    · simp [ht]

theorem touch_skip {r : Rc} {id : Nat} (h : r.act = some false) : touch P r id = false := by simp [touch, h]
theorem touch_act {r : Rc} {id : Nat} (h : touch P r id = true) : r.act ≠ some false := fun e => by rw [touch_skip e] at h; cases h
theorem touch_N {r : Rc} {id : Nat} (hn : isN P r.o = true) (h : touch P r id = true) : id = r.h.length := by
  simp only [touch, hn, Bool.and_eq_true, decide_eq_true_eq] at h; exact h.2
theorem touch_A {r : Rc} {id : Nat} (hn : isN P r.o = false) (h : touch P r id = true) : isA P r.o = true ∧ id < r.h'.length := by
  simp only [touch, hn, Bool.and_eq_true, decide_eq_true_eq] at h; exact h.2
theorem touch_of_A {r : Rc} {id : Nat} (ha : r.act ≠ some false) (hn : isN P r.o = false) (hA : isA P r.o = true) (hid : id < r.h'.length) : touch P r id = true := by
  have : (match r.act with | some false => false | _ => true) = true := by
    split
    · rename_i h; exact absurd h ha
    · rfl
  simp [touch, this, hn, hA, hid]
theorem touch_of_N {r : Rc} (ha : r.act ≠ some false) (hn : isN P r.o = true) : touch P r r.h.length = true := by
  have : (match r.act with | some false => false | _ => true) = true := by
    split
    · rename_i h; exact absurd h ha
    · rfl
  simp [touch, this, hn]

theorem Eff.len {r : Rc} (e : Eff V C r) : r.h.length ≤ r.h'.length := by
  by_cases hs : r.act = some false
  · rw [e.s hs]; exact Nat.le_refl _
  · cases hn : isN V.P r.o with
    | true => obtain ⟨sz, cs, v, h1, _⟩ := e.n hn hs; rw [h1]; simp
    | false =>
      cases ha : isA V.P r.o with
      | true => exact (e.a ha hs).1
      | false => rw [e.q hn ha]; exact Nat.le_refl _

/-- one operation, in the chosen order -/
theorem Eff.pad {r : Rc} (e : Eff V C r) (id : Nat) : (if touch V.P r id = true then r.h'[id]? else Abs.pad r.h id) = Abs.pad r.h' id := by
  by_cases hs : r.act = some false
  · rw [touch_skip hs, e.s hs]; rfl
  · cases hn : isN V.P r.o with
    | true =>
      obtain ⟨sz, cs, v, h1, _⟩ := e.n hn hs
      split
      · rename_i ht
        have := touch_N hn ht
        unfold Abs.pad
        rw [if_pos (by rw [h1, this]; simp)]
      · rename_i ht
        have hne : id ≠ r.h.length := fun q => by subst q; exact ht (touch_of_N hs hn)
        unfold Abs.pad
        rw [h1]
        by_cases hlt : id < r.h.length
        · rw [if_pos hlt, if_pos (by simp; omega), List.getElem?_append_left hlt]
        · rw [if_neg hlt, if_neg (by simp; omega)]
    | false =>
      cases ha : isA V.P r.o with
      | true =>
        have hl := (e.a ha hs).1
        split
        · rename_i ht
          have := (touch_A hn ht).2
          unfold Abs.pad
          rw [if_pos this]
        · rename_i ht
          have : ¬ id < r.h'.length := fun q => ht (touch_of_A hs hn ha q)
          unfold Abs.pad
          rw [if_neg this, if_neg (by omega)]
      | false =>
        have : touch V.P r id = false := by
          cases h : touch V.P r id with
          | false => rfl
          | true => have := (touch_A hn h).1; rw [ha] at this; cases this
        rw [this, e.q hn ha]; rfl

theorem Chain.replay : ∀ {pre : List Rc} {fr : Frm} {done : List Did} {h : AH} {frn : Frm} {hn : AH}, Chain V C lim ops pre fr done h frn hn → (∀ r ∈ pre, Eff V C r) → ∀ id, heAt V.P (fun _ => true) id (Abs.pad h id) pre = Abs.pad hn id
  | [], fr, done, h, frn, hn, c, _, id => by rw [c.2]; rfl
  | r :: pre, fr, done, h, frn, hn, c, he, id => by
    obtain ⟨_, _, h3, _, _, _, c⟩ := c
    simp only [heAt, Bool.true_and]
    rw [← h3, (he r (by simp)).pad id]
    exact Chain.replay c (fun r hr => he r (by simp [hr])) id

theorem Chain.grows : ∀ {pre : List Rc} {fr : Frm} {done : List Did} {h : AH} {frn : Frm} {hn : AH}, Chain V C lim ops pre fr done h frn hn → (∀ r ∈ pre, Eff V C r) → h.length ≤ hn.length ∧ ∀ r ∈ pre, h.length ≤ r.h.length ∧ r.h'.length ≤ hn.length
  | [], fr, done, h, frn, hn, c, _ => by rw [c.2]; exact ⟨Nat.le_refl _, by simp⟩
  | r :: pre, fr, done, h, frn, hn, c, he => by
    obtain ⟨_, _, h3, _, _, _, c⟩ := c
    have hl := (he r (by simp)).len
    obtain ⟨g1, g2⟩ := Chain.grows c (fun r hr => he r (by simp [hr]))
    rw [h3] at hl
    refine ⟨by omega, fun x hx => ?_⟩
    cases hx with
    | head => rw [h3]; exact ⟨Nat.le_refl _, g1⟩
    | tail _ hx => have := g2 x hx; omega

theorem unord_nil {i : Nat} {f : Program → Oper → Bool} {n : Nat} (h : unord P ops (ancs ops.toList []) i f (List.range n) = []) {j : Nat} {o : Oper} (hj : j < n) (hne : j ≠ i) (ho : ops[j]? = some o) (hf : f P o = true) : Anc ops i j ∨ Anc ops j i := by
  unfold unord at h
  rw [List.filter_eq_nil_iff] at h
  have := h j (List.mem_range.2 hj)
  simp only [hne, ho, hf, ne_eq, not_false_eq_true, decide_true, Option.map_some, Option.getD_some, Bool.true_and, Bool.not_eq_true', Bool.not_eq_false, ordd, Bool.or_eq_true] at this
  exact this
theorem unordD_mem {i : Nat} {f : Program → Oper → Bool} {l : List Did} {d : Did} {o : Oper} (hd : d ∈ l) (hne : d.i ≠ i) (ho : ops[d.i]? = some o) (hf : f P o = true) (hn : ¬ Anc ops i d.i) (hn' : ¬ Anc ops d.i i) : d ∈ unordD P ops (ancs ops.toList []) i f l := by
  unfold unordD
  rw [List.mem_filter]
  refine ⟨hd, ?_⟩
  have h1 : ((ancs ops.toList []).getD i 0).testBit d.i = false := by simpa [Anc] using hn
  have h2 : ((ancs ops.toList []).getD d.i 0).testBit i = false := by simpa [Anc] using hn'
  simp only [hne, ho, hf, ne_eq, not_false_eq_true, decide_true, Option.map_some, Option.getD_some, Bool.true_and, ordd, h1, h2]
  rfl

end
end Go.Abs
namespace Go.Abs
set_option linter.unusedSimpArgs false
set_option linter.unusedVariables false
set_option linter.unusedSectionVars false

/-- an operation that is ready when some are done -/
structure Sit (V : Env) (C : Hnd) (lim : Nat) (ops : Array Oper) (ord : List Nat) (rs : List Rc) (fr0 : Frm) (h0 : AH) (frn : Frm) (hn : AH) (D : Nat → Bool) (pre : List Rc) (r : Rc) (post : List Rc) : Prop where
  dr : Draw ops ord
  hord : rs.map (·.i) = ord
  chain : Chain V C lim ops rs fr0 [] h0 frn hn
  eff : ∀ r ∈ rs, Eff V C r
  split : rs = pre ++ r :: post
  closed : Closed ops (fun i => D i = true)
  notD : D r.i = false
  anc : ∀ j, Anc ops r.i j → D j = true

abbrev pD (D : Nat → Bool) (r : Rc) : Bool := D r.i
abbrev pD' (D : Nat → Bool) (i : Nat) (r : Rc) : Bool := D r.i || decide (r.i = i)

section
variable {V : Env} {C : Hnd} {lim : Nat} {ops : Array Oper} {ord : List Nat} {rs : List Rc} {fr0 : Frm} {h0 : AH} {frn : Frm} {hn : AH} {D : Nat → Bool} {pre : List Rc} {r : Rc} {post : List Rc}
variable (s : Sit V C lim ops ord rs fr0 h0 frn hn D pre r post)
include s

theorem Sit.ords : ord = pre.map (·.i) ++ r.i :: post.map (·.i) := by rw [← s.hord, s.split]; simp
theorem Sit.nodup : (pre.map (·.i) ++ r.i :: post.map (·.i)).Nodup := s.ords ▸ s.dr.nodup
theorem Sit.pre_ne {x : Rc} (hx : x ∈ pre) : x.i ≠ r.i := by
  have := List.nodup_append.1 s.nodup
  exact this.2.2 x.i (List.mem_map.2 ⟨x, hx, rfl⟩) r.i (by simp)
theorem Sit.post_ne {x : Rc} (hx : x ∈ post) : x.i ≠ r.i := by
  have := (List.nodup_append.1 s.nodup).2.1
  have := (List.nodup_cons.1 this).1
  exact fun e => this (e ▸ List.mem_map.2 ⟨x, hx, rfl⟩)
theorem Sit.memR : r ∈ rs := by rw [s.split]; simp
theorem Sit.memPre {x : Rc} (hx : x ∈ pre) : x ∈ rs := by rw [s.split]; simp [hx]
theorem Sit.memPost {x : Rc} (hx : x ∈ post) : x ∈ rs := by rw [s.split]; simp [hx]
theorem Sit.at {x : Rc} (hx : x ∈ rs) : ops[x.i]? = some x.o := (s.chain.mem x hx).1
theorem Sit.lt {x : Rc} (hx : x ∈ rs) : x.i < ops.size := (Array.getElem?_eq_some_iff.1 (s.at hx)).1
/-- what comes before and is in an order with it is done -/
theorem Sit.pre_ord {x : Rc} (hx : x ∈ pre) (h : Anc ops r.i x.i ∨ Anc ops x.i r.i) : D x.i = true := by
  rcases h with h | h
  · exact s.anc _ h
  · obtain ⟨a, b, e⟩ := List.append_of_mem hx
    have : r.i ∈ a.map (·.i) := s.dr.before (pre := a.map (·.i)) (i := x.i) (post := b.map (·.i) ++ r.i :: post.map (·.i)) (by rw [s.ords, e]; simp) h
    obtain ⟨y, hy, hyi⟩ := List.mem_map.1 this
    exact absurd hyi (s.pre_ne (by rw [e]; simp [hy]))
/-- what comes behind and is done is in no order with it -/
theorem Sit.post_un {x : Rc} (hx : x ∈ post) (hd : D x.i = true) : ¬ Anc ops r.i x.i ∧ ¬ Anc ops x.i r.i := by
  refine ⟨fun h => ?_, fun h => ?_⟩
  · have := s.dr.before s.ords h
    obtain ⟨y, hy, hyi⟩ := List.mem_map.1 this
    have hnd := List.nodup_append.1 s.nodup
    exact hnd.2.2 y.i (List.mem_map.2 ⟨y, hy, rfl⟩) x.i (by simp; exact .inr ⟨x, hx, rfl⟩) hyi
  · have : D r.i = true := s.closed x.i (s.lt (s.memPost hx)) hd r.i h
    rw [s.notD] at this; cases this

theorem Sit.chains : ∃ frm hm, Chain V C lim ops pre fr0 [] h0 frm hm ∧ r.fr = frm ∧ r.h = hm ∧ r.done = pre.map (Rc.did V.P) ∧ DOk V C lim ops r ∧ GOk ops r ∧
    Chain V C lim ops post (put r.fr r.o.dst r.s) (pre.map (Rc.did V.P) ++ [r.did V.P]) r.h' frn hn := by
  have c := s.chain
  rw [s.split] at c
  obtain ⟨frm, hm, c1, c2⟩ := Chain.split pre c
  obtain ⟨e1, e2, e3, e4, e5, e6, c2⟩ := c2
  subst e1 e3
  simp only [List.nil_append] at e2 c2
  exact ⟨_, _, c1, rfl, rfl, e2, e6, e5, c2⟩

/-! ### frames -/
theorem Sit.fr_at {t : Nat} (ht : t ∈ r.o.looksAt ops) : (frD (pD D) fr0 rs)[t]? = r.fr[t]? := by
  obtain ⟨frm, hm, c1, e1, _⟩ := s.chains
  rw [s.split, frD_append]
  show (frD (pD D) (if D r.i = true then _ else _) post)[t]? = _
  rw [s.notD, if_neg (by simp), frD_none, e1, c1.fr_all]
  · refine frD_agree (fun x hx hd => ?_) rfl rfl
    by_cases hD : D x.i = true
    · exact hD
    · exfalso
      have hno : ¬ Anc ops r.i x.i := fun h => hD (s.pre_ord hx (.inl h))
      have hno' : ¬ Anc ops x.i r.i := fun h => hD (s.pre_ord hx (.inr h))
      exact (s.dr.order (s.pre_ne hx) (s.at (s.memPre hx)) (s.at s.memR) hno' hno).1 t hd ht
  · intro x hx hd
    by_cases hD : D x.i = true
    · obtain ⟨h1, h2⟩ := s.post_un hx hD
      exact absurd ht ((s.dr.order (s.post_ne hx) (s.at (s.memPost hx)) (s.at s.memR) h2 h1).1 t hd)
    · simpa using hD

theorem Sit.fr_put (t : Nat) : (frD (pD' D r.i) fr0 rs)[t]? = (put (frD (pD D) fr0 rs) r.o.dst r.s)[t]? := by
  have hpre : ∀ x ∈ pre, pD' D r.i x = pD D x := fun x hx => by simp [pD', pD, s.pre_ne hx]
  have hpost : ∀ x ∈ post, pD' D r.i x = pD D x := fun x hx => by simp [pD', pD, s.post_ne hx]
  have key : ∀ t : Nat, (frD (pD' D r.i) fr0 rs)[t]? = (frD (pD D) (put (frD (pD D) fr0 pre) r.o.dst r.s) post)[t]? := by
    intro t
    rw [s.split, frD_append]
    show (frD _ (if pD' D r.i r = true then _ else _) post)[t]? = _
    rw [if_pos (by simp [pD'])]
    refine frD_agree (fun x hx _ => hpost x hx) (by simp [put_len, frD_len]) ?_
    refine put_at (by simp [frD_len]) ?_
    exact frD_agree (fun x hx _ => hpre x hx) rfl rfl
  have hD : frD (pD D) fr0 rs = frD (pD D) (frD (pD D) fr0 pre) post := by
    rw [s.split, frD_append]
    show frD _ (if D r.i = true then _ else _) post = _
    rw [s.notD]; rfl
  rw [key, hD]
  by_cases hd : r.o.dst = some t
  · rw [frD_none]
    · rw [hd]
      simp only [put, List.getElem?_set, if_true, frD_len]
    · intro x hx hx2
      by_cases hD : D x.i = true
      · obtain ⟨h1, h2⟩ := s.post_un hx hD
        exact absurd hd ((s.dr.order (s.post_ne hx) (s.at (s.memPost hx)) (s.at s.memR) h2 h1).2 t hx2)
      · simpa using hD
  · rw [put_ne hd]
    exact frD_agree (fun _ _ _ => rfl) (by simp [put_len, frD_len]) (put_ne hd)

/-! ### memory -/
theorem Sit.post_len {x : Rc} (hx : x ∈ post) : r.h'.length ≤ x.h.length ∧ x.h'.length ≤ hn.length := by
  obtain ⟨frm, hm, c1, e1, e2, e3, e4, e5, c2⟩ := s.chains
  exact (c2.grows (fun r hr => s.eff r (s.memPost hr))).2 x hx
theorem Sit.pre_len {x : Rc} (hx : x ∈ pre) : h0.length ≤ x.h.length ∧ x.h'.length ≤ r.h.length := by
  obtain ⟨frm, hm, c1, e1, e2, e3, e4, e5, c2⟩ := s.chains
  have := (c1.grows (fun r hr => s.eff r (s.memPre hr))).2 x hx
  rw [e2]; exact this
theorem Sit.r_len : h0.length ≤ r.h.length ∧ r.h'.length ≤ hn.length := by
  have := (s.chain.grows s.eff).2 r s.memR
  exact this
theorem Sit.heAt_split (id : Nat) (x : Option AObj) : heAt V.P (pD D) id x rs = heAt V.P (pD D) id (heAt V.P (pD D) id x pre) post := by
  rw [s.split, heAt_append]
  show heAt _ _ _ (if (D r.i && _) = true then _ else _) post = _
  rw [s.notD]; simp
theorem Sit.heAt_split' (id : Nat) (x : Option AObj) : heAt V.P (pD' D r.i) id x rs = heAt V.P (pD D) id (if touch V.P r id = true then r.h'[id]? else heAt V.P (pD D) id x pre) post := by
  have hpre : ∀ x ∈ pre, pD' D r.i x = pD D x := fun x hx => by simp [pD', pD, s.pre_ne hx]
  have hpost : ∀ x ∈ post, pD' D r.i x = pD D x := fun x hx => by simp [pD', pD, s.post_ne hx]
  rw [s.split, heAt_append]
  show heAt _ _ _ (if (pD' D r.i r && _) = true then _ else _) post = _
  rw [heAt_agree (p := pD' D r.i) (q := pD D) (fun x hx _ => hpost x hx), heAt_agree (l := pre) (p := pD' D r.i) (q := pD D) (fun x hx _ => hpre x hx)]
  simp [pD']
theorem Sit.replay (id : Nat) : heAt V.P (fun _ => true) id (pad h0 id) pre = pad r.h id := by
  obtain ⟨frm, hm, c1, e1, e2, e3, e4, e5, c2⟩ := s.chains
  rw [e2]
  exact c1.replay (fun r hr => s.eff r (s.memPre hr)) id

/-- for what calls or writes -/
theorem Sit.heA (hn' : isN V.P r.o = false) (hA : isA V.P r.o = true) (id : Nat) : (id < r.h'.length → heAt V.P (pD D) id (pad h0 id) rs = pad r.h id) := by
  obtain ⟨frm, hm, c1, e1, e2, e3, d, e5, c2⟩ := s.chains
  intro hid
  have hu : unord V.P ops (ancs ops.toList []) r.i isA (List.range ops.size) = [] ∧ unordD V.P ops (ancs ops.toList []) r.i isN r.done = [] := by
    rcases d.how with ⟨h, _⟩ | ⟨_, _, h1, h2, _⟩ | ⟨_, h, _⟩ | ⟨_, h, _⟩
    · rw [hn'] at h; cases h
    · exact ⟨h1, h2⟩
    · rw [hA] at h; cases h
    · rw [hA] at h; cases h
  rw [s.heAt_split, heAt_none, ← s.replay]
  · refine heAt_agree fun x hx ht => ?_
    have hxa := s.at (s.memPre hx)
    cases hxn : isN V.P x.o with
    | false =>
      exact s.pre_ord hx (unord_nil hu.1 (s.lt (s.memPre hx)) (s.pre_ne hx) hxa (touch_A hxn ht).1)
    | true =>
      by_cases h1 : Anc ops r.i x.i
      · exact s.pre_ord hx (.inl h1)
      · by_cases h2 : Anc ops x.i r.i
        · exact s.pre_ord hx (.inr h2)
        · have := unordD_mem (P := V.P) (f := isN) (l := r.done) (d := x.did V.P) (i := r.i) (by rw [e3]; exact List.mem_map.2 ⟨x, hx, rfl⟩) (s.pre_ne hx) hxa hxn h1 h2
          rw [hu.2] at this; cases this
  · intro x hx ht
    have hxa := s.at (s.memPost hx)
    cases hxn : isN V.P x.o with
    | false =>
      by_cases hD : D x.i = true
      · obtain ⟨h1, h2⟩ := s.post_un hx hD
        have := unord_nil hu.1 (s.lt (s.memPost hx)) (s.post_ne hx) hxa (touch_A hxn ht).1
        exact absurd this (fun h => h.elim h1 h2)
      · simpa using hD
    | true =>
      have h1 := touch_N hxn ht
      have h2 := (s.post_len hx).1
      omega

end
end Go.Abs
namespace Go.Abs
set_option linter.unusedSimpArgs false
set_option linter.unusedVariables false
set_option linter.unusedSectionVars false

section
variable {V : Env} {C : Hnd} {lim : Nat} {ops : Array Oper} {ord : List Nat} {rs : List Rc} {fr0 : Frm} {h0 : AH} {frn : Frm} {hn : AH} {D : Nat → Bool} {pre : List Rc} {r : Rc} {post : List Rc}
variable (s : Sit V C lim ops ord rs fr0 h0 frn hn D pre r post)
include s

/-- behind it, no operation that is done touches what was there -/
theorem Sit.post_touch {x : Rc} (hx : x ∈ post) {id : Nat} (hid : id < r.h'.length) (ht : touch V.P x id = true) : isN V.P x.o = false := by
  cases hxn : isN V.P x.o with
  | false => rfl
  | true =>
    have h1 := touch_N hxn ht
    have h2 := (s.post_len hx).1
    omega

/-- for what makes memory -/
theorem Sit.post_noA (hN : isN V.P r.o = true) {x : Rc} (hx : x ∈ post) (hxn : isN V.P x.o = false) (hxA : isA V.P x.o = true) : D x.i = false := by
  cases hD : D x.i with
  | false => rfl
  | true =>
    exfalso
    obtain ⟨h1, h2⟩ := s.post_un hx hD
    obtain ⟨a, b, e⟩ := List.append_of_mem hx
    obtain ⟨frm, hm, c1, e1, e2, e3, d, e5, c2⟩ := s.chains
    rw [e] at c2
    obtain ⟨frm2, hm2, c3, c4⟩ := Chain.split a c2
    obtain ⟨_, q2, _, q4, _, q6, _⟩ := c4
    have hu : unordD V.P ops (ancs ops.toList []) x.i isN x.done = [] := by
      rcases q6.how with ⟨h, _⟩ | ⟨_, _, _, h2, _⟩ | ⟨_, h, _⟩ | ⟨_, h, _⟩
      · rw [hxn] at h; cases h
      · exact h2
      · rw [hxA] at h; cases h
      · rw [hxA] at h; cases h
    have := unordD_mem (P := V.P) (f := isN) (l := x.done) (d := r.did V.P) (i := x.i) (by rw [q2]; simp) (fun h => s.post_ne hx h.symm) (s.at s.memR) hN h2 h1
    rw [hu] at this; cases this

theorem Sit.heN (hN : isN V.P r.o = true) (hs : r.act ≠ some false) : heAt V.P (pD D) r.h.length (pad h0 r.h.length) rs = some .dead := by
  have hr := s.r_len
  have hl := (s.eff r s.memR).len
  rw [s.heAt_split, heAt_none, heAt_none]
  · unfold pad; rw [if_neg (by omega)]
  · intro x hx ht
    exfalso
    have hx2 := (s.pre_len hx).2
    have hxl := (s.eff x (s.memPre hx)).len
    cases hxn : isN V.P x.o with
    | false => have := (touch_A hxn ht).2; omega
    | true =>
      have := touch_N hxn ht
      obtain ⟨sz, cs, v, h1, _⟩ := (s.eff x (s.memPre hx)).n hxn (touch_act ht)
      rw [h1] at hx2; simp at hx2; omega
  · intro x hx ht
    cases hxn : isN V.P x.o with
    | false => exact s.post_noA hN hx hxn (touch_A hxn ht).1
    | true =>
      exfalso
      have h1 := touch_N hxn ht
      have h2 := (s.post_len hx).1
      obtain ⟨sz, cs, v, h3, _⟩ := (s.eff r s.memR).n hN hs
      rw [h3] at h2; simp at h2; omega

/-- for what looks at an object -/
theorem Sit.heL_post {b : Nat} (hL : isL V.P r.o = true) (hb : baseOf V.P r.fr r.o = some b) (hlt : b < r.h'.length) {X : Option AObj} : ∀ (l : List Rc) {fr : Frm} {done : List Did} {h : AH}, Chain V C lim ops l fr done h frn hn → (∃ a, rs = a ++ l) → (∀ x ∈ l, x ∈ post) → r.did V.P ∈ done → b < h.length → live h b → h[b]? = X →
    heAt V.P (pD D) b X l = X
  | [], fr, done, h, c, hsuf, hmem, hdid, hbl, hlv, hX => rfl
  | x :: l, fr, done, h, c, hsuf, hmem, hdid, hbl, hlv, hX => by
    obtain ⟨q1, q2, q3, q4, q5, q6, c⟩ := c
    have hxp := hmem x (by simp)
    have hxr := s.memPost hxp
    have hxl := (s.eff x hxr).len
    have hsuf2 : ∃ a, rs = a ++ l := let ⟨a, ha⟩ := hsuf; ⟨a ++ [x], by rw [ha]; simp⟩
    have next : x.h'[b]? = x.h[b]? → heAt V.P (pD D) b X l = X := fun hq => by
      rw [q3] at hq hxl
      exact Sit.heL_post hL hb hlt l c hsuf2 (fun y hy => hmem y (by simp [hy])) (by simp [hdid]) (by omega) ((live_same hq).2 hlv) (hq.trans hX)
    simp only [heAt]
    by_cases ht : touch V.P x b = true
    · have hxn := s.post_touch hxp hlt ht
      have hxA := (touch_A hxn ht).1
      have how : unord V.P ops (ancs ops.toList []) x.i isA (List.range ops.size) = [] ∧ (Runs V C x.h.length x ∨ ∀ d ∈ unordD V.P ops (ancs ops.toList []) x.i isL x.done, ∀ b, d.b = some b → x.h'[b]? = x.h[b]?) := by
        rcases q6.how with ⟨h, _⟩ | ⟨_, _, h1, h2, h3⟩ | ⟨_, h, _⟩ | ⟨_, h, _⟩
        · rw [hxn] at h; cases h
        · exact ⟨h1, h3.imp id And.right⟩
        · rw [hxA] at h; cases h
        · rw [hxA] at h; cases h
      cases hD : D x.i with
      | true =>
        obtain ⟨h1, h2⟩ := s.post_un hxp hD
        have hq : x.h'[b]? = x.h[b]? := by
          rcases how.2 with h3 | h3
          · exact ((s.eff x hxr).a hxA (touch_act ht)).2 h3 b (by rw [q3]; exact hlv)
          · exact h3 (r.did V.P) (unordD_mem (by rw [q2]; exact hdid) (fun h => s.post_ne hxp h.symm) (s.at s.memR) hL h2 h1) b hb
        have : (if (pD D x && touch V.P x b) = true then x.h'[b]? else X) = X := by
          simp only [pD, hD, ht, Bool.and_self, if_true]
          rw [hq, q3, hX]
        rw [this]
        exact next hq
      | false =>
        have : (if (pD D x && touch V.P x b) = true then x.h'[b]? else X) = X := by simp [pD, hD]
        rw [this]
        refine heAt_none fun y hy hty => ?_
        have hyp := hmem y (by simp [hy])
        have hyr := s.memPost hyp
        have hyn := s.post_touch hyp hlt hty
        have hyA := (touch_A hyn hty).1
        cases hDy : D y.i with
        | false => exact hDy
        | true =>
          exfalso
          obtain ⟨a, ha⟩ := hsuf
          have hor : ord = a.map (·.i) ++ x.i :: l.map (·.i) := by rw [← s.hord, ha]; simp
          have hnd : (a.map (·.i) ++ x.i :: l.map (·.i)).Nodup := hor ▸ s.dr.nodup
          have hyx : y.i ∈ l.map (·.i) := List.mem_map.2 ⟨y, hy, rfl⟩
          have hne : x.i ≠ y.i := fun h => (List.nodup_cons.1 (List.nodup_append.1 hnd).2.1).1 (h ▸ hyx)
          have := unord_nil how.1 (s.lt hyr) hne.symm (s.at hyr) hyA
          rcases this with h | h
          · have := s.dr.before hor h
            exact (List.nodup_append.1 hnd).2.2 _ this y.i (by simp [hyx]) rfl
          · have : D x.i = true := s.closed y.i (s.lt hyr) hDy x.i h
            rw [hD] at this; cases this
    · have : (if (pD D x && touch V.P x b) = true then x.h'[b]? else X) = X := by simp [ht]
      rw [this]
      refine next ?_
      have := (s.eff x hxr).pad b
      rw [if_neg ht] at this
      unfold pad at this
      rw [q3] at hxl ⊢
      rw [q3, if_pos hbl, if_pos (by omega)] at this
      exact this.symm

theorem Sit.heL (hN : isN V.P r.o = false) (hA : isA V.P r.o = false) (hL : isL V.P r.o = true) {b : Nat} (hb : baseOf V.P r.fr r.o = some b) (hlv : live r.h b) : heAt V.P (pD D) b (pad h0 b) rs = r.h[b]? := by
  have hq := (s.eff r s.memR).q hN hA
  have hlt := live_lt hlv
  obtain ⟨frm, hm, c1, e1, e2, e3, d, e5, c2⟩ := s.chains
  have hpre : heAt V.P (pD D) b (pad h0 b) pre = r.h[b]? := by
    have := s.replay b
    rw [show pad r.h b = r.h[b]? from if_pos hlt] at this
    rw [← this]
    refine heAt_agree fun x hx ht => ?_
    have hxa := s.at (s.memPre hx)
    show D x.i = true
    cases hD : D x.i with
    | true => rfl
    | false =>
      exfalso
      have h1 : ¬ Anc ops r.i x.i := fun h => by rw [s.pre_ord hx (.inl h)] at hD; cases hD
      have h2 : ¬ Anc ops x.i r.i := fun h => by rw [s.pre_ord hx (.inr h)] at hD; cases hD
      have hin : x.did V.P ∈ r.done := by rw [e3]; exact List.mem_map.2 ⟨x, hx, rfl⟩
      have hrule : (unordD V.P ops (ancs ops.toList []) r.i isA r.done = [] ∧ unordD V.P ops (ancs ops.toList []) r.i isN r.done = []) ∨
          ∃ b, baseOf V.P r.fr r.o = some b ∧ (∀ d ∈ unordD V.P ops (ancs ops.toList []) r.i isA r.done, d.m ≤ b) ∧ ∀ d ∈ unordD V.P ops (ancs ops.toList []) r.i isN r.done, b ≠ d.n := by
        rcases d.how with ⟨h, _⟩ | ⟨_, h, _⟩ | ⟨_, _, _, _, h⟩ | ⟨_, _, h, _⟩
        · rw [hN] at h; cases h
        · rw [hA] at h; cases h
        · exact h
        · rw [hL] at h; cases h
      cases hxn : isN V.P x.o with
      | false =>
        obtain ⟨hxA, hxb⟩ := touch_A hxn ht
        have hmem := unordD_mem (P := V.P) (f := isA) (l := r.done) (d := x.did V.P) (i := r.i) hin (s.pre_ne hx) hxa hxA h1 h2
        rcases hrule with ⟨h3, _⟩ | ⟨b', hb', h3, _⟩
        · rw [h3] at hmem; cases hmem
        · rw [hb] at hb'; injection hb' with hb'; subst hb'
          have := h3 _ hmem
          simp only [Rc.did] at this
          omega
      | true =>
        have hxb := touch_N hxn ht
        have hmem := unordD_mem (P := V.P) (f := isN) (l := r.done) (d := x.did V.P) (i := r.i) hin (s.pre_ne hx) hxa hxn h1 h2
        rcases hrule with ⟨_, h3⟩ | ⟨b', hb', _, h3⟩
        · rw [h3] at hmem; cases hmem
        · rw [hb] at hb'; injection hb' with hb'; subst hb'
          exact h3 _ hmem hxb
  rw [s.heAt_split, hpre]
  exact s.heL_post hL hb (by rw [hq]; exact hlt) post c2 ⟨pre ++ [r], by rw [s.split]; simp⟩ (fun x hx => hx) (by simp) (by rw [hq]; exact hlt) (by rw [hq]; exact hlv) (by rw [hq])

/-- memory with one more done -/
theorem Sit.he_put (id : Nat) (hq : touch V.P r id = true → ∀ x ∈ post, touch V.P x id = true → D x.i = false) : heAt V.P (pD' D r.i) id (pad h0 id) rs = if touch V.P r id = true then r.h'[id]? else heAt V.P (pD D) id (pad h0 id) rs := by
  rw [s.heAt_split']
  by_cases ht : touch V.P r id = true
  · rw [if_pos ht, if_pos ht]
    exact heAt_none fun x hx htx => hq ht x hx htx
  · rw [if_neg ht, if_neg ht, s.heAt_split]

end
end Go.Abs
namespace Go.Abs
set_option linter.unusedSimpArgs false
set_option linter.unusedVariables false
set_option linter.unusedSectionVars false

/-- more room for objects -/
theorem Rel.wide {w0 l0 lim ι h S w} (r : Rel w0 l0 ι h w) (hlen : h.length ≤ S.length) (h1 : ∀ id, live h id → S[id]? = h[id]?) (h2 : ∀ id, live S id → live h id) : Rel w0 l0 ι S w ∧ Step lim ι h w ι S w := by
  have hc : Compat ι h ι S := by
    refine ⟨hlen, fun id l => (live_same (h1 id l)).2 l, fun id l g' sz' cs' e => ?_, fun id l es' e => ?_⟩
    · rw [h1 id l] at e; exact ⟨g', _, cs', e, Nat.le_refl _, fun _ => ⟨rfl, rfl⟩⟩
    · rw [h1 id l] at e; exact ⟨es', e, rfl⟩
  refine ⟨⟨r.below, fun id g sz cs e => ?_, fun id es e => ?_, fun i j hij li lj hi => r.inj i j hij (h2 i li) (h2 j lj) hi, r.glob⟩, hc, fun id _ l => ⟨h1 id l, rfl⟩, Nat.le_refl _, fun _ _ _ => rfl, fun id l => .inl ⟨h2 id l, rfl⟩⟩
  · have l : live h id := h2 id (.inl ⟨_, _, _, e⟩)
    rw [h1 id l] at e
    obtain ⟨arr, t, fr, q1, q2, q3, q4⟩ := r.row id g sz cs e
    exact ⟨arr, t, fr, q1, q2, fun i v ev => let ⟨v', z1, z2, z3⟩ := q3 i v ev; ⟨v', z1, z2.mono hc, z3⟩, q4⟩
  · have l : live h id := h2 id (.inr ⟨_, e⟩)
    rw [h1 id l] at e
    obtain ⟨q0, en, cl, q1, q2, q3⟩ := r.map id es e
    exact ⟨q0, en, cl, q1, q2, fun i k v ev => let ⟨x, z1, z2, z3⟩ := q3 i k v ev; ⟨x, z1, z2.mono hc, z3.mono hc⟩⟩

section
variable {V : Env} {C : Hnd} {lim : Nat} {ops : Array Oper}

theorem FR.skip {ι h fr a} (f : FR ι h fr a) (d : Option Tmp) (v : Value) : FR ι h (Abs.put fr d (mkS (some false) v)) (a.put d undef) :=
  f.put (s := mkS (some false) v) (fun h0 => by cases h0) (fun _ _ => rfl)

/-- all that the chosen order did -/
theorem canon_all (hF : FnSnd V.P C) {w0 : World} {l0 : Nat} (hl0 : l0 ≤ lim) : ∀ {rs : List Rc} {fr : Frm} {done : List Did} {h : AH} {frn : Frm} {hn : AH} {ι : Iota} {w : World} {a : Act}, Chain V C lim ops rs fr done h frn hn → Rel w0 l0 ι h w → FR ι h fr a →
    ∀ r ∈ rs, Eff V C r ∧ ∃ ι w a, Rel w0 l0 ι r.h w ∧ FR ι r.h r.fr a
  | [], fr, done, h, frn, hn, ι, w, a, c, R0, f => by simp
  | x :: rs, fr, done, h, frn, hn, ι, w, a, c, R0, f => by
    obtain ⟨q1, q2, q3, q4, q5, q6, c⟩ := c
    subst q1 q3
    have he := eff hF q6 hl0 R0 f
    intro r hr
    have rest : ∃ ι' w' a', Rel w0 l0 ι' x.h' w' ∧ FR ι' x.h' (put x.fr x.o.dst x.s) a' := by
      by_cases hs : x.act = some false
      · refine ⟨ι, w, a.put x.o.dst undef, ?_, ?_⟩
        · rw [he.s hs]; exact R0
        · rw [he.s hs]
          have := f.skip x.o.dst x.v
          unfold Rc.s; rw [hs]; exact this
      · obtain ⟨lm, hlm, hr⟩ := q6.runs
        obtain ⟨ι', w', a', z1, z2, _⟩ := canon_step hF hr (hlm.elim (fun h => .inr (h ▸ hl0)) .inl) (acts_of hs) R0 f
        exact ⟨ι', w', a', z1, z2⟩
    cases hr with
    | head => exact ⟨he, ι, w, a, R0, f⟩
    | tail _ hr =>
      obtain ⟨ι', w', a', z1, z2⟩ := rest
      exact canon_all hF hl0 c z1 z2 r hr

theorem heAt_some {p : Rc → Bool} {id : Nat} : ∀ {l : List Rc} {x : Option AObj}, (∀ r ∈ l, Eff V C r) → x.isSome = true → (heAt V.P p id x l).isSome = true
  | [], x, _, h => h
  | r :: l, x, he, h => by
    simp only [heAt]
    refine heAt_some (fun r hr => he r (by simp [hr])) ?_
    split
    · rename_i hc
      simp only [Bool.and_eq_true] at hc
      have e := he r (by simp)
      have hlt : id < r.h'.length := by
        cases hn : isN V.P r.o with
        | false => exact (touch_A hn hc.2).2
        | true =>
          have := touch_N hn hc.2
          obtain ⟨sz, cs, v, h1, _⟩ := e.n hn (touch_act hc.2)
          rw [h1]; simp; omega
      simp [hlt]
    · exact h
theorem pad_some (h : AH) (id : Nat) : (pad h id).isSome = true := by
  unfold pad
  split
  · rename_i hl; simp [hl]
  · rfl

/-- memory when some are done -/
def HL (P : Program) (D : Nat → Bool) (h0 : AH) (rs : List Rc) (n : Nat) : AH := (List.range n).map fun id => (heAt P (pD D) id (pad h0 id) rs).getD .dead
theorem HL_len {P : Program} {D : Nat → Bool} {h0 : AH} {rs : List Rc} {n : Nat} : (HL P D h0 rs n).length = n := by simp [HL]
theorem HL_get {D : Nat → Bool} {h0 : AH} {rs : List Rc} {n : Nat} (he : ∀ r ∈ rs, Eff V C r) {id : Nat} (hid : id < n) : (HL V.P D h0 rs n)[id]? = heAt V.P (pD D) id (pad h0 id) rs := by
  have hs := heAt_some (p := pD D) (id := id) he (pad_some h0 id)
  unfold HL
  rw [List.getElem?_map, List.getElem?_range hid]
  simp only [Option.map_some]
  cases h : heAt V.P (pD D) id (pad h0 id) rs with
  | none => rw [h] at hs; cases hs
  | some x => rfl
theorem HL_out {P : Program} {D : Nat → Bool} {h0 : AH} {rs : List Rc} {n : Nat} {id : Nat} (hid : n ≤ id) : (HL P D h0 rs n)[id]? = none := List.getElem?_eq_none (by rw [HL_len]; exact hid)

def isT (t : Nat) : Operand → Bool | .tmp t' => t' == t | _ => false
/-- only what the operation needs -/
def keep (o : Oper) (fr : Frm) : Frm := fr.zipIdx.map fun p => if o.op.operands.toList.any (isT p.2) then p.1 else E
theorem keep_get {o : Oper} {fr : Frm} {t : Nat} : (keep o fr)[t]? = (fr[t]?).map fun s => if o.op.operands.toList.any (isT t) then s else E := by
  unfold keep
  rw [List.getElem?_map, List.getElem?_zipIdx]
  cases fr[t]? <;> simp
theorem keep_slot {o : Oper} {fr : Frm} {x : Operand} (hx : x ∈ o.op.operands.toList) : slot (keep o fr) x = slot fr x := by
  cases x with
  | tmp t =>
    simp only [slot, List.getD_eq_getElem?_getD, keep_get]
    have : o.op.operands.toList.any (isT t) = true := by
      rw [List.any_eq_true]
      exact ⟨_, hx, by simp [isT]⟩
    rw [this]
    cases fr[t]? <;> rfl
  | _ => rfl

theorem slot_eq {fr fr2 : Frm} {o : Oper} (h : ∀ t ∈ o.looksAt ops, fr[t]? = fr2[t]?) : ∀ x ∈ o.op.operands.toList, slot fr x = slot fr2 x := by
  intro x hx
  cases x with
  | tmp t =>
    have : t ∈ o.looksAt ops := by
      unfold Oper.looksAt
      rw [List.mem_append]
      left
      rw [List.mem_filterMap]
      exact ⟨.tmp t, hx, rfl⟩
    simp only [slot, List.getD_eq_getElem?_getD, h t this]
  | _ => rfl

end
end Go.Abs
namespace Go.Abs
set_option linter.unusedSimpArgs false
set_option linter.unusedVariables false
set_option linter.unusedSectionVars false

theorem VR.base {ι h v v'} (r : VR ι h v v') {b : Nat} (e : baseId v = some b) : live h b := by
  cases r <;> simp [baseId] at e <;> subst e <;> assumption

section
variable {V : Env} {C : Hnd} {lim : Nat} {ops : Array Oper}

theorem base_live {lm : Nat} {r : Rc} (hr : Runs V C lm r) (hact : r.act ≠ some false) (hL : isL V.P r.o = true) {ι : Iota} {a : Act} (f : FR ι r.h r.fr a) {b : Nat} (hb : baseOf V.P r.fr r.o = some b) : live r.h b := by
  obtain ⟨K, k1, k2⟩ := pick_K r.s r.h' (.ret undef [])
  have e := (hr K).trans k1
  have ha := acts_of hact
  have key : ∀ x xs, r.o.op.operands.toList = x :: xs → (slot r.fr x).g = true → live r.h b := by
    intro x xs hx hg
    refine (slot_sound f hg).base ?_
    simp only [baseOf, hL, hx] at hb
    exact hb
  unfold opK at e
  cases ho : r.o.op with
  | load t x =>
    rw [ho] at e
    exact key x [] (by simp [ho, Op.operands]) (use_some ha e).1
  | slice t x lo hi mx =>
    rw [ho] at e
    exact key x (lo.toArray ++ hi.toArray ++ mx.toArray).toList (by simp [ho, Op.operands]) (use_some ha (chk_some e).2).1
  | convert s d x =>
    rw [ho] at e
    exact key x [] (by simp [ho, Op.operands]) (use_some ha e).1
  | lookup t x i ok => rw [ho] at e; cases e
  | _ => simp [isL, ho] at hL

def addD (D : Nat → Bool) (i : Nat) : Nat → Bool := fun j => D j || decide (j = i)

structure Inv (V : Env) (w0 : World) (l0 lim : Nat) (ιi : Iota) (h0 : AH) (wi : World) (fr0 : Frm) (rs : List Rc) (n : Nat) (D : Nat → Bool) (a : Act) (w : World) : Prop where
  ex : ∃ ι, Rel w0 l0 ι (HL V.P D h0 rs n) w ∧ Step lim ιi h0 wi ι (HL V.P D h0 rs n) w ∧ FR ι (HL V.P D h0 rs n) (frD (pD D) fr0 rs) a
  defers : a.defers = []

variable {ord : List Nat} {rs : List Rc} {fr0 : Frm} {h0 : AH} {frn : Frm} {hn : AH} {D : Nat → Bool} {pre : List Rc} {r : Rc} {post : List Rc}
variable (s : Sit V C lim ops ord rs fr0 h0 frn hn D pre r post)
include s

theorem Sit.frames : frD (pD (addD D r.i)) fr0 rs = put (frD (pD D) fr0 rs) r.o.dst r.s := List.ext_getElem? fun t => s.fr_put t

theorem Sit.same (h : ∀ id, touch V.P r id = false) : HL V.P (addD D r.i) h0 rs hn.length = HL V.P D h0 rs hn.length := by
  unfold HL
  refine List.map_congr_left fun id _ => ?_
  have := s.he_put id (fun ht => by rw [h id] at ht; cases ht)
  rw [if_neg (by rw [h id]; simp)] at this
  exact congrArg (·.getD AObj.dead) this

theorem Sit.slots : ∀ x ∈ r.o.op.operands.toList, slot (frD (pD D) fr0 rs) x = slot r.fr x := slot_eq (fun t ht => s.fr_at ht)

/-- is it wanted? -/
theorem Sit.wanted {ι : Iota} {S : AH} {a : Act} (f : FR ι S (frD (pD D) fr0 rs) a) : Region.wanted r.o (yielded ops a.tmps) = (match r.act with | some false => false | _ => true) := by
  obtain ⟨frm, hm, c1, e1, e2, e3, d, g, c2⟩ := s.chains
  rcases g with ⟨g1, g2⟩ | ⟨j, w, dd, q, b, g1, g2, g3, g4, g5⟩
  · rw [g2]; simp [Region.wanted, g1]
  · have ht : dd ∈ r.o.looksAt ops := by
      unfold Oper.looksAt
      rw [List.mem_append]
      right
      simp [g1, g2]
    have hs := s.fr_at ht
    have hq : (frD (pD D) fr0 rs).getD dd E = r.fr.getD dd E := by simp only [List.getD_eq_getElem?_getD, hs]
    have : gAct ((frD (pD D) fr0 rs).getD dd E) w (fun q' => some (.ret (.bool q') [])) = some (.ret (.bool q) []) := by
      rw [hq]
      generalize r.fr.getD dd E = sl at *
      unfold gAct
      rw [g4]
      rcases g5 with ⟨x1, x2⟩ | ⟨x1, x2, x3⟩
      · cases hu : sl.u
        · simp only [x1, x2, chk]
        · simp only [x1, x2]
      · simp only [x1, x2, x3]
    obtain ⟨q', z1, z2⟩ := wanted_some f g1 g2 this
    rw [z2, g3]
    injection z1 with z1; injection z1 with z1 _; injection z1 with z1
    rw [z1]
    cases q <;> rfl

variable (hF : FnSnd V.P C) {w0 : World} {l0 : Nat} (hl0 : l0 ≤ lim) {ιi : Iota} {wi : World} {Q : Exit → Act → World → Prop}
include hF hl0

/-- what neither makes memory nor calls nor writes -/
theorem Sit.do_still (hN : isN V.P r.o = false) (hA : isA V.P r.o = false) (hact : r.act ≠ some false) (hcan : ∃ ι w a, Rel w0 l0 ι r.h w ∧ FR ι r.h r.fr a) {a : Act} {w : World} (I : Inv V w0 l0 lim ιi h0 wi fr0 rs hn.length D a w) :
    r.o.wp V.P a w (fun a w => Inv V w0 l0 lim ιi h0 wi fr0 rs hn.length (addD D r.i) a w) Q := by
  obtain ⟨⟨ι, R0, S0, f⟩, hd⟩ := I
  obtain ⟨frm, hm, c1, e1, e2, e3, d, g, c2⟩ := s.chains
  have hr : Runs V C lim r := by
    rcases d.how with ⟨h, _⟩ | ⟨_, h, _⟩ | ⟨_, _, _, h, _⟩ | ⟨_, _, _, h⟩
    · rw [hN] at h; cases h
    · rw [hA] at h; cases h
    · exact h
    · exact h
  have hop : ∀ K, opK V C lim (fun _ _ => none) (frD (pD D) fr0 rs) (HL V.P D h0 rs hn.length) r.o r.act K = K r.s (HL V.P D h0 rs hn.length) := by
    intro K
    rw [opK_frame (fr2 := r.fr) s.slots]
    cases hL : isL V.P r.o with
    | false => rw [opK_pure (h2 := r.h) hN hA hL]; exact hr _
    | true =>
      rw [opK_look (h2 := r.h) hL]
      · exact hr _
      · intro b hb
        obtain ⟨ιc, wc, ac, Rc, fc⟩ := hcan
        have hlv := base_live hr hact hL fc hb
        rw [HL_get s.eff (Nat.lt_of_lt_of_le (live_lt hlv) (Nat.le_trans (s.eff r s.memR).len s.r_len.2)), s.heL hN hA hL hb hlv]
  obtain ⟨K, k1, k2⟩ := pick_K r.s (HL V.P D h0 rs hn.length) (.ret undef [])
  refine op_sound (V := V) (C := C) (pan := fun _ _ => none) (K := K) (out := .ret undef []) (act := r.act) R0 f (acts_of hact) (fun sl h' v' w' ι' ek r1 s1 hg hv => ?_) hF hl0 (fun v h' v' w' ι' ep => by cases ep) ((hop K).trans k1)
  obtain ⟨rfl, rfl⟩ := k2 _ _ ek
  have ht : ∀ id, touch V.P r id = false := fun id => by
    cases h : touch V.P r id with
    | false => rfl
    | true => have := (touch_A hN h).1; rw [hA] at this; cases this
  refine ⟨⟨ι', ?_, ?_, ?_⟩, by rw [put_defers']; exact hd⟩
  · rw [s.same ht]; exact r1
  · rw [s.same ht]; exact S0.trans s1
  · rw [s.same ht, s.frames]
    exact (f.mono s1.compat).put (fun _ => hv) (fun h0 => by rw [hg] at h0; cases h0)

/-- what makes memory -/
theorem Sit.do_make (hN : isN V.P r.o = true) (hact : r.act ≠ some false) {a : Act} {w : World} (I : Inv V w0 l0 lim ιi h0 wi fr0 rs hn.length D a w) :
    r.o.wp V.P a w (fun a w => Inv V w0 l0 lim ιi h0 wi fr0 rs hn.length (addD D r.i) a w) Q := by
  obtain ⟨⟨ι, R0, S0, f⟩, hd⟩ := I
  obtain ⟨sz, cs, v, h1, h2, h3⟩ := (s.eff r s.memR).n hN hact
  obtain ⟨arr, t, fz, v', w', x1, x2, x3, x4, x5, x6, x7, x9, x8⟩ := h3 ι _ w _ a f (fun x hx => (s.slots x hx).symm)
  have hlt : r.h.length < hn.length := by have := s.r_len.2; rw [h1] at this; simp at this; omega
  have hdead : (HL V.P D h0 rs hn.length)[r.h.length]? = some .dead := by rw [HL_get s.eff hlt]; exact s.heN hN hact
  obtain ⟨ι', y1, y2, y3⟩ := R0.fill (lim := lim) (sz := sz) (cs := cs) hdead x2 x3 x4 x5 x6 x7 x9
  have hset : HL V.P (addD D r.i) h0 rs hn.length = (HL V.P D h0 rs hn.length).set r.h.length (.row 0 sz cs) := by
    apply List.ext_getElem?
    intro id
    by_cases hid : id < hn.length
    · rw [HL_get s.eff hid]
      have := s.he_put id (fun ht x hx htx => by
        have hq := touch_N hN ht
        cases hxn : isN V.P x.o with
        | false => exact s.post_noA hN hx hxn (touch_A hxn htx).1
        | true =>
          exfalso
          have z1 := touch_N hxn htx
          have z2 := (s.post_len hx).1
          rw [h1] at z2; simp at z2; omega)
      refine this.trans ?_
      by_cases hq : id = r.h.length
      · subst hq
        rw [if_pos (touch_of_N hact hN), List.getElem?_set_self (by rw [HL_len]; exact hid), h1]
        simp
      · rw [if_neg (fun ht => hq (touch_N hN ht)), List.getElem?_set_ne (fun h => hq h.symm), HL_get s.eff hid]
    · rw [HL_out (by omega), List.getElem?_eq_none (by rw [List.length_set, HL_len]; omega)]
  unfold Oper.wp
  rw [x1, Oper.upon_value]
  refine ⟨⟨ι', ?_, ?_, ?_⟩, by rw [put_defers']; exact hd⟩
  · rw [hset]; exact y2
  · rw [hset]; exact S0.trans y3
  · rw [hset, s.frames]
    refine (f.mono y3.compat).put (fun _ => ?_) (fun h0 => by rw [h2, (mkS_g (acts_of hact)).1] at h0; cases h0)
    rw [h2, (mkS_g (acts_of hact)).2]
    exact x8 ι' _ (List.getElem?_set_self (by rw [HL_len]; exact hlt)) y1

end
end Go.Abs
namespace Go.Abs
set_option linter.unusedSimpArgs false
set_option linter.unusedVariables false
set_option linter.unusedSectionVars false

section
variable {V : Env} {C : Hnd} {lim : Nat} {ops : Array Oper}
variable {ord : List Nat} {rs : List Rc} {fr0 : Frm} {h0 : AH} {frn : Frm} {hn : AH} {D : Nat → Bool} {pre : List Rc} {r : Rc} {post : List Rc}
variable (s : Sit V C lim ops ord rs fr0 h0 frn hn D pre r post)
include s
variable (hF : FnSnd V.P C) {w0 : World} {l0 : Nat} (hl0 : l0 ≤ lim) {ιi : Iota} {wi : World} {Q : Exit → Act → World → Prop}
include hF hl0

/-- what calls or writes -/
theorem Sit.do_call (hN : isN V.P r.o = false) (hA : isA V.P r.o = true) (hact : r.act ≠ some false) (hcan : ∃ ι w a, Rel w0 l0 ι r.h w ∧ FR ι r.h r.fr a) {a : Act} {w : World} (I : Inv V w0 l0 lim ιi h0 wi fr0 rs hn.length D a w) :
    r.o.wp V.P a w (fun a w => Inv V w0 l0 lim ιi h0 wi fr0 rs hn.length (addD D r.i) a w) Q := by
  obtain ⟨⟨ι, R0, S0, f⟩, hd⟩ := I
  obtain ⟨ιc, wc, ac, Rc, fc⟩ := hcan
  obtain ⟨frm, hm, c1, e1, e2, e3, d, g, c2⟩ := s.chains
  have hrl := s.r_len
  have hll := (s.eff r s.memR).len
  obtain ⟨hu, lm, hlm, hr⟩ : unord V.P ops (ancs ops.toList []) r.i isA (List.range ops.size) = [] ∧ ∃ lm, (lm = r.h.length ∨ lm = lim) ∧ Runs V C lm r := by
    rcases d.how with ⟨h, _⟩ | ⟨_, _, h1, _, h2 | ⟨h2, _⟩⟩ | ⟨_, h, _⟩ | ⟨_, h, _⟩
    · rw [hN] at h; cases h
    · exact ⟨h1, _, .inl rfl, h2⟩
    · exact ⟨h1, _, .inr rfl, h2⟩
    · rw [hA] at h; cases h
    · rw [hA] at h; cases h
  have hs : ∀ id, id < r.h.length → (HL V.P D h0 rs hn.length)[id]? = r.h[id]? := fun id hid => by
    rw [HL_get s.eff (by omega), s.heA hN hA id (by omega), pad, if_pos hid]
  have hh : ∀ id, r.h.length ≤ id → id < r.h'.length → (HL V.P D h0 rs hn.length)[id]? = some .dead := fun id h1 h2 => by
    rw [HL_get s.eff (by omega), s.heA hN hA id h2, pad, if_neg (by omega)]
  have Rh : Rel w0 l0 ι r.h w := R0.sub Rc fun id l => hs id (live_lt l)
  have fh : FR ι r.h (keep r.o (frD (pD D) fr0 rs)) a := by
    refine ⟨by simp [keep, f.len], fun t sl e => ?_⟩
    rw [keep_get, Option.map_eq_some_iff] at e
    obtain ⟨sl0, z1, z2⟩ := e
    split at z2
    · rename_i hc
      subst z2
      obtain ⟨y1, y2⟩ := f.val t sl0 z1
      refine ⟨fun hg => ?_, y2⟩
      have hmem : (.tmp t : Operand) ∈ r.o.op.operands.toList := by
        rw [List.any_eq_true] at hc
        obtain ⟨x, hx, hxt⟩ := hc
        cases x <;> simp [isT] at hxt
        subst hxt; exact hx
      have ht : t ∈ r.o.looksAt ops := by
        unfold Oper.looksAt
        rw [List.mem_append]
        left
        rw [List.mem_filterMap]
        exact ⟨.tmp t, hmem, rfl⟩
      have := s.fr_at ht
      rw [z1] at this
      exact (y1 hg).sub (fun id l => hs id (live_lt l)) ((fc.val t sl0 this.symm).1 hg)
    · subst z2
      exact ⟨fun h => (by cases h), fun _ h => (by cases h)⟩
  have hop : ∀ K, opK V C lm (fun _ _ => none) (keep r.o (frD (pD D) fr0 rs)) r.h r.o r.act K = K r.s r.h' := by
    intro K
    rw [opK_frame (fr2 := r.fr) fun x hx => (keep_slot hx).trans (s.slots x hx)]
    exact hr K
  have hHL : HL V.P (addD D r.i) h0 rs hn.length = r.h' ++ (HL V.P D h0 rs hn.length).drop r.h'.length := by
    apply List.ext_getElem?
    intro id
    by_cases hid : id < hn.length
    · rw [HL_get s.eff hid]
      have := s.he_put id (fun ht x hx htx => by
        have hlt := (touch_A hN ht).2
        have hxn := s.post_touch hx hlt htx
        cases hD : D x.i with
        | false => rfl
        | true =>
          obtain ⟨h1, h2⟩ := s.post_un hx hD
          have := unord_nil hu (s.lt (s.memPost hx)) (s.post_ne hx) (s.at (s.memPost hx)) (touch_A hxn htx).1
          exact absurd this (fun h => h.elim h1 h2))
      refine this.trans ?_
      by_cases hlt : id < r.h'.length
      · rw [if_pos (touch_of_A hact hN hA hlt), List.getElem?_append_left hlt]
      · rw [if_neg (fun ht => hlt (touch_A hN ht).2), List.getElem?_append_right (by omega), List.getElem?_drop, show r.h'.length + (id - r.h'.length) = id by omega, HL_get s.eff hid]
    · rw [HL_out (by omega), List.getElem?_eq_none (by simp [HL_len]; omega)]
  have key : ∀ l1, l1 ≤ lm → l1 ≤ l0 → Rel w0 l1 ι r.h w → r.o.wp V.P a w (fun a w => Inv V w0 l0 lim ιi h0 wi fr0 rs hn.length (addD D r.i) a w) Q := by
    intro l1 hl1 hl2 R1
    obtain ⟨K, k1, k2⟩ := pick_K r.s r.h' (.ret undef [])
    refine op_sound (V := V) (C := C) (pan := fun _ _ => none) (K := K) (out := .ret undef []) (act := r.act) R1 fh (acts_of hact) (fun sl h' v' w' ι' ek r1 s1 hg hv => ?_) hF hl1 (fun v h' v' w' ι' ep => by cases ep) ((hop K).trans k1)
    obtain ⟨rfl, rfl⟩ := k2 _ _ ek
    have s2 : Step lim ι r.h w ι' r.h' w' := by
      rcases hlm with rfl | rfl
      · exact s1.any
      · exact s1
    obtain ⟨ι2, m1, m2, m3⟩ := R0.merge hl0 hs hh (by rw [HL_len]; omega) (r1.l0_mono hl2) s2
    refine ⟨⟨ι2, ?_, ?_, ?_⟩, by rw [put_defers']; exact hd⟩
    · rw [hHL]; exact m2
    · rw [hHL]; exact S0.trans m3
    · rw [hHL, s.frames]
      refine (f.mono m3.compat).put (fun _ => ?_) (fun h0 => by rw [hg] at h0; cases h0)
      exact hv.grow fun id l => ⟨List.getElem?_append_left (live_lt l), m1 id (live_lt l)⟩
  rcases hlm with rfl | rfl
  · exact key _ (Nat.min_le_right _ _) (Nat.min_le_left _ _) Rh.cap
  · exact key l0 hl0 (Nat.le_refl _) Rh

/-- one operation that is ready -/
theorem Sit.do_one (hcan : ∃ ι w a, Rel w0 l0 ι r.h w ∧ FR ι r.h r.fr a) {a : Act} {w : World} (I : Inv V w0 l0 lim ιi h0 wi fr0 rs hn.length D a w) :
    wpOp V.P ops Q r.i (fun a w => Inv V w0 l0 lim ιi h0 wi fr0 rs hn.length (addD D r.i) a w) a w := by
  unfold wpOp
  rw [s.at s.memR]
  obtain ⟨ι, R0, S0, f⟩ := I.ex
  have hw := s.wanted f
  by_cases hs : r.act = some false
  · rw [hs] at hw
    simp only [hw, Bool.false_eq_true, if_false]
    have ht : ∀ id, touch V.P r id = false := fun id => touch_skip hs
    refine ⟨⟨ι, ?_, ?_, ?_⟩, by rw [put_defers']; exact I.defers⟩
    · rw [s.same ht]; exact R0
    · rw [s.same ht]; exact S0
    · rw [s.same ht, s.frames]
      unfold Rc.s; rw [hs]; exact f.skip _ _
  · have : Region.wanted r.o (yielded ops a.tmps) = true := by
      rw [hw]
      split
      · rename_i h; exact absurd h hs
      · rfl
    simp only [this, if_true]
    left
    cases hN : isN V.P r.o with
    | true => exact s.do_make hF hl0 hN hs I
    | false =>
      cases hA : isA V.P r.o with
      | true => exact s.do_call hF hl0 hN hA hs hcan I
      | false => exact s.do_still hF hl0 hN hA hs hcan I

end
end Go.Abs
namespace Go.Abs
set_option linter.unusedSimpArgs false
set_option linter.unusedVariables false
set_option linter.unusedSectionVars false

section
variable {V : Env} {C : Hnd} {lim : Nat} {ops : Array Oper} {ord : List Nat} {rs : List Rc} {fr0 : Frm} {h0 : AH} {frn : Frm} {hn : AH}

theorem Inv.congr {w0 : World} {l0 : Nat} {ιi : Iota} {wi : World} {n : Nat} {D D' : Nat → Bool} {a : Act} {w : World} (h : ∀ r ∈ rs, D r.i = D' r.i) (I : Inv V w0 l0 lim ιi h0 wi fr0 rs n D a w) : Inv V w0 l0 lim ιi h0 wi fr0 rs n D' a w := by
  have e1 : HL V.P D h0 rs n = HL V.P D' h0 rs n := by
    unfold HL
    refine List.map_congr_left fun id _ => ?_
    exact congrArg (·.getD AObj.dead) (heAt_agree fun r hr _ => h r hr)
  have e2 : frD (pD D) fr0 rs = frD (pD D') fr0 rs := List.ext_getElem? fun t => frD_agree (fun r hr _ => h r hr) rfl rfl
  obtain ⟨⟨ι, a1, a2, a3⟩, b⟩ := I
  exact ⟨⟨ι, e1 ▸ a1, e1 ▸ a2, by rw [← e1, ← e2]; exact a3⟩, b⟩

theorem any_all (dr : Draw ops ord) (hord : rs.map (·.i) = ord) (chain : Chain V C lim ops rs fr0 [] h0 frn hn) (hF : FnSnd V.P C) {w0 : World} {l0 : Nat} (hl0 : l0 ≤ lim) {ιi : Iota} {wi : World} {Q : Exit → Act → World → Prop}
    (hcan : ∀ r ∈ rs, Eff V C r ∧ ∃ ι w a, Rel w0 l0 ι r.h w ∧ FR ι r.h r.fr a)
    (hQ : ∀ D a w, (∀ r ∈ rs, D r.i = true) → Inv V w0 l0 lim ιi h0 wi fr0 rs hn.length D a w → Q .normal a w) :
    ∀ (fuel : Nat) (rem : List Nat) (listed : Array Bool) (a : Act) (w : World), rem.length = fuel → listed.size = ops.size → (∀ i, i < ops.size → listed.getD i true = false → i ∈ rem) →
      Closed ops (fun i => listed.getD i false = true) → Inv V w0 l0 lim ιi h0 wi fr0 rs hn.length (fun i => listed.getD i false) a w → wpAny V.P .any ops Q fuel listed a w := by
  have hgd : ∀ (listed : Array Bool) (i : Nat), listed.size = ops.size → i < ops.size → listed.getD i true = listed.getD i false := fun listed i h1 h2 => by
    simp [Array.getD, h1, h2]
  have none_ready : ∀ (listed : Array Bool), listed.size = ops.size → Region.ready .any ops listed = [] → ∀ i, i < ops.size → listed.getD i false = true := by
    intro listed hsz hr i
    induction i using Nat.strongRecOn with
    | _ i ih =>
      intro hi
      cases hl : listed.getD i false with
      | true => rfl
      | false =>
        exfalso
        have : i ∈ Region.ready .any ops listed := by
          unfold Region.ready
          rw [List.mem_filter]
          refine ⟨List.mem_range.2 hi, ?_⟩
          have ho : ops[i]? = some ops[i] := Array.getElem?_eq_getElem hi
          rw [hgd listed i hsz hi, hl, ho]
          simp only [Option.map_some, Option.getD_some, Bool.not_false, Bool.true_and]
          rw [Array.all_eq_true']
          intro e he
          by_cases hb : Region.binds .any e = true
          · have hlt := dr.back i _ ho e (by simpa using he) hb
            rw [ih e.on hlt (by omega)]; simp
          · simp [hb]
        rw [hr] at this; cases this
  have done : ∀ (listed : Array Bool) (a : Act) (w : World), listed.size = ops.size → Region.ready .any ops listed = [] → Inv V w0 l0 lim ιi h0 wi fr0 rs hn.length (fun i => listed.getD i false) a w → Q .normal a w := by
    intro listed a w hsz hr I
    refine hQ _ a w (fun r hr' => none_ready listed hsz hr r.i ?_) I
    exact (Array.getElem?_eq_some_iff.1 (chain.mem r hr').1).1
  intro fuel
  induction fuel with
  | zero =>
    intro rem listed a w hrem hsz hin hc I
    have hr : Region.ready .any ops listed = [] := by
      cases h : Region.ready .any ops listed with
      | nil => rfl
      | cons i is =>
        have hi : i ∈ Region.ready .any ops listed := by rw [h]; simp
        unfold Region.ready at hi
        rw [List.mem_filter] at hi
        have h1 := List.mem_range.1 hi.1
        have h2 := hi.2
        simp only [Bool.and_eq_true, Bool.not_eq_true'] at h2
        have := hin i h1 h2.1
        have : rem = [] := List.eq_nil_of_length_eq_zero hrem
        subst this
        cases ‹i ∈ []›
    exact ⟨hr, done listed a w hsz hr I⟩
  | succ fuel ih =>
    intro rem listed a w hrem hsz hin hc I
    refine ⟨fun hr => done listed a w hsz hr I, fun i hi => ?_⟩
    unfold Region.ready at hi
    rw [List.mem_filter] at hi
    have hi1 := List.mem_range.1 hi.1
    have hi2 := hi.2
    simp only [Bool.and_eq_true, Bool.not_eq_true'] at hi2
    obtain ⟨hi2, hi3⟩ := hi2
    have hio : i ∈ ord := (dr.mem i).2 hi1
    rw [← hord] at hio
    obtain ⟨r, hr, rfl⟩ := List.mem_map.1 hio
    obtain ⟨pre, post, hsplit⟩ := List.append_of_mem hr
    have ho := (chain.mem r hr).1
    rw [ho] at hi3
    simp only [Option.map_some, Option.getD_some] at hi3
    rw [Array.all_eq_true'] at hi3
    have hedge : ∀ e ∈ r.o.after.toList, Region.binds .any e = true → listed.getD e.on false = true := by
      intro e he hb
      have := hi3 e (by simpa using he)
      simpa [hb] using this
    have s : Sit V C lim ops ord rs fr0 h0 frn hn (fun i => listed.getD i false) pre r post :=
      ⟨dr, hord, chain, fun r hr => (hcan r hr).1, hsplit, hc, by rw [← hgd listed r.i hsz hi1]; exact hi2, fun j ha => dr.ready hc ho hedge ha⟩
    refine wpOp_mono (fun a' w' I' => ?_) (s.do_one hF hl0 (hcan r hr).2 I)
    have hset : ∀ j, j < ops.size → (listed.setIfInBounds r.i true).getD j false = addD (fun i => listed.getD i false) r.i j := by
      intro j hj
      unfold addD
      by_cases hjr : j = r.i
      · subst hjr
        simp [Array.getD, hsz, hi1]
      · rw [getD_set_ne false (fun h => hjr h.symm)]
        simp [hjr]
    refine ih (rem.erase r.i) (listed.setIfInBounds r.i true) a' w' ?_ (by simpa using hsz) ?_ ?_ (I'.congr fun x hx => (hset x.i (Array.getElem?_eq_some_iff.1 (chain.mem x hx).1).1).symm)
    · rw [List.length_erase_of_mem (hin r.i hi1 hi2)]; omega
    · intro j hj hl
      by_cases hjr : j = r.i
      · subst hjr
        simp [Array.getD, hsz, hi1] at hl
      · rw [getD_set_ne true (fun h => hjr h.symm)] at hl
        exact (List.mem_erase_of_ne hjr).2 (hin j hj hl)
    · intro j hj hD k ha
      simp only [hset j hj, addD, Bool.or_eq_true, decide_eq_true_eq] at hD
      have hk : listed.getD k false = true := by
        rcases hD with hD | rfl
        · exact hc j hj hD k ha
        · exact s.anc k ha
      by_cases hkr : k = r.i
      · subst hkr; simp [Array.getD, hsz, hi1]
      · show (listed.setIfInBounds r.i true).getD k false = true
        rw [getD_set_ne false (fun h => hkr h.symm)]; exact hk

end

/-- regions that draw their order are sound -/
theorem draw_sound {V : Env} (hm : V.P.follows .mixedOrders = true) : DrawSnd V := by
  intro C lim id hide ops K out w0 l0 ι h w fr a Q hF hl0 R0 f hd hok hK e
  have dr := drawOk_spec hok
  obtain ⟨rs, frn, hn, hord, chain, hKn⟩ := regD_chain _ e
  have hcan := canon_all hF hl0 chain R0 f
  have he : ∀ r ∈ rs, Eff V C r := fun r hr => (hcan r hr).1
  have hlen := (chain.grows he).1
  refine wp_region_any hm ?_
  refine any_all (w0 := w0) (l0 := l0) (ιi := ι) (wi := { w with drawn := w.drawn + 1 }) dr hord chain hF hl0 hcan (fun D a' w' hall I => ?_) ops.size (List.range ops.size) _ a _ (by simp) (by simp) (fun i hi _ => List.mem_range.2 hi) (fun i hi hD => by simp [Array.getD] at hD) ?_
  · obtain ⟨⟨ι', a1, a2, a3⟩, b⟩ := I
    have e1 : HL V.P D h rs hn.length = hn := by
      apply List.ext_getElem?
      intro id
      by_cases hid : id < hn.length
      · rw [HL_get he hid, heAt_agree (q := fun _ => true) (fun r hr _ => hall r hr), chain.replay he id, pad, if_pos hid]
      · rw [HL_out (by omega), List.getElem?_eq_none (by omega)]
    have e2 : frD (pD D) fr rs = frn := by
      rw [chain.fr_all]
      exact List.ext_getElem? fun t => frD_agree (fun r hr _ => hall r hr) rfl rfl
    rw [e1] at a1 a2 a3
    rw [e2] at a3
    refine hK frn hn ι' w' a' hKn ⟨a1, ?_, a3, b⟩
    have s0 : Step lim ι h w ι h { w with drawn := w.drawn + 1 } := Step.world rfl
    exact s0.trans a2
  · have hD0 : ∀ r ∈ rs, (Array.replicate ops.size false).getD r.i false = false := fun r hr => by simp [Array.getD]
    have hget : ∀ id, id < hn.length → (HL V.P (fun i => (Array.replicate ops.size false).getD i false) h rs hn.length)[id]? = pad h id := fun id hid => by
      rw [HL_get he hid]
      exact heAt_none fun r hr _ => hD0 r hr
    have R1 : Rel w0 l0 ι h { w with drawn := w.drawn + 1 } := R0.world rfl rfl rfl rfl
    obtain ⟨R2, S2⟩ := R1.wide (lim := lim) (S := HL V.P (fun i => (Array.replicate ops.size false).getD i false) h rs hn.length) (by rw [HL_len]; exact hlen) (fun id l => by
      have := live_lt l
      rw [hget id (by omega), pad, if_pos this]) (fun id l => by
      have h1 := live_lt l
      rw [HL_len] at h1
      have := hget id h1
      by_cases h2 : id < h.length
      · rw [pad, if_pos h2] at this
        exact (live_same this).1 l
      · rw [pad, if_neg h2] at this
        rcases l with ⟨_, _, _, e⟩ | ⟨_, e⟩ <;> rw [this] at e <;> cases e)
    refine ⟨⟨ι, R2, S2, ?_⟩, hd⟩
    have : frD (pD fun i => (Array.replicate ops.size false).getD i false) fr rs = fr := List.ext_getElem? fun t => frD_none fun r hr _ => hD0 r hr
    rw [this]
    exact f.mono S2.compat

end Go.Abs
namespace Go.Abs
set_option linter.unusedSimpArgs false
set_option linter.unusedVariables false

/-- strings.Builder's copyCheck: the builder's first variable is its own address from the first writing on -/
def pCopyCheck (T : Nat) : Hnd → Nat → List Value → AH → R := fun _ lim vs h =>
  match vs with
  | [.pointer (some ⟨id, off, some g⟩)] =>
    match rowAt h id g with
    | some (sz, [a, b]) =>
      if off = 0 ∧ sz = 4294967296 * (T + 1) ∧ lim ≤ id then
        match a with
        | .pointer none => some (.ret (.tuple #[]) (h.set id (.row g sz [.pointer (some ⟨id, 0, some g⟩), b])))
        | .pointer (some ⟨id', off', some g'⟩) => if id' = id ∧ off' = 0 ∧ g' = g then some (.ret (.tuple #[]) h) else none
        | _ => none
      else none
    | _ => none
  | _ => none
theorem pCopyCheck_lim {V : Env} {T : Nat} : PrimLim V (pCopyCheck T) := fun _ _ _ => Lim.const _

theorem pCopyCheck_snd {P : Program} {g T : Nat} (hE : Enters P g)
    (fresh : ∀ b w, w.cell? ⟨b, 0, none⟩ = some (.pointer none) → w.shape? b = some (T, 2) → w.frozen? ⟨b, 0, none⟩ = false →
      Calls P g #[.pointer (some ⟨b, 0, none⟩)] w fun e w' => e = .returned (.tuple #[]) ∧ w' = w.setCell ⟨b, 0, none⟩ (.pointer (some ⟨b, 0, none⟩)))
    (used : ∀ b w, w.cell? ⟨b, 0, none⟩ = some (.pointer (some ⟨b, 0, none⟩)) → Calls P g #[.pointer (some ⟨b, 0, none⟩)] w fun e w' => e = .returned (.tuple #[]) ∧ w' = w) :
    PrimSnd P g (pCopyCheck T) := by
  intro C _ lim vs h out e
  refine ⟨hE, fun w0 l0 ι w vs' hl0 r q => ?_⟩
  unfold pCopyCheck at e
  split at e
  · rename_i id off gg
    obtain ⟨v', rfl, hv⟩ := q.single
    split at e
    · rename_i sz a b hrow
      split at e
      · rename_i hc
        obtain ⟨rfl, hsz, hlim⟩ := hc
        have hrow := rowAt_some hrow
        simp only at hrow
        obtain ⟨arr, t, fr, p1, p2, p3, p4⟩ := r.row id gg sz [a, b] hrow
        obtain ⟨p5, p6, p7⟩ := p4 (by omega)
        obtain ⟨p8, p9, p10⟩ := p7 (by rw [hsz]; omega)
        have ht : t = T := by
          have p8' : @Eq Nat (sz / 4294967296) (t + 1) := p8
          have : @Eq Nat t T := by omega
          exact this
        have harr : arr.size = 2 := p10 (by unfold wd; omega)
        have hself : VR ι h (.pointer (some ⟨id, 0, some gg⟩)) (.pointer (some ⟨(ι id).b, 0, none⟩)) := by
          refine .ptr (.inl ⟨_, _, _, hrow⟩) fun g' sz' cs' e' => ?_
          rw [hrow] at e'
          injection e' with e'; injection e' with x1 x2 x3
          subst x1
          exact ⟨Nat.le_refl _, fun _ => by rw [p9]⟩
        have hv' : v' = .pointer (some ⟨(ι id).b, 0, none⟩) := by
          cases hv with
          | ptr hid hr =>
            have := (hr _ _ _ hrow).2 rfl
            rw [this, p9]
        subst hv'
        obtain ⟨a', z1, z2, z3⟩ := p3 0 a rfl
        rw [p9, Nat.add_zero] at z1
        split at e
        · injection e with e; subst e
          cases z2
          have s := Rel.set1 r hl0 hrow hlim (off := 0) (by simp) hself rfl
          rw [p9, Nat.add_zero] at s
          refine (fresh (ι id).b w ?_ ?_ ?_).mono ?_
          · rw [cell_of p1]; exact z1
          · simp [World.shape?, p1, ht, harr]
          · exact s.2.1
          · rintro en w' ⟨rfl, rfl⟩
            exact ⟨_, _, ι, rfl, s.2.2.1, s.2.2.2, .tuple rfl (fun i a _ => absurd a (by simp))⟩
        · rename_i id' off' g'
          split at e
          · rename_i hc
            obtain ⟨e1, e2, e3⟩ := hc
            rw [e1, e2, e3] at z2
            injection e with e; subst e
            have ha' : a' = .pointer (some ⟨(ι id).b, 0, none⟩) := by
              cases z2 with
              | ptr hid hr =>
                have := (hr _ _ _ (by rw [hrow])).2 rfl
                rw [this, p9]
            subst ha'
            refine (used (ι id).b w ?_).mono ?_
            · rw [cell_of p1]; exact z1
            · rintro en w' ⟨rfl, rfl⟩
              exact ⟨_, _, ι, rfl, r, Step.refl _ _ _ _, .tuple rfl (fun i a _ => absurd a (by simp))⟩
          · cases e
        · cases e
      · cases e
    · cases e
  · cases e
end Go.Abs
namespace Go.Abs
open Go.RowKit
set_option linter.unusedSimpArgs false
set_option linter.unusedVariables false

/-- a function of plain values that leaves memory as it was -/
def pPure (F : List Value → Option Value) : Hnd → Nat → List Value → AH → R := fun _ _ vs h => (F vs).map fun v => .ret v h
theorem pPure_lim {V : Env} {F : List Value → Option Value} : PrimLim V (pPure F) := fun _ _ _ => Lim.const _
def plainV : Value → Bool
  | .bool _ | .int .. | .string _ => true
  | _ => false
def plainR : Value → Bool
  | .tuple l => l.toList.all plainV
  | v => plainV v
theorem plainV_eq {ι h v v'} (q : VR ι h v v') (p : plainV v = true) : v' = v := by cases q <;> first | rfl | cases p
theorem plainV_vr {ι h v} (p : plainV v = true) : VR ι h v v := by
  cases v <;> first | (cases p; done) | skip
  · exact .bool _
  · exact .int _ _
  · exact .str _
theorem plainR_vr {ι h v} (p : plainR v = true) : VR ι h v v := by
  cases v with
  | tuple l =>
    refine .tuple rfl fun i a b => plainV_vr ?_
    exact List.all_eq_true.1 p _ (by simp)
  | bool b => exact .bool b
  | int k n => exact .int k n
  | string s => exact .str s
  | _ => cases p
theorem plainL_eq {ι h} : ∀ {vs vs' : List Value}, LR ι h vs vs' → vs.all plainV = true → vs' = vs
  | [], vs', q, _ => q.nil_inv
  | v :: vs, vs', q, p => by
    obtain ⟨y, ys, rfl, q1, q2⟩ := q.cons_inv
    simp only [List.all_cons, Bool.and_eq_true] at p
    rw [plainV_eq q1 p.1, plainL_eq q2 p.2]
/-- memory that was made and is let alone again -/
theorem Rel.left {w0 l0 lim ι h w w'} (r : Rel w0 l0 ι h w) (b : Below w.heap.size w w') : Rel w0 l0 ι h w' ∧ Step lim ι h w ι h w' := by
  have hb : ∀ k, k < w.heap.size → w'.heap[k]? = w.heap[k]? := fun k hk => b.block k hk
  refine ⟨⟨⟨b.os.trans r.below.os, b.tape.trans r.below.tape, b.output.trans r.below.output, Nat.le_trans r.below.size b.size, fun k hk => (hb k (Nat.lt_of_lt_of_le hk r.below.size)).trans (r.below.block k hk)⟩, fun id g sz cs e => ?_, fun id es e => ?_, r.inj, r.glob⟩,
    ⟨Compat.refl _ _, fun _ _ _ => ⟨rfl, rfl⟩, b.size, fun k hk _ => hb k hk, fun _ l => .inl ⟨l, rfl⟩⟩⟩
  · rw [hb _ (r.blt (.inl ⟨_, _, _, e⟩))]; exact r.row id g sz cs e
  · rw [hb _ (r.blt (.inr ⟨_, e⟩))]; exact r.map id es e
theorem Rel.globW {w0 l0 ι h w} (r : Rel w0 l0 ι h w) : Glob w := by
  refine ⟨fun b hb => ?_, r.glob.2.below r.below⟩
  obtain ⟨m, hm⟩ := r.glob.1 b hb
  refine ⟨m, ?_⟩
  have hlt : b < w0.heap.size := by
    rcases Nat.lt_or_ge b w0.heap.size with q | q
    · exact q
    · simp [World.cell?, Array.getElem?_eq_none q] at hm
  have := r.below.block b hlt
  unfold World.cell? at hm ⊢
  simp only [this]
  exact hm
theorem pPure_snd {P : Program} {g : Nat} {F : List Value → Option Value} (hE : Enters P g)
    (hF : ∀ vs v, F vs = some v → vs.all plainV = true ∧ plainR v = true ∧ ∀ w, Glob w → Calls P g vs.toArray w fun e w' => e = .returned v ∧ Below w.heap.size w w') : PrimSnd P g (pPure F) := by
  intro C _ lim vs h out e
  refine ⟨hE, fun w0 l0 ι w vs' hl0 r q => ?_⟩
  simp only [pPure, Option.map_eq_some_iff] at e
  obtain ⟨v, e1, rfl⟩ := e
  obtain ⟨h1, h2, h3⟩ := hF vs v e1
  rw [plainL_eq q h1]
  refine (h3 w r.globW).mono ?_
  rintro en w' ⟨rfl, hb⟩
  obtain ⟨r1, r2⟩ := r.left (lim := lim) hb
  exact ⟨v, h, ι, rfl, r1, r2, plainR_vr h2⟩

theorem below_drewN (w : World) (n : Nat) : Below w.heap.size w (w.drewN n) := by
  induction n with
  | zero => exact Below.refl _ _
  | succ n ih => exact ⟨ih.os, ih.tape, ih.output, ih.size, ih.block⟩
end Go.Abs
namespace Go.Abs
open Go.RowKit
set_option linter.unusedSimpArgs false
set_option linter.unusedVariables false

def strsOf : List Value → Option (List ByteArray)
  | [] => some []
  | .string s :: l => (strsOf l).map (s :: ·)
  | _ => none
theorem strsOf_some : ∀ {l : List Value} {xs : List ByteArray}, strsOf l = some xs → l = xs.map Value.string
  | [], xs, e => by injection e with e; subst e; rfl
  | v :: l, xs, e => by
    unfold strsOf at e
    split at e
    · rename_i hh; cases hh
    · rename_i s l' hh
      injection hh with h1 h2; subst h1 h2
      simp only [Option.map_eq_some_iff] at e
      obtain ⟨ys, e1, rfl⟩ := e
      rw [strsOf_some e1]; rfl
    · cases e
theorem LR.strs {ι h} {xs : List ByteArray} {ys : List Value} (q : LR ι h (xs.map Value.string) ys) : ys = xs.map Value.string := by
  have := plainL_eq q (by simp [plainV])
  exact this
/-- strings.Join -/
def pJoin : Hnd → Nat → List Value → AH → R := fun _ _ vs h =>
  match vs with
  | [.slice none 0 0, .string sep] => some (.ret (.string ⟨#[]⟩) h)
  | [.slice (some ⟨id, off, some g⟩) n c, .string sep] =>
    (rowAt h id g).bind fun r => (cut r.2 off n).bind fun cs => (strsOf cs).bind fun xs =>
      if n ≤ 140737488355328 ∧ (Lib.join (xs.map (·.data.toList)) sep.data.toList).length ≤ 140737488355328 then
        some (.ret (.string ⟨(Lib.join (xs.map (·.data.toList)) sep.data.toList).toArray⟩) h)
      else none
  | _ => none
theorem pJoin_lim {V : Env} : PrimLim V pJoin := fun _ _ _ => Lim.const _
theorem pJoin_snd {P : Program} {g : Nat} (hE : Enters P g)
    (Hn : ∀ (a : Option Addr) (c : Nat) (sep : ByteArray) (w : World), Calls P g #[.slice a 0 c, .string sep] w fun e w' => e = .returned (.string ⟨#[]⟩) ∧ w' = w)
    (H : ∀ (bk o c : Nat) (xs : List ByteArray) (sep : ByteArray) (w : World) (_ : ∀ (j : Nat) x, xs[j]? = some x → w.cell? ⟨bk, o + j, none⟩ = some (.string x)) (_ : bk < w.heap.size) (_ : xs.length ≤ 140737488355328) (_ : xs.length ≤ c)
      (_ : (Lib.join (xs.map (·.data.toList)) sep.data.toList).length ≤ 140737488355328),
      Calls P g #[.slice (some ⟨bk, o, none⟩) xs.length c, .string sep] w fun e w' => e = .returned (.string ⟨(Lib.join (xs.map (·.data.toList)) sep.data.toList).toArray⟩) ∧ Below w.heap.size w w') : PrimSnd P g pJoin := by
  intro C _ lim vs h out e
  refine ⟨hE, fun w0 l0 ι w vs' hl0 r q => ?_⟩
  unfold pJoin at e
  split at e
  · rename_i sep
    obtain ⟨v1, v2, rfl, q1, q2⟩ := q.two
    cases q1
    rw [q2.str_inv]
    injection e with e; subst e
    refine (Hn none 0 sep w).mono ?_
    rintro en w' ⟨rfl, rfl⟩
    exact ⟨_, h, ι, rfl, r, Step.refl _ _ _ _, .str _⟩
  · rename_i id off gg n c sep
    obtain ⟨v1, v2, rfl, q1, q2⟩ := q.two
    rw [q2.str_inv]
    simp only [Option.bind_eq_some_iff] at e
    obtain ⟨rr, e1, cs, e2, xs, e3, e⟩ := e
    split at e
    · rename_i hc
      injection e with e; subst e
      have hrow := rowAt_some e1
      obtain ⟨d1, d2, d3⟩ := cut_some e2
      have hcs := strsOf_some e3
      have hxl : xs.length = n := by rw [← d3, hcs]; simp
      cases q1 with
      | @slice _ _ _ _ _ c' a hid hn hcc hr =>
        by_cases h0 : n = 0
        · subst h0
          have : xs = [] := List.eq_nil_of_length_eq_zero hxl
          subst this
          refine (Hn (some a) c' sep w).mono ?_
          rintro en w' ⟨rfl, rfl⟩
          exact ⟨_, h, ι, rfl, r, Step.refl _ _ _ _, .str _⟩
        · have ha := ((hr _ _ _ hrow).2 rfl).1.resolve_left (by omega)
          subst ha
          obtain ⟨cs', z1, z2, z3⟩ := r.cells hrow
          have hl' : (cs'.drop off).take n = xs.map Value.string := by
            have := ((z1.drop off).take n)
            rw [← d2, hcs] at this
            exact this.strs
          have hcell : ∀ (j : Nat) x, xs[j]? = some x → w.cell? ⟨(ι id).b, (ι id).o + off + j, none⟩ = some (.string x) := fun j x hx => by
            have hj := (List.getElem?_eq_some_iff.1 hx).1
            have h2 : ((cs'.drop off).take n)[j]? = some (.string x) := by rw [hl', List.getElem?_map, hx]; rfl
            rw [List.getElem?_take_of_lt (by omega), List.getElem?_drop] at h2
            have := z3 _ _ h2
            rw [Nat.add_assoc]; exact this
          have hcall := H (ι id).b ((ι id).o + off) c' xs sep w hcell (r.blt hid) (by omega) (by omega) hc.2
          rw [hxl] at hcall
          refine hcall.mono ?_
          rintro en w' ⟨rfl, hb⟩
          obtain ⟨r1, r2⟩ := r.left (lim := lim) hb
          exact ⟨_, h, ι, rfl, r1, r2, .str _⟩
    · cases e
  · cases e
end Go.Abs
namespace Go.Abs
open Go.RowKit
set_option linter.unusedSimpArgs false
set_option linter.unusedVariables false

/-- (*strings.Replacer).Replace, of a replacer that was not asked before: its once lets it be built (fB); what is built then replaces (fR) -/
def pRepl (fB fR tI : Nat) : Hnd → Nat → List Value → AH → R := fun C lim vs h =>
  match vs with
  | [.pointer (some ⟨id, off, some g⟩), .string s] =>
    match rowAt h id g with
    | some (sz, [.int .u32 0, .int .i32 0, c2, c3, c4]) =>
      if off = 0 ∧ lim ≤ id then
        onRet (C (.fn fB) lim [S (.pointer (some ⟨id, 0, some g⟩))] (h.set id (.row g sz [.int .u32 0, .int .i32 1, c2, c3, c4]))) (fun v h2 =>
          match v, rowAt h2 id g with
          | .tuple l, some (sz2, [.int .u32 0, .int .i32 1, d2, .iface t p, d4]) =>
            if t = tI ∧ l.size = 0 then onRet (C (.fn fR) lim [S p, S (.string s)] (h2.set id (.row g sz2 [.int .u32 1, .int .i32 0, d2, .iface t p, d4]))) (fun v h3 => match v with | .string r => some (.ret (.string r) h3) | _ => none) (fun _ _ => none) else none
          | _, _ => none) (fun _ _ => none)
      else none
    | _ => none
  | _ => none
theorem pRepl_lim {V : Env} {fB fR tI : Nat} : PrimLim V (pRepl fB fR tI) := by
  intro lim vs h
  unfold pRepl
  split
  · split
    · split
      · refine Lim.onRet (Lim.run _ _ _ _) (fun v h2 => ?_) (fun _ _ => Lim.none)
        split
        · split
          · refine Lim.onRet (Lim.run _ _ _ _) (fun v h3 => ?_) (fun _ _ => Lim.none)
            split
            · exact Lim.const _
            · exact Lim.none
          · exact Lim.none
        · exact Lim.none
      · exact Lim.none
    · exact Lim.none
  · exact Lim.none
theorem lt_len_of {h : AH} {j : Nat} {o : AObj} (e : h[j]? = some o) : j < h.length := (List.getElem?_eq_some_iff.1 e).1
theorem VR.at0 {w0 l0 ι h w id off g sz cs v'} (r : Rel w0 l0 ι h w) (e : h[id]? = some (.row g sz cs)) (q : VR ι h (.pointer (some ⟨id, off, some g⟩)) v') : v' = .pointer (some ⟨(ι id).b, (ι id).o + off, none⟩) := by
  cases q with
  | ptr hid hr => rw [(hr _ _ _ e).2 rfl]
theorem Rel.at' {w0 l0 ι h w id g sz cs} (r : Rel w0 l0 ι h w) (e : h[id]? = some (.row g sz cs)) (i : Nat) {v : Value} (ev : cs[i]? = some v) : ∃ v', w.cell? ⟨(ι id).b, (ι id).o + i, none⟩ = some v' ∧ VR ι h v v' := by
  obtain ⟨cs', q1, _, q3⟩ := r.cells e
  obtain ⟨v', z1, z2⟩ := q1.2 i v ev
  exact ⟨v', q3 i v' z1, z2⟩
theorem pRepl_snd {P : Program} {g fB fR tI : Nat} (hE : Enters P g)
    (H : ∀ (b o : Nat) (s : ByteArray) (w : World) (Q : ByteArray → World → Prop) (M : World → Prop),
      w.cell? ⟨b, o, none⟩ = some (.int .u32 0) → w.cell? ⟨b, o + 1, none⟩ = some (.int .i32 0) → w.frozen? ⟨b, o, none⟩ = false → w.frozen? ⟨b, o + 1, none⟩ = false →
      Calls P fB #[.pointer (some ⟨b, o, none⟩)] (w.setCell ⟨b, o + 1, none⟩ (.int .i32 1)) (fun e w2 => e = .returned (.tuple #[]) ∧ M w2) →
      (∀ w2, M w2 → w2.cell? ⟨b, o, none⟩ = some (.int .u32 0) ∧ w2.cell? ⟨b, o + 1, none⟩ = some (.int .i32 1) ∧ w2.frozen? ⟨b, o, none⟩ = false ∧ w2.frozen? ⟨b, o + 1, none⟩ = false ∧
        ∃ p, w2.cell? ⟨b, o + 3, none⟩ = some (.iface tI p) ∧ Calls P fR #[p, .string s] ((w2.drew.setCell ⟨b, o, none⟩ (.int .u32 1)).setCell ⟨b, o + 1, none⟩ (.int .i32 0)) (fun e w' => ∃ r, e = .returned (.string r) ∧ Q r w')) →
      Calls P g #[.pointer (some ⟨b, o, none⟩), .string s] w (fun e w' => ∃ r, e = .returned (.string r) ∧ Q r w')) : PrimSnd P g (pRepl fB fR tI) := by
  intro C hC lim vs h out e
  refine ⟨hE, fun w0 l0 ι w vs' hl0 r q => ?_⟩
  unfold pRepl at e
  split at e
  · rename_i id off gg s
    obtain ⟨v1, v2, rfl, q1, q2⟩ := q.two
    rw [q2.str_inv]
    split at e
    · rename_i sz c2 c3 c4 hrow
      split at e
      · rename_i hc
        obtain ⟨rfl, hlim⟩ := hc
        have hrow := rowAt_some hrow
        simp only at hrow
        have hv1 := VR.at0 r hrow q1
        subst hv1
        rcases onRet_some e with ⟨vv, h2, hB, eR⟩ | ⟨vv, h2, hB, eR⟩
        · split at eR
          · rename_i l sz2 d2 t p d4 hrow2
            split at eR
            · rename_i hc2
              obtain ⟨rfl, hl⟩ := hc2
              have hrow2 := rowAt_some hrow2
              simp only at hrow2
              obtain ⟨x0, y0, z0⟩ := r.at' hrow 0 rfl
              obtain ⟨x1, y1, z1⟩ := r.at' hrow 1 rfl
              cases z0; cases z1
              have s0 := Rel.set1 r hl0 hrow hlim (off := 0) (by simp) (.int .u32 0) rfl
              have s1 := Rel.set1 r hl0 hrow hlim (off := 1) (by simp) (.int .i32 1) rfl
              obtain ⟨-, f0, -, -⟩ := s0
              obtain ⟨-, f1, r1, t1⟩ := s1
              simp only [List.set_cons_succ, List.set_cons_zero] at r1 t1
              have hid := lt_len_of hrow
              have hrow1 : (h.set id (.row gg sz [.int .u32 0, .int .i32 1, c2, c3, c4]))[id]? = some (.row gg sz [.int .u32 0, .int .i32 1, c2, c3, c4]) := List.getElem?_set_self hid
              have hp1 : VR ι (h.set id (.row gg sz [.int .u32 0, .int .i32 1, c2, c3, c4])) (.pointer (some ⟨id, 0, some gg⟩)) (.pointer (some ⟨(ι id).b, (ι id).o, none⟩)) := by
                refine .ptr (.inl ⟨_, _, _, hrow1⟩) fun g' sz' cs' e' => ?_
                rw [hrow1] at e'
                injection e' with e'; injection e' with x1 x2 x3
                subst x1
                exact ⟨Nat.le_refl _, fun _ => rfl⟩
              obtain ⟨-, hcB⟩ := hC fB lim [.pointer (some ⟨id, 0, some gg⟩)] _ _ hB
              rcases onRet_some eR with ⟨vr, h3, hR, eR⟩ | ⟨vr, h3, hR, eR⟩
              · split at eR
                · rename_i rr
                  injection eR with eR; subst eR
                  refine (H (ι id).b (ι id).o s w (fun r w' => RetR w0 l0 lim ι h w (.ret (.string rr) h3) (.returned (.string r)) w') (fun w2 => ∃ ι2, Rel w0 l0 ι2 h2 w2 ∧ Step lim ι (h.set id (.row gg sz [.int .u32 0, .int .i32 1, c2, c3, c4])) (w.setCell ⟨(ι id).b, (ι id).o + 1, none⟩ (.int .i32 1)) ι2 h2 w2) y0 y1 f0 f1 ?_ ?_).mono ?_
                  · refine (hcB w0 l0 ι _ [.pointer (some ⟨(ι id).b, (ι id).o, none⟩)] hl0 r1 (LR.one hp1)).mono ?_
                    intro en w2 hq
                    cases en with
                    | returned v' =>
                      obtain ⟨v, h', ι', a1, a2, a3, a4⟩ := hq
                      injection a1 with a1 a1'; subst a1 a1'
                      cases a4 with
                      | tuple hx hxv =>
                        rename_i x'
                        have : x' = #[] := Array.eq_empty_of_size_eq_zero (by omega)
                        subst this
                        exact ⟨rfl, ι', a2, a3⟩
                    | panicked ch => obtain ⟨v, v', h', ι', a1, _⟩ := hq; cases a1
                    | outgrown => exact hq.elim
                  · rintro w2 ⟨ι2, r2, t2⟩
                    have hιeq : ι2 id = ι id := by
                      obtain ⟨g0, sz0, cs0, k1, k2, k3⟩ := t2.compat.row id (.inl ⟨_, _, _, hrow1⟩) gg sz2 _ hrow2
                      rw [hrow1] at k1
                      injection k1 with k1; injection k1 with k1 k4 k5
                      exact (k3 k1.symm).2
                    obtain ⟨x0, y0', z0⟩ := r2.at' hrow2 0 rfl
                    obtain ⟨x1, y1', z1⟩ := r2.at' hrow2 1 rfl
                    obtain ⟨x3, y3', z3⟩ := r2.at' hrow2 3 rfl
                    cases z0; cases z1
                    cases z3 with
                    | iface _ hv =>
                      rename_i p'
                      have r3 := Rel.world (w' := w2.drew) r2 rfl rfl rfl rfl
                      have u0 := Rel.set1 r3 hl0 hrow2 hlim (off := 0) (by simp) (.int .u32 1) rfl
                      have u0' := Rel.set1 r2 hl0 hrow2 hlim (off := 0) (by simp) (.int .u32 1) rfl
                      have u1' := Rel.set1 r2 hl0 hrow2 hlim (off := 1) (by simp) (.int .u32 1) rfl
                      obtain ⟨-, -, r4, t4⟩ := u0
                      simp only [List.set_cons_zero] at r4 t4
                      have hrow4 : (h2.set id (.row gg sz2 [.int .u32 1, .int .i32 1, d2, .iface t p, d4]))[id]? = some (.row gg sz2 [.int .u32 1, .int .i32 1, d2, .iface t p, d4]) := List.getElem?_set_self (lt_len_of hrow2)
                      have u1 := Rel.set1 r4 hl0 hrow4 hlim (off := 1) (by simp) (.int .i32 0) rfl
                      obtain ⟨-, -, r5, t5⟩ := u1
                      simp only [List.set_cons_succ, List.set_cons_zero, List.set_set] at r5 t5
                      rw [hιeq] at y0' y1' y3' r5 t4 t5 u0' u1'
                      refine ⟨y0', y1', u0'.2.1, u1'.2.1, p', y3', ?_⟩
                      obtain ⟨-, hcR⟩ := hC fR lim [p, .string s] _ _ hR
                      have tt := ((t1.trans t2).trans (Step.world (w' := w2.drew) rfl)).trans (t4.trans t5)
                      refine (hcR w0 l0 ι2 _ [p', .string s] hl0 r5 ?_).mono ?_
                      · refine ⟨rfl, fun i v ev => ?_⟩
                        have hvv := hv.mono (t4.trans t5).compat
                        match i, ev with
                        | 0, ev => cases ev; exact ⟨p', rfl, hvv⟩
                        | 1, ev => cases ev; exact ⟨_, rfl, .str _⟩
                        | i + 2, ev => simp at ev
                      · intro en w' hq
                        cases en with
                        | returned v' =>
                          obtain ⟨v, h', ι', a1, a2, a3, a4⟩ := hq
                          injection a1 with a1 a1'; subst a1 a1'
                          cases a4
                          exact ⟨rr, rfl, _, _, ι', rfl, a2, tt.trans a3, .str _⟩
                        | panicked ch => obtain ⟨v, v', h', ι', a1, _⟩ := hq; cases a1
                        | outgrown => exact hq.elim
                  · rintro en w' ⟨r, rfl, hq⟩
                    exact hq
                · cases eR
              · cases eR
            · cases eR
          · cases eR
        · cases eR
      · cases e
    · cases e
  · cases e
end Go.Abs
namespace Go.Abs
open Go.RowKit
set_option linter.unusedSimpArgs false
set_option linter.unusedVariables false

/-- the number of a text, as the program reads it -/
def numI (s : List UInt8) : Int := match Lib.atoiAll s with
  | .ok v => v
  | _ => -1
def fItoa : List Value → Option Value
  | [.int .i64 n] => if -9223372036854775808 ≤ n ∧ n ≤ 9223372036854775807 then some (.string ⟨(Lib.itoa n).toArray⟩) else none
  | _ => none
def fNum : List Value → Option Value
  | [.string s] => if s.size ≤ 281474976710656 then some (.int .i64 (numI s.data.toList)) else none
  | _ => none
def fDecode : List Value → Option Value
  | [.string s] => some (.tuple #[.int .i32 (Lib.decodeGo s).1, .int .i64 (Lib.decodeGo s).2])
  | _ => none
def fCount : List Value → Option Value
  | [.string s, .string t] => (match t.data.toList with | [c] => some (.int .i64 (Lib.countByte s.data.toList c)) | _ => none)
  | _ => none
theorem fItoa_snd {P : Program} {g : Nat} (hE : Enters P g) (H : ∀ (n : Int) (w : World), Glob w → -9223372036854775808 ≤ n → n ≤ 9223372036854775807 → Calls P g #[.int .i64 n] w fun e w' => e = .returned (.string ⟨(Lib.itoa n).toArray⟩) ∧ Below w.heap.size w w') : PrimSnd P g (pPure fItoa) := by
  refine pPure_snd hE fun vs v e => ?_
  unfold fItoa at e
  split at e
  · split at e
    · rename_i hs
      injection e with e; subst e
      exact ⟨rfl, rfl, fun w hw => H _ w hw hs.1 hs.2⟩
    · cases e
  · cases e
theorem fNum_snd {P : Program} {g : Nat} (hE : Enters P g) (H : ∀ (s : ByteArray) (w : World), Glob w → s.size ≤ 281474976710656 → Calls P g #[.string s] w fun e w' => e = .returned (.int .i64 (numI s.data.toList)) ∧ Below w.heap.size w w') : PrimSnd P g (pPure fNum) := by
  refine pPure_snd hE fun vs v e => ?_
  unfold fNum at e
  split at e
  · split at e
    · rename_i hs
      injection e with e; subst e
      exact ⟨rfl, rfl, fun w hw => H _ w hw hs⟩
    · cases e
  · cases e
theorem fDecode_snd {P : Program} {g : Nat} (hE : Enters P g) (H : ∀ (s : ByteArray) (w : World), Glob w → Calls P g #[.string s] w fun e w' => e = .returned (.tuple #[.int .i32 (Lib.decodeGo s).1, .int .i64 (Lib.decodeGo s).2]) ∧ Below w.heap.size w w') : PrimSnd P g (pPure fDecode) := by
  refine pPure_snd hE fun vs v e => ?_
  unfold fDecode at e
  split at e
  · injection e with e; subst e
    exact ⟨rfl, rfl, fun w hw => H _ w hw⟩
  · cases e
theorem fCount_snd {P : Program} {g : Nat} (hE : Enters P g) (H : ∀ (s : ByteArray) (c : UInt8) (w : World), Calls P g #[.string s, .string ⟨#[c]⟩] w fun e w' => e = .returned (.int .i64 (Lib.countByte s.data.toList c)) ∧ w' = w) : PrimSnd P g (pPure fCount) := by
  refine pPure_snd hE fun vs v e => ?_
  unfold fCount at e
  split at e
  · rename_i s t
    split at e
    · rename_i c hc
      injection e with e; subst e
      have ht : t = ⟨#[c]⟩ := by
        obtain ⟨⟨l⟩⟩ := t
        simp only at hc; subst hc; rfl
      subst ht
      refine ⟨rfl, rfl, fun w hw => (H s c w).mono ?_⟩
      rintro en w' ⟨rfl, rfl⟩
      exact ⟨rfl, Below.refl _ _⟩
    · cases e
  · cases e
end Go.Abs
