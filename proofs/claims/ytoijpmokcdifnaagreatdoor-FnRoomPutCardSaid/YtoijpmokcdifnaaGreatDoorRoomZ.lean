/- FnRoomPut returns true, for every code, and leaves its argument as it was. No condition but the row's own: what is laid. -/
import Derived.Test.YtoijpmokcdifnaaGreatDoorAbsA
import Derived.Test.YtoijpmokcdifnaaGreatDoorLibA
import Derived.Test.YtoijpmokcdifnaaGreatDoorRows
import Derived.Lib.LaidU8
import Derived.Shelf.Vars
import Derived.Lay
import Derived.LaidMore
import Derived.Test.YtoijpmokcdifnaaGreatDoorProg
import Derived.HandedShaped
import Derived.ProofKit
import Derived.Deep.Slices
import Derived.Test.YtoijpmokcdifnaaGreatDoorRoomA
import Derived.Test.YtoijpmokcdifnaaGreatDoorCards
import Derived.Test.YtoijpmokcdifnaaGreatDoorTie
import Derived.SevenTiedAt
import Derived.Handed
import Derived.Stop.Joined
import Derived.Test.YtoijpmokcdifnaaGreatDoorRoomF
namespace Go.Abs
open Go.Proofs Go.RowKit Go.Lib Go.Shelf
theorem first_eq : Go.Pinned.utf8First = firstData := by kernel_rfl
theorem accept_eq : (YtoijpmokcdifnaaGreatDoor.Rows.laid_unicode_utf8_acceptRanges : DataW Unit) = acceptData := by kernel_rfl
theorem pow_eq : (YtoijpmokcdifnaaGreatDoor.Rows.laid_internal_strconv_uint64pow10 : DataW Unit) = tabData .u64 Lib.pow10Tab := by kernel_rfl
theorem tab_of_reads {P : Program} {W : World} {name : String} {k : IntKind} {zs : List Int} {g : Nat} {t e : TypeId} {n : Nat}
    (hg : P.globalNamed name = some g) (hty : (P.globals[g]?).map (·.type) = some t) (ht : P.underlying t = some (.array n e)) (he : P.underlying e = some (.int k)) (hce : P.cellsOf e = 1) (hct : P.cellsOf t = n)
    (h : VarReads P W name (tabData k zs)) : TabIs P W name k zs := by
  obtain ⟨g', t', cs, fuel, p, hg', ht', hvar, hd⟩ := h
  obtain rfl := Option.some.inj (hg.symm.trans hg')
  obtain rfl := Option.some.inj (hty.symm.trans ht')
  unfold TabIs
  rw [hvar, ← cells_of_tab ht he hce hct hd]
theorem utf_of {W : World} (h3 : VarReads Tryz.prog W "unicode/utf8.first" firstData) (h4 : VarReads Tryz.prog W "unicode/utf8.acceptRanges" acceptData) : Lib.Utf8Tabs 4 5 W :=
  utf8Tabs_of_reads (ρ := Tryz.lays197_ren) { Tryz.lays197 with } ⟨by kernel_rfl, by kernel_rfl, by kernel_rfl, by kernel_rfl, by kernel_rfl, by kernel_rfl, by kernel_rfl⟩ h3 h4
theorem pow_of {W : World} (h : VarReads Tryz.prog W "internal/strconv.uint64pow10" (tabData .u64 Lib.pow10Tab)) : Lib.TabIs Tryz.prog W "internal/strconv.uint64pow10" .u64 Lib.pow10Tab :=
  tab_of_reads (g := 0) (by kernel_rfl) (by kernel_rfl) (Tryz.underlying170) (Tryz.underlying144) (by kernel_rfl) (by kernel_rfl) h
theorem ints_of {W : World} (hsh : W.ShapedOpen Tryz.prog) : ∀ b ∈ [1], ∃ m, W.cell? ⟨b, 0, none⟩ = some (.int .i64 m) := by
  intro b hb
  have hb0 : b = 1 := by simpa using hb
  subst hb0
  exact Go.Proofs.cell_of_shapedOpen_int (zero := #[.int .i64 0]) (t := 3) hsh (of_decide_eq_true (by kernel_rfl)) (by kernel_rfl) rfl (by kernel_rfl) (by kernel_rfl) Tryz.underlying3
--ERR
/-- an error's variable that is laid -/
theorem err_of {W : World} {n : String} {g : Nat} {s : String} {d : DataW Unit} {ms : Array (String × TypeId)} {t : TypeId} (hg : Tryz.prog.globalNamed n = some g) (hty : (Tryz.prog.globals[g]?).map (·.type) = some t) (ht : Tryz.prog.underlying t = some (.interface ms)) (h : VarReads Tryz.prog W n (.iface s d)) : ErrVar g W := by
  obtain ⟨g', t', cs, fuel, p, hg', ht', hvar, hd⟩ := h
  obtain rfl := Option.some.inj (hg.symm.trans hg')
  obtain rfl := Option.some.inj (hty.symm.trans ht')
  have hc := World.var?_cell hg hvar 0
  cases fuel with
  | zero => simp [DataW.trod] at hd
  | succ fuel =>
    unfold DataW.trod at hd
    obtain ⟨l⟩ := cs
    rcases l with _ | ⟨c, _ | ⟨c2, r⟩⟩
    · simp [ht] at hd
    · refine ⟨c, by simpa using hc, ?_⟩
      cases c <;> first | (simp [ht] at hd; done) | exact .inr ⟨_, _, rfl⟩ | exact .inl rfl
    · simp [ht] at hd
theorem syn_of {W : World} {s : String} {d : DataW Unit} (h : VarReads Tryz.prog W "strconv.ErrSyntax" (.iface s d)) : ErrVar 2 W := err_of (by kernel_rfl) (by kernel_rfl) Tryz.underlying87 h
theorem rng_of {W : World} {s : String} {d : DataW Unit} (h : VarReads Tryz.prog W "strconv.ErrRange" (.iface s d)) : ErrVar 3 W := err_of (by kernel_rfl) (by kernel_rfl) Tryz.underlying87 h
--END
/-- what is known of the library's own variables, of any world of this program's shape in which what a row lists is laid -/
theorem glob_of {W : World} {l : List (String × DataW Unit)} (hsh : W.ShapedOpen Tryz.prog) (hl : laidMetH Tryz.prog l W) (hp : (l.all fun x => x.2.handleName?.isNone) = true)
    (h0 : ("unicode/utf8.first", Go.Pinned.utf8First) ∈ l) (h1 : ("unicode/utf8.acceptRanges", (YtoijpmokcdifnaaGreatDoor.Rows.laid_unicode_utf8_acceptRanges : DataW Unit)) ∈ l) (h2 : ("internal/strconv.uint64pow10", (YtoijpmokcdifnaaGreatDoor.Rows.laid_internal_strconv_uint64pow10 : DataW Unit)) ∈ l)
    (h3 : ("strconv.ErrSyntax", (YtoijpmokcdifnaaGreatDoor.Rows.laid_strconv_ErrSyntax : DataW Unit)) ∈ l) (h4 : ("strconv.ErrRange", (YtoijpmokcdifnaaGreatDoor.Rows.laid_strconv_ErrRange : DataW Unit)) ∈ l) : Glob W := by
  rw [MakeChecks.laidMetH_plain _ _ _ hp] at hl
  rw [first_eq] at h0; rw [accept_eq] at h1; rw [pow_eq] at h2
  exact ⟨ints_of hsh, utf_of (laidMet.reads hl h0) (laidMet.reads hl h1), pow_of (laidMet.reads hl h2), syn_of (laidMet.reads hl h3), rng_of (laidMet.reads hl h4)⟩
end Go.Abs
namespace Go.Abs
set_option linter.unusedVariables false
open Go.RowKit Go.Proofs Go.Deep

theorem good0 : Go.Abs.Good V0 where
  draw := draw_sound (by kernel_rfl)
  prim := prims0
  name := by
    intro f F hF hb
    have all : (Tryz.prog.funcs.all fun F => !F.body.isSome || !(F.name == "runtime.NumGoroutine")) = true := by kernel_rfl
    have := Array.all_eq_true.1 all
    obtain ⟨hi, rfl⟩ := Array.getElem?_eq_some_iff.1 hF
    have h1 : (!V0.P.funcs[f].body.isSome || !(V0.P.funcs[f].name == "runtime.NumGoroutine")) = true := this f hi
    rw [hb, Bool.not_true, Bool.false_or] at h1
    cases hq : (V0.P.funcs[f].name == "runtime.NumGoroutine") with
    | false => rfl
    | true => rw [hq] at h1; cases h1

theorem rel_start (W : World) (hg : Glob W) : Rel W 0 (fun _ => ⟨0, 0, 0⟩) [] W :=
  ⟨Below.refl _ _, fun id g sz cs e => by simp at e, fun id es e => by simp at e, fun i j _ hi _ _ => by rcases hi with ⟨_, _, _, e⟩ | ⟨_, e⟩ <;> simp at e, hg⟩

/-- a cell that stands for itself -/
def plainC : Value → Bool
  | .bool _ | .int .. | .string _ => true
  | _ => false
theorem plainC_vr {ι : Iota} {h : AH} {v : Value} (p : plainC v = true) : VR ι h v v ∧ oneCell v = true := by
  cases v <;> first | (cases p; done) | skip
  · exact ⟨VR.bool _, rfl⟩
  · exact ⟨VR.int _ _, rfl⟩
  · exact ⟨VR.str _, rfl⟩

theorem okWide_has {P : Program} {W : World} {r : Reach} {base t e : Nat} {a : Addr} {len cap : Nat} (ht : P.underlying t = some (.slice e)) (h : Value.okWide P W r base t (.slice (some a) len cap)) :
    a.spot = none ∧ ∃ arr el fr, W.heap[a.block]? = some (.cells arr el fr) := by
  simp only [Value.okWide, ht, Cell.okWide, Cell.ok, World.has] at h
  obtain ⟨-, -, -, hs, row, n, hsh, -⟩ := h
  refine ⟨hs, ?_⟩
  unfold World.shape? at hsh
  split at hsh
  · rename_i c el fr e; exact ⟨_, _, _, e⟩
  · cases hsh
theorem compat_app {ι ι' : Iota} {h : AH} (o : AObj) (hι : ∀ j, j < h.length → ι' j = ι j) : Compat ι h ι' (h ++ [o]) := by
  have key : ∀ id, live h id → (h ++ [o])[id]? = h[id]? := fun id l => List.getElem?_append_left (live_lt l)
  refine ⟨by simp, fun id l => ?_, fun id l g' sz' cs' e => ?_, fun id l es' e => ?_⟩
  · rcases l with ⟨g, sz, cs, e⟩ | ⟨es, e⟩
    · exact .inl ⟨g, sz, cs, by rw [key id (.inl ⟨g, sz, cs, e⟩), e]⟩
    · exact .inr ⟨es, by rw [key id (.inr ⟨es, e⟩), e]⟩
  · rw [key id l] at e
    exact ⟨g', _, cs', e, Nat.le_refl _, fun _ => ⟨rfl, hι id (live_lt l)⟩⟩
  · rw [key id l] at e
    exact ⟨es', e, hι id (live_lt l)⟩
/-- an argument that is a slice of plain cells: an object that is read, behind those of the arguments ahead of it -/
theorem rel_arg {W : World} {n0 : Nat} {ι : Iota} {h : AH} (R : Rel W n0 ι h W) {a : Addr} {len cap k : Nat} {cs : List Value} {arr : Array Value} {el : TypeId} {fr : Nat × Nat} (hk : 0 < k ∧ k < 4294967296) (hsp : a.spot = none) (harr : W.heap[a.block]? = some (.cells arr el fr))
    (hm : ∀ (id : Nat) es, h[id]? ≠ some (AObj.map es)) (hlc : len ≤ cap) (hcs : cs.length = len * k) (hp : cs.all plainC = true)
    (hget : ∀ (i : Nat) v, cs[i]? = some v → arr[a.off + i]? = some v) (hcap : 0 < cap → a.off + cap * k ≤ arr.size) :
    ∃ ι', Rel W (h.length + 1) ι' (h ++ [AObj.row 0 k cs]) W ∧ (∀ j, j < h.length → ι' j = ι j) ∧ VR ι' (h ++ [AObj.row 0 k cs]) (slV h.length 0 len len) (.slice (some a) len cap) := by
  refine ⟨fun j => if j < h.length then ι j else ⟨a.block, if cap = 0 then 0 else a.off, arr.size⟩, ?_, fun j hj => if_pos hj, ?_⟩
  · have C : Compat ι h (fun j => if j < h.length then ι j else ⟨a.block, if cap = 0 then 0 else a.off, arr.size⟩) (h ++ [AObj.row 0 k cs]) := compat_app _ fun j hj => if_pos hj
    refine ⟨R.below, fun id g sz cs' e => ?_, fun id es e => ?_, fun i j hij hi hj hl => ?_, R.glob⟩
    · by_cases hid : id < h.length
      · rw [List.getElem?_append_left hid] at e
        obtain ⟨arr', t', fr', e1, e2, e3, e4⟩ := R.row id g sz cs' e
        simp only [if_pos hid]
        exact ⟨arr', t', fr', e1, e2, fun i v hv => let ⟨v', a1, a2, a3⟩ := e3 i v hv; ⟨v', a1, a2.mono C, a3⟩, fun hq => absurd hq (by omega)⟩
      · have hid2 : id = h.length := by
          have := lt_of_get e
          simp at this; omega
        subst hid2
        simp at e
        obtain ⟨rfl, rfl, rfl⟩ := e
        simp only [if_neg hid]
        refine ⟨arr, el, fr, harr, rfl, fun i v hv => ?_, fun hq => absurd hq (by omega)⟩
        have hc0 : cap ≠ 0 := by
          intro q
          have : i < cs.length := by
            rcases Nat.lt_or_ge i cs.length with q | q
            · exact q
            · rw [List.getElem?_eq_none q] at hv; cases hv
          have h0 : len = 0 := by omega
          have : cs.length = 0 := by rw [hcs, h0, Nat.zero_mul]
          omega
        have ho : (if cap = 0 then 0 else a.off) = a.off := if_neg hc0
        have hpv := List.all_eq_true.1 hp v (List.mem_of_getElem? hv)
        obtain ⟨p1, p2⟩ := plainC_vr (ι := fun j => if j < h.length then ι j else ⟨a.block, if cap = 0 then 0 else a.off, arr.size⟩) (h := h ++ [AObj.row 0 k cs]) hpv
        exact ⟨v, by rw [ho]; exact hget i v hv, p1, p2⟩
    · by_cases hid : id < h.length
      · rw [List.getElem?_append_left hid] at e
        exact absurd e (hm id es)
      · have hid2 : id = h.length := by
          have := lt_of_get e
          simp at this; omega
        subst hid2
        simp at e
    · have := live_lt hi
      simp at this; omega
  · refine VR.slice (.inl ⟨0, k, cs, by simp⟩) hlc hlc fun g' sz cs' e => ?_
    simp at e
    obtain ⟨rfl, rfl, rfl⟩ := e
    refine ⟨Nat.le_refl _, fun _ => ⟨?_, ?_⟩⟩
    · by_cases hc0 : cap = 0
      · exact .inl hc0
      · refine .inr ?_
        simp only [if_neg (Nat.lt_irrefl _), if_neg hc0, Nat.add_zero]
        cases a; simp only at hsp; subst hsp; rfl
    · simp only [if_neg (Nat.lt_irrefl _)]
      by_cases hc0 : cap = 0
      · simp [hc0]
      · have hwk : wd k = k := Nat.mod_eq_of_lt hk.2
        rw [if_neg hc0, hwk]; have := hcap (by omega); omega
theorem add_block (a : Addr) (n : Nat) : (a.add n).block = a.block := by unfold Addr.add; split <;> rfl
theorem add_off (a : Addr) (n : Nat) : (a.add n).off = a.off + n := by unfold Addr.add; split <;> simp_all
theorem cell_arr {W : World} {p : Addr} {v : Value} {b : Nat} {arr : Array Value} {el : TypeId} {fr : Nat × Nat} (hb : W.heap[b]? = some (.cells arr el fr)) (hp : p.block = b) (h : W.cell? p = some v) : arr[p.off]? = some v := by
  unfold World.cell? at h
  rw [hp, hb] at h
  simp only at h
  split at h
  · cases h
  · exact h
theorem flat_get {α : Type} {f : α → List Value} {k : Nat} (hk : 0 < k) (hf : ∀ x, (f x).length = k) : ∀ (xs : List α) (i : Nat), (xs.flatMap f)[i]? = (xs[i / k]?).bind fun x => (f x)[i % k]?
  | [], i => by simp
  | x :: xs, i => by
    rw [List.flatMap_cons]
    by_cases hi : i < k
    · rw [List.getElem?_append_left (by rw [hf]; exact hi), Nat.div_eq_of_lt hi, Nat.mod_eq_of_lt hi]; rfl
    · rw [List.getElem?_append_right (by rw [hf]; omega), hf, flat_get hk hf xs (i - k)]
      have h1 : i / k = (i - k) / k + 1 := by rw [Nat.div_eq_sub_div hk (by omega)]
      have h2 : i % k = (i - k) % k := Nat.mod_eq_sub_mod (by omega)
      rw [h1, h2, List.getElem?_cons_succ]
/-- the elements of a slice that is an argument, each of k cells -/
theorem open_els {α : Type} [Inhabited α] {f : α → List Value} {k : Nat} (hk : 0 < k) (hf : ∀ x, (f x).length = k) {good : α → Prop} {H : Type} {enc : TypeId × Value → H} {P : Program} {W : World} {t e base : Nat} {v : Value} {d : DataW H} {ps : List MemPlace}
    (ht : P.underlying t = some (.slice e)) (hc : P.cellsOf e = k) (hval : Value.okWide P W .any base t v) (hd : DataW.Trod enc P W 0 (fun _ => true) true t v d ps)
    (hel : ∀ fuel cs x, DataW.trod enc P W 0 (fun _ => true) true fuel e cs = some x → ∃ y, cs = f y ∧ good y) (hplain : ∀ y, (f y).all plainC = true) :
    v = .slice none 0 0 ∨ ∃ (a : Addr) (len cap : Nat) (xs : List α) (arr : Array Value) (el : TypeId) (fr : Nat × Nat), v = .slice (some a) len cap ∧ a.spot = none ∧ W.heap[a.block]? = some (.cells arr el fr) ∧ xs.length = len ∧ len ≤ cap ∧ len ≤ maxLen ∧
      (∀ x ∈ xs, good x) ∧ (xs.flatMap f).length = len * k ∧ (xs.flatMap f).all plainC = true ∧ (∀ (i : Nat) v, (xs.flatMap f)[i]? = some v → arr[a.off + i]? = some v) ∧ (0 < cap → a.off + cap * k ≤ arr.size) := by
  obtain ⟨fuel, hfu⟩ := hd
  obtain ⟨va, len, cap, rfl⟩ := Go.WideShapes.okWide_slice ht hval
  rcases open_slice ht hfu with ⟨h0, -⟩ | ⟨a, len', cap', m, n, D, Pl, hcs, hb, hl, hm, hmm, -, hx⟩
  · left; simpa [Value.cells] using h0
  · right
    simp only [Value.cells, List.cons.injEq, and_true] at hcs
    cases hcs
    simp only [if_true] at hmm
    subst hmm
    obtain ⟨hsp, arr, el, fr, harr⟩ := okWide_has ht hval
    rw [hc] at hx
    have hx' : ∀ i, i < m → ∃ y, W.cells? 0 (a.add (i * k)) k = some (f y) ∧ good y := fun i hi => by
      obtain ⟨cs', h1, h2⟩ := hx i hi
      obtain ⟨y, rfl, hg⟩ := hel _ _ _ h2
      exact ⟨y, h1, hg⟩
    obtain ⟨X, hX⟩ := choose_lt hx'
    have hcell : ∀ i, i < m → ∀ j v, (f (X i))[j]? = some v → arr[a.off + (i * k + j)]? = some v := fun i hi j v hv => by
      obtain ⟨-, hlen, hg⟩ := World.cells?_some (hX i hi).1
      have hj : j < k := by
        rcases Nat.lt_or_ge j (f (X i)).length with q | q
        · rw [hf] at q; exact q
        · rw [List.getElem?_eq_none q] at hv; cases hv
      have := cell_arr harr (by rw [add_block, add_block]) ((hg j hj).trans hv)
      rw [add_off, add_off] at this
      rw [← Nat.add_assoc]; exact this
    have hxs : ∀ i, i < len → ((List.range len).map X)[i]? = some (X i) := fun i hi => by simp [hi]
    refine ⟨a, len, m, (List.range len).map X, arr, el, fr, rfl, hsp, harr, by simp, hl, by omega, ?_, ?_, ?_, ?_, ?_⟩
    · intro x hx
      obtain ⟨i, hi, rfl⟩ := List.mem_map.1 hx
      exact (hX i (by have := List.mem_range.1 hi; omega)).2
    · have : ∀ (l : List α), (l.flatMap f).length = l.length * k := by
        intro l
        induction l with
        | nil => simp
        | cons x l ih => rw [List.flatMap_cons, List.length_append, ih, hf, List.length_cons, Nat.succ_mul]; omega
      rw [this]; simp
    · rw [List.all_eq_true]
      intro v hv
      obtain ⟨x, -, hx⟩ := List.mem_flatMap.1 hv
      exact List.all_eq_true.1 (hplain x) v hx
    · intro i v hv
      rw [flat_get hk hf] at hv
      obtain ⟨x, h1, h2⟩ := Option.bind_eq_some_iff.1 hv
      have hi : i / k < len := by
        rcases Nat.lt_or_ge (i / k) len with q | q
        · exact q
        · rw [List.getElem?_eq_none (by simpa using q)] at h1; cases h1
      rw [hxs _ hi] at h1
      cases h1
      have := hcell (i / k) (by omega) (i % k) v h2
      rw [Nat.div_add_mod' i k] at this
      exact this
    · intro h0
      have hlast : (f (X (m - 1)))[k - 1]? = some ((f (X (m - 1)))[k - 1]'(by rw [hf]; omega)) := List.getElem?_eq_getElem _
      have := hcell (m - 1) (by omega) (k - 1) _ hlast
      have hs : a.off + ((m - 1) * k + (k - 1)) < arr.size := by
        rcases Nat.lt_or_ge (a.off + ((m - 1) * k + (k - 1))) arr.size with q | q
        · exact q
        · rw [Array.getElem?_eq_none q] at this; cases this
      have : m * k = (m - 1) * k + k := by rw [← Nat.succ_mul]; congr 1; omega
      omega
end Go.Abs
namespace Go.Abs
open Go.RowKit Go.Proofs Go.Deep
theorem maxLen_is : maxLen = 9223372036854775807 := by kernel_rfl
theorem Tryz.own : ownKnob Tryz.prog.godebug = none := by kernel_rfl
theorem Tryz.laidOut : laidOutB Tryz.prog = true := by kernel_rfl
theorem und4 : Tryz.prog.underlying 4 = some .bool := by kernel_rfl
theorem und5 : Tryz.prog.underlying 5 = some (.int .u8) := by kernel_rfl
theorem cells5 : Tryz.prog.cellsOf 5 = 1 := by kernel_rfl
def NoMaps (h : AH) : Prop := ∀ (id : Nat) es, h[id]? ≠ some (AObj.map es)
end Go.Abs
namespace Go.Abs
open Go.RowKit Go.Proofs Go.Deep
set_option linter.unusedVariables false

theorem u8_flat (s : Bs) : s.flatMap (fun b => [Value.int .u8 b.toNat]) = u8c s := by
  induction s with
  | nil => rfl
  | cons b s ih => rw [List.flatMap_cons, ih]; rfl
theorem und39 : Tryz.prog.underlying 39 = some (.slice 5) := by kernel_rfl
theorem u8_el {H : Type} {enc : TypeId × Value → H} {W : World} (fuel : Nat) (cs : List Value) (x : DataW H × List MemPlace) (h : DataW.trod enc Tryz.prog W 0 (fun _ => true) true fuel 5 cs = some x) : ∃ y : UInt8, cs = [Value.int .u8 y.toNat] ∧ True := by
  obtain ⟨n, rfl, -, hw⟩ := DataW.trod_int und5 h
  have hb : 0 ≤ n ∧ n ≤ 255 := by
    simp only [Lit.wf, Bool.and_eq_true, decide_eq_true_eq] at hw
    exact hw
  refine ⟨UInt8.ofNat n.toNat, ?_, trivial⟩
  have : ((UInt8.ofNat n.toNat).toNat : Int) = n := by
    rw [UInt8.toNat_ofNat']
    have : n.toNat % 2 ^ 8 = n.toNat := Nat.mod_eq_of_lt (by omega)
    rw [this]; omega
  rw [this]
set_option maxRecDepth 100000 in
/-- an argument of bytes, behind those ahead of it -/
theorem bytes_arg {H : Type} {enc : TypeId × Value → H} {W : World} {base : Nat} {v : Value} {d : DataW H} {ps : List MemPlace} {n0 : Nat} {ι : Iota} {h : AH} (R : Rel W n0 ι h W) (hn0 : n0 ≤ h.length) (hm : NoMaps h)
    (hval : Value.okWide Tryz.prog W .any base 39 v) (hd : DataW.Trod enc Tryz.prog W 0 (fun _ => true) true 39 v d ps) :
    ∃ (n1 : Nat) (ι' : Iota) (h' : AH) (va : Value) (n : Nat), n1 ≤ h'.length ∧ Rel W n1 ι' h' W ∧ NoMaps h' ∧ Keep h.length h h' ∧ Compat ι h ι' h' ∧ VR ι' h' va v ∧ Cd h' va n ∧ n ≤ 9223372036854775807 := by
  rcases open_els (f := fun b : UInt8 => [Value.int .u8 b.toNat]) (k := 1) (good := fun _ => True) (by omega) (fun _ => rfl) und39 cells5 hval hd (fun fuel cs x h => u8_el fuel cs x h) (fun _ => rfl) with rfl | ⟨a, len, cap, xs, arr, el, fr, rfl, hsp, harr, hl, hlc, hml, hg, hcs, hp, hget, hcap⟩
  · exact ⟨n0, ι, h, .slice none 0 0, 0, hn0, R, hm, Keep.refl _ _, Compat.refl _ _, VR.snil, .inl ⟨rfl, rfl⟩, Nat.zero_le _⟩
  · rw [u8_flat] at hcs hp hget
    obtain ⟨ι', R', hι, hv⟩ := rel_arg R (k := 1) (by omega) hsp harr hm hlc hcs hp hget hcap
    subst hl
    refine ⟨h.length + 1, ι', _, _, xs.length, by simp, R', ?_, Keep.app _ _ (Nat.le_refl _), compat_app _ hι, hv, .inr ⟨h.length, xs, rfl, by simp, rfl⟩, by rw [maxLen_is] at hml; exact hml⟩
    intro id es e
    by_cases hid : id < h.length
    · rw [List.getElem?_append_left hid] at e; exact hm id es e
    · have : id = h.length := by have := lt_of_get e; simp at this; omega
      subst this
      simp at e
end Go.Abs
namespace Go.Proofs.YtoijpmokcdifnaaGreatDoor
open Go.ChangeShapes Go.WideShapes Go.ChangeAt Go.RowKit Go.Abs

/-- the wrap for a row with what is laid, the world's shape kept -/
theorem handed_shaped_and {H : Type} {enc : TypeId × Value → H} {a : Assume} {C : Checked} {os : Os} {f : FuncId} {fn : Func} {s : ChangeSpec} {conds : List PathCond} {apart fresh handsOn again : Bool} {X : World → Array Value → Prop}
    (keep : ∀ (w w' : World) (x : Array Value), w'.heap = w.heap → X w x → X w' x) (own : ownKnob C.prog.godebug = none) (started : os.Started) (noInit : C.prog.inits.idxOf? f = none) (hfn : C.prog.funcs[f]? = some fn)
    (witness : ∃ (w : World) (tape : Tape) (i : Input), w.os = os ∧ (w.forCall tape i).Shaped C.prog ∧ i.vars = [] ∧ Input.okWide C.prog (w.forCall tape i) .any w.heap.size f i ∧
      ((s.pre enc C.prog fn conds apart (w.forCall tape i).memory i.args ∧ X (w.forCall tape i).memory i.args) ∧ sizedMet enc C.prog fn (OpenSpec.ofChange s) apart (w.forCall tape i).memory i.args) ∧ a.holds C.prog (lone (Frame.enter C.prog f i.args .normal) [] (w.forCall tape i)))
    (contract : ∀ (W : World) (base : Nat) (args : Array Value) (ds gs : List (DataW H)) (before : List MemPlace),
      (∀ (j : Nat) t v, fn.params[j]? = some t → args[j]? = some v → Value.okWide C.prog W .any base t v) →
      DataW.Whole enc C.prog fn.params.toList s.vars apart W args.toList ds gs before → W.ShapedOpen C.prog → X W args →
      Calls C.prog f args W fun e W' => ∃ v, e = .returned v ∧ s.post enc C.prog fn apart fresh handsOn again W args v W') :
    ReturnsInHanded a C os f .any (fun w args => (s.pre enc C.prog fn conds apart w args ∧ X w args) ∧ sizedMet enc C.prog fn (OpenSpec.ofChange s) apart w args) (s.post enc C.prog fn apart fresh handsOn again) := by
  refine returnsInHanded_of_calls own started noInit witness ?_
  intro w tape i _ hsh _ hok hpre _
  obtain ⟨_, _, _, fn', hfn', _, _, _, _, hval⟩ := hok
  have e : fn' = fn := Option.some.inj (hfn'.symm.trans hfn)
  subst e
  obtain ⟨⟨⟨ds, gs, before, hw, _⟩, hX⟩, _⟩ := hpre
  have hw' := DataW.Whole.of_heap (w' := w.forCall tape i) (by rfl) hw
  refine (contract (w.forCall tape i) w.heap.size i.args ds gs before hval hw' hsh (keep _ (w.forCall tape i) _ (by rfl) hX)).mono fun e W' ⟨v, he, hp⟩ => ?_
  subst he
  exact ChangeSpec.post_blind hp

set_option maxRecDepth 100000 in
theorem fnRoomPut_lifted (os : Os) (started : os.Started) (H : Type) (enc : TypeId × Value → H) :
    ReturnsInHanded {} Tryz.checked os 5 .any (fun w args => (Rows.fnRoomPutSpec.pre enc Tryz.prog Tryz.f5 Rows.fnRoomPutRow.domain false w args ∧ laidMetH Tryz.prog Rows.fnRoomPutRow.laid w) ∧ sizedMet enc Tryz.prog Tryz.f5 (OpenSpec.ofChange Rows.fnRoomPutSpec) false w args) (Rows.fnRoomPutSpec.post enc Tryz.prog Tryz.f5 false true false false) := by
  refine handed_shaped_and (C := Tryz.checked) (X := fun w _ => laidMetH Tryz.prog Rows.fnRoomPutRow.laid w) (fun _ _ _ hh h => h.of_heap hh.symm) Tryz.own started (by kernel_rfl) Tryz.func5
    (ChangeSpec.witness_shaped (enc := enc) (C := Tryz.checked) (os := os) (X := fun w _ => laidMetH Tryz.prog Rows.fnRoomPutRow.laid w) false (World.laidAll Tryz.prog os Rows.fnRoomPutRow.laid) #[.slice none 0 0] 8 (World.laidAll_os _ _ _)
      (World.shaped_of_ZipB (by kernel_rfl) (by kernel_rfl)) (by kernel_rfl) (by kernel_rfl) (by kernel_rfl)
      (by rw [MakeChecks.laidMetH_plain _ _ _ (by kernel_rfl)]; exact laidMet_laidAll _ (by kernel_rfl) (by kernel_rfl))) ?_
  intro W base args ds gs before hval0 hW hsh hX
  have hval : ∀ (j : Nat) t v, Tryz.f5.params[j]? = some t → args[j]? = some v → Value.okWide Tryz.prog W .any base t v := hval0
  have hW' := hW
  obtain ⟨p, q, hA0, hV, rfl, hfz, hnd⟩ := hW
  have hA : DataW.TrodAll enc Tryz.prog W 0 (fun _ => true) true Tryz.f5.params.toList args.toList ds p := hA0
  rw [Tryz.params5] at hA hval
  obtain ⟨v0, d0, rfl, rfl, h0⟩ := trodAll_one hA
  obtain ⟨rfl, rfl⟩ := trodVars_none hV
  have hlt : ∀ x ∈ p, x.block < W.heap.size := fun x hx => by simpa using hW'.lt x (by simpa using hx)
  obtain ⟨n0, ι0, g0, va0, na0, hn0, R0, m0, k0, c0, hv0, hq0, hl0⟩ := bytes_arg (rel_start W (glob_of hsh hX (by kernel_rfl) (.tail _ (.tail _ (.tail _ (.tail _ (.tail _ (.tail _ (.head _))))))) (.tail _ (.tail _ (.tail _ (.head _)))) (.tail _ (.tail _ (.head _))) (.tail _ (.tail _ (.tail _ (.tail _ (.tail _ (.head _)))))) (.tail _ (.tail _ (.tail _ (.tail _ (.head _))))))) (Nat.le_refl _) (fun id es e => by simp at e) (hval 0 39 v0 rfl rfl) h0
  clear hA0 hval0
  simp only [List.append_nil] at hW'
  obtain ⟨h', e⟩ := rz5 va0 na0 n0 g0 hq0 hn0
  obtain ⟨-, hc⟩ := run_sound good0 5 n0 [va0] g0 _ e
  refine (hc W n0 ι0 W [v0] (Nat.le_refl _) R0 ⟨rfl, fun i v hv' => ?_⟩).mono fun en W' hr => ?_
  · match i, hv' with
    | 0, hv' => cases hv'; exact ⟨v0, rfl, hv0⟩
    | i + 1, hv' => simp at hv'
  · cases en with
    | returned v' =>
      obtain ⟨v, h2, ι', ho, hrel, hstep, hvr⟩ := hr
      cases ho
      cases hvr
      have bel := hrel.below
      exact ⟨_, rfl, _, _, _, [], p, [], hW', trodAll_mk1 (shut_bool und4 true), trodAll_mk1 (Below.trod Tryz.laidOut (by kernel_rfl) (of_decide_eq_true (by kernel_rfl)) h0 bel hlt), rfl, bel.frame _, fun h => by cases h⟩
    | panicked ch => obtain ⟨v, v', h2, ι', ho, _⟩ := hr; cases ho
    | outgrown => exact hr.elim

theorem fnRoomPut_holds : Rows.FnRoomPutSaid :=
  OpenClaim.holds_of_wide 5 Tryz.f5 rfl rfl rfl rfl rfl rfl rfl ⟨rfl, rfl, rfl, rfl, rfl⟩ rfl rfl rfl rfl rfl (by kernel_rfl) Tryz.func5 (by kernel_rfl)
    (of_decide_eq_true (by kernel_rfl)) (by unfold Func.isWrapper; first | (rw [if_pos (by decide +kernel)]; kernel_rfl) | (rw [if_neg (by decide +kernel)]; exact ⟨rfl, rfl⟩))
    (fun os started H enc _ => fnRoomPut_lifted os started H enc)

/-- the card -/
theorem fnRoomPut_card : Rows.FnRoomPutCardSaid :=
  Claim7.holds_tied_plain_at .later [] [.data, .data, .data, .data, .sentinel, .sentinel, .pinned] true (true, "6e777a16231047c08a520e5cc2bc2b37e3236107f5f8828560249da8bb24f6f7") true
    fnRoomPut_holds (fun _ h => by cases h) (by kernel_rfl) (fun _ h => by cases h) fnRoomPut_row_tie rfl ⟨rfl, rfl⟩ (by kernel_rfl) rfl
    (fun f fn hf hfn => by
      obtain rfl : f = 5 := Option.some.inj ((show Tryz.prog.funcNamed Rows.fnRoomPutRow.func = some 5 by kernel_rfl).symm.trans hf) |>.symm
      obtain rfl : fn = Tryz.f5 := (Option.some.inj (Tryz.func5.symm.trans hfn)).symm
      exact ⟨by kernel_rfl, fun j t ht => by
        rw [Tryz.params5] at ht
        have hall : (Tryz.f5.params.toList.all fun u => !Tryz.prog.wantsStandIn u) = true := by kernel_rfl
        have hm : t ∈ Tryz.f5.params.toList := by
          rw [Tryz.params5]
          exact Array.mem_toList_iff.2 (Array.mem_of_getElem? ht)
        exact (show Tryz.prog.wantsStandIn t = false by simpa using List.all_eq_true.1 hall t hm)⟩)
    (by kernel_rfl)
end Go.Proofs.YtoijpmokcdifnaaGreatDoor
