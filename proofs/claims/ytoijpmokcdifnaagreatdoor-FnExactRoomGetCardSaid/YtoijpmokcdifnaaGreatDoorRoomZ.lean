/- FnExactRoomGet returns true, for every text, and leaves its argument as it was. No condition but the row's own: what is laid. -/
import Derived.Test.YtoijpmokcdifnaaGreatDoorAbsA
import Derived.Test.YtoijpmokcdifnaaGreatDoorLibA
import Derived.Test.YtoijpmokcdifnaaGreatDoorRows
import Derived.Lib.LaidU8
import Derived.Shelf.Vars
import Derived.Lay
import Derived.LaidMore
import Derived.Test.YtoijpmokcdifnaaGreatDoorProg
import Derived.HandedShaped
import Derived.ProofKit
import Derived.Deep.Slices
import Derived.Test.YtoijpmokcdifnaaGreatDoorCards
import Derived.Test.YtoijpmokcdifnaaGreatDoorTie
import Derived.SevenTiedAt
import Derived.Handed
import Derived.Stop.Joined
import Derived.Test.YtoijpmokcdifnaaGreatDoorRoomF
namespace Go.Abs
open Go.Proofs Go.RowKit Go.Lib Go.Shelf
theorem first_eq : Go.Pinned.utf8First = firstData := by kernel_rfl
theorem accept_eq : (YtoijpmokcdifnaaGreatDoor.Rows.laid_unicode_utf8_acceptRanges : DataW Unit) = acceptData := by kernel_rfl
theorem pow_eq : (YtoijpmokcdifnaaGreatDoor.Rows.laid_internal_strconv_uint64pow10 : DataW Unit) = tabData .u64 Lib.pow10Tab := by kernel_rfl
theorem tab_of_reads {P : Program} {W : World} {name : String} {k : IntKind} {zs : List Int} {g : Nat} {t e : TypeId} {n : Nat}
    (hg : P.globalNamed name = some g) (hty : (P.globals[g]?).map (·.type) = some t) (ht : P.underlying t = some (.array n e)) (he : P.underlying e = some (.int k)) (hce : P.cellsOf e = 1) (hct : P.cellsOf t = n)
    (h : VarReads P W name (tabData k zs)) : TabIs P W name k zs := by
  obtain ⟨g', t', cs, fuel, p, hg', ht', hvar, hd⟩ := h
  obtain rfl := Option.some.inj (hg.symm.trans hg')
  obtain rfl := Option.some.inj (hty.symm.trans ht')
  unfold TabIs
  rw [hvar, ← cells_of_tab ht he hce hct hd]
theorem utf_of {W : World} (h3 : VarReads Tryz.prog W "unicode/utf8.first" firstData) (h4 : VarReads Tryz.prog W "unicode/utf8.acceptRanges" acceptData) : Lib.Utf8Tabs 4 5 W :=
  utf8Tabs_of_reads (ρ := Tryz.lays197_ren) { Tryz.lays197 with } ⟨by kernel_rfl, by kernel_rfl, by kernel_rfl, by kernel_rfl, by kernel_rfl, by kernel_rfl, by kernel_rfl⟩ h3 h4
theorem pow_of {W : World} (h : VarReads Tryz.prog W "internal/strconv.uint64pow10" (tabData .u64 Lib.pow10Tab)) : Lib.TabIs Tryz.prog W "internal/strconv.uint64pow10" .u64 Lib.pow10Tab :=
  tab_of_reads (g := 0) (by kernel_rfl) (by kernel_rfl) (Tryz.underlying170) (Tryz.underlying144) (by kernel_rfl) (by kernel_rfl) h
theorem ints_of {W : World} (hsh : W.ShapedOpen Tryz.prog) : ∀ b ∈ [1], ∃ m, W.cell? ⟨b, 0, none⟩ = some (.int .i64 m) := by
  intro b hb
  have hb0 : b = 1 := by simpa using hb
  subst hb0
  exact Go.Proofs.cell_of_shapedOpen_int (zero := #[.int .i64 0]) (t := 3) hsh (of_decide_eq_true (by kernel_rfl)) (by kernel_rfl) rfl (by kernel_rfl) (by kernel_rfl) Tryz.underlying3
--ERR
/-- an error's variable that is laid -/
theorem err_of {W : World} {n : String} {g : Nat} {s : String} {d : DataW Unit} {ms : Array (String × TypeId)} {t : TypeId} (hg : Tryz.prog.globalNamed n = some g) (hty : (Tryz.prog.globals[g]?).map (·.type) = some t) (ht : Tryz.prog.underlying t = some (.interface ms)) (h : VarReads Tryz.prog W n (.iface s d)) : ErrVar g W := by
  obtain ⟨g', t', cs, fuel, p, hg', ht', hvar, hd⟩ := h
  obtain rfl := Option.some.inj (hg.symm.trans hg')
  obtain rfl := Option.some.inj (hty.symm.trans ht')
  have hc := World.var?_cell hg hvar 0
  cases fuel with
  | zero => simp [DataW.trod] at hd
  | succ fuel =>
    unfold DataW.trod at hd
    obtain ⟨l⟩ := cs
    rcases l with _ | ⟨c, _ | ⟨c2, r⟩⟩
    · simp [ht] at hd
    · refine ⟨c, by simpa using hc, ?_⟩
      cases c <;> first | (simp [ht] at hd; done) | exact .inr ⟨_, _, rfl⟩ | exact .inl rfl
    · simp [ht] at hd
theorem syn_of {W : World} {s : String} {d : DataW Unit} (h : VarReads Tryz.prog W "strconv.ErrSyntax" (.iface s d)) : ErrVar 2 W := err_of (by kernel_rfl) (by kernel_rfl) Tryz.underlying87 h
theorem rng_of {W : World} {s : String} {d : DataW Unit} (h : VarReads Tryz.prog W "strconv.ErrRange" (.iface s d)) : ErrVar 3 W := err_of (by kernel_rfl) (by kernel_rfl) Tryz.underlying87 h
--END
/-- what is known of the library's own variables, of any world of this program's shape in which what a row lists is laid -/
theorem glob_of {W : World} {l : List (String × DataW Unit)} (hsh : W.ShapedOpen Tryz.prog) (hl : laidMetH Tryz.prog l W) (hp : (l.all fun x => x.2.handleName?.isNone) = true)
    (h0 : ("unicode/utf8.first", Go.Pinned.utf8First) ∈ l) (h1 : ("unicode/utf8.acceptRanges", (YtoijpmokcdifnaaGreatDoor.Rows.laid_unicode_utf8_acceptRanges : DataW Unit)) ∈ l) (h2 : ("internal/strconv.uint64pow10", (YtoijpmokcdifnaaGreatDoor.Rows.laid_internal_strconv_uint64pow10 : DataW Unit)) ∈ l)
    (h3 : ("strconv.ErrSyntax", (YtoijpmokcdifnaaGreatDoor.Rows.laid_strconv_ErrSyntax : DataW Unit)) ∈ l) (h4 : ("strconv.ErrRange", (YtoijpmokcdifnaaGreatDoor.Rows.laid_strconv_ErrRange : DataW Unit)) ∈ l) : Glob W := by
  rw [MakeChecks.laidMetH_plain _ _ _ hp] at hl
  rw [first_eq] at h0; rw [accept_eq] at h1; rw [pow_eq] at h2
  exact ⟨ints_of hsh, utf_of (laidMet.reads hl h0) (laidMet.reads hl h1), pow_of (laidMet.reads hl h2), syn_of (laidMet.reads hl h3), rng_of (laidMet.reads hl h4)⟩
end Go.Abs
namespace Go.Abs
set_option linter.unusedVariables false
open Go.RowKit Go.Proofs Go.Deep

theorem good0 : Go.Abs.Good V0 where
  draw := draw_sound (by kernel_rfl)
  prim := prims0
  name := by
    intro f F hF hb
    have all : (Tryz.prog.funcs.all fun F => !F.body.isSome || !(F.name == "runtime.NumGoroutine")) = true := by kernel_rfl
    have := Array.all_eq_true.1 all
    obtain ⟨hi, rfl⟩ := Array.getElem?_eq_some_iff.1 hF
    have h1 : (!V0.P.funcs[f].body.isSome || !(V0.P.funcs[f].name == "runtime.NumGoroutine")) = true := this f hi
    rw [hb, Bool.not_true, Bool.false_or] at h1
    cases hq : (V0.P.funcs[f].name == "runtime.NumGoroutine") with
    | false => rfl
    | true => rw [hq] at h1; cases h1

theorem rel_start (W : World) (hg : Glob W) : Rel W 0 (fun _ => ⟨0, 0, 0⟩) [] W :=
  ⟨Below.refl _ _, fun id g sz cs e => by simp at e, fun id es e => by simp at e, fun i j _ hi _ _ => by rcases hi with ⟨_, _, _, e⟩ | ⟨_, e⟩ <;> simp at e, hg⟩

end Go.Abs
namespace Go.Abs
open Go.RowKit Go.Proofs Go.Deep
theorem Tryz.own : ownKnob Tryz.prog.godebug = none := by kernel_rfl
theorem Tryz.laidOut : laidOutB Tryz.prog = true := by kernel_rfl
theorem und4 : Tryz.prog.underlying 4 = some .bool := by kernel_rfl
def NoMaps (h : AH) : Prop := ∀ (id : Nat) es, h[id]? ≠ some (AObj.map es)
end Go.Abs
namespace Go.Abs
open Go.Proofs Go.ChangeShapes Go.WideShapes Go.ChangeAt
set_option maxRecDepth 100000
/-- an argument that is a text -/
theorem string_arg {H : Type} {enc : TypeId × Value → H} {W : World} {base : Nat} {v : Value} {d : DataW H} {ps : List MemPlace} {n0 : Nat} {ι : Iota} {h : AH} (R : Rel W n0 ι h W) (hn0 : n0 ≤ h.length) (hm : NoMaps h)
    (hval : Value.okWide Tryz.prog W .any base 9 v) (hd : DataW.Trod enc Tryz.prog W 0 (fun _ => true) true 9 v d ps) :
    ∃ (n1 : Nat) (ι' : Iota) (h' : AH) (va : Value) (s : Bs), n1 ≤ h'.length ∧ Rel W n1 ι' h' W ∧ NoMaps h' ∧ Keep h.length h h' ∧ Compat ι h ι' h' ∧ VR ι' h' va v ∧ va = sV s := by
  obtain ⟨s, rfl, rfl, rfl, ws⟩ := Go.ChangeMaps.open_string Tryz.underlying9 hval hd
  exact ⟨n0, ι, h, .string s, s.data.toList, hn0, R, hm, Keep.refl _ _, Compat.refl _ _, VR.str s, by cases s; rfl⟩
end Go.Abs
namespace Go.Proofs.YtoijpmokcdifnaaGreatDoor
open Go.ChangeShapes Go.WideShapes Go.ChangeAt Go.RowKit Go.Abs

/-- the wrap for a row with what is laid, the world's shape kept -/
theorem handed_shaped_and {H : Type} {enc : TypeId × Value → H} {a : Assume} {C : Checked} {os : Os} {f : FuncId} {fn : Func} {s : ChangeSpec} {conds : List PathCond} {apart fresh handsOn again : Bool} {X : World → Array Value → Prop}
    (keep : ∀ (w w' : World) (x : Array Value), w'.heap = w.heap → X w x → X w' x) (own : ownKnob C.prog.godebug = none) (started : os.Started) (noInit : C.prog.inits.idxOf? f = none) (hfn : C.prog.funcs[f]? = some fn)
    (witness : ∃ (w : World) (tape : Tape) (i : Input), w.os = os ∧ (w.forCall tape i).Shaped C.prog ∧ i.vars = [] ∧ Input.okWide C.prog (w.forCall tape i) .any w.heap.size f i ∧
      ((s.pre enc C.prog fn conds apart (w.forCall tape i).memory i.args ∧ X (w.forCall tape i).memory i.args) ∧ sizedMet enc C.prog fn (OpenSpec.ofChange s) apart (w.forCall tape i).memory i.args) ∧ a.holds C.prog (lone (Frame.enter C.prog f i.args .normal) [] (w.forCall tape i)))
    (contract : ∀ (W : World) (base : Nat) (args : Array Value) (ds gs : List (DataW H)) (before : List MemPlace),
      (∀ (j : Nat) t v, fn.params[j]? = some t → args[j]? = some v → Value.okWide C.prog W .any base t v) →
      DataW.Whole enc C.prog fn.params.toList s.vars apart W args.toList ds gs before → W.ShapedOpen C.prog → X W args →
      Calls C.prog f args W fun e W' => ∃ v, e = .returned v ∧ s.post enc C.prog fn apart fresh handsOn again W args v W') :
    ReturnsInHanded a C os f .any (fun w args => (s.pre enc C.prog fn conds apart w args ∧ X w args) ∧ sizedMet enc C.prog fn (OpenSpec.ofChange s) apart w args) (s.post enc C.prog fn apart fresh handsOn again) := by
  refine returnsInHanded_of_calls own started noInit witness ?_
  intro w tape i _ hsh _ hok hpre _
  obtain ⟨_, _, _, fn', hfn', _, _, _, _, hval⟩ := hok
  have e : fn' = fn := Option.some.inj (hfn'.symm.trans hfn)
  subst e
  obtain ⟨⟨⟨ds, gs, before, hw, _⟩, hX⟩, _⟩ := hpre
  have hw' := DataW.Whole.of_heap (w' := w.forCall tape i) (by rfl) hw
  refine (contract (w.forCall tape i) w.heap.size i.args ds gs before hval hw' hsh (keep _ (w.forCall tape i) _ (by rfl) hX)).mono fun e W' ⟨v, he, hp⟩ => ?_
  subst he
  exact ChangeSpec.post_blind hp

set_option maxRecDepth 100000 in
theorem fnExactRoomGet_lifted (os : Os) (started : os.Started) (H : Type) (enc : TypeId × Value → H) :
    ReturnsInHanded {} Tryz.checked os 4 .any (fun w args => (Rows.fnExactRoomGetSpec.pre enc Tryz.prog Tryz.f4 Rows.fnExactRoomGetRow.domain false w args ∧ laidMetH Tryz.prog Rows.fnExactRoomGetRow.laid w) ∧ sizedMet enc Tryz.prog Tryz.f4 (OpenSpec.ofChange Rows.fnExactRoomGetSpec) false w args) (Rows.fnExactRoomGetSpec.post enc Tryz.prog Tryz.f4 false true false false) := by
  refine handed_shaped_and (C := Tryz.checked) (X := fun w _ => laidMetH Tryz.prog Rows.fnExactRoomGetRow.laid w) (fun _ _ _ hh h => h.of_heap hh.symm) Tryz.own started (by kernel_rfl) Tryz.func4
    (ChangeSpec.witness_shaped (enc := enc) (C := Tryz.checked) (os := os) (X := fun w _ => laidMetH Tryz.prog Rows.fnExactRoomGetRow.laid w) false (World.laidAll Tryz.prog os Rows.fnExactRoomGetRow.laid) #[.string ⟨#[]⟩] 8 (World.laidAll_os _ _ _)
      (World.shaped_of_ZipB (by kernel_rfl) (by kernel_rfl)) (by kernel_rfl) (by kernel_rfl) (by kernel_rfl)
      (by rw [MakeChecks.laidMetH_plain _ _ _ (by kernel_rfl)]; exact laidMet_laidAll _ (by kernel_rfl) (by kernel_rfl))) ?_
  intro W base args ds gs before hval0 hW hsh hX
  have hval : ∀ (j : Nat) t v, Tryz.f4.params[j]? = some t → args[j]? = some v → Value.okWide Tryz.prog W .any base t v := hval0
  have hW' := hW
  obtain ⟨p, q, hA0, hV, rfl, hfz, hnd⟩ := hW
  have hA : DataW.TrodAll enc Tryz.prog W 0 (fun _ => true) true Tryz.f4.params.toList args.toList ds p := hA0
  rw [Tryz.params4] at hA hval
  obtain ⟨v0, d0, rfl, rfl, h0⟩ := trodAll_one hA
  obtain ⟨rfl, rfl⟩ := trodVars_none hV
  have hlt : ∀ x ∈ p, x.block < W.heap.size := fun x hx => by simpa using hW'.lt x (by simpa using hx)
  obtain ⟨n0, ι0, g0, va0, na0, hn0, R0, m0, k0, c0, hv0, hq0⟩ := string_arg (rel_start W (glob_of hsh hX (by kernel_rfl) (.tail _ (.tail _ (.tail _ (.tail _ (.tail _ (.tail _ (.head _))))))) (.tail _ (.tail _ (.tail _ (.head _)))) (.tail _ (.tail _ (.head _))) (.tail _ (.tail _ (.tail _ (.tail _ (.tail _ (.head _)))))) (.tail _ (.tail _ (.tail _ (.tail _ (.head _))))))) (Nat.le_refl _) (fun id es e => by simp at e) (hval 0 9 v0 rfl rfl) h0
  clear hA0 hval0
  simp only [List.append_nil] at hW'
  obtain ⟨h', e⟩ := rz4 va0 na0 n0 g0 hq0 hn0
  obtain ⟨-, hc⟩ := run_sound good0 4 n0 [va0] g0 _ e
  refine (hc W n0 ι0 W [v0] (Nat.le_refl _) R0 ⟨rfl, fun i v hv' => ?_⟩).mono fun en W' hr => ?_
  · match i, hv' with
    | 0, hv' => cases hv'; exact ⟨v0, rfl, hv0⟩
    | i + 1, hv' => simp at hv'
  · cases en with
    | returned v' =>
      obtain ⟨v, h2, ι', ho, hrel, hstep, hvr⟩ := hr
      cases ho
      cases hvr
      have bel := hrel.below
      exact ⟨_, rfl, _, _, _, [], p, [], hW', trodAll_mk1 (shut_bool und4 true), trodAll_mk1 (Below.trod Tryz.laidOut (by kernel_rfl) (of_decide_eq_true (by kernel_rfl)) h0 bel hlt), rfl, bel.frame _, fun h => by cases h⟩
    | panicked ch => obtain ⟨v, v', h2, ι', ho, _⟩ := hr; cases ho
    | outgrown => exact hr.elim

theorem fnExactRoomGet_holds : Rows.FnExactRoomGetSaid :=
  OpenClaim.holds_of_wide 4 Tryz.f4 rfl rfl rfl rfl rfl rfl rfl ⟨rfl, rfl, rfl, rfl, rfl⟩ rfl rfl rfl rfl rfl (by kernel_rfl) Tryz.func4 (by kernel_rfl)
    (of_decide_eq_true (by kernel_rfl)) (by unfold Func.isWrapper; first | (rw [if_pos (by decide +kernel)]; kernel_rfl) | (rw [if_neg (by decide +kernel)]; exact ⟨rfl, rfl⟩))
    (fun os started H enc _ => fnExactRoomGet_lifted os started H enc)

/-- the card -/
theorem fnExactRoomGet_card : Rows.FnExactRoomGetCardSaid :=
  Claim7.holds_tied_plain_at .later [] [.data, .data, .data, .data, .sentinel, .sentinel, .pinned] true (true, "6e777a16231047c08a520e5cc2bc2b37e3236107f5f8828560249da8bb24f6f7") true
    fnExactRoomGet_holds (fun _ h => by cases h) (by kernel_rfl) (fun _ h => by cases h) fnExactRoomGet_row_tie rfl ⟨rfl, rfl⟩ (by kernel_rfl) rfl
    (fun f fn hf hfn => by
      obtain rfl : f = 4 := Option.some.inj ((show Tryz.prog.funcNamed Rows.fnExactRoomGetRow.func = some 4 by kernel_rfl).symm.trans hf) |>.symm
      obtain rfl : fn = Tryz.f4 := (Option.some.inj (Tryz.func4.symm.trans hfn)).symm
      exact ⟨by kernel_rfl, fun j t ht => by
        rw [Tryz.params4] at ht
        have hall : (Tryz.f4.params.toList.all fun u => !Tryz.prog.wantsStandIn u) = true := by kernel_rfl
        have hm : t ∈ Tryz.f4.params.toList := by
          rw [Tryz.params4]
          exact Array.mem_toList_iff.2 (Array.mem_of_getElem? ht)
        exact (show Tryz.prog.wantsStandIn t = false by simpa using List.all_eq_true.1 hall t hm)⟩)
    (by kernel_rfl)
end Go.Proofs.YtoijpmokcdifnaaGreatDoor
