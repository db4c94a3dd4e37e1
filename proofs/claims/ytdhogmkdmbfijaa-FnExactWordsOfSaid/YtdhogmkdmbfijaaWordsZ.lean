/- FnExactWordsOf returns true, for every text, and leaves its argument as it was. No condition. -/
import Derived.Test.YtdhogmkdmbfijaaWordsA
import Derived.Test.YtdhogmkdmbfijaaProg
import Derived.ProofKit
namespace Go.Proofs.Ytdhogmkdmbfijaa
open Go.ChangeShapes Go.WideShapes Go.ChangeAt Go.RowKit Go.Abs

theorem good0 : Go.Abs.Good V0 where
  draw := draw_sound (by kernel_rfl)
  prim := by intro g p h; cases h
  name := by
    intro f F hF hb
    have all : (Try.prog.funcs.all fun F => !F.body.isSome || !(F.name == "runtime.NumGoroutine")) = true := by kernel_rfl
    have := Array.all_eq_true.1 all
    obtain ⟨hi, rfl⟩ := Array.getElem?_eq_some_iff.1 hF
    have h1 : (!V0.P.funcs[f].body.isSome || !(V0.P.funcs[f].name == "runtime.NumGoroutine")) = true := this f hi
    rw [hb, Bool.not_true, Bool.false_or] at h1
    cases hq : (V0.P.funcs[f].name == "runtime.NumGoroutine") with
    | false => rfl
    | true => rw [hq] at h1; cases h1
theorem Try.own : ownKnob Try.prog.godebug = none := by kernel_rfl
theorem Try.laidOut : laidOutB Try.prog = true := by kernel_rfl

theorem rel_start (W : World) : Rel W 0 (fun _ => ⟨0, 0, 0⟩) [] W :=
  ⟨Below.refl _ _, fun id g sz cs e => by simp at e, fun id es e => by simp at e, fun i j _ hi _ _ => by rcases hi with ⟨_, _, _, e⟩ | ⟨_, e⟩ <;> simp at e⟩

set_option maxRecDepth 100000 in
theorem fnExactWordsOf_lifted (os : Os) (started : os.Started) (H : Type) (enc : TypeId × Value → H) :
    ReturnsInHanded {} Try.checked os 3 .any (Rows.fnExactWordsOfSpec.pre6 enc Try.prog Try.f3 Rows.fnExactWordsOfRow.domain false) (Rows.fnExactWordsOfSpec.post enc Try.prog Try.f3 false true false false) := by
  refine returnsInHanded_of_change (C := Try.checked) Try.own started (by kernel_rfl) Try.func3
    (ChangeSpec.witness6 (enc := enc) (C := Try.checked) false ⟨#[], #[.string ⟨#[]⟩], []⟩ 8 (by kernel_rfl) (by kernel_rfl) (by kernel_rfl) (by kernel_rfl)) ?_
  intro W base args ds gs before hval0 hW hcnd _
  have hval : ∀ (j : Nat) t v, Try.f3.params[j]? = some t → args[j]? = some v → Value.okWide Try.prog W .any base t v := hval0
  have hW' := hW
  obtain ⟨p, q, hA0, hV, rfl, hfz, hnd⟩ := hW
  have hA : DataW.TrodAll enc Try.prog W 0 (fun _ => true) true Try.f3.params.toList args.toList ds p := hA0
  rw [Try.params3] at hA hval
  obtain ⟨v0, d0, rfl, rfl, h0⟩ := trodAll_one hA
  obtain ⟨rfl, rfl⟩ := trodVars_none hV
  have h0k := h0
  obtain ⟨s, rfl, rfl, rfl, ws⟩ := Go.ChangeMaps.open_string Try.underlying9 (hval 0 9 v0 rfl rfl) h0
  clear hA0 hval0
  simp only [List.append_nil] at hW'
  obtain ⟨h', e⟩ := r3 s.data.toList 0 [] (Nat.le_refl _)
  have hsv : sV s.data.toList = .string s := by cases s; rfl
  rw [hsv] at e
  obtain ⟨-, hc⟩ := run_sound good0 3 0 [.string s] [] _ e
  refine (hc W 0 _ W [.string s] (Nat.le_refl _) (rel_start W) ⟨rfl, fun i v hv => ⟨v, hv, ?_⟩⟩).mono fun en W' hr => ?_
  · cases i with
    | zero => cases hv; exact VR.str s
    | succ i => simp at hv
  · cases en with
    | returned v' =>
      obtain ⟨v, h2, ι', ho, hrel, hstep, hvr⟩ := hr
      cases ho
      cases hvr
      have bel := hrel.below
      exact ⟨_, rfl, _, _, _, [], [], [], hW', trodAll_mk1 (shut_bool Try.underlying4 true), trodAll_mk1 (Go.ChangeMaps.shut_string Try.underlying9 ws), rfl, bel.frame _, fun h => by cases h⟩
    | panicked ch => obtain ⟨v, v', h2, ι', ho, _⟩ := hr; cases ho
    | outgrown => exact hr.elim

theorem fnExactWordsOf_holds : Rows.FnExactWordsOfSaid :=
  OpenClaim.holds_of_wide 3 Try.f3 rfl rfl rfl rfl rfl rfl rfl ⟨rfl, rfl, rfl, rfl, rfl⟩ rfl rfl rfl rfl rfl (by kernel_rfl) Try.func3 (by kernel_rfl)
    (of_decide_eq_true (by kernel_rfl)) (by unfold Func.isWrapper; first | (rw [if_pos (by decide +kernel)]; kernel_rfl) | (rw [if_neg (by decide +kernel)]; exact ⟨rfl, rfl⟩))
    (fun os started H enc _ => fnExactWordsOf_lifted os started H enc)
end Go.Proofs.Ytdhogmkdmbfijaa
