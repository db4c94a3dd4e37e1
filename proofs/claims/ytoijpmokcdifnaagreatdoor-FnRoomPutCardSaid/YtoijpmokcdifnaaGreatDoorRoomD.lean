/- That two rooms are compared. For every room; no condition. -/
import Derived.Test.YtoijpmokcdifnaaGreatDoorRoomC
namespace Go.Abs
open Go.Proofs
set_option maxRecDepth 100000
set_option linter.unusedSimpArgs false
set_option linter.unusedVariables false
set_option pp.maxSteps 20000
set_option pp.deepTerms true
def Me.F63 (x : Me) : Prop := x.user.length ≤ 9223372036854775807 ∧ x.nick.length ≤ 9223372036854775807
def Rk.F63 (x : Rk) : Prop := x.user.length ≤ 9223372036854775807
end Go.Abs
namespace Go.Abs
open Go.Proofs
set_option maxRecDepth 100000
set_option linter.unusedSimpArgs false
set_option linter.unusedVariables false
set_option pp.maxSteps 20000
set_option pp.deepTerms true
/-- a room's value, and what it holds -/
structure RmV (h : AH) (R : Rm) (v : Value) : Prop where
  ex : ∃ mv rv, v = (R.ro mv rv).V ∧ Me.Rd h mv R.ms ∧ Rk.Rd h rv R.rs ∧ oneCell mv = true ∧ oneCell rv = true
theorem RmV.keep {h h' : AH} {R : Rm} {v : Value} (q : RmV h R v) (k : Keep h.length h h') : RmV h' R v := by
  obtain ⟨mv, rv, a, b, c, d, e⟩ := q.ex
  exact ⟨mv, rv, a, b.keep k, c.keep k, d, e⟩
theorem Me.Rd.one {h : AH} {v : Value} {xs : List Me} (q : Me.Rd h v xs) : oneCell v = true := by rcases q with ⟨rfl, _⟩ | ⟨_, _, _, rfl, _⟩ <;> rfl
theorem Rk.Rd.one {h : AH} {v : Value} {xs : List Rk} (q : Rk.Rd h v xs) : oneCell v = true := by rcases q with ⟨rfl, _⟩ | ⟨_, _, _, rfl, _⟩ <;> rfl
/-- texts that an input can have -/
structure Rm.F63 (R : Rm) : Prop where
  nm : R.name.length ≤ 9223372036854775807
  sb : R.sub.length ≤ 9223372036854775807
  m : R.ms.length ≤ 9223372036854775807
  k : R.rs.length ≤ 9223372036854775807
  ms : ∀ x ∈ R.ms, x.F63
  rs : ∀ x ∈ R.rs, x.F63
end Go.Abs
