/-
  The walk kit of this repo, part 13: divisions whatever the signs.
-/
import Derived.Test.YtpnhfkmgnkdleaaDoorKeep
set_option linter.unusedVariables false
namespace Go.Wk
open Go
section
variable {P : Program} {fn : Func} {R : Ending → World → Prop} {n : Nat} {w : World}
theorem y_quoT {C : World → Prop} {env : Env} {d : Option Nat} {ty : TypeId} {ps : String} {af : Array Edge} {g : Option (Nat × Bool)} {t t' : TypeId} {x y : Operand} {kd : IntKind} {a b : Int} (hx : ev env x = some (.int kd a)) (hy : ev env y = some (.int kd b)) (hb : b ≠ 0) (h : lowK kd ≤ a.tdiv b ∧ a.tdiv b ≤ hiK kd) :
    Yv P n env C ⟨d, .binOp .quo t x y t', ty, ps, af, g⟩ (.int kd (a.tdiv b)) := fun c hA w hw => by
  simp only [execOp, hA.ev hx, hA.ev hy]
  refine run_bind (a := Value.int kd (a.tdiv b)) (w' := w) ?_
  refine (run_bind (a := ()) (w' := w) guard_int).trans ?_
  simp [binOp, Op.intDiv, hb, wrapK h]
theorem ev_quoT {k : List It} {env : Env} {L l : List Oper} {d : Nat} {ty : TypeId} {ps : String} {af : Array Edge} {g : Option (Nat × Bool)} {t t' : TypeId} {x y : Operand} {kd : IntKind} {a b : Int} (hg : guardOf L env g = some true) (hd : Nat.blt d n = true) (hx : ev env x = some (.int kd a)) (hy : ev env y = some (.int kd b)) (hb : b ≠ 0) (h : lowK kd ≤ a.tdiv b ∧ a.tdiv b ≤ hiK kd)
    (hk : H P fn R n (.ops L l :: k) .normal ((d, .int kd (a.tdiv b)) :: env) w) : H P fn R n (.ops L (⟨some d, .binOp .quo t x y t', ty, ps, af, g⟩ :: l) :: k) .normal env w :=
  ev_y hg hd (y_quoT hx hy hb h) hk
end
end Go.Wk
