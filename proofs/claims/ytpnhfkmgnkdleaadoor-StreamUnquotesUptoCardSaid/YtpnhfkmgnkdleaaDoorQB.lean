/-
  The walk kit of this repo, part 19: regions that draw: blocks that are known whole.
-/
import Derived.Test.YtpnhfkmgnkdleaaDoorQuiet
import Derived.Test.YtpnhfkmgnkdleaaDoorEvs
set_option linter.unusedVariables false
namespace Go.Wk
open Go
section
variable {P : Program} {n : Nat} {w : World} {Q : Act → Prop} {tab : Tab} {env : Env} {L l : List Oper} {d : Nat} {ty : TypeId} {ps : String} {af : Array Edge} {g : Option (Nat × Bool)}
theorem q_loadB {t : TypeId} {x : Operand} {b o : Nat} {cs : List Value} {e : TypeId} {v : Value} (hg : guardOf L env g = some true) (hd : Nat.blt d n = true) (hT : TabOk P tab) (hx : ev env x = some (.pointer (some ⟨b, o, none⟩))) (hag : aggT (tyAt tab t) = some false) (hb : Blk w b cs e) (hv : nthV cs o = some v)
    (hk : HQ P (Fr no w) n Q L l ((d, v) :: env)) : HQ P (Fr no w) n Q L (⟨some d, .load t x, ty, ps, af, g⟩ :: l) env :=
  q_load hg hd hT hx hag (fun w' hf => (hb.fr0 hf).cell hv) hk
theorem q_loadAggB {t : TypeId} {x : Operand} {b : Nat} {cs : List Value} {e : TypeId} (hg : guardOf L env g = some true) (hd : Nat.blt d n = true) (hT : TabOk P tab) (hx : ev env x = some (.pointer (some ⟨b, 0, none⟩))) (hag : aggT (tyAt tab t) = some true) (hb : Blk w b cs e) (hs : szAt tab t = cs.length)
    (hk : HQ P (Fr no w) n Q L l ((d, .agg ⟨cs⟩) :: env)) : HQ P (Fr no w) n Q L (⟨some d, .load t x, ty, ps, af, g⟩ :: l) env :=
  q_loadAgg hg hd hT hx hag hs (fun w' hf => Cs.of_blk (hb.fr0 hf)) hk
end
end Go.Wk
