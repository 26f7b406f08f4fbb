/-
  The walk kit of this repo, part 21: a scope with a label that is reached from above, too: the text behind the label is walked once.
-/
import Derived.Test.YtjdfdahdobikmaaConf
set_option linter.unusedVariables false
namespace Go.Wk
open Go
section
variable {P : Program} {fn : Func} {R : Ending → World → Prop} {n : Nat} {tab : Tab} {w : World}
theorem ev_scopeP {α : Type} (l : Nat) (E : α → Env) (J : α → World → Prop) (m : α → Nat) {k : List It} {env : Env} {c rest : Code} (hf : findLabel c l = some (.seq .skip rest))
    (pass : ∀ (JJ : Act → World → Prop) (x : α) (w : World), J x w → (∀ (y : α) (env' : Env) (w' : World) (a : Act), m y < m x → J y w' → SubE env' (E y) → Ag n a env' → JJ a w') → H P fn R n (.code rest :: .jmp l JJ :: k) .normal (E x) w)
    (first : (∀ (x : α) (w : World) (env' : Env), J x w → SubE env' (E x) → H P fn R n (.code rest :: .jmp l (fun a w => ∃ y, J y w ∧ Ag n a (E y)) :: k) .normal env' w) →
      H P fn R n (.code c :: .jmp l (fun a w => ∃ y, J y w ∧ Ag n a (E y)) :: k) .normal env w) : H P fn R n (.code (.scope c) :: k) .normal env w :=
  ev_scope l E J m hf (first fun x w env' hx hs => ev_env _ hs (pass _ x w hx fun y env'' w' a _ hy hs' hA => ⟨y, hy, hA.sub hs'⟩))
    fun x w hx a hA => wp_seq (wp_skip (pass _ x w hx (fun y env' w' a hm hy hs' hA => ⟨y, hm, hy, hA.sub hs'⟩) a hA))
theorem ev_jumpP {JJ : Act → World → Prop} {l : Nat} {k : List It} {env : Env} (h : ∀ a, Ag n a env → JJ a w) : H P fn R n (.jmp l JJ :: k) (.goto l) env w := fun a hA => ⟨rfl, h a hA⟩
end
end Go.Wk
