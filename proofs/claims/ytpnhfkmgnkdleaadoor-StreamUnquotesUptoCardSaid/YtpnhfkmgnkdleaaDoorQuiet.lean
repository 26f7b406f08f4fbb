/-
  The walk kit of this repo, part 7: regions that draw their order and only read.
-/
import Derived.Test.YtpnhfkmgnkdleaaDoorOp
import Derived.Deep.Quiet
set_option linter.unusedVariables false
set_option linter.unusedSimpArgs false
namespace Go.Wk
open Go

def HQ (P : Program) (C : World → Prop) (n : Nat) (Q : Act → Prop) (L l : List Oper) (env : Env) : Prop := ∀ a, Ag n a env → wpQuiet P L.toArray C Q l a

section
variable {P : Program} {C : World → Prop} {n : Nat} {Q : Act → Prop} {tab : Tab} {L l : List Oper} {env : Env}
theorem q_step (hT : TabOk P tab) {o : Oper} {env' : Env} (h : opStep tab n L env o = some env') (hk : HQ P C n Q L l env') : HQ P C n Q L (o :: l) env := by
  intro a hA
  unfold opStep at h
  split at h
  · rename_i d op ty ps af g
    split at h
    · rename_i hd
      have hd' : d < n := Nat.le_of_ble_eq_true hd
      split at h
      · rename_i hg
        have hw := guardOf_ok (o := ⟨some d, op, ty, ps, af, g⟩) hg hA
        split at h
        · rename_i v hv
          cases h
          unfold wpQuiet
          rw [if_pos hw]
          refine ⟨v, fun w _ => ?_, hk _ (hA.put hd' v)⟩
          unfold Oper.quietAt
          rw [pureVal_ok hT hA (o := ⟨some d, op, ty, ps, af, g⟩) hv w]
          exact ⟨rfl, rfl⟩
        · cases h
      · rename_i hg
        have hw := guardOf_ok (o := ⟨some d, op, ty, ps, af, g⟩) hg hA
        cases h
        unfold wpQuiet
        rw [if_neg (by simp [hw])]
        exact hk _ (hA.put hd' undef)
      · cases h
    · cases h
  · rename_i op ty ps af g
    split at h
    · rename_i hg
      have hw := guardOf_ok (o := ⟨none, op, ty, ps, af, g⟩) hg hA
      cases h
      unfold wpQuiet
      rw [if_neg (by simp [hw])]
      exact hk _ hA
    · cases h

def stepsQ (tab : Tab) (n : Nat) (L : List Oper) : Nat → List Oper → Env → Option (List Oper × Env)
  | 0, l, env => some (l, env)
  | m + 1, [], env => some ([], env)
  | m + 1, o :: l, env => match opStep tab n L env o with
    | some env' => stepsQ tab n L m l env'
    | none => some (o :: l, env)
theorem stepsQ_ok (hT : TabOk P tab) : ∀ (m : Nat) {l l' : List Oper} {env env' : Env}, stepsQ tab n L m l env = some (l', env') → HQ P C n Q L l' env' → HQ P C n Q L l env
  | 0, l, l', env, env', h, hk => by cases h; exact hk
  | m + 1, [], l', env, env', h, hk => by cases h; exact hk
  | m + 1, o :: l, l', env, env', h, hk => by
    simp only [stepsQ] at h
    split at h
    · rename_i e1 h1
      exact q_step hT h1 (stepsQ_ok hT m h hk)
    · cases h; exact hk
def stepQF (tab : Tab) (n : Nat) (L : List Oper) (m : Nat) : List Oper → Env → Option (List Oper × Env)
  | [], env => none
  | o :: l, env => match opStep tab n L env o with
    | some env' => stepsQ tab n L m l env'
    | none => none
theorem stepQF_ok (hT : TabOk P tab) {m : Nat} {l l' : List Oper} {env env' : Env} (h : stepQF tab n L m l env = some (l', env')) (hk : HQ P C n Q L l' env') : HQ P C n Q L l env := by
  unfold stepQF at h
  split at h
  · cases h
  · split at h
    · rename_i e1 h1
      exact q_step hT h1 (stepsQ_ok hT m h hk)
    · cases h

theorem q_y {d : Nat} {op : Op} {ty : TypeId} {ps : String} {af : Array Edge} {g : Option (Nat × Bool)} {v : Value}
    (hg : guardOf L env g = some true) (hd : Nat.blt d n = true) (hy : Yv P n env C ⟨some d, op, ty, ps, af, g⟩ v) (hk : HQ P C n Q L l ((d, v) :: env)) : HQ P C n Q L (⟨some d, op, ty, ps, af, g⟩ :: l) env := by
  intro a hA
  have hw := guardOf_ok (o := ⟨some d, op, ty, ps, af, g⟩) hg hA
  unfold wpQuiet
  rw [if_pos hw]
  refine ⟨v, fun w hc => ?_, hk _ (hA.put (Nat.le_of_ble_eq_true hd) v)⟩
  unfold Oper.quietAt
  rw [hy a hA w hc]
  exact ⟨rfl, rfl⟩

theorem q_call {d : Nat} {f : FuncId} {xs : List Operand} {ats : Array TypeId} {ty : TypeId} {ps : String} {af : Array Edge} {g : Option (Nat × Bool)} {vs : List Value} {v : Value}
    (hg : guardOf L env g = some true) (hd : Nat.blt d n = true) (hvs : evs env xs = some vs)
    (hc : ∀ w, C w → CallsF P f vs w fun u w' => u = v ∧ C w') (hk : HQ P C n Q L l ((d, v) :: env)) :
    HQ P C n Q L (⟨some d, .call ⟨.value (.func f), ⟨xs⟩, ats⟩, ty, ps, af, g⟩ :: l) env := by
  intro a hA
  have hw := guardOf_ok (o := ⟨some d, .call ⟨.value (.func f), ⟨xs⟩, ats⟩, ty, ps, af, g⟩) hg hA
  unfold wpQuiet
  rw [if_pos hw]
  refine ⟨v, fun w hcw => ?_, hk _ (hA.put (Nat.le_of_ble_eq_true hd) v)⟩
  unfold Oper.quietAt
  obtain ⟨⟨fc, h1, h2, h3⟩, hcalls⟩ := hc w hcw
  have hrun : (execOp a.eval ⟨some d, .call ⟨.value (.func f), ⟨xs⟩, ats⟩, ty, ps, af, g⟩).run P w = .ok (.enter f ⟨vs⟩) w := by
    have hargs : (⟨xs⟩ : Array Operand).map a.eval = ⟨vs⟩ := by
      have := hA.evs hvs
      simp [this]
    have hf : a.eval (.func f) = .func (.func f) #[] #[] := rfl
    simp only [execOp, resolve, hargs, hf, Deferred.ofValue]
    show Sem.run P ((Sem.pure _).bind _) w = _
    simp only [Sem.bind, invoke, callFunc]
    show Sem.run P ((Sem.program Sem.pure).bind _) w = _
    simp only [Sem.bind, Sem.run, h1, h2, h3]
    simp
  rw [hrun]
  refine ⟨rfl, hcalls.mono ?_⟩
  rintro e w' ⟨u, rfl, rfl, hw'⟩
  exact ⟨rfl, hw'⟩

theorem q_splitD (t : Nat) {p : Prop} [Decidable p] (hc : look env t = some (.bool (decide p)))
    (h1 : p → HQ P C n Q L l ((t, .bool true) :: env)) (h2 : ¬ p → HQ P C n Q L l ((t, .bool false) :: env)) : HQ P C n Q L l env := by
  intro a hA
  have key : ∀ c, decide p = c → Ag n a ((t, .bool c) :: env) := fun c hbc => by
    subst hbc
    refine ⟨hA.1, hA.2.1, fun s v hs => ?_⟩
    rw [look_cons] at hs
    split at hs
    · rename_i he; subst he; cases hs; exact hA.2.2 _ _ hc
    · exact hA.2.2 _ _ hs
  by_cases hp : p
  · exact h1 hp a (key true (by simp [hp]))
  · exact h2 hp a (key false (by simp [hp]))
theorem q_env (env' : Env) (hs : SubE env env') (hk : HQ P C n Q L l env') : HQ P C n Q L l env := fun a hA => hk a (hA.sub hs)
end

section
variable {P : Program} {fn : Func} {R : Ending → World → Prop} {n : Nat} {w : World}
/-- a region that draws its order, every operation of which is quiet in the worlds that come out of `w` by new memory -/
theorem ev_draw {k : List It} {env : Env} {id : Nat} {l : List Oper} (hm : P.follows .mixedOrders = true) (hB : Region.lexB .any ⟨l⟩ = true)
    (h : HQ P (Fr no w) n (fun a => ∀ w', Fr no w w' → semK P fn R k .normal a w') l l env) : H P fn R n (.code (.region id ⟨l⟩ true) :: k) .normal env w :=
  fun a hA => wp_region_quiet (C := Fr no w) hm hB (Fr.draw w) (by simpa using h a hA)
theorem q_end {C : World → Prop} {k : List It} {env : Env} {L : List Oper} (h : ∀ w', C w' → H P fn R n k .normal env w') : HQ P C n (fun a => ∀ w', C w' → semK P fn R k .normal a w') L [] env :=
  fun a hA w' hw' => h w' hw' a hA
end
end Go.Wk
