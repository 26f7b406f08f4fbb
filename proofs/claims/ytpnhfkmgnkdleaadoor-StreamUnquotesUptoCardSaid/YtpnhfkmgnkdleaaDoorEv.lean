/-
  The walk kit of this repo, part 4: entering a function, calls, reads, writes.
-/
import Derived.Test.YtpnhfkmgnkdleaaDoorConf
set_option linter.unusedVariables false
set_option linter.unusedSimpArgs false
namespace Go.Wk
open Go

/-! ### entering -/
def argsE : Nat → List Value → Env
  | _, [] => []
  | i, v :: r => (i, v) :: argsE (i + 1) r
theorem look_argsE : ∀ (l : List Value) (i t : Nat) (v : Value), look (argsE i l) t = some v → i ≤ t ∧ l[t - i]? = some v
  | [], i, t, v, h => by simp [argsE, look] at h
  | x :: r, i, t, v, h => by
    simp only [argsE] at h
    rw [look_cons] at h
    split at h
    · rename_i e; subst e; cases h; simp
    · rename_i e
      obtain ⟨h1, h2⟩ := look_argsE r (i + 1) t v h
      refine ⟨by omega, ?_⟩
      have : t - i = (t - (i + 1)) + 1 := by omega
      rw [this]; simpa using h2

theorem enter {P : Program} {f : FuncId} {fn : Func} {c : Code} {args : List Value} {w : World} {R : Ending → World → Prop} {n : Nat}
    (hf : P.funcs[f]? = some fn) (hb : fn.body = some c) (hn : fn.ntmps = n) (hl : Nat.ble args.length n = true) (h : H P fn R n [.code c] .normal (argsE 0 args) w) : Calls P f ⟨args⟩ w R := by
  have hl' : args.length ≤ n := Nat.le_of_ble_eq_true hl
  refine calls_of_wp hf hb ?_
  have := h { tmps := (⟨args⟩ : Array Value) ++ Array.replicate (fn.ntmps - (⟨args⟩ : Array Value).size) undef, defers := [] } ⟨rfl, by simp [hn]; omega, fun t v ht => ?_⟩
  · refine wp_mono this fun e a w q => ?_
    cases e <;> exact q
  · obtain ⟨_, h2⟩ := look_argsE _ _ _ _ ht
    simp only [Nat.sub_zero] at h2
    have hlt : t < args.length := (List.getElem?_eq_some_iff.1 h2).1
    rw [Array.getElem?_append_left (by simpa using hlt)]
    simpa using h2

/-! ### calls -/
/-- a function with a text, whose calls end so -/
def CallsF (P : Program) (f : FuncId) (args : List Value) (w : World) (R : Value → World → Prop) : Prop :=
  (∃ fn, P.funcs[f]? = some fn ∧ (fn.name == "runtime.NumGoroutine") = false ∧ fn.body.isNone = false) ∧ Calls P f ⟨args⟩ w fun e w' => ∃ v, e = .returned v ∧ R v w'

theorem CallsF.mono {P : Program} {f : FuncId} {args : List Value} {w : World} {R R' : Value → World → Prop} (h : CallsF P f args w R) (hr : ∀ v w', R v w' → R' v w') : CallsF P f args w R' :=
  ⟨h.1, h.2.mono fun e w' ⟨v, he, hv⟩ => ⟨v, he, hr _ _ hv⟩⟩

theorem callsF {P : Program} {f : FuncId} {fn : Func} {c : Code} {args : List Value} {w : World} {R : Value → World → Prop} {n : Nat}
    (hf : P.funcs[f]? = some fn) (hb : fn.body = some c) (hn : fn.ntmps = n) (hname : (fn.name == "runtime.NumGoroutine") = false) (hl : Nat.ble args.length n = true)
    (h : H P fn (fun e w' => ∃ v, e = .returned v ∧ R v w') n [.code c] .normal (argsE 0 args) w) : CallsF P f args w R :=
  ⟨⟨fn, hf, hname, by rw [hb]; rfl⟩, enter hf hb hn hl h⟩

section
variable {P : Program} {fn : Func} {S : Value → World → Prop} {n : Nat} {w : World} {e : Exit} {env : Env}
theorem ret0 (he : e = .normal ∨ e = .ret) (hr : fn.results = #[]) (h : S (.tuple #[]) w) : H P fn (fun e w' => ∃ v, e = .returned v ∧ S v w') n [] e env w := ev_ret0 he hr ⟨_, rfl, h⟩
theorem ret1 (he : e = .normal ∨ e = .ret) {t : Nat} (hr : fn.results = #[.tmp t]) {v : Value} (hv : look env t = some v) (h : S v w) : H P fn (fun e w' => ∃ v, e = .returned v ∧ S v w') n [] e env w := ev_ret1 he hr hv ⟨_, rfl, h⟩
theorem ret2 (he : e = .normal ∨ e = .ret) {t u : Nat} (hr : fn.results = #[.tmp t, .tmp u]) {v x : Value} (hv : look env t = some v) (hx : look env u = some x) (h : S (.tuple #[v, x]) w) : H P fn (fun e w' => ∃ v, e = .returned v ∧ S v w') n [] e env w := ev_ret2 he hr hv hx ⟨_, rfl, h⟩
theorem ret3 (he : e = .normal ∨ e = .ret) {t u s : Nat} (hr : fn.results = #[.tmp t, .tmp u, .tmp s]) {v x y : Value} (hv : look env t = some v) (hx : look env u = some x) (hy : look env s = some y) (h : S (.tuple #[v, x, y]) w) : H P fn (fun e w' => ∃ v, e = .returned v ∧ S v w') n [] e env w := ev_ret3 he hr hv hx hy ⟨_, rfl, h⟩
end
def evs (env : Env) : List Operand → Option (List Value)
  | [] => some []
  | x :: r => match ev env x, evs env r with
    | some v, some l => some (v :: l)
    | _, _ => none
theorem Ag.evs {n : Nat} {a : Act} {env : Env} (h : Ag n a env) : ∀ {l : List Operand} {vs : List Value}, evs env l = some vs → l.map a.eval = vs
  | [], vs, hl => by cases hl; rfl
  | x :: r, vs, hl => by
    simp only [Wk.evs] at hl
    split at hl
    · rename_i v l hv hr; cases hl
      simp [h.ev hv, h.evs hr]
    · cases hl

section
variable {P : Program} {fn : Func} {R : Ending → World → Prop} {n : Nat} {tab : Tab} {w : World}
/-- a call whose function value is known -/
theorem ev_callV {k : List It} {env : Env} {L l : List Oper} {d : Option Nat} {x : Operand} {xs : List Operand} {ats : Array TypeId} {ty : TypeId} {ps : String} {af : Array Edge} {g : Option (Nat × Bool)}
    {f : FuncId} {fst cap : List Value} {vs : List Value} {S : Value → World → Prop}
    (hg : guardOf L env g = some true) (hd : ∀ t, d = some t → Nat.blt t n = true) (hx : ev env x = some (.func (.func f) ⟨fst⟩ ⟨cap⟩)) (hvs : evs env xs = some vs)
    (hc : CallsF P f (fst ++ vs ++ cap) w S)
    (hk : ∀ v w', S v w' → H P fn R n (.ops L l :: k) .normal (match d with | some t => (t, v) :: env | none => env) w') :
    H P fn R n (.ops L (⟨d, .call ⟨.value x, ⟨xs⟩, ats⟩, ty, ps, af, g⟩ :: l) :: k) .normal env w := by
  intro a hA
  show wpList P L.toArray (semK P fn R k) _ a w
  have hw := guardOf_ok (o := ⟨d, .call ⟨.value x, ⟨xs⟩, ats⟩, ty, ps, af, g⟩) hg hA
  unfold wpList
  rw [if_pos hw]
  left
  unfold Oper.wp
  obtain ⟨⟨fc, h1, h2, h3⟩, hcalls⟩ := hc
  have hrun : (execOp a.eval ⟨d, .call ⟨.value x, ⟨xs⟩, ats⟩, ty, ps, af, g⟩).run P w = .ok (.enter f ⟨fst ++ vs ++ cap⟩) w := by
    have hargs : (⟨xs⟩ : Array Operand).map a.eval = ⟨vs⟩ := by
      have := hA.evs hvs
      simp [this]
    simp only [execOp, resolve, hargs, hA.ev hx, Deferred.ofValue]
    show Sem.run P ((Sem.pure _).bind _) w = _
    simp only [Sem.bind, invoke, callFunc]
    show Sem.run P ((Sem.program Sem.pure).bind _) w = _
    simp only [Sem.bind, Sem.run, h1, h2, h3]
    simp
  rw [hrun]
  show Calls P f _ w _
  refine hcalls.mono ?_
  rintro e w' ⟨v, rfl, hv⟩
  show wpList P L.toArray (semK P fn R k) l (a.put d v) w'
  have := hk v w' hv
  cases d with
  | none => exact this a hA
  | some t => exact this _ (hA.put (Nat.le_of_ble_eq_true (hd t rfl)) v)
/-- a call of a function by its number -/
theorem ev_call {k : List It} {env : Env} {L l : List Oper} {d : Nat} {f : FuncId} {xs : List Operand} {ats : Array TypeId} {ty : TypeId} {ps : String} {af : Array Edge} {g : Option (Nat × Bool)}
    {vs : List Value} {S : Value → World → Prop}
    (hg : guardOf L env g = some true) (hd : Nat.blt d n = true) (hvs : evs env xs = some vs)
    (hc : CallsF P f vs w S)
    (hk : ∀ v w', S v w' → H P fn R n (.ops L l :: k) .normal ((d, v) :: env) w') :
    H P fn R n (.ops L (⟨some d, .call ⟨.value (.func f), ⟨xs⟩, ats⟩, ty, ps, af, g⟩ :: l) :: k) .normal env w :=
  ev_callV (x := .func f) (fst := []) (cap := []) hg (fun t h => by cases h; exact hd) rfl hvs (by simpa using hc) hk
theorem ev_call0 {k : List It} {env : Env} {L l : List Oper} {f : FuncId} {xs : List Operand} {ats : Array TypeId} {ty : TypeId} {ps : String} {af : Array Edge} {g : Option (Nat × Bool)}
    {vs : List Value} {S : Value → World → Prop}
    (hg : guardOf L env g = some true) (hvs : evs env xs = some vs)
    (hc : CallsF P f vs w S)
    (hk : ∀ v w', S v w' → H P fn R n (.ops L l :: k) .normal env w') :
    H P fn R n (.ops L (⟨none, .call ⟨.value (.func f), ⟨xs⟩, ats⟩, ty, ps, af, g⟩ :: l) :: k) .normal env w :=
  ev_callV (x := .func f) (fst := []) (cap := []) hg (fun t h => by cases h) rfl hvs (by simpa using hc) hk

end
end Go.Wk
