import Lean
import Derived.Test.YtihjpjpellagiaaQuiet
open Lean Elab Tactic Meta
namespace WkDev
partial def listLen (e : Lean.Expr) : Nat := if e.isAppOfArity ``List.cons 3 then 1 + listLen (e.getAppArgs[2]!) else 0
def itMsg (e : Lean.Expr) : MetaM MessageData := do
  let f := e.getAppFn.constName?
  let a := e.getAppArgs
  match f with
  | some ``Go.Wk.It.code =>
    let c := a[0]!
    let c ← whnf c
    let nm := (c.getAppFn.constName?).getD `x
    if nm == ``Go.Code.region then return m!"code region {c.getAppArgs[0]!} draw={c.getAppArgs[2]!}"
    if nm == ``Go.Code.cond then return m!"cond {c.getAppArgs[0]!}"
    if nm == ``Go.Code.block then return m!"block {c.getAppArgs[0]!}"
    return m!"{nm}"
  | some ``Go.Wk.It.blk => return m!"blk {a[0]!}"
  | some ``Go.Wk.It.ops =>
    let l := a[1]!
    if l.isAppOfArity ``List.cons 3 then
      let o := l.getAppArgs[1]!
      return m!"ops [{listLen l}] {o}"
    else return m!"ops []"
  | some n => return m!"{n}"
  | none => return m!"{e}"
elab "wk_show" : tactic => do
  let mut i : Nat := 0
  for g in ← getGoals do
    i := i + 1
    g.withContext do
      let mut msg := m!"== goal {i} {(← g.getTag)}"
      for d in ← getLCtx do
        if d.isImplementationDetail then continue
        let ty ← instantiateMVars d.type
        msg := msg ++ m!"\n{d.userName} : {ty}"
      let t ← instantiateMVars (← g.getType)
      if t.isAppOf ``Go.Wk.H then
        let a := t.getAppArgs
        let mut k := a[4]!
        msg := msg ++ m!"\n⊢ H exit={a[5]!}\n  env={a[6]!}\n  w={a[7]!}\n  todo:"
        let mut c := 0
        while k.isAppOfArity ``List.cons 3 && c < 4 do
          msg := msg ++ m!"\n    {← itMsg (k.getAppArgs[1]!)}"
          k := k.getAppArgs[2]!
          c := c + 1
      else if t.isAppOf ``Go.Wk.HQ then
        let a := t.getAppArgs
        let l := a[5]!
        if l.isAppOfArity ``List.cons 3 then msg := msg ++ m!"\n⊢ HQ C={a[1]!} env={a[6]!}\n ops [{listLen l}] {l.getAppArgs[1]!}"
        else msg := msg ++ m!"\n⊢ HQ env={a[6]!} end"
      else msg := msg ++ m!"\n⊢ {t}"
      logInfo msg
end WkDev
