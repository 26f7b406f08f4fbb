/-
  The walk kit of this repo, part 3: configurations, and the steps that they take by computation.
-/
import Derived.Test.YtpnhfkmgnkdleaaDoorRun
import Derived.ScopeJumps
set_option linter.unusedVariables false
set_option linter.unusedSimpArgs false
namespace Go.Wk
open Go

/-- what is left to do -/
inductive It where
  | code (c : Code)
  | blk (id : Nat)
  | ops (L l : List Oper)
  | inv (J : Act → World → Prop)
  | rnd (c : Code) (m : Nat)
  | jmp (l : Nat) (J : Act → World → Prop)

/-- what that means, for a given way out -/
def semK (P : Program) (fn : Func) (R : Ending → World → Prop) : List It → Exit → Act → World → Prop
  | [], e, a, w => bodyPost P fn R e a w
  | .code c :: k, e, a, w => Exit.then (c.wp P (semK P fn R k)) (semK P fn R k) e a w
  | .blk id :: k, e, a, w => Exit.inBlock id (semK P fn R k) e a w
  | .ops L l :: k, e, a, w => Exit.then (wpList P L.toArray (semK P fn R k) l) (semK P fn R k) e a w
  | .inv J :: k, e, a, w => Exit.then J (semK P fn R k) e a w
  | .rnd c m :: k, e, a, w => Exit.then (Code.rounds P c (semK P fn R k) m) (semK P fn R k) e a w
  | .jmp l J :: k, e, a, w => Exit.jump l J (semK P fn R k) e a w

theorem Exit.then_other {J : Act → World → Prop} {Q : Exit → Act → World → Prop} {e : Exit} {a : Act} {w : World} (h : e ≠ .normal) : Exit.then J Q e a w = Q e a w := by
  cases e <;> first | rfl | exact absurd rfl h
theorem Exit.inBlock_other {id : Nat} {Q : Exit → Act → World → Prop} {e : Exit} {a : Act} {w : World} (h : ∀ i, e ≠ .exit i) : Exit.inBlock id Q e a w = Q e a w := by
  cases e <;> first | rfl | exact absurd rfl (h _)
/-- from every frame of which `env` is known, in world `w` -/
def H (P : Program) (fn : Func) (R : Ending → World → Prop) (n : Nat) (k : List It) (e : Exit) (env : Env) (w : World) : Prop :=
  ∀ a, Ag n a env → semK P fn R k e a w

def nthO : List Oper → Nat → Option Oper
  | [], _ => none
  | x :: _, 0 => some x
  | _ :: r, n + 1 => nthO r n
theorem nthO_eq : ∀ (l : List Oper) (n : Nat), nthO l n = l[n]?
  | [], n => by simp [nthO]
  | x :: r, 0 => by simp [nthO]
  | x :: r, n + 1 => by simpa [nthO] using nthO_eq r n

def guardV : Value → Bool → Option Bool
  | .bool true, true => some true
  | .bool true, false => some false
  | .bool false, true => some false
  | .bool false, false => some true
  | .tuple _, _ => some false
  | _, _ => none
/-- does an operation run? -/
def guardOf (L : List Oper) (env : Env) : Option (Nat × Bool) → Option Bool
  | none => some true
  | some (g, b) => match nthO L g with
    | some ⟨some t, _, _, _, _, _⟩ => match look env t with
      | some v => guardV v b
      | none => none
    | _ => none

theorem guardOf_ok {L : List Oper} {env : Env} {o : Oper} {b : Bool} (h : guardOf L env o.guard = some b) {n : Nat} {a : Act} (hA : Ag n a env) : Region.wanted o (yielded L.toArray a.tmps) = b := by
  unfold Region.wanted
  unfold guardOf at h
  split at h
  · rename_i hg; rw [hg]; cases h; rfl
  · rename_i g c hg
    rw [hg]
    split at h
    · rename_i t op ty ps af gd hn
      rw [nthO_eq] at hn
      split at h
      · rename_i v hv
        have hy : yielded L.toArray a.tmps g = (match v with | .bool x => some x | _ => none) := by
          unfold yielded
          have h1 := hA.2.2 t v hv
          simp only [List.getElem?_toArray, hn, Option.bind_some]
          show (match (some t).bind (fun x => a.tmps[x]?) with | some (.bool b) => some b | _ => none) = _
          simp only [Option.bind_some, h1]
          cases v <;> rfl
        simp only [hy]
        unfold guardV at h
        split at h <;> first | (cases h; done) | (cases h; rfl)
      · cases h
    · cases h

def opStep (tab : Tab) (n : Nat) (L : List Oper) (env : Env) : Oper → Option Env
  | ⟨some d, op, _, _, _, g⟩ => match Nat.blt d n with
    | true => match guardOf L env g with
      | some true => match pureVal tab env op with
        | some v => some ((d, v) :: env)
        | none => none
      | some false => some ((d, undef) :: env)
      | none => none
    | false => none
  | ⟨none, _, _, _, _, g⟩ => match guardOf L env g with
    | some false => some env
    | _ => none

theorem opStep_ok {P : Program} {tab : Tab} (hT : TabOk P tab) {n : Nat} {L : List Oper} {env env' : Env} {o : Oper} (h : opStep tab n L env o = some env')
    {Q : Exit → Act → World → Prop} {rest : List Oper} {w : World} (hk : ∀ a, Ag n a env' → wpList P L.toArray Q rest a w) : ∀ a, Ag n a env → wpList P L.toArray Q (o :: rest) a w := by
  intro a hA
  unfold opStep at h
  split at h
  · rename_i d op ty ps af g
    split at h
    · rename_i hd
      have hd' : d < n := Nat.le_of_ble_eq_true hd
      split at h
      · rename_i hg
        have hw := guardOf_ok (o := ⟨some d, op, ty, ps, af, g⟩) hg hA
        split at h
        · rename_i v hv
          cases h
          unfold wpList
          rw [if_pos hw]
          left
          unfold Oper.wp
          rw [pureVal_ok hT hA (o := ⟨some d, op, ty, ps, af, g⟩) hv w]
          exact hk _ (hA.put hd' v)
        · cases h
      · rename_i hg
        have hw := guardOf_ok (o := ⟨some d, op, ty, ps, af, g⟩) hg hA
        cases h
        unfold wpList
        rw [if_neg (by simp [hw])]
        exact hk _ (hA.put hd' undef)
      · cases h
    · cases h
  · rename_i op ty ps af g
    split at h
    · rename_i hg
      have hw := guardOf_ok (o := ⟨none, op, ty, ps, af, g⟩) hg hA
      cases h
      unfold wpList
      rw [if_neg (by simp [hw])]
      exact hk _ hA
    · cases h

def memN : List Nat → Nat → Bool
  | [], _ => false
  | x :: r, t => match Nat.beq x t with | true => true | false => memN r t
/-- one step; it does not enter the blocks named in `stop` -/
def step1 (tab : Tab) (n : Nat) (stop : List Nat) : List It → Exit → Env → Option (List It × Exit × Env)
  | .code c :: k, .normal, env => match c with
    | .seq a b => some (.code a :: .code b :: k, .normal, env)
    | .block id b => match memN stop id with
      | true => none
      | false => some (.code b :: .blk id :: k, .normal, env)
    | .skip => some (k, .normal, env)
    | .exit id => some (k, .exit id, env)
    | .goto id => some (k, .goto id, env)
    | .label _ => some (k, .normal, env)
    | .ret => some (k, .ret, env)
    | .region _ ⟨l⟩ false => some (.ops l l :: k, .normal, env)
    | .cond c x y => match ev env c with
      | some (.bool true) => some (.code x :: k, .normal, env)
      | some (.bool false) => some (.code y :: k, .normal, env)
      | _ => none
    | _ => none
  | .code _ :: k, e, env => some (k, e, env)
  | .blk id :: k, .exit i, env => match Nat.beq i id with
    | true => some (k, .normal, env)
    | false => some (k, .exit i, env)
  | .blk _ :: k, e, env => some (k, e, env)
  | .ops L [] :: k, .normal, env => some (k, .normal, env)
  | .ops L (o :: l) :: k, .normal, env => match opStep tab n L env o with
    | some env' => some (.ops L l :: k, .normal, env')
    | none => none
  | .ops _ _ :: k, .exit i, env => some (k, .exit i, env)
  | .ops _ _ :: k, .ret, env => some (k, .ret, env)
  | .rnd c (m + 1) :: k, .normal, env => some (.code c :: .rnd c m :: k, .normal, env)
  | .rnd _ _ :: k, .exit i, env => some (k, .exit i, env)
  | .rnd _ _ :: k, .ret, env => some (k, .ret, env)
  | .inv _ :: k, .exit i, env => some (k, .exit i, env)
  | .inv _ :: k, .ret, env => some (k, .ret, env)
  | .ops _ _ :: k, .goto i, env => some (k, .goto i, env)
  | .rnd _ _ :: k, .goto i, env => some (k, .goto i, env)
  | .inv _ :: k, .goto i, env => some (k, .goto i, env)
  | .jmp _ _ :: k, .normal, env => some (k, .normal, env)
  | .jmp _ _ :: k, .exit i, env => some (k, .exit i, env)
  | .jmp _ _ :: k, .ret, env => some (k, .ret, env)
  | _, _, _ => none

theorem least_ex {p : Nat → Prop} (h : ∃ j, p j) : ∃ j, p j ∧ ∀ i, p i → j ≤ i := by
  obtain ⟨j, hj⟩ := h
  induction j using Nat.strongRecOn with
  | _ j ih =>
    by_cases hi : ∃ i, i < j ∧ p i
    · obtain ⟨i, hi1, hi2⟩ := hi; exact ih i hi1 hi2
    · exact ⟨j, hj, fun i hp => Nat.le_of_not_lt fun hlt => hi ⟨i, hlt, hp⟩⟩
noncomputable def sInfN (p : Nat → Prop) : Nat := @Classical.epsilon Nat ⟨0⟩ fun j => p j ∧ ∀ i, p i → j ≤ i
theorem sInfN_spec {p : Nat → Prop} (h : ∃ j, p j) : p (sInfN p) ∧ ∀ i, p i → sInfN p ≤ i := @Classical.epsilon_spec Nat (fun j => p j ∧ ∀ i, p i → j ≤ i) (least_ex h)
theorem sInfN_mem {p : Nat → Prop} (h : ∃ j, p j) : p (sInfN p) := (sInfN_spec h).1
theorem sInfN_le {p : Nat → Prop} {j : Nat} (h : p j) : sInfN p ≤ j := (sInfN_spec ⟨j, h⟩).2 j h
section
variable {P : Program} {fn : Func} {R : Ending → World → Prop} {n : Nat} {tab : Tab} {w : World}
theorem step1_ok (hT : TabOk P tab) {stop : List Nat} {k k' : List It} {e e' : Exit} {env env' : Env} (h : step1 tab n stop k e env = some (k', e', env')) (hk : H P fn R n k' e' env' w) : H P fn R n k e env w := by
  intro a hA
  unfold step1 at h
  split at h
  · rename_i c k
    show c.wp P (semK P fn R k) a w
    split at h
    · cases h; exact wp_seq (hk a hA)
    · split at h
      · cases h
      · cases h; exact wp_block (hk a hA)
    · cases h; exact wp_skip (hk a hA)
    · cases h; exact wp_exit (hk a hA)
    · cases h; exact wp_goto (hk a hA)
    · cases h; exact wp_label (hk a hA)
    · cases h; exact wp_ret (hk a hA)
    · cases h; exact wp_region_list (hk a hA)
    · split at h
      · rename_i hc; cases h; exact wp_cond_true (hA.ev hc) (hk a hA)
      · rename_i hc; cases h; exact wp_cond_false (hA.ev hc) (hk a hA)
      · cases h
    · cases h
  · rename_i hne
    simp only [Option.some.injEq, Prod.mk.injEq] at h
    obtain ⟨rfl, rfl, rfl⟩ := h
    rw [semK, Exit.then_other hne]
    exact hk a hA
  · split at h
    · rename_i hb
      have hid := Nat.eq_of_beq_eq_true hb
      cases h
      simp only [semK, Exit.inBlock, hid, if_true]; exact hk a hA
    · rename_i hb
      have hid := Nat.ne_of_beq_eq_false hb
      cases h
      simp only [semK, Exit.inBlock, hid, if_false]; exact hk a hA
  · rename_i hne
    simp only [Option.some.injEq, Prod.mk.injEq] at h
    obtain ⟨rfl, rfl, rfl⟩ := h
    rw [semK, Exit.inBlock_other hne]
    exact hk a hA
  · cases h; exact hk a hA
  · rename_i L o l k env
    split at h
    · rename_i env1 ho
      cases h
      exact opStep_ok hT ho (fun a' h' => hk a' h') a hA
    · cases h
  · cases h; exact hk a hA
  · cases h; exact hk a hA
  · cases h; exact hk a hA
  · cases h; exact hk a hA
  · cases h; exact hk a hA
  · cases h; exact hk a hA
  · cases h; exact hk a hA
  · cases h; exact hk a hA
  · cases h; exact hk a hA
  · cases h; exact hk a hA
  · cases h; exact hk a hA
  · cases h; exact hk a hA
  · cases h; exact hk a hA
  · cases h

/-- as many steps as go, `m` at the most -/
def stepN (tab : Tab) (n : Nat) (stop : List Nat) : Nat → List It → Exit → Env → Option (List It × Exit × Env)
  | 0, k, e, env => some (k, e, env)
  | m + 1, k, e, env => match step1 tab n stop k e env with
    | some (k', e', env') => stepN tab n stop m k' e' env'
    | none => some (k, e, env)
theorem stepN_ok (hT : TabOk P tab) {stop : List Nat} : ∀ (m : Nat) {k k' : List It} {e e' : Exit} {env env' : Env}, stepN tab n stop m k e env = some (k', e', env') → H P fn R n k' e' env' w → H P fn R n k e env w
  | 0, k, k', e, e', env, env', h, hk => by cases h; exact hk
  | m + 1, k, k', e, e', env, env', h, hk => by
    simp only [stepN] at h
    split at h
    · rename_i k1 e1 env1 h1
      exact step1_ok hT h1 (stepN_ok hT m h hk)
    · cases h; exact hk

/-- the first step must go -/
def stepF (tab : Tab) (n : Nat) (stop : List Nat) (m : Nat) (k : List It) (e : Exit) (env : Env) : Option (List It × Exit × Env) :=
  match step1 tab n stop k e env with
  | some (k', e', env') => stepN tab n stop m k' e' env'
  | none => none
theorem stepF_ok (hT : TabOk P tab) (stop : List Nat) {m : Nat} {k k' : List It} {e e' : Exit} {env env' : Env} (h : stepF tab n stop m k e env = some (k', e', env')) (hk : H P fn R n k' e' env' w) : H P fn R n k e env w := by
  unfold stepF at h
  split at h
  · rename_i k1 e1 env1 h1
    exact step1_ok hT h1 (stepN_ok hT m h hk)
  · cases h

/-! ### events -/
/-- what is known may be said anew -/
theorem ev_env {k : List It} {e : Exit} {env : Env} (env' : Env) (hs : SubE env env') (hk : H P fn R n k e env' w) : H P fn R n k e env w :=
  fun a hA => hk a (hA.sub hs)

/-- the end of the body: one result, two, three, none -/
theorem ev_ret0 {e : Exit} (he : e = .normal ∨ e = .ret) {env : Env} (hr : fn.results = #[]) (hR : R (.returned (.tuple #[])) w) : H P fn R n [] e env w := by
  intro a hA
  have : (results fn a.tmps).run P w = .ok (.tuple #[]) w := results_none hr _ _ _
  rcases he with rfl | rfl <;> exact ⟨hA.1, _, this, hR⟩
theorem ev_ret1 {e : Exit} (he : e = .normal ∨ e = .ret) {env : Env} {t : Nat} (hr : fn.results = #[.tmp t]) {v : Value} (hv : look env t = some v) (hR : R (.returned v) w) : H P fn R n [] e env w := by
  intro a hA
  have h1 : (results fn a.tmps).run P w = .ok v w := by rw [results_tmp hr, hA.look hv]
  rcases he with rfl | rfl <;> exact ⟨hA.1, _, h1, hR⟩
theorem ev_ret2 {e : Exit} (he : e = .normal ∨ e = .ret) {env : Env} {t u : Nat} (hr : fn.results = #[.tmp t, .tmp u]) {v x : Value} (hv : look env t = some v) (hx : look env u = some x) (hR : R (.returned (.tuple #[v, x])) w) : H P fn R n [] e env w := by
  intro a hA
  have h1 : (results fn a.tmps).run P w = .ok (.tuple #[v, x]) w := by rw [results_tmp2 hr, hA.look hv, hA.look hx]
  rcases he with rfl | rfl <;> exact ⟨hA.1, _, h1, hR⟩
theorem ev_ret3 {e : Exit} (he : e = .normal ∨ e = .ret) {env : Env} {t u s : Nat} (hr : fn.results = #[.tmp t, .tmp u, .tmp s]) {v x y : Value} (hv : look env t = some v) (hx : look env u = some x) (hy : look env s = some y) (hR : R (.returned (.tuple #[v, x, y])) w) : H P fn R n [] e env w := by
  intro a hA
  have h1 : (results fn a.tmps).run P w = .ok (.tuple #[v, x, y]) w := by
    simp [results, hr, hA.2.2 _ _ hv, hA.2.2 _ _ hx, hA.2.2 _ _ hy]
  rcases he with rfl | rfl <;> exact ⟨hA.1, _, h1, hR⟩

/-- a test that is not decided -/
theorem ev_cond {k : List It} {env : Env} {c : Operand} {x y : Code} {b : Bool} (hc : ev env c = some (.bool b))
    (h1 : b = true → H P fn R n (.code x :: k) .normal env w) (h2 : b = false → H P fn R n (.code y :: k) .normal env w) : H P fn R n (.code (.cond c x y) :: k) .normal env w :=
  fun a hA => wp_cond_split (hA.ev hc) (fun h => h1 h a hA) (fun h => h2 h a hA)
theorem ev_condD {k : List It} {env : Env} {c : Operand} {x y : Code} {p : Prop} [Decidable p] (hc : ev env c = some (.bool (decide p)))
    (h1 : p → H P fn R n (.code x :: k) .normal env w) (h2 : ¬ p → H P fn R n (.code y :: k) .normal env w) : H P fn R n (.code (.cond c x y) :: k) .normal env w :=
  ev_cond hc (fun h => h1 (of_decide_eq_true h)) (fun h => h2 (of_decide_eq_false h))
theorem ev_rounds (m : Nat) {k : List It} {env : Env} {c : Code} (h : H P fn R n (.rnd c m :: k) .normal env w) : H P fn R n (.code (.loop c) :: k) .normal env w :=
  fun a hA => wp_loop_rounds m (h a hA)
theorem ev_condND {k : List It} {env : Env} {c : Operand} {x y : Code} {p : Prop} [Decidable p] (hc : ev env c = some (.bool (!decide p)))
    (h1 : ¬ p → H P fn R n (.code x :: k) .normal env w) (h2 : p → H P fn R n (.code y :: k) .normal env w) : H P fn R n (.code (.cond c x y) :: k) .normal env w :=
  ev_cond hc (fun h => h1 (by simpa using h)) (fun h => h2 (by simpa using h))

/-- a slot's bool, decided before it is asked -/
theorem ev_split {k : List It} {e : Exit} {env : Env} (t : Nat) {b : Bool} (hc : look env t = some (.bool b))
    (h1 : b = true → H P fn R n k e ((t, .bool true) :: env) w) (h2 : b = false → H P fn R n k e ((t, .bool false) :: env) w) : H P fn R n k e env w := by
  intro a hA
  have key : ∀ c, b = c → Ag n a ((t, .bool c) :: env) := fun c hbc => by
    subst hbc
    refine ⟨hA.1, hA.2.1, fun s v hs => ?_⟩
    rw [look_cons] at hs
    split at hs
    · rename_i he; subst he; cases hs; exact hA.2.2 _ _ hc
    · exact hA.2.2 _ _ hs
  cases b with
  | true => exact h1 rfl a (key true rfl)
  | false => exact h2 rfl a (key false rfl)

theorem ev_splitD {k : List It} {e : Exit} {env : Env} (t : Nat) {p : Prop} [Decidable p] (hc : look env t = some (.bool (decide p)))
    (h1 : p → H P fn R n k e ((t, .bool true) :: env) w) (h2 : ¬ p → H P fn R n k e ((t, .bool false) :: env) w) : H P fn R n k e env w :=
  ev_split t hc (fun h => h1 (of_decide_eq_true h)) (fun h => h2 (of_decide_eq_false h))
/-- the slot that a guard asks -/
def guardT (L : List Oper) : Option (Nat × Bool) → Option Nat
  | none => none
  | some (g, _) => match nthO L g with
    | some ⟨some t, _, _, _, _, _⟩ => some t
    | _ => none
theorem ev_guardD {k : List It} {env : Env} {L l : List Oper} {d : Option Nat} {op : Op} {ty : TypeId} {ps : String} {af : Array Edge} {g : Option (Nat × Bool)} {t : Nat} {p : Prop} [Decidable p]
    (hg : guardT L g = some t) (hc : look env t = some (.bool (decide p)))
    (h1 : p → H P fn R n (.ops L (⟨d, op, ty, ps, af, g⟩ :: l) :: k) .normal ((t, .bool true) :: env) w) (h2 : ¬ p → H P fn R n (.ops L (⟨d, op, ty, ps, af, g⟩ :: l) :: k) .normal ((t, .bool false) :: env) w) :
    H P fn R n (.ops L (⟨d, op, ty, ps, af, g⟩ :: l) :: k) .normal env w := ev_splitD t hc h1 h2
theorem ev_guard {k : List It} {env : Env} {L l : List Oper} {d : Option Nat} {op : Op} {ty : TypeId} {ps : String} {af : Array Edge} {g : Option (Nat × Bool)} {t : Nat} {b : Bool}
    (hg : guardT L g = some t) (hc : look env t = some (.bool b))
    (h1 : b = true → H P fn R n (.ops L (⟨d, op, ty, ps, af, g⟩ :: l) :: k) .normal ((t, .bool true) :: env) w) (h2 : b = false → H P fn R n (.ops L (⟨d, op, ty, ps, af, g⟩ :: l) :: k) .normal ((t, .bool false) :: env) w) :
    H P fn R n (.ops L (⟨d, op, ty, ps, af, g⟩ :: l) :: k) .normal env w := ev_split t hc h1 h2
/-- a choice by a bool that is not decided -/
theorem ev_pickD {k : List It} {env : Env} {L l : List Oper} {d : Option Nat} {c x y : Operand} {ty : TypeId} {ps : String} {af : Array Edge} {g : Option (Nat × Bool)} {t : Nat} {p : Prop} [Decidable p]
    (hg : c = .tmp t) (hc : look env t = some (.bool (decide p)))
    (h1 : p → H P fn R n (.ops L (⟨d, .pick c x y, ty, ps, af, g⟩ :: l) :: k) .normal ((t, .bool true) :: env) w) (h2 : ¬ p → H P fn R n (.ops L (⟨d, .pick c x y, ty, ps, af, g⟩ :: l) :: k) .normal ((t, .bool false) :: env) w) :
    H P fn R n (.ops L (⟨d, .pick c x y, ty, ps, af, g⟩ :: l) :: k) .normal env w := ev_splitD t hc h1 h2

/-- an operation that leaves the world alone, shown by hand -/
theorem ev_op {k : List It} {env : Env} {L l : List Oper} {d : Nat} {op : Op} {ty : TypeId} {ps : String} {af : Array Edge} {g : Option (Nat × Bool)}
    (hg : guardOf L env g = some true) (hd : Nat.blt d n = true) (v : Value) (w' : World)
    (hop : ∀ a, Ag n a env → (execOp a.eval ⟨some d, op, ty, ps, af, g⟩).run P w = .ok (.value v) w')
    (hk : H P fn R n (.ops L l :: k) .normal ((d, v) :: env) w') : H P fn R n (.ops L (⟨some d, op, ty, ps, af, g⟩ :: l) :: k) .normal env w := by
  intro a hA
  show wpList P L.toArray (semK P fn R k) _ a w
  have hw := guardOf_ok (o := ⟨some d, op, ty, ps, af, g⟩) hg hA
  unfold wpList
  rw [if_pos hw]
  left
  unfold Oper.wp
  rw [hop a hA]
  exact hk _ (hA.put (Nat.le_of_ble_eq_true hd) v)
theorem ev_do {k : List It} {env : Env} {L l : List Oper} {op : Op} {ty : TypeId} {ps : String} {af : Array Edge} {g : Option (Nat × Bool)}
    (hg : guardOf L env g = some true) (w' : World)
    (hop : ∀ a, Ag n a env → (execOp a.eval ⟨none, op, ty, ps, af, g⟩).run P w = .ok .skip w')
    (hk : H P fn R n (.ops L l :: k) .normal env w') : H P fn R n (.ops L (⟨none, op, ty, ps, af, g⟩ :: l) :: k) .normal env w := by
  intro a hA
  show wpList P L.toArray (semK P fn R k) _ a w
  have hw := guardOf_ok (o := ⟨none, op, ty, ps, af, g⟩) hg hA
  unfold wpList
  rw [if_pos hw]
  left
  unfold Oper.wp
  rw [hop a hA]
  exact hk _ hA

/-- a loop: `E x` is what is known of the frame, `J x` of the world, at the head of the round of ghost `x` -/
theorem ev_loop {α : Type} (E : α → Env) (J : α → World → Prop) (m : α → Nat) (x0 : α) {k : List It} {env : Env} {c : Code} (h0 : SubE env (E x0)) (hJ : J x0 w)
    (round : ∀ x w, J x w → H P fn R n (.code c :: .inv (fun a w => ∃ y, m y < m x ∧ J y w ∧ Ag n a (E y)) :: k) .normal (E x) w) : H P fn R n (.code (.loop c) :: k) .normal env w := by
  intro a hA
  show (Code.loop c).wp P (semK P fn R k) a w
  -- the state: some x that fits
  refine wp_loop (I := fun a w => ∃ x, J x w ∧ Ag n a (E x)) (μ := fun a w => sInfN (fun j => ∃ x, m x = j ∧ J x w ∧ Ag n a (E x))) ⟨x0, hJ, hA.sub h0⟩ ?_
  rintro a1 w1 ⟨x, hx, hAx⟩
  obtain ⟨x', hm', hx', hAx'⟩ := sInfN_mem (p := fun j => ∃ x, m x = j ∧ J x w1 ∧ Ag n a1 (E x)) ⟨_, x, rfl, hx, hAx⟩
  have := round x' w1 hx' a1 hAx'
  refine wp_mono (Q := Exit.then (fun a w => ∃ y, m y < m x' ∧ J y w ∧ Ag n a (E y)) (semK P fn R k)) this fun e a2 w2 q => ?_
  cases e with
  | normal =>
    obtain ⟨y, hy1, hy2, hy3⟩ := q
    exact ⟨⟨y, hy2, hy3⟩, Nat.lt_of_le_of_lt (sInfN_le ⟨y, rfl, hy2, hy3⟩) (by rw [← hm']; exact hy1)⟩
  | _ => exact q
/-- a round's end -/
theorem ev_next {α : Type} {E : α → Env} {J : α → World → Prop} {m : α → Nat} {x : α} (y : α) {k : List It} {env : Env} (hm : m y < m x) (hJ : J y w) (hs : SubE env (E y)) :
    H P fn R n (.inv (fun a w => ∃ y, m y < m x ∧ J y w ∧ Ag n a (E y)) :: k) .normal env w :=
  fun a hA => ⟨y, hm, hJ, hA.sub hs⟩
/-- the ways of a statement meet again -/
theorem ev_cut {α : Type} (E : α → Env) (J : α → World → Prop) {c : Code} {k : List It} {env : Env} (h1 : H P fn R n (.code c :: .inv (fun a w' => ∃ x, J x w' ∧ Ag n a (E x)) :: k) .normal env w)
    (h2 : ∀ x w', J x w' → H P fn R n k .normal (E x) w') : H P fn R n (.code c :: k) .normal env w := by
  intro a hA
  refine wp_mono (P := P) (h1 a hA) fun e a' w' q => ?_
  cases e with
  | normal =>
    obtain ⟨x, hx, ha⟩ := q
    exact h2 x w' hx a' ha
  | _ => exact q
theorem ev_out {α : Type} {E : α → Env} {J : α → World → Prop} (x : α) {k : List It} {env : Env} (hJ : J x w) (hs : SubE env (E x)) :
    H P fn R n (.inv (fun a w' => ∃ x, J x w' ∧ Ag n a (E x)) :: k) .normal env w :=
  fun a hA => ⟨x, hJ, hA.sub hs⟩
theorem wpList_monoQ {ops : Array Oper} {Q Q' : Exit → Act → World → Prop} (hq : ∀ e a w, Q e a w → Q' e a w) : ∀ (l : List Oper) (a : Act) (w : World), wpList P ops Q l a w → wpList P ops Q' l a w
  | [], a, w, h => hq _ _ _ h
  | o :: l, a, w, h => by
    unfold wpList at h ⊢
    split
    · rename_i hw
      rw [if_pos hw] at h
      rcases h with h | ⟨h1, a0, w0, h2⟩
      · left
        unfold Oper.wp at h ⊢
        generalize (execOp a.eval o).run P w = r at *
        cases r with
        | ok n w' =>
          cases n <;> simp only [Oper.upon] at h ⊢ <;>
            first
              | exact wpList_monoQ hq l _ _ h
              | exact Calls.mono h (fun e w'' he => by
                  cases e with
                  | returned v => exact wpList_monoQ hq l _ _ he
                  | panicked ch => exact hq _ _ _ he
                  | outgrown => obtain ⟨a0, w0, h2⟩ := he; exact ⟨a0, w0, hq _ _ _ h2⟩)
              | exact Rows.mono h (fun _ _ he => wpList_monoQ hq l _ _ he)
        | halt x w' => cases x <;> simp only [Oper.upon] at h ⊢ <;> exact hq _ _ _ h
      · exact .inr ⟨h1, a0, w0, hq _ _ _ h2⟩
    · rename_i hw
      rw [if_neg hw] at h
      exact wpList_monoQ hq l _ _ h
theorem then_mono {J J' : Act → World → Prop} {Q Q' : Exit → Act → World → Prop} (hj : ∀ a w, J a w → J' a w) (hq : ∀ e a w, Q e a w → Q' e a w) (e : Exit) (a : Act) (w : World) (h : Exit.then J Q e a w) : Exit.then J' Q' e a w := by
  cases e <;> first | exact hj _ _ h | exact hq _ _ _ h
theorem rounds_monoQ {c : Code} {Q Q' : Exit → Act → World → Prop} (hq : ∀ e a w, Q e a w → Q' e a w) : ∀ (m : Nat) (a : Act) (w : World), Code.rounds P c Q m a w → Code.rounds P c Q' m a w
  | 0, a, w, h => h
  | m + 1, a, w, h => by
    rw [rounds_succ] at h ⊢
    exact wp_mono h (then_mono (rounds_monoQ hq m) hq)
theorem jump_mono {l : Nat} {J : Act → World → Prop} {Q Q' : Exit → Act → World → Prop} (hq : ∀ e a w, Q e a w → Q' e a w) (e : Exit) (a : Act) (w : World) (h : Exit.jump l J Q e a w) : Exit.jump l J Q' e a w := by
  cases e <;> first | exact h | exact hq _ _ _ h
theorem semK_mono {k k' : List It} (h : ∀ e a w, semK P fn R k e a w → semK P fn R k' e a w) (x : It) (e : Exit) (a : Act) (w : World) (hx : semK P fn R (x :: k) e a w) : semK P fn R (x :: k') e a w := by
  cases x with
  | code c => exact then_mono (fun a w hw => wp_mono hw h) h e a w hx
  | blk id =>
    simp only [semK] at hx ⊢
    cases e with
    | exit i =>
      simp only [Exit.inBlock] at hx ⊢
      split <;> rename_i hi
      · rw [if_pos hi] at hx; exact h _ _ _ hx
      · rw [if_neg hi] at hx; exact h _ _ _ hx
    | _ => exact h _ _ _ hx
  | ops L l => exact then_mono (fun a w hw => wpList_monoQ h l a w hw) h e a w hx
  | inv J => exact then_mono (fun _ _ hj => hj) h e a w hx
  | rnd c m => exact then_mono (fun a w hw => rounds_monoQ h m a w hw) h e a w hx
  | jmp l J => exact jump_mono h e a w hx
theorem semK_join {J : Act → World → Prop} {k : List It} (h : ∀ a w, J a w → semK P fn R k .normal a w) (e : Exit) (a : Act) (w : World) (hx : semK P fn R (.inv J :: k) e a w) : semK P fn R k e a w := by
  simp only [semK] at hx
  cases e with
  | normal => exact h _ _ hx
  | _ => exact hx
/-- the ways of two pieces meet again -/
theorem ev_join2 {α : Type} (E : α → Env) (J : α → World → Prop) {x y : It} {k : List It} {e : Exit} {env : Env} (h1 : H P fn R n (x :: y :: .inv (fun a w => ∃ x, J x w ∧ Ag n a (E x)) :: k) e env w)
    (h2 : ∀ x w', J x w' → H P fn R n k .normal (E x) w') : H P fn R n (x :: y :: k) e env w :=
  fun a hA => semK_mono (semK_mono (semK_join fun a w ⟨z, hz, ha⟩ => h2 z w hz a ha) y) x e a w (h1 a hA)
theorem ev_join1 {α : Type} (E : α → Env) (J : α → World → Prop) {x : It} {k : List It} {e : Exit} {env : Env} (h1 : H P fn R n (x :: .inv (fun a w => ∃ x, J x w ∧ Ag n a (E x)) :: k) e env w)
    (h2 : ∀ x w', J x w' → H P fn R n k .normal (E x) w') : H P fn R n (x :: k) e env w :=
  fun a hA => semK_mono (semK_join fun a w ⟨z, hz, ha⟩ => h2 z w hz a ha) x e a w (h1 a hA)
/-- a scope: what is known (`E x`, `J x`) where the run jumps back to its label; a measure falls from pass to pass -/
theorem ev_scope {α : Type} (l : Nat) (E : α → Env) (J : α → World → Prop) (m : α → Nat) {k : List It} {env : Env} {c rest : Code} (hf : findLabel c l = some rest)
    (first : H P fn R n (.code c :: .jmp l (fun a w => ∃ y, J y w ∧ Ag n a (E y)) :: k) .normal env w)
    (pass : ∀ x w, J x w → H P fn R n (.code rest :: .jmp l (fun a w => ∃ y, m y < m x ∧ J y w ∧ Ag n a (E y)) :: k) .normal (E x) w) : H P fn R n (.code (.scope c) :: k) .normal env w := by
  intro a hA
  show (Code.scope c).wp P (semK P fn R k) a w
  refine wp_scope_jumps l (fun a w => ∃ y, J y w ∧ Ag n a (E y)) (fun a w => sInfN (fun j => ∃ y, m y = j ∧ J y w ∧ Ag n a (E y))) hf (first a hA) ?_
  rintro a1 w1 ⟨x, hx, hAx⟩
  obtain ⟨x', hm', hx', hAx'⟩ := sInfN_mem (p := fun j => ∃ x, m x = j ∧ J x w1 ∧ Ag n a1 (E x)) ⟨_, x, rfl, hx, hAx⟩
  have := pass x' w1 hx' a1 hAx'
  refine wp_mono (Q := Exit.jump l (fun a w => ∃ y, m y < m x' ∧ J y w ∧ Ag n a (E y)) (semK P fn R k)) this fun e a2 w2 q => ?_
  cases e with
  | goto l' =>
    obtain ⟨hl, y, hy1, hy2, hy3⟩ := q
    exact ⟨hl, ⟨y, hy2, hy3⟩, Nat.lt_of_le_of_lt (sInfN_le ⟨y, rfl, hy2, hy3⟩) (by rw [← hm']; exact hy1)⟩
  | _ => exact q
/-- the jump back, the first and a later one -/
theorem ev_jump0 {α : Type} {E : α → Env} {J : α → World → Prop} {l : Nat} (y : α) {k : List It} {env : Env} (hJ : J y w) (hs : SubE env (E y)) :
    H P fn R n (.jmp l (fun a w => ∃ y, J y w ∧ Ag n a (E y)) :: k) (.goto l) env w :=
  fun a hA => ⟨rfl, y, hJ, hA.sub hs⟩
theorem ev_jump {α : Type} {E : α → Env} {J : α → World → Prop} {m : α → Nat} {x : α} {l : Nat} (y : α) {k : List It} {env : Env} (hm : m y < m x) (hJ : J y w) (hs : SubE env (E y)) :
    H P fn R n (.jmp l (fun a w => ∃ y, m y < m x ∧ J y w ∧ Ag n a (E y)) :: k) (.goto l) env w :=
  fun a hA => ⟨rfl, y, hm, hJ, hA.sub hs⟩
/-- a scope without a jump back -/
theorem ev_scope0 {k : List It} {env : Env} {c : Code} (h : H P fn R n (.code c :: .jmp 0 (fun _ _ => False) :: k) .normal env w) : H P fn R n (.code (.scope c) :: k) .normal env w := by
  intro a hA
  show (Code.scope c).wp P (semK P fn R k) a w
  refine wp_scope_straight (wp_mono (Q := Exit.jump 0 (fun _ _ => False) (semK P fn R k)) (h a hA) fun e a2 w2 q => ?_)
  cases e with
  | goto l' => exact q.2
  | _ => exact q
end
end Go.Wk
