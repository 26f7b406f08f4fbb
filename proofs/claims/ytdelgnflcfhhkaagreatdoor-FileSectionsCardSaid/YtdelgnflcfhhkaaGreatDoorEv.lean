/-
  The walk kit of this repo, part 1: frames as lists of known slots, one step of straight code by computation, and what a configuration means.
-/
import Derived.WalkKit
import Derived.ScopeJumps
set_option linter.unusedVariables false
set_option linter.unusedSimpArgs false
namespace Go.Wk
open Go

/-- what is known of a frame: slot, value; the first entry of a slot counts -/
abbrev Env := List (Nat × Value)

def look : Env → Nat → Option Value
  | [], _ => none
  | (k, v) :: r, t => match Nat.beq k t with | true => some v | false => look r t

theorem look_cons (k : Nat) (v : Value) (r : Env) (t : Nat) : look ((k, v) :: r) t = if k = t then some v else look r t := by
  by_cases h : k = t
  · subst h; simp [look]
  · have : Nat.beq k t = false := by
      cases hb : Nat.beq k t with
      | false => rfl
      | true => exact absurd (Nat.eq_of_beq_eq_true hb) h
    simp [look, this, h]

def Ag (n : Nat) (a : Act) (env : Env) : Prop := a.defers = [] ∧ a.tmps.size = n ∧ ∀ t v, look env t = some v → a.tmps[t]? = some v

theorem Ag.put {n : Nat} {a : Act} {env : Env} (h : Ag n a env) {d : Nat} (hd : d < n) (v : Value) : Ag n (a.put (some d) v) ((d, v) :: env) := by
  obtain ⟨h1, h2, h3⟩ := h
  refine ⟨h1, by simp [Act.put, h2], fun t u ht => ?_⟩
  rw [look_cons] at ht
  simp only [Act.put]
  by_cases e : d = t
  · subst e
    simp only [if_true, Option.some.injEq] at ht
    subst ht
    simp [h2, hd]
  · rw [if_neg e] at ht
    rw [Array.getElem?_setIfInBounds_ne e]
    exact h3 t u ht

theorem Ag.look {n : Nat} {a : Act} {env : Env} (h : Ag n a env) {t : Nat} {v : Value} (ht : look env t = some v) : a.tmps.getD t undef = v := by
  have := h.2.2 t v ht
  rw [Array.getD_eq_getD_getElem?, this]; rfl

/-- every entry of `e2` is known of `e1` -/
def SubE (e1 : Env) : Env → Prop
  | [] => True
  | (k, v) :: r => look e1 k = some v ∧ SubE e1 r

theorem Ag.sub {n : Nat} {a : Act} {e1 : Env} (h : Ag n a e1) : ∀ {e2 : Env}, SubE e1 e2 → Ag n a e2
  | [], _ => ⟨h.1, h.2.1, fun t v ht => by simp [Wk.look] at ht⟩
  | (k, v) :: r, hs => by
    refine ⟨h.1, h.2.1, fun t u ht => ?_⟩
    rw [look_cons] at ht
    by_cases e : k = t
    · subst e
      simp only [if_true, Option.some.injEq] at ht
      subst ht
      exact h.2.2 _ _ hs.1
    · rw [if_neg e] at ht
      exact (h.sub hs.2).2.2 t u ht

def ev (env : Env) : Operand → Option Value
  | .tmp t => look env t
  | .const v => some v
  | .global g => some (.pointer (some ⟨g, 0, none⟩))
  | .func f => some (.func (.func f) #[] #[])

theorem Ag.ev {n : Nat} {a : Act} {env : Env} (h : Ag n a env) {x : Operand} {v : Value} (hx : ev env x = some v) : a.eval x = v := by
  cases x with
  | tmp t => exact h.look hx
  | const u => simpa [Wk.ev, Act.eval] using hx
  | global g => simpa [Wk.ev, Act.eval] using hx
  | func f => simpa [Wk.ev, Act.eval] using hx

/-! ### types, as far as straight code asks of them -/
inductive TyD where
  | int (k : IntKind) | bool | str | ptr (e : Nat)
  | slice (e sz : Nat)
  | struct (fs : List (Nat × Nat × Bool))
  | arr (len e sz : Nat) (agg : Bool)
  | map (k e : Nat) | other
  deriving DecidableEq

def aggOf (P : Program) (t : TypeId) : Option Bool :=
  match P.underlying t with
  | some (.struct _) | some (.array _ _) => some true
  | some _ => some false
  | none => none

def sizeIf (P : Program) (t : TypeId) : Option Nat := (P.info? t).map (·.size)

def fieldsOf (P : Program) : List Field → Option (List (Nat × Nat × Bool))
  | [] => some []
  | f :: r => match sizeIf P f.type, aggOf P f.type, fieldsOf P r with
    | some s, some b, some l => some ((f.offset, s, b) :: l)
    | _, _, _ => none

def tyOf (P : Program) (t : TypeId) : TyD :=
  match P.underlying t with
  | some (.int k) => .int k
  | some .bool => .bool
  | some .string => .str
  | some (.pointer e) => .ptr e
  | some (.slice e) => match sizeIf P e with | some s => .slice e s | none => .other
  | some (.struct fs) => match fieldsOf P fs.toList with | some l => .struct l | none => .other
  | some (.array n e) => match sizeIf P e, aggOf P e with | some s, some b => .arr n e s b | _, _ => .other
  | some (.map k e) => .map k e
  | _ => .other

/-- a type, what it is, its cells -/
abbrev Tab := List (Nat × TyD × Nat)
def tyAt : Tab → Nat → TyD
  | [], _ => .other
  | (k, d, _) :: r, t => match Nat.beq k t with | true => d | false => tyAt r t
def szAt : Tab → Nat → Nat
  | [], _ => 0
  | (k, _, s) :: r, t => match Nat.beq k t with | true => s | false => szAt r t
def tabB (P : Program) (tab : Tab) : Bool := tab.all fun x => decide (tyOf P x.1 = x.2.1) && decide (sizeIf P x.1 = some x.2.2)
def TabOk (P : Program) (tab : Tab) : Prop := ∀ t, tyAt tab t ≠ .other → tyOf P t = tyAt tab t ∧ sizeIf P t = some (szAt tab t)
theorem tabOk_of {P : Program} : ∀ {tab : Tab}, tabB P tab = true → TabOk P tab
  | [], _, t, hd => absurd rfl hd
  | (k, e, s) :: r, hb, t, hd => by
    simp only [tabB, List.all_cons, Bool.and_eq_true, decide_eq_true_eq] at hb
    by_cases hk : k = t
    · subst hk
      simp only [tyAt, szAt, Nat.beq_refl]
      exact hb.1
    · have : Nat.beq k t = false := by
        cases hb : Nat.beq k t with
        | false => rfl
        | true => exact absurd (Nat.eq_of_beq_eq_true hb) hk
      simp only [tyAt, szAt, this] at hd ⊢
      exact tabOk_of (tab := r) hb.2 t hd

section
variable {P : Program} {tab : Tab}
theorem ty_int (hT : TabOk P tab) {t : Nat} {k : IntKind} (h : tyAt tab t = .int k) : P.underlying t = some (.int k) := by
  have := (hT t (by rw [h]; simp)).1
  rw [h] at this
  unfold tyOf at this
  split at this <;> first | (simp_all; done) | (repeat' split at this) <;> simp_all
theorem ty_str (hT : TabOk P tab) {t : Nat} (h : tyAt tab t = .str) : P.underlying t = some .string := by
  have := (hT t (by rw [h]; simp)).1
  rw [h] at this
  unfold tyOf at this
  split at this <;> first | (simp_all; done) | (repeat' split at this) <;> simp_all
theorem ty_bool (hT : TabOk P tab) {t : Nat} (h : tyAt tab t = .bool) : P.underlying t = some .bool := by
  have := (hT t (by rw [h]; simp)).1
  rw [h] at this
  unfold tyOf at this
  split at this <;> first | (simp_all; done) | (repeat' split at this) <;> simp_all
theorem ty_ptr (hT : TabOk P tab) {t e : Nat} (h : tyAt tab t = .ptr e) : P.underlying t = some (.pointer e) := by
  have := (hT t (by rw [h]; simp)).1
  rw [h] at this
  unfold tyOf at this
  split at this <;> first | (simp_all; done) | (repeat' split at this) <;> simp_all
theorem ty_map (hT : TabOk P tab) {t k e : Nat} (h : tyAt tab t = .map k e) : P.underlying t = some (.map k e) := by
  have := (hT t (by rw [h]; simp)).1
  rw [h] at this
  unfold tyOf at this
  split at this <;> first | (simp_all; done) | (repeat' split at this) <;> simp_all
theorem ty_slice (hT : TabOk P tab) {t e s : Nat} (h : tyAt tab t = .slice e s) : P.underlying t = some (.slice e) ∧ sizeIf P e = some s := by
  have := (hT t (by rw [h]; simp)).1
  rw [h] at this
  unfold tyOf at this
  split at this <;> first | (simp_all; done) | (repeat' split at this) <;> simp_all
theorem ty_arr (hT : TabOk P tab) {t n e s : Nat} {b : Bool} (h : tyAt tab t = .arr n e s b) : P.underlying t = some (.array n e) ∧ sizeIf P e = some s ∧ aggOf P e = some b := by
  have := (hT t (by rw [h]; simp)).1
  rw [h] at this
  unfold tyOf at this
  split at this <;> first | (simp_all; done) | (repeat' split at this) <;> simp_all
theorem ty_struct (hT : TabOk P tab) {t : Nat} {l : List (Nat × Nat × Bool)} (h : tyAt tab t = .struct l) : ∃ fs, P.underlying t = some (.struct fs) ∧ fieldsOf P fs.toList = some l := by
  have := (hT t (by rw [h]; simp)).1
  rw [h] at this
  unfold tyOf at this
  split at this <;> first | (simp_all; done) | (repeat' split at this) <;> simp_all
/-- is it of several cells? -/
def aggT : TyD → Option Bool
  | .other => none
  | .struct _ => some true
  | .arr _ _ _ _ => some true
  | _ => some false
theorem ty_agg (hT : TabOk P tab) {t : Nat} {b : Bool} (h : aggT (tyAt tab t) = some b) : aggOf P t = some b := by
  unfold aggOf
  cases hty : tyAt tab t with
  | other => rw [hty] at h; cases h
  | struct l => rw [hty] at h; cases h; obtain ⟨fs, h1, _⟩ := ty_struct hT hty; rw [h1]
  | arr n e s c => rw [hty] at h; cases h; rw [(ty_arr hT hty).1]
  | int k => rw [hty] at h; cases h; rw [ty_int hT hty]
  | bool => rw [hty] at h; cases h; rw [ty_bool hT hty]
  | str => rw [hty] at h; cases h; rw [ty_str hT hty]
  | ptr e => rw [hty] at h; cases h; rw [ty_ptr hT hty]
  | slice e s => rw [hty] at h; cases h; rw [(ty_slice hT hty).1]
  | map k e => rw [hty] at h; cases h; rw [ty_map hT hty]
theorem ty_size (hT : TabOk P tab) {t s : Nat} {b : Bool} (h : aggT (tyAt tab t) = some b) (hs : szAt tab t = s) : sizeIf P t = some s := by
  have := (hT t (fun e => by rw [e] at h; cases h)).2
  rw [this, hs]
theorem fieldsOf_get : ∀ {fs : List Field} {l : List (Nat × Nat × Bool)} {i : Nat} {o s : Nat} {b : Bool}, fieldsOf P fs = some l → l[i]? = some (o, s, b) →
    ∃ f, fs[i]? = some f ∧ f.offset = o ∧ sizeIf P f.type = some s ∧ aggOf P f.type = some b
  | [], l, i, o, s, b, h, hi => by simp [fieldsOf] at h; subst h; simp at hi
  | f :: r, l, i, o, s, b, h, hi => by
    simp only [fieldsOf] at h
    split at h
    · rename_i s' b' l' h1 h2 h3
      simp only [Option.some.injEq] at h
      subst h
      cases i with
      | zero => simp at hi; obtain ⟨rfl, rfl, rfl⟩ := hi; exact ⟨f, rfl, rfl, h1, h2⟩
      | succ i => simpa using fieldsOf_get h3 (by simpa using hi)
    · cases h
end

/-! ### running: small facts -/
section
variable {P : Program} {w : World}
theorem run_bind {α β : Type} {s : Sem α} {f : α → Sem β} {a : α} {w' : World} (h : s.run P w = .ok a w') : (s >>= f).run P w = (f a).run P w' := by
  show (Sem.bind s f).run P w = _
  induction s generalizing w with
  | pure x => simp [Sem.run] at h; obtain ⟨rfl, rfl⟩ := h; rfl
  | load m a k ih =>
    simp only [Sem.bind, Sem.run] at h ⊢
    split
    · rename_i v hv; rw [hv] at h; exact ih _ h
    · rename_i hv; rw [hv] at h; simp only at h
      split
      · rename_i v t hf; rw [hf] at h; exact ih _ h
      · rename_i hf; rw [hf] at h; cases h
  | store m a v k ih =>
    cases v <;> simp only [Sem.bind, Sem.run] at h ⊢ <;> first
      | (cases h; done)
      | (split
         · rename_i u hu; rw [hu] at h; simp only at h
           split
           · rename_i hf; rw [if_pos hf] at h; cases h
           · rename_i hf; rw [if_neg hf] at h; exact ih h
         · rename_i hu; rw [hu] at h; simp only at h
           split
           · rename_i w2 t hf; rw [hf] at h; exact ih h
           · rename_i hf; rw [hf] at h; cases h)
  | new o k ih => simp only [Sem.bind, Sem.run] at h ⊢; exact ih _ h
  | shape r k ih => simp only [Sem.bind, Sem.run] at h ⊢; exact ih _ h
  | freeze a n k ih => simp only [Sem.bind, Sem.run] at h ⊢; exact ih h
  | frozen a k ih => simp only [Sem.bind, Sem.run] at h ⊢; exact ih _ h
  | getObj r k ih =>
    simp only [Sem.bind, Sem.run] at h ⊢
    split <;> rename_i ho <;> rw [ho] at h <;> first | (cases h; done) | exact ih _ h | skip
    all_goals (first | (simp only at h; cases h; done) | (simp only at h; exact ih _ h) | skip)
  | setObj r o k ih =>
    simp only [Sem.bind, Sem.run] at h ⊢
    split <;> rename_i ho <;> rw [ho] at h <;> first | (cases h; done) | exact ih h | skip
    all_goals (first | (simp only at h; cases h; done) | (simp only at h; exact ih h) | skip)
  | choose q k ih =>
    simp only [Sem.bind, Sem.run] at h ⊢
    split
    · rename_i hq; rw [if_pos hq] at h; exact ih _ h
    · rename_i hq; rw [if_neg hq] at h; exact ih _ h
  | sys c k ih => simp only [Sem.bind, Sem.run] at h ⊢; exact ih _ h
  | program k ih => simp only [Sem.bind, Sem.run] at h ⊢; exact ih _ h
  | mark m k ih => simp only [Sem.bind, Sem.run] at h ⊢; exact ih h
  | halt x => cases h
theorem run_pure {α : Type} (a : α) : (pure a : Sem α).run P w = .ok a w := rfl
theorem run_underlying' {t : TypeId} {d : TypeDesc} (h : P.underlying t = some d) : (underlying t).run P w = .ok d w := by
  simp only [underlying, program]
  show (Sem.run P ((Sem.program Sem.pure).bind _) w) = _
  simp only [Sem.bind, Sem.run, h]; rfl
theorem run_typeInfo {t : TypeId} {i : TypeInfo} (h : P.info? t = some i) : (typeInfo t).run P w = .ok i w := by
  simp only [typeInfo, program]
  show (Sem.run P ((Sem.program Sem.pure).bind _) w) = _
  simp only [Sem.bind, Sem.run, h]; rfl
theorem run_sizeOf {t : TypeId} {s : Nat} (h : sizeIf P t = some s) : (sizeOf t).run P w = .ok s w := by
  simp only [sizeIf, Option.map_eq_some_iff] at h
  obtain ⟨i, hi, rfl⟩ := h
  exact run_bind (run_typeInfo hi)
theorem run_isAgg {t : TypeId} {b : Bool} (h : aggOf P t = some b) : (isAgg t).run P w = .ok b w := by
  unfold aggOf at h
  split at h
  · rename_i x hx; simp at h; subst h; exact run_bind (run_underlying' hx)
  · rename_i x y hx; simp at h; subst h; exact run_bind (run_underlying' hx)
  · rename_i x hx h1 h2
    simp at h; subst h
    refine (run_bind (run_underlying' h2)).trans ?_
    split
    · rename_i fs; exact absurd h2 (by simpa using hx fs)
    · rename_i n e; exact absurd h2 (by simpa using h1 n e)
    · rfl
  · cases h
end

/-! ### operations that ask nothing of the world -/
def notI64 : IntKind → Bool
  | .i64 => false
  | _ => true
def intOp (op : BinOp) (k : IntKind) (x y : Int) : Option Value :=
  match op with
  | .and => some (.int k (bits .and k x y))
  | .or => some (.int k (bits .or k x y))
  | .xor => some (.int k (bits .xor k x y))
  | .andNot => some (.int k (bits .andNot k x y))
  | .eql => some (.bool (decide (x = y)))
  | .neq => some (.bool (decide (¬ x = y)))
  | .lss => some (.bool (decide (x < y)))
  | .leq => some (.bool (decide (x ≤ y)))
  | .gtr => some (.bool (decide (y < x)))
  | .geq => some (.bool (decide (y ≤ x)))
  | _ => none

theorem beq_dec (x y : Int) : (x == y) = decide (x = y) := by
  by_cases h : x = y
  · subst h; simp
  · simp [h]
theorem intOp_ok {op : BinOp} {k : IntKind} {x y : Int} {v : Value} (h : intOp op k x y = some v) (t : TypeId) : binOp op t (.int k x) (.int k y) = Sem.pure v := by
  cases op <;> simp only [intOp] at h <;> first | (cases h; done) | skip
  all_goals (cases h; simp [binOp, Op.intBits, Op.intCmp, bits, beq_dec]; try rfl)

/-- a Go string, by its bytes -/
abbrev sOf (l : List UInt8) : ByteArray := ⟨⟨l⟩⟩
theorem sOf_toList (l : List UInt8) : (sOf l).toList = l := by
  simp
theorem sOf_ex (s : ByteArray) : ∃ l, s = sOf l := ⟨s.data.toList, rfl⟩
theorem sOf_size (l : List UInt8) : (sOf l).size = l.length := rfl

def strOp (op : BinOp) : ByteArray → ByteArray → Option Value
  | ⟨⟨x⟩⟩, ⟨⟨y⟩⟩ => match op with
    | .eql => some (.bool (decide (x = y)))
    | .neq => some (.bool (decide (¬ x = y)))
    | .lss => some (.bool (Op.bytesLess x y))
    | .leq => some (.bool (Op.bytesLess x y || decide (x = y)))
    | .gtr => some (.bool (!(Op.bytesLess x y || decide (x = y))))
    | .geq => some (.bool (!Op.bytesLess x y))
    | _ => none

theorem strOp_ok {op : BinOp} {x y : ByteArray} {v : Value} (h : strOp op x y = some v) (t : TypeId) : binOp op t (.string x) (.string y) = Sem.pure v := by
  obtain ⟨x, rfl⟩ := sOf_ex x
  obtain ⟨y, rfl⟩ := sOf_ex y
  have he : (x == y) = decide (x = y) := by
    by_cases h : x = y
    · subst h; simp
    · simp [h]
  cases op <;> simp only [strOp] at h <;> first | (cases h; done) | skip
  all_goals
    cases h
    simp only [binOp, Op.stringOp, sOf_toList, he]
    first | rfl | skip
  simp only [decide_not]; rfl

/-- an address, a few cells further on, written out -/
def addA : Addr → Nat → Addr
  | a, 0 => a
  | ⟨b, o, _⟩, n + 1 => ⟨b, o + (n + 1), none⟩
theorem addA_eq (a : Addr) (n : Nat) : addA a n = a.add n := by
  cases n with
  | zero => simp [addA, Addr.add]
  | succ n => simp [addA, Addr.add]

def nthF : List (Nat × Nat × Bool) → Nat → Option (Nat × Nat × Bool)
  | [], _ => none
  | x :: _, 0 => some x
  | _ :: r, n + 1 => nthF r n
theorem nthF_eq : ∀ (l : List (Nat × Nat × Bool)) (n : Nat), nthF l n = l[n]?
  | [], n => by simp [nthF]
  | x :: r, 0 => by simp [nthF]
  | x :: r, n + 1 => by simpa [nthF] using nthF_eq r n

def nthV : List Value → Nat → Option Value
  | [], _ => none
  | x :: _, 0 => some x
  | _ :: r, n + 1 => nthV r n
theorem nthV_eq : ∀ (l : List Value) (n : Nat), nthV l n = l[n]?
  | [], n => by simp [nthV]
  | x :: r, 0 => by simp [nthV]
  | x :: r, n + 1 => by simpa [nthV] using nthV_eq r n
def takeV : List Value → Nat → List Value
  | [], _ => []
  | _, 0 => []
  | x :: r, n + 1 => x :: takeV r n
def dropV : List Value → Nat → List Value
  | [], _ => []
  | l, 0 => l
  | _ :: r, n + 1 => dropV r n
theorem takeV_eq : ∀ (l : List Value) (n : Nat), takeV l n = l.take n
  | [], n => by cases n <;> simp [takeV]
  | x :: r, 0 => by simp [takeV]
  | x :: r, n + 1 => by simpa [takeV] using takeV_eq r n
theorem dropV_eq : ∀ (l : List Value) (n : Nat), dropV l n = l.drop n
  | [], n => by cases n <;> simp [dropV]
  | x :: r, 0 => by simp [dropV]
  | x :: r, n + 1 => by simpa [dropV] using dropV_eq r n

/-- the cells from `off` on, `s` of them, as one value -/
def partV (l : List Value) (off s : Nat) (agg : Bool) : Option Value :=
  match agg with
  | true => match takeV (dropV l off) s with | l' => some (.agg ⟨l'⟩)
  | false => nthV l off

theorem run_part {P : Program} {w : World} {t : TypeId} {l : List Value} {off s : Nat} {b : Bool} {v : Value} (hs : sizeIf P t = some s) (hb : aggOf P t = some b) (h : partV l off s b = some v) :
    (part t ⟨l⟩ off).run P w = .ok v w := by
  unfold part
  refine (run_bind (run_isAgg hb)).trans ?_
  cases b with
  | true =>
    simp only [partV, Option.some.injEq] at h
    simp only [if_true]
    refine (run_bind (run_sizeOf hs)).trans ?_
    rw [run_pure, ← h, takeV_eq, dropV_eq]
    simp
  | false =>
    simp only [partV, nthV_eq] at h
    simp only [Bool.false_eq_true, if_false]
    have : (⟨l⟩ : Array Value)[off]? = some v := by simpa using h
    rw [this]; rfl

end Go.Wk
set_option linter.unusedSimpArgs false
namespace Go.Wk
open Go

def sameK (a b : IntKind) : Bool := decide (a = b)
def eqOp (tab : Tab) (t : Nat) (x y : Value) : Option Bool :=
  match tyAt tab t, x, y with
  | .bool, .bool a, .bool b => some (a == b)
  | .ptr _, .pointer none, .pointer none => some true
  | .ptr _, .pointer none, .pointer (some _) => some false
  | .ptr _, .pointer (some _), .pointer none => some false
  | .slice _ _, .slice none _ _, .slice none _ _ => some true
  | .slice _ _, .slice none _ _, .slice (some _) _ _ => some false
  | .slice _ _, .slice (some _) _ _, .slice none _ _ => some false
  | _, _, _ => none

theorem equal_eq (t : TypeId) (x y : Value) : Op.equal t x y = Op.equalIn (9999 + 1) t x y := rfl
theorem eqOp_ok {P : Program} {tab : Tab} (hT : TabOk P tab) {t : Nat} {x y : Value} {b : Bool} (h : eqOp tab t x y = some b) (w : World) :
    (Op.equal t x y).run P w = .ok b w ∧ (∀ (o : BinOp) (p q : Operand), (eqGuard o t p q x y).run P w = .ok () w) ∧
    binOp .eql t x y = (do pure (.bool (← Op.equal t x y))) ∧ binOp .neq t x y = (do pure (.bool (!(← Op.equal t x y)))) := by
  unfold eqOp at h
  have pu : ∀ {α : Type} (a : α), Sem.run P (pure a : Sem α) w = .ok a w := fun a => rfl
  split at h <;> (first | (cases h; done) | skip) <;> rename_i hty <;> simp only [Option.some.injEq] at h <;> subst h
  · refine ⟨?_, fun o p q => ?_, rfl, rfl⟩
    · rw [equal_eq, Op.equalIn]; exact (run_bind (run_underlying' (ty_bool hT hty)))
    · cases o <;> rfl
  all_goals
    refine ⟨?_, fun o p q => by cases o <;> rfl, rfl, rfl⟩
    rw [equal_eq, Op.equalIn]
    first
      | exact (run_bind (run_underlying' (ty_ptr hT hty)))
      | exact (run_bind (run_underlying' (ty_slice hT hty).1))

def divOp (op : BinOp) (k : IntKind) (x : Int) : Int → Option Value
  | .ofNat 0 => none
  | y => match op with
    | .quo => some (.int k (k.wrap (x.tdiv y)))
    | .rem => some (.int k (x.tmod y))
    | _ => none
def shOp (op : BinOp) (k : IntKind) (x : Int) : Int → Option Value
  | .ofNat n => match Nat.ble n k.bits with
    | true => match op with
      | .shl => some (.int k (k.wrap (x * 2 ^ n)))
      | .shr => some (.int k (x.fdiv (2 ^ n)))
      | _ => none
    | false => none
  | .negSucc _ => none
def binV (tab : Tab) (op : BinOp) (t : Nat) : Value → Value → Option Value
  | .int k x, .int k' y =>
    match op with
    | .shl => shOp .shl k x y
    | .shr => shOp .shr k x y
    | .quo => none
    | .rem => none
    | o => match sameK k k' with | true => intOp o k x y | false => none
  | .string x, .string y => strOp op x y
  | x, y => match op with
    | .eql => match eqOp tab t x y with | some true => some (.bool true) | some false => some (.bool false) | none => none
    | .neq => match eqOp tab t x y with | some true => some (.bool false) | some false => some (.bool true) | none => none
    | _ => none

theorem divOp_ok {op : BinOp} {k : IntKind} {x y : Int} {v : Value} (h : divOp op k x y = some v) (t : TypeId) : binOp op t (.int k x) (.int k y) = Sem.pure v := by
  unfold divOp at h
  split at h
  · cases h
  · rename_i hy
    have hy0 : y ≠ 0 := fun e => by subst e; exact hy rfl
    cases op <;> simp at h <;> subst h <;> simp [binOp, Op.intDiv, hy0] <;> rfl

theorem shOp_ok {op : BinOp} {k k' : IntKind} {x y : Int} {v : Value} (h : shOp op k x y = some v) (t : TypeId) : binOp op t (.int k x) (.int k' y) = Sem.pure v := by
  unfold shOp at h
  split at h
  · rename_i n
    split at h
    · rename_i hb
      have hn : n ≤ k.bits := Nat.le_of_ble_eq_true hb
      have hneg : ¬ (Int.ofNat n < 0) := by simp
      cases op <;> simp at h <;> subst h <;>
        (simp only [binOp, Op.shift]; rw [if_neg hneg]; simp [Nat.min_eq_left hn]; rfl)
    · cases h
  · cases h

theorem binV_ok {P : Program} {tab : Tab} (hT : TabOk P tab) {op : BinOp} {t : Nat} {x y v : Value} (h : binV tab op t x y = some v) (w : World) (p q : Operand) :
    ((do eqGuard op t p q x y; binOp op t x y) : Sem Value).run P w = .ok v w := by
  have g0 : ∀ (k k' : IntKind) (a b : Int), (eqGuard op t p q (.int k a) (.int k' b)).run P w = .ok () w := fun k k' a b => by cases op <;> rfl
  have gs : ∀ (a b : ByteArray), (eqGuard op t p q (.string a) (.string b)).run P w = .ok () w := fun a b => by cases op <;> rfl
  have hs : ∀ {k k' : IntKind}, sameK k k' = true → k = k' := fun h => of_decide_eq_true h
  unfold binV at h
  split at h
  · rename_i k a k' b
    refine (run_bind (g0 _ _ _ _)).trans ?_
    split at h
    · rw [shOp_ok h]; rfl
    · rw [shOp_ok h]; rfl
    · cases h
    · cases h
    · split at h
      · rename_i hk; cases hs hk; rw [intOp_ok h]; rfl
      · cases h
  · refine (run_bind (gs _ _)).trans ?_
    rw [strOp_ok h]; rfl
  · split at h
    · split at h
      · rename_i he; cases h; obtain ⟨h1, h2, h3, _⟩ := eqOp_ok hT he w
        refine (run_bind (h2 _ _ _)).trans ?_; rw [h3]; exact run_bind h1
      · rename_i he; cases h; obtain ⟨h1, h2, h3, _⟩ := eqOp_ok hT he w
        refine (run_bind (h2 _ _ _)).trans ?_; rw [h3]; exact run_bind h1
      · cases h
    · split at h
      · rename_i he; cases h; obtain ⟨h1, h2, _, h3⟩ := eqOp_ok hT he w
        refine (run_bind (h2 _ _ _)).trans ?_; rw [h3]; exact run_bind h1
      · rename_i he; cases h; obtain ⟨h1, h2, _, h3⟩ := eqOp_ok hT he w
        refine (run_bind (h2 _ _ _)).trans ?_; rw [h3]; exact run_bind h1
      · cases h
    · cases h

def unV (op : UnOp) : Value → Option Value
  | .int k n => match op with
    | .neg => some (.int k (k.wrap (0 - n)))
    | .xor => match k.signed with
      | true => some (.int k (bits .xor k (-1) n))
      | false => some (.int k (bits .xor k k.max n))
    | _ => none
  | .bool true => match op with | .not => some (.bool false) | _ => none
  | .bool false => match op with | .not => some (.bool true) | _ => none
  | _ => none
/-- `!b` of a bool that is not known -/
def unB (op : UnOp) : Value → Option Value
  | .bool b => match op with | .not => some (.bool (!b)) | _ => none
  | .int k n => match op with
    | .neg => some (.int k (k.wrap (0 - n)))
    | .xor => match k.signed with
      | true => some (.int k (bits .xor k (-1) n))
      | false => some (.int k (bits .xor k k.max n))
    | _ => none
  | _ => none
theorem unB_ok {op : UnOp} {x v : Value} (h : unB op x = some v) : Op.unary op x = Sem.pure v := by
  unfold unB at h
  split at h
  · cases op <;> first | (cases h; done) | (cases h; rfl)
  · rename_i k n
    cases op <;> simp only at h
    · cases h; rfl
    · split at h <;> rename_i hk <;> (cases h; simp [Op.unary, Op.intBits, bits, hk]; rfl)
    · cases h
    · cases h
  · cases h

def convV (tab : Tab) (s d : Nat) : Value → Option Value
  | .string b => match tyAt tab s, tyAt tab d with
    | .str, .str => some (.string b)
    | _, _ => none
  | _ => none
theorem convV_ok {P : Program} {tab : Tab} (hT : TabOk P tab) {s d : Nat} {x v : Value} (h : convV tab s d x = some v) (w : World) : (convert s d x).run P w = .ok v w := by
  unfold convV at h
  split at h
  · split at h
    · rename_i h1 h2
      cases h
      unfold convert
      refine (run_bind (run_underlying' (ty_str hT h1))).trans ?_
      exact (run_bind (run_underlying' (ty_str hT h2)))
    · cases h
  · cases h

def fieldA (tab : Tab) (t f : Nat) : Value → Option Value
  | .pointer (some a) => match tyAt tab t with
    | .struct fs => match nthF fs f with
      | some (off, s + 1, _) => some (.pointer (some (addA a off)))
      | _ => none
    | _ => none
  | _ => none
theorem fieldA_ok {P : Program} {tab : Tab} (hT : TabOk P tab) {t f : Nat} {x v : Value} (h : fieldA tab t f x = some v) (w : World) : (Instr.fieldAt t x f).run P w = .ok v w := by
  unfold fieldA at h
  split at h
  · rename_i a
    split at h
    · rename_i fs hty
      split at h
      · rename_i off s b hf
        cases h
        obtain ⟨fs', h1, h2⟩ := ty_struct hT hty
        rw [nthF_eq] at hf
        obtain ⟨fd, h3, h4, h5, h6⟩ := fieldsOf_get h2 hf
        unfold Instr.fieldAt
        refine (run_bind (run_underlying' h1)).trans ?_
        have h7 : fs'[f]? = some fd := by simpa using h3
        simp only [h7]
        show Sem.run P ((Sem.pure a).bind _) w = _
        simp only [Sem.bind]
        have hz : (fieldPlace a fd).run P w = .ok (addA a off) w := by
          unfold fieldPlace
          refine (run_bind (run_sizeOf h5)).trans ?_
          rw [if_neg (by omega), addA_eq, h4]; rfl
        exact run_bind hz
      · cases h
    · cases h
  · cases h

def fieldV (tab : Tab) (t f : Nat) : Value → Option Value
  | .agg ⟨l⟩ => match tyAt tab t with
    | .struct fs => match nthF fs f with
      | some (off, s, b) => partV l off s b
      | _ => none
    | _ => none
  | _ => none
theorem fieldV_ok {P : Program} {tab : Tab} (hT : TabOk P tab) {t f : Nat} {x v : Value} (h : fieldV tab t f x = some v) (w : World) : (Instr.field t x f).run P w = .ok v w := by
  unfold fieldV at h
  split at h
  · rename_i l
    split at h
    · rename_i fs hty
      split at h
      · rename_i off s b hf
        obtain ⟨fs', h1, h2⟩ := ty_struct hT hty
        rw [nthF_eq] at hf
        obtain ⟨fd, h3, h4, h5, h6⟩ := fieldsOf_get h2 hf
        unfold Instr.field
        refine (run_bind (run_underlying' h1)).trans ?_
        have h7 : fs'[f]? = some fd := by simpa using h3
        simp only [h7, asAgg]
        show Sem.run P ((Sem.pure _).bind _) w = _
        simp only [Sem.bind]
        rw [h4]; exact run_part h5 h6 h
      · cases h
    · cases h
  · cases h

def extrV (i : Nat) : Value → Option Value
  | .tuple ⟨l⟩ => nthV l i
  | _ => none
theorem extrV_ok {P : Program} {i : Nat} {x v : Value} (h : extrV i x = some v) (w : World) : (Instr.extract x i).run P w = .ok v w := by
  unfold extrV at h
  split at h
  · rename_i l
    rw [nthV_eq] at h
    have : (⟨l⟩ : Array Value)[i]? = some v := by simpa using h
    simp only [Instr.extract, this]; rfl
  · cases h

def lenV (tab : Tab) (t : Nat) : Value → Option Value
  | .string ⟨⟨l⟩⟩ => match tyAt tab t with | .str => some (.int .i64 (l.length : Int)) | _ => none
  | .slice _ n _ => match tyAt tab t with | .slice _ _ => some (.int .i64 (n : Int)) | _ => none
  | _ => none
theorem lenV_ok {P : Program} {tab : Tab} (hT : TabOk P tab) {t : Nat} {x v : Value} (h : lenV tab t x = some v) (w : World) (ty : TypeId) : (Builtin.len_ #[t] ty #[x]).run P w = .ok v w := by
  unfold lenV at h
  split at h
  · split at h
    · rename_i h1; cases h
      exact run_bind (run_underlying' (ty_str hT h1))
    · cases h
  · split at h
    · rename_i h1; cases h
      exact run_bind (run_underlying' (ty_slice hT h1).1)
    · cases h
  · cases h

def mnmx (b : Builtin) : Value → Value → Option Value
  | .int k x, .int k' y => match sameK k k', b with
    | true, .min => some (.int k (if y < x then y else x))
    | true, .max => some (.int k (if x < y then y else x))
    | _, _ => none
  | _, _ => none

def callV (tab : Tab) (env : Env) (c : Call) : Option Value :=
  match c with
  | ⟨.builtin .len, ⟨[x]⟩, ⟨[t]⟩⟩ => match ev env x with | some v => lenV tab t v | none => none
  | ⟨.builtin .min, ⟨[x, y]⟩, _⟩ => match ev env x, ev env y with | some v, some u => mnmx .min v u | _, _ => none
  | ⟨.builtin .max, ⟨[x, y]⟩, _⟩ => match ev env x, ev env y with | some v, some u => mnmx .max v u | _, _ => none
  | _ => none

def pureVal (tab : Tab) (env : Env) : Op → Option Value
  | .move x => ev env x
  | .assign x => ev env x
  | .pick c a b => match ev env c with
    | some (.bool true) => ev env a
    | some (.bool false) => ev env b
    | _ => none
  | .nilCheck x => match ev env x with
    | some (.pointer (some a)) => some (.pointer (some a))
    | _ => none
  | .binOp op t x y _ => match ev env x, ev env y with
    | some v, some u => binV tab op t v u
    | _, _ => none
  | .unOp op _ x => match ev env x with | some v => unB op v | none => none
  | .convert s d x => match ev env x with | some v => convV tab s d v | none => none
  | .fieldAddr t x f => match ev env x with | some v => fieldA tab t f v | none => none
  | .field t x f => match ev env x with | some v => fieldV tab t f v | none => none
  | .extract x i => match ev env x with | some v => extrV i v | none => none
  | .call c => callV tab env c
  | _ => none

theorem pureVal_ok {P : Program} {tab : Tab} (hT : TabOk P tab) {n : Nat} {a : Act} {env : Env} (hA : Ag n a env) {o : Oper} {v : Value} (h : pureVal tab env o.op = some v) (w : World) :
    (execOp a.eval o).run P w = .ok (.value v) w := by
  obtain ⟨dst, op, type, pos, after, guard⟩ := o
  simp only at h
  have pv : ∀ {s : Sem Value}, s.run P w = .ok v w → Sem.run P (do let y ← s; pure (Next.value y)) w = .ok (.value v) w := fun h => run_bind h
  unfold pureVal at h
  split at h
  · simp only [execOp, hA.ev h]; rfl
  · simp only [execOp, hA.ev h]; rfl
  · rename_i c x y
    split at h
    · rename_i hc
      simp only [execOp, hA.ev hc, hA.ev h]; rfl
    · rename_i hc
      simp only [execOp, hA.ev hc, hA.ev h]; rfl
    · cases h
  · split at h
    · rename_i hx; cases h
      simp only [execOp, hA.ev hx]; rfl
    · cases h
  · split at h
    · rename_i x y h1 h2
      simp only [execOp, hA.ev h1, hA.ev h2]
      exact pv (binV_ok hT h w _ _)
    · cases h
  · split at h
    · rename_i x h1
      simp only [execOp, hA.ev h1]
      exact pv (by rw [unB_ok h]; rfl)
    · cases h
  · split at h
    · rename_i x h1
      simp only [execOp, hA.ev h1]
      exact pv (convV_ok hT h w)
    · cases h
  · split at h
    · rename_i x h1
      simp only [execOp, hA.ev h1]
      exact pv (fieldA_ok hT h w)
    · cases h
  · split at h
    · rename_i x h1
      simp only [execOp, hA.ev h1]
      exact pv (fieldV_ok hT h w)
    · cases h
  · split at h
    · rename_i x h1
      simp only [execOp, hA.ev h1]
      exact pv (extrV_ok h w)
    · cases h
  · rename_i c
    unfold callV at h
    split at h
    · split at h
      · rename_i x h1
        have e := lenV_ok hT h w type
        simp only [execOp, resolve, List.map_toArray, List.map, hA.ev h1]
        exact pv e
      · cases h
    · split at h
      · rename_i x y h1 h2
        unfold mnmx at h
        split at h
        · split at h
          · rename_i hk _; have := of_decide_eq_true hk; subst this; cases h
            simp only [execOp, resolve, List.map_toArray, List.map, hA.ev h1, hA.ev h2]; rfl
          · rename_i hb; cases hb
          · cases h
        · cases h
      · cases h
    · split at h
      · rename_i x y h1 h2
        unfold mnmx at h
        split at h
        · split at h
          · rename_i hb; cases hb
          · rename_i hk _; have := of_decide_eq_true hk; subst this; cases h
            simp only [execOp, resolve, List.map_toArray, List.map, hA.ev h1, hA.ev h2]; rfl
          · cases h
        · cases h
      · cases h
    · cases h
  · cases h
end Go.Wk
set_option linter.unusedSimpArgs false
namespace Go.Wk
open Go

/-- what is left to do -/
inductive It where
  | code (c : Code)
  | blk (id : Nat)
  | ops (L l : List Oper)
  | inv (J : Act → World → Prop)
  | rnd (c : Code) (m : Nat)
  | jmp (l : Nat) (J : Act → World → Prop)

/-- what that means, for a given way out -/
def semK (P : Program) (fn : Func) (R : Ending → World → Prop) : List It → Exit → Act → World → Prop
  | [], e, a, w => bodyPost P fn R e a w
  | .code c :: k, e, a, w => Exit.then (c.wp P (semK P fn R k)) (semK P fn R k) e a w
  | .blk id :: k, e, a, w => Exit.inBlock id (semK P fn R k) e a w
  | .ops L l :: k, e, a, w => Exit.then (wpList P L.toArray (semK P fn R k) l) (semK P fn R k) e a w
  | .inv J :: k, e, a, w => Exit.then J (semK P fn R k) e a w
  | .rnd c m :: k, e, a, w => Exit.then (Code.rounds P c (semK P fn R k) m) (semK P fn R k) e a w
  | .jmp l J :: k, e, a, w => Exit.jump l J (semK P fn R k) e a w

theorem Exit.then_other {J : Act → World → Prop} {Q : Exit → Act → World → Prop} {e : Exit} {a : Act} {w : World} (h : e ≠ .normal) : Exit.then J Q e a w = Q e a w := by
  cases e <;> first | rfl | exact absurd rfl h
theorem Exit.inBlock_other {id : Nat} {Q : Exit → Act → World → Prop} {e : Exit} {a : Act} {w : World} (h : ∀ i, e ≠ .exit i) : Exit.inBlock id Q e a w = Q e a w := by
  cases e <;> first | rfl | exact absurd rfl (h _)
/-- from every frame of which `env` is known, in world `w` -/
def H (P : Program) (fn : Func) (R : Ending → World → Prop) (n : Nat) (k : List It) (e : Exit) (env : Env) (w : World) : Prop :=
  ∀ a, Ag n a env → semK P fn R k e a w

def nthO : List Oper → Nat → Option Oper
  | [], _ => none
  | x :: _, 0 => some x
  | _ :: r, n + 1 => nthO r n
theorem nthO_eq : ∀ (l : List Oper) (n : Nat), nthO l n = l[n]?
  | [], n => by simp [nthO]
  | x :: r, 0 => by simp [nthO]
  | x :: r, n + 1 => by simpa [nthO] using nthO_eq r n

def guardV : Value → Bool → Option Bool
  | .bool true, true => some true
  | .bool true, false => some false
  | .bool false, true => some false
  | .bool false, false => some true
  | .tuple _, _ => some false
  | _, _ => none
/-- does an operation run? -/
def guardOf (L : List Oper) (env : Env) : Option (Nat × Bool) → Option Bool
  | none => some true
  | some (g, b) => match nthO L g with
    | some ⟨some t, _, _, _, _, _⟩ => match look env t with
      | some v => guardV v b
      | none => none
    | _ => none

theorem guardOf_ok {L : List Oper} {env : Env} {o : Oper} {b : Bool} (h : guardOf L env o.guard = some b) {n : Nat} {a : Act} (hA : Ag n a env) : Region.wanted o (yielded L.toArray a.tmps) = b := by
  unfold Region.wanted
  unfold guardOf at h
  split at h
  · rename_i hg; rw [hg]; cases h; rfl
  · rename_i g c hg
    rw [hg]
    split at h
    · rename_i t op ty ps af gd hn
      rw [nthO_eq] at hn
      split at h
      · rename_i v hv
        have hy : yielded L.toArray a.tmps g = (match v with | .bool x => some x | _ => none) := by
          unfold yielded
          have h1 := hA.2.2 t v hv
          simp only [List.getElem?_toArray, hn, Option.bind_some]
          show (match (some t).bind (fun x => a.tmps[x]?) with | some (.bool b) => some b | _ => none) = _
          simp only [Option.bind_some, h1]
          cases v <;> rfl
        simp only [hy]
        unfold guardV at h
        split at h <;> first | (cases h; done) | (cases h; rfl)
      · cases h
    · cases h

def opStep (tab : Tab) (n : Nat) (L : List Oper) (env : Env) : Oper → Option Env
  | ⟨some d, op, _, _, _, g⟩ => match Nat.blt d n with
    | true => match guardOf L env g with
      | some true => match pureVal tab env op with
        | some v => some ((d, v) :: env)
        | none => none
      | some false => some ((d, undef) :: env)
      | none => none
    | false => none
  | ⟨none, _, _, _, _, g⟩ => match guardOf L env g with
    | some false => some env
    | _ => none

theorem opStep_ok {P : Program} {tab : Tab} (hT : TabOk P tab) {n : Nat} {L : List Oper} {env env' : Env} {o : Oper} (h : opStep tab n L env o = some env')
    {Q : Exit → Act → World → Prop} {rest : List Oper} {w : World} (hk : ∀ a, Ag n a env' → wpList P L.toArray Q rest a w) : ∀ a, Ag n a env → wpList P L.toArray Q (o :: rest) a w := by
  intro a hA
  unfold opStep at h
  split at h
  · rename_i d op ty ps af g
    split at h
    · rename_i hd
      have hd' : d < n := Nat.le_of_ble_eq_true hd
      split at h
      · rename_i hg
        have hw := guardOf_ok (o := ⟨some d, op, ty, ps, af, g⟩) hg hA
        split at h
        · rename_i v hv
          cases h
          unfold wpList
          rw [if_pos hw]
          left
          unfold Oper.wp
          rw [pureVal_ok hT hA (o := ⟨some d, op, ty, ps, af, g⟩) hv w]
          exact hk _ (hA.put hd' v)
        · cases h
      · rename_i hg
        have hw := guardOf_ok (o := ⟨some d, op, ty, ps, af, g⟩) hg hA
        cases h
        unfold wpList
        rw [if_neg (by simp [hw])]
        exact hk _ (hA.put hd' undef)
      · cases h
    · cases h
  · rename_i op ty ps af g
    split at h
    · rename_i hg
      have hw := guardOf_ok (o := ⟨none, op, ty, ps, af, g⟩) hg hA
      cases h
      unfold wpList
      rw [if_neg (by simp [hw])]
      exact hk _ hA
    · cases h

def memN : List Nat → Nat → Bool
  | [], _ => false
  | x :: r, t => match Nat.beq x t with | true => true | false => memN r t
/-- one step; it does not enter the blocks named in `stop` -/
def step1 (tab : Tab) (n : Nat) (stop : List Nat) : List It → Exit → Env → Option (List It × Exit × Env)
  | .code c :: k, .normal, env => match c with
    | .seq a b => some (.code a :: .code b :: k, .normal, env)
    | .block id b => match memN stop id with
      | true => none
      | false => some (.code b :: .blk id :: k, .normal, env)
    | .skip => some (k, .normal, env)
    | .exit id => some (k, .exit id, env)
    | .goto id => some (k, .goto id, env)
    | .label _ => some (k, .normal, env)
    | .ret => some (k, .ret, env)
    | .region _ ⟨l⟩ false => some (.ops l l :: k, .normal, env)
    | .cond c x y => match ev env c with
      | some (.bool true) => some (.code x :: k, .normal, env)
      | some (.bool false) => some (.code y :: k, .normal, env)
      | _ => none
    | _ => none
  | .code _ :: k, e, env => some (k, e, env)
  | .blk id :: k, .exit i, env => match Nat.beq i id with
    | true => some (k, .normal, env)
    | false => some (k, .exit i, env)
  | .blk _ :: k, e, env => some (k, e, env)
  | .ops L [] :: k, .normal, env => some (k, .normal, env)
  | .ops L (o :: l) :: k, .normal, env => match opStep tab n L env o with
    | some env' => some (.ops L l :: k, .normal, env')
    | none => none
  | .ops _ _ :: k, .exit i, env => some (k, .exit i, env)
  | .ops _ _ :: k, .ret, env => some (k, .ret, env)
  | .rnd c (m + 1) :: k, .normal, env => some (.code c :: .rnd c m :: k, .normal, env)
  | .rnd _ _ :: k, .exit i, env => some (k, .exit i, env)
  | .rnd _ _ :: k, .ret, env => some (k, .ret, env)
  | .inv _ :: k, .exit i, env => some (k, .exit i, env)
  | .inv _ :: k, .ret, env => some (k, .ret, env)
  | .ops _ _ :: k, .goto i, env => some (k, .goto i, env)
  | .rnd _ _ :: k, .goto i, env => some (k, .goto i, env)
  | .inv _ :: k, .goto i, env => some (k, .goto i, env)
  | .jmp _ _ :: k, .normal, env => some (k, .normal, env)
  | .jmp _ _ :: k, .exit i, env => some (k, .exit i, env)
  | .jmp _ _ :: k, .ret, env => some (k, .ret, env)
  | _, _, _ => none

theorem least_ex {p : Nat → Prop} (h : ∃ j, p j) : ∃ j, p j ∧ ∀ i, p i → j ≤ i := by
  obtain ⟨j, hj⟩ := h
  induction j using Nat.strongRecOn with
  | _ j ih =>
    by_cases hi : ∃ i, i < j ∧ p i
    · obtain ⟨i, hi1, hi2⟩ := hi; exact ih i hi1 hi2
    · exact ⟨j, hj, fun i hp => Nat.le_of_not_lt fun hlt => hi ⟨i, hlt, hp⟩⟩
noncomputable def sInfN (p : Nat → Prop) : Nat := @Classical.epsilon Nat ⟨0⟩ fun j => p j ∧ ∀ i, p i → j ≤ i
theorem sInfN_spec {p : Nat → Prop} (h : ∃ j, p j) : p (sInfN p) ∧ ∀ i, p i → sInfN p ≤ i := @Classical.epsilon_spec Nat (fun j => p j ∧ ∀ i, p i → j ≤ i) (least_ex h)
theorem sInfN_mem {p : Nat → Prop} (h : ∃ j, p j) : p (sInfN p) := (sInfN_spec h).1
theorem sInfN_le {p : Nat → Prop} {j : Nat} (h : p j) : sInfN p ≤ j := (sInfN_spec ⟨j, h⟩).2 j h
section
variable {P : Program} {fn : Func} {R : Ending → World → Prop} {n : Nat} {tab : Tab} {w : World}
theorem step1_ok (hT : TabOk P tab) {stop : List Nat} {k k' : List It} {e e' : Exit} {env env' : Env} (h : step1 tab n stop k e env = some (k', e', env')) (hk : H P fn R n k' e' env' w) : H P fn R n k e env w := by
  intro a hA
  unfold step1 at h
  split at h
  · rename_i c k
    show c.wp P (semK P fn R k) a w
    split at h
    · cases h; exact wp_seq (hk a hA)
    · split at h
      · cases h
      · cases h; exact wp_block (hk a hA)
    · cases h; exact wp_skip (hk a hA)
    · cases h; exact wp_exit (hk a hA)
    · cases h; exact wp_goto (hk a hA)
    · cases h; exact wp_label (hk a hA)
    · cases h; exact wp_ret (hk a hA)
    · cases h; exact wp_region_list (hk a hA)
    · split at h
      · rename_i hc; cases h; exact wp_cond_true (hA.ev hc) (hk a hA)
      · rename_i hc; cases h; exact wp_cond_false (hA.ev hc) (hk a hA)
      · cases h
    · cases h
  · rename_i hne
    simp only [Option.some.injEq, Prod.mk.injEq] at h
    obtain ⟨rfl, rfl, rfl⟩ := h
    rw [semK, Exit.then_other hne]
    exact hk a hA
  · split at h
    · rename_i hb
      have hid := Nat.eq_of_beq_eq_true hb
      cases h
      simp only [semK, Exit.inBlock, hid, if_true]; exact hk a hA
    · rename_i hb
      have hid := Nat.ne_of_beq_eq_false hb
      cases h
      simp only [semK, Exit.inBlock, hid, if_false]; exact hk a hA
  · rename_i hne
    simp only [Option.some.injEq, Prod.mk.injEq] at h
    obtain ⟨rfl, rfl, rfl⟩ := h
    rw [semK, Exit.inBlock_other hne]
    exact hk a hA
  · cases h; exact hk a hA
  · rename_i L o l k env
    split at h
    · rename_i env1 ho
      cases h
      exact opStep_ok hT ho (fun a' h' => hk a' h') a hA
    · cases h
  · cases h; exact hk a hA
  · cases h; exact hk a hA
  · cases h; exact hk a hA
  · cases h; exact hk a hA
  · cases h; exact hk a hA
  · cases h; exact hk a hA
  · cases h; exact hk a hA
  · cases h; exact hk a hA
  · cases h; exact hk a hA
  · cases h; exact hk a hA
  · cases h; exact hk a hA
  · cases h; exact hk a hA
  · cases h; exact hk a hA
  · cases h

/-- as many steps as go, `m` at the most -/
def stepN (tab : Tab) (n : Nat) (stop : List Nat) : Nat → List It → Exit → Env → Option (List It × Exit × Env)
  | 0, k, e, env => some (k, e, env)
  | m + 1, k, e, env => match step1 tab n stop k e env with
    | some (k', e', env') => stepN tab n stop m k' e' env'
    | none => some (k, e, env)
theorem stepN_ok (hT : TabOk P tab) {stop : List Nat} : ∀ (m : Nat) {k k' : List It} {e e' : Exit} {env env' : Env}, stepN tab n stop m k e env = some (k', e', env') → H P fn R n k' e' env' w → H P fn R n k e env w
  | 0, k, k', e, e', env, env', h, hk => by cases h; exact hk
  | m + 1, k, k', e, e', env, env', h, hk => by
    simp only [stepN] at h
    split at h
    · rename_i k1 e1 env1 h1
      exact step1_ok hT h1 (stepN_ok hT m h hk)
    · cases h; exact hk

/-- the first step must go -/
def stepF (tab : Tab) (n : Nat) (stop : List Nat) (m : Nat) (k : List It) (e : Exit) (env : Env) : Option (List It × Exit × Env) :=
  match step1 tab n stop k e env with
  | some (k', e', env') => stepN tab n stop m k' e' env'
  | none => none
theorem stepF_ok (hT : TabOk P tab) (stop : List Nat) {m : Nat} {k k' : List It} {e e' : Exit} {env env' : Env} (h : stepF tab n stop m k e env = some (k', e', env')) (hk : H P fn R n k' e' env' w) : H P fn R n k e env w := by
  unfold stepF at h
  split at h
  · rename_i k1 e1 env1 h1
    exact step1_ok hT h1 (stepN_ok hT m h hk)
  · cases h

/-! ### events -/
/-- what is known may be said anew -/
theorem ev_env {k : List It} {e : Exit} {env : Env} (env' : Env) (hs : SubE env env') (hk : H P fn R n k e env' w) : H P fn R n k e env w :=
  fun a hA => hk a (hA.sub hs)

/-- the end of the body: one result, two, three, none -/
theorem ev_ret0 {e : Exit} (he : e = .normal ∨ e = .ret) {env : Env} (hr : fn.results = #[]) (hR : R (.returned (.tuple #[])) w) : H P fn R n [] e env w := by
  intro a hA
  have : (results fn a.tmps).run P w = .ok (.tuple #[]) w := results_none hr _ _ _
  rcases he with rfl | rfl <;> exact ⟨hA.1, _, this, hR⟩
theorem ev_ret1 {e : Exit} (he : e = .normal ∨ e = .ret) {env : Env} {t : Nat} (hr : fn.results = #[.tmp t]) {v : Value} (hv : look env t = some v) (hR : R (.returned v) w) : H P fn R n [] e env w := by
  intro a hA
  have h1 : (results fn a.tmps).run P w = .ok v w := by rw [results_tmp hr, hA.look hv]
  rcases he with rfl | rfl <;> exact ⟨hA.1, _, h1, hR⟩
theorem ev_ret2 {e : Exit} (he : e = .normal ∨ e = .ret) {env : Env} {t u : Nat} (hr : fn.results = #[.tmp t, .tmp u]) {v x : Value} (hv : look env t = some v) (hx : look env u = some x) (hR : R (.returned (.tuple #[v, x])) w) : H P fn R n [] e env w := by
  intro a hA
  have h1 : (results fn a.tmps).run P w = .ok (.tuple #[v, x]) w := by rw [results_tmp2 hr, hA.look hv, hA.look hx]
  rcases he with rfl | rfl <;> exact ⟨hA.1, _, h1, hR⟩
theorem ev_ret3 {e : Exit} (he : e = .normal ∨ e = .ret) {env : Env} {t u s : Nat} (hr : fn.results = #[.tmp t, .tmp u, .tmp s]) {v x y : Value} (hv : look env t = some v) (hx : look env u = some x) (hy : look env s = some y) (hR : R (.returned (.tuple #[v, x, y])) w) : H P fn R n [] e env w := by
  intro a hA
  have h1 : (results fn a.tmps).run P w = .ok (.tuple #[v, x, y]) w := by
    simp [results, hr, hA.2.2 _ _ hv, hA.2.2 _ _ hx, hA.2.2 _ _ hy]
  rcases he with rfl | rfl <;> exact ⟨hA.1, _, h1, hR⟩

/-- a test that is not decided -/
theorem ev_cond {k : List It} {env : Env} {c : Operand} {x y : Code} {b : Bool} (hc : ev env c = some (.bool b))
    (h1 : b = true → H P fn R n (.code x :: k) .normal env w) (h2 : b = false → H P fn R n (.code y :: k) .normal env w) : H P fn R n (.code (.cond c x y) :: k) .normal env w :=
  fun a hA => wp_cond_split (hA.ev hc) (fun h => h1 h a hA) (fun h => h2 h a hA)
theorem ev_condD {k : List It} {env : Env} {c : Operand} {x y : Code} {p : Prop} [Decidable p] (hc : ev env c = some (.bool (decide p)))
    (h1 : p → H P fn R n (.code x :: k) .normal env w) (h2 : ¬ p → H P fn R n (.code y :: k) .normal env w) : H P fn R n (.code (.cond c x y) :: k) .normal env w :=
  ev_cond hc (fun h => h1 (of_decide_eq_true h)) (fun h => h2 (of_decide_eq_false h))
theorem ev_rounds (m : Nat) {k : List It} {env : Env} {c : Code} (h : H P fn R n (.rnd c m :: k) .normal env w) : H P fn R n (.code (.loop c) :: k) .normal env w :=
  fun a hA => wp_loop_rounds m (h a hA)
theorem ev_condND {k : List It} {env : Env} {c : Operand} {x y : Code} {p : Prop} [Decidable p] (hc : ev env c = some (.bool (!decide p)))
    (h1 : ¬ p → H P fn R n (.code x :: k) .normal env w) (h2 : p → H P fn R n (.code y :: k) .normal env w) : H P fn R n (.code (.cond c x y) :: k) .normal env w :=
  ev_cond hc (fun h => h1 (by simpa using h)) (fun h => h2 (by simpa using h))

/-- a slot's bool, decided before it is asked -/
theorem ev_split {k : List It} {e : Exit} {env : Env} (t : Nat) {b : Bool} (hc : look env t = some (.bool b))
    (h1 : b = true → H P fn R n k e ((t, .bool true) :: env) w) (h2 : b = false → H P fn R n k e ((t, .bool false) :: env) w) : H P fn R n k e env w := by
  intro a hA
  have key : ∀ c, b = c → Ag n a ((t, .bool c) :: env) := fun c hbc => by
    subst hbc
    refine ⟨hA.1, hA.2.1, fun s v hs => ?_⟩
    rw [look_cons] at hs
    split at hs
    · rename_i he; subst he; cases hs; exact hA.2.2 _ _ hc
    · exact hA.2.2 _ _ hs
  cases b with
  | true => exact h1 rfl a (key true rfl)
  | false => exact h2 rfl a (key false rfl)

theorem ev_splitD {k : List It} {e : Exit} {env : Env} (t : Nat) {p : Prop} [Decidable p] (hc : look env t = some (.bool (decide p)))
    (h1 : p → H P fn R n k e ((t, .bool true) :: env) w) (h2 : ¬ p → H P fn R n k e ((t, .bool false) :: env) w) : H P fn R n k e env w :=
  ev_split t hc (fun h => h1 (of_decide_eq_true h)) (fun h => h2 (of_decide_eq_false h))
/-- the slot that a guard asks -/
def guardT (L : List Oper) : Option (Nat × Bool) → Option Nat
  | none => none
  | some (g, _) => match nthO L g with
    | some ⟨some t, _, _, _, _, _⟩ => some t
    | _ => none
theorem ev_guardD {k : List It} {env : Env} {L l : List Oper} {d : Option Nat} {op : Op} {ty : TypeId} {ps : String} {af : Array Edge} {g : Option (Nat × Bool)} {t : Nat} {p : Prop} [Decidable p]
    (hg : guardT L g = some t) (hc : look env t = some (.bool (decide p)))
    (h1 : p → H P fn R n (.ops L (⟨d, op, ty, ps, af, g⟩ :: l) :: k) .normal ((t, .bool true) :: env) w) (h2 : ¬ p → H P fn R n (.ops L (⟨d, op, ty, ps, af, g⟩ :: l) :: k) .normal ((t, .bool false) :: env) w) :
    H P fn R n (.ops L (⟨d, op, ty, ps, af, g⟩ :: l) :: k) .normal env w := ev_splitD t hc h1 h2
theorem ev_guard {k : List It} {env : Env} {L l : List Oper} {d : Option Nat} {op : Op} {ty : TypeId} {ps : String} {af : Array Edge} {g : Option (Nat × Bool)} {t : Nat} {b : Bool}
    (hg : guardT L g = some t) (hc : look env t = some (.bool b))
    (h1 : b = true → H P fn R n (.ops L (⟨d, op, ty, ps, af, g⟩ :: l) :: k) .normal ((t, .bool true) :: env) w) (h2 : b = false → H P fn R n (.ops L (⟨d, op, ty, ps, af, g⟩ :: l) :: k) .normal ((t, .bool false) :: env) w) :
    H P fn R n (.ops L (⟨d, op, ty, ps, af, g⟩ :: l) :: k) .normal env w := ev_split t hc h1 h2
/-- a choice by a bool that is not decided -/
theorem ev_pickD {k : List It} {env : Env} {L l : List Oper} {d : Option Nat} {c x y : Operand} {ty : TypeId} {ps : String} {af : Array Edge} {g : Option (Nat × Bool)} {t : Nat} {p : Prop} [Decidable p]
    (hg : c = .tmp t) (hc : look env t = some (.bool (decide p)))
    (h1 : p → H P fn R n (.ops L (⟨d, .pick c x y, ty, ps, af, g⟩ :: l) :: k) .normal ((t, .bool true) :: env) w) (h2 : ¬ p → H P fn R n (.ops L (⟨d, .pick c x y, ty, ps, af, g⟩ :: l) :: k) .normal ((t, .bool false) :: env) w) :
    H P fn R n (.ops L (⟨d, .pick c x y, ty, ps, af, g⟩ :: l) :: k) .normal env w := ev_splitD t hc h1 h2

/-- an operation that leaves the world alone, shown by hand -/
theorem ev_op {k : List It} {env : Env} {L l : List Oper} {d : Nat} {op : Op} {ty : TypeId} {ps : String} {af : Array Edge} {g : Option (Nat × Bool)}
    (hg : guardOf L env g = some true) (hd : Nat.blt d n = true) (v : Value) (w' : World)
    (hop : ∀ a, Ag n a env → (execOp a.eval ⟨some d, op, ty, ps, af, g⟩).run P w = .ok (.value v) w')
    (hk : H P fn R n (.ops L l :: k) .normal ((d, v) :: env) w') : H P fn R n (.ops L (⟨some d, op, ty, ps, af, g⟩ :: l) :: k) .normal env w := by
  intro a hA
  show wpList P L.toArray (semK P fn R k) _ a w
  have hw := guardOf_ok (o := ⟨some d, op, ty, ps, af, g⟩) hg hA
  unfold wpList
  rw [if_pos hw]
  left
  unfold Oper.wp
  rw [hop a hA]
  exact hk _ (hA.put (Nat.le_of_ble_eq_true hd) v)
theorem ev_do {k : List It} {env : Env} {L l : List Oper} {op : Op} {ty : TypeId} {ps : String} {af : Array Edge} {g : Option (Nat × Bool)}
    (hg : guardOf L env g = some true) (w' : World)
    (hop : ∀ a, Ag n a env → (execOp a.eval ⟨none, op, ty, ps, af, g⟩).run P w = .ok .skip w')
    (hk : H P fn R n (.ops L l :: k) .normal env w') : H P fn R n (.ops L (⟨none, op, ty, ps, af, g⟩ :: l) :: k) .normal env w := by
  intro a hA
  show wpList P L.toArray (semK P fn R k) _ a w
  have hw := guardOf_ok (o := ⟨none, op, ty, ps, af, g⟩) hg hA
  unfold wpList
  rw [if_pos hw]
  left
  unfold Oper.wp
  rw [hop a hA]
  exact hk _ hA

/-- a loop: `E x` is what is known of the frame, `J x` of the world, at the head of the round of ghost `x` -/
theorem ev_loop {α : Type} (E : α → Env) (J : α → World → Prop) (m : α → Nat) (x0 : α) {k : List It} {env : Env} {c : Code} (h0 : SubE env (E x0)) (hJ : J x0 w)
    (round : ∀ x w, J x w → H P fn R n (.code c :: .inv (fun a w => ∃ y, m y < m x ∧ J y w ∧ Ag n a (E y)) :: k) .normal (E x) w) : H P fn R n (.code (.loop c) :: k) .normal env w := by
  intro a hA
  show (Code.loop c).wp P (semK P fn R k) a w
  -- the state: some x that fits
  refine wp_loop (I := fun a w => ∃ x, J x w ∧ Ag n a (E x)) (μ := fun a w => sInfN (fun j => ∃ x, m x = j ∧ J x w ∧ Ag n a (E x))) ⟨x0, hJ, hA.sub h0⟩ ?_
  rintro a1 w1 ⟨x, hx, hAx⟩
  obtain ⟨x', hm', hx', hAx'⟩ := sInfN_mem (p := fun j => ∃ x, m x = j ∧ J x w1 ∧ Ag n a1 (E x)) ⟨_, x, rfl, hx, hAx⟩
  have := round x' w1 hx' a1 hAx'
  refine wp_mono (Q := Exit.then (fun a w => ∃ y, m y < m x' ∧ J y w ∧ Ag n a (E y)) (semK P fn R k)) this fun e a2 w2 q => ?_
  cases e with
  | normal =>
    obtain ⟨y, hy1, hy2, hy3⟩ := q
    exact ⟨⟨y, hy2, hy3⟩, Nat.lt_of_le_of_lt (sInfN_le ⟨y, rfl, hy2, hy3⟩) (by rw [← hm']; exact hy1)⟩
  | _ => exact q
/-- a round's end -/
theorem ev_next {α : Type} {E : α → Env} {J : α → World → Prop} {m : α → Nat} {x : α} (y : α) {k : List It} {env : Env} (hm : m y < m x) (hJ : J y w) (hs : SubE env (E y)) :
    H P fn R n (.inv (fun a w => ∃ y, m y < m x ∧ J y w ∧ Ag n a (E y)) :: k) .normal env w :=
  fun a hA => ⟨y, hm, hJ, hA.sub hs⟩
/-- the ways of a statement meet again -/
theorem ev_cut {α : Type} (E : α → Env) (J : α → World → Prop) {c : Code} {k : List It} {env : Env} (h1 : H P fn R n (.code c :: .inv (fun a w' => ∃ x, J x w' ∧ Ag n a (E x)) :: k) .normal env w)
    (h2 : ∀ x w', J x w' → H P fn R n k .normal (E x) w') : H P fn R n (.code c :: k) .normal env w := by
  intro a hA
  refine wp_mono (P := P) (h1 a hA) fun e a' w' q => ?_
  cases e with
  | normal =>
    obtain ⟨x, hx, ha⟩ := q
    exact h2 x w' hx a' ha
  | _ => exact q
theorem ev_out {α : Type} {E : α → Env} {J : α → World → Prop} (x : α) {k : List It} {env : Env} (hJ : J x w) (hs : SubE env (E x)) :
    H P fn R n (.inv (fun a w' => ∃ x, J x w' ∧ Ag n a (E x)) :: k) .normal env w :=
  fun a hA => ⟨x, hJ, hA.sub hs⟩
theorem wpList_monoQ {ops : Array Oper} {Q Q' : Exit → Act → World → Prop} (hq : ∀ e a w, Q e a w → Q' e a w) : ∀ (l : List Oper) (a : Act) (w : World), wpList P ops Q l a w → wpList P ops Q' l a w
  | [], a, w, h => hq _ _ _ h
  | o :: l, a, w, h => by
    unfold wpList at h ⊢
    split
    · rename_i hw
      rw [if_pos hw] at h
      rcases h with h | ⟨h1, a0, w0, h2⟩
      · left
        unfold Oper.wp at h ⊢
        generalize (execOp a.eval o).run P w = r at *
        cases r with
        | ok n w' =>
          cases n <;> simp only [Oper.upon] at h ⊢ <;>
            first
              | exact wpList_monoQ hq l _ _ h
              | exact Calls.mono h (fun e w'' he => by
                  cases e with
                  | returned v => exact wpList_monoQ hq l _ _ he
                  | panicked ch => exact hq _ _ _ he
                  | outgrown => obtain ⟨a0, w0, h2⟩ := he; exact ⟨a0, w0, hq _ _ _ h2⟩)
              | exact Rows.mono h (fun _ _ he => wpList_monoQ hq l _ _ he)
        | halt x w' => cases x <;> simp only [Oper.upon] at h ⊢ <;> exact hq _ _ _ h
      · exact .inr ⟨h1, a0, w0, hq _ _ _ h2⟩
    · rename_i hw
      rw [if_neg hw] at h
      exact wpList_monoQ hq l _ _ h
theorem then_mono {J J' : Act → World → Prop} {Q Q' : Exit → Act → World → Prop} (hj : ∀ a w, J a w → J' a w) (hq : ∀ e a w, Q e a w → Q' e a w) (e : Exit) (a : Act) (w : World) (h : Exit.then J Q e a w) : Exit.then J' Q' e a w := by
  cases e <;> first | exact hj _ _ h | exact hq _ _ _ h
theorem rounds_monoQ {c : Code} {Q Q' : Exit → Act → World → Prop} (hq : ∀ e a w, Q e a w → Q' e a w) : ∀ (m : Nat) (a : Act) (w : World), Code.rounds P c Q m a w → Code.rounds P c Q' m a w
  | 0, a, w, h => h
  | m + 1, a, w, h => by
    rw [rounds_succ] at h ⊢
    exact wp_mono h (then_mono (rounds_monoQ hq m) hq)
theorem jump_mono {l : Nat} {J : Act → World → Prop} {Q Q' : Exit → Act → World → Prop} (hq : ∀ e a w, Q e a w → Q' e a w) (e : Exit) (a : Act) (w : World) (h : Exit.jump l J Q e a w) : Exit.jump l J Q' e a w := by
  cases e <;> first | exact h | exact hq _ _ _ h
theorem semK_mono {k k' : List It} (h : ∀ e a w, semK P fn R k e a w → semK P fn R k' e a w) (x : It) (e : Exit) (a : Act) (w : World) (hx : semK P fn R (x :: k) e a w) : semK P fn R (x :: k') e a w := by
  cases x with
  | code c => exact then_mono (fun a w hw => wp_mono hw h) h e a w hx
  | blk id =>
    simp only [semK] at hx ⊢
    cases e with
    | exit i =>
      simp only [Exit.inBlock] at hx ⊢
      split <;> rename_i hi
      · rw [if_pos hi] at hx; exact h _ _ _ hx
      · rw [if_neg hi] at hx; exact h _ _ _ hx
    | _ => exact h _ _ _ hx
  | ops L l => exact then_mono (fun a w hw => wpList_monoQ h l a w hw) h e a w hx
  | inv J => exact then_mono (fun _ _ hj => hj) h e a w hx
  | rnd c m => exact then_mono (fun a w hw => rounds_monoQ h m a w hw) h e a w hx
  | jmp l J => exact jump_mono h e a w hx
theorem semK_join {J : Act → World → Prop} {k : List It} (h : ∀ a w, J a w → semK P fn R k .normal a w) (e : Exit) (a : Act) (w : World) (hx : semK P fn R (.inv J :: k) e a w) : semK P fn R k e a w := by
  simp only [semK] at hx
  cases e with
  | normal => exact h _ _ hx
  | _ => exact hx
/-- the ways of two pieces meet again -/
theorem ev_join2 {α : Type} (E : α → Env) (J : α → World → Prop) {x y : It} {k : List It} {e : Exit} {env : Env} (h1 : H P fn R n (x :: y :: .inv (fun a w => ∃ x, J x w ∧ Ag n a (E x)) :: k) e env w)
    (h2 : ∀ x w', J x w' → H P fn R n k .normal (E x) w') : H P fn R n (x :: y :: k) e env w :=
  fun a hA => semK_mono (semK_mono (semK_join fun a w ⟨z, hz, ha⟩ => h2 z w hz a ha) y) x e a w (h1 a hA)
theorem ev_join1 {α : Type} (E : α → Env) (J : α → World → Prop) {x : It} {k : List It} {e : Exit} {env : Env} (h1 : H P fn R n (x :: .inv (fun a w => ∃ x, J x w ∧ Ag n a (E x)) :: k) e env w)
    (h2 : ∀ x w', J x w' → H P fn R n k .normal (E x) w') : H P fn R n (x :: k) e env w :=
  fun a hA => semK_mono (semK_join fun a w ⟨z, hz, ha⟩ => h2 z w hz a ha) x e a w (h1 a hA)
/-- a scope: what is known (`E x`, `J x`) where the run jumps back to its label; a measure falls from pass to pass -/
theorem ev_scope {α : Type} (l : Nat) (E : α → Env) (J : α → World → Prop) (m : α → Nat) {k : List It} {env : Env} {c rest : Code} (hf : findLabel c l = some rest)
    (first : H P fn R n (.code c :: .jmp l (fun a w => ∃ y, J y w ∧ Ag n a (E y)) :: k) .normal env w)
    (pass : ∀ x w, J x w → H P fn R n (.code rest :: .jmp l (fun a w => ∃ y, m y < m x ∧ J y w ∧ Ag n a (E y)) :: k) .normal (E x) w) : H P fn R n (.code (.scope c) :: k) .normal env w := by
  intro a hA
  show (Code.scope c).wp P (semK P fn R k) a w
  refine wp_scope_jumps l (fun a w => ∃ y, J y w ∧ Ag n a (E y)) (fun a w => sInfN (fun j => ∃ y, m y = j ∧ J y w ∧ Ag n a (E y))) hf (first a hA) ?_
  rintro a1 w1 ⟨x, hx, hAx⟩
  obtain ⟨x', hm', hx', hAx'⟩ := sInfN_mem (p := fun j => ∃ x, m x = j ∧ J x w1 ∧ Ag n a1 (E x)) ⟨_, x, rfl, hx, hAx⟩
  have := pass x' w1 hx' a1 hAx'
  refine wp_mono (Q := Exit.jump l (fun a w => ∃ y, m y < m x' ∧ J y w ∧ Ag n a (E y)) (semK P fn R k)) this fun e a2 w2 q => ?_
  cases e with
  | goto l' =>
    obtain ⟨hl, y, hy1, hy2, hy3⟩ := q
    exact ⟨hl, ⟨y, hy2, hy3⟩, Nat.lt_of_le_of_lt (sInfN_le ⟨y, rfl, hy2, hy3⟩) (by rw [← hm']; exact hy1)⟩
  | _ => exact q
/-- the jump back, the first and a later one -/
theorem ev_jump0 {α : Type} {E : α → Env} {J : α → World → Prop} {l : Nat} (y : α) {k : List It} {env : Env} (hJ : J y w) (hs : SubE env (E y)) :
    H P fn R n (.jmp l (fun a w => ∃ y, J y w ∧ Ag n a (E y)) :: k) (.goto l) env w :=
  fun a hA => ⟨rfl, y, hJ, hA.sub hs⟩
theorem ev_jump {α : Type} {E : α → Env} {J : α → World → Prop} {m : α → Nat} {x : α} {l : Nat} (y : α) {k : List It} {env : Env} (hm : m y < m x) (hJ : J y w) (hs : SubE env (E y)) :
    H P fn R n (.jmp l (fun a w => ∃ y, m y < m x ∧ J y w ∧ Ag n a (E y)) :: k) (.goto l) env w :=
  fun a hA => ⟨rfl, y, hm, hJ, hA.sub hs⟩
/-- a scope without a jump back -/
theorem ev_scope0 {k : List It} {env : Env} {c : Code} (h : H P fn R n (.code c :: .jmp 0 (fun _ _ => False) :: k) .normal env w) : H P fn R n (.code (.scope c) :: k) .normal env w := by
  intro a hA
  show (Code.scope c).wp P (semK P fn R k) a w
  refine wp_scope_straight (wp_mono (Q := Exit.jump 0 (fun _ _ => False) (semK P fn R k)) (h a hA) fun e a2 w2 q => ?_)
  cases e with
  | goto l' => exact q.2
  | _ => exact q
end
end Go.Wk
set_option linter.unusedSimpArgs false
namespace Go.Wk
open Go

/-! ### entering -/
def argsE : Nat → List Value → Env
  | _, [] => []
  | i, v :: r => (i, v) :: argsE (i + 1) r
theorem look_argsE : ∀ (l : List Value) (i t : Nat) (v : Value), look (argsE i l) t = some v → i ≤ t ∧ l[t - i]? = some v
  | [], i, t, v, h => by simp [argsE, look] at h
  | x :: r, i, t, v, h => by
    simp only [argsE] at h
    rw [look_cons] at h
    split at h
    · rename_i e; subst e; cases h; simp
    · rename_i e
      obtain ⟨h1, h2⟩ := look_argsE r (i + 1) t v h
      refine ⟨by omega, ?_⟩
      have : t - i = (t - (i + 1)) + 1 := by omega
      rw [this]; simpa using h2

theorem enter {P : Program} {f : FuncId} {fn : Func} {c : Code} {args : List Value} {w : World} {R : Ending → World → Prop} {n : Nat}
    (hf : P.funcs[f]? = some fn) (hb : fn.body = some c) (hn : fn.ntmps = n) (hl : Nat.ble args.length n = true) (h : H P fn R n [.code c] .normal (argsE 0 args) w) : Calls P f ⟨args⟩ w R := by
  have hl' : args.length ≤ n := Nat.le_of_ble_eq_true hl
  refine calls_of_wp hf hb ?_
  have := h { tmps := (⟨args⟩ : Array Value) ++ Array.replicate (fn.ntmps - (⟨args⟩ : Array Value).size) undef, defers := [] } ⟨rfl, by simp [hn]; omega, fun t v ht => ?_⟩
  · refine wp_mono this fun e a w q => ?_
    cases e <;> exact q
  · obtain ⟨_, h2⟩ := look_argsE _ _ _ _ ht
    simp only [Nat.sub_zero] at h2
    have hlt : t < args.length := (List.getElem?_eq_some_iff.1 h2).1
    rw [Array.getElem?_append_left (by simpa using hlt)]
    simpa using h2

/-! ### calls -/
/-- a function with a text, whose calls end so -/
def CallsF (P : Program) (f : FuncId) (args : List Value) (w : World) (R : Value → World → Prop) : Prop :=
  (∃ fn, P.funcs[f]? = some fn ∧ (fn.name == "runtime.NumGoroutine") = false ∧ fn.body.isNone = false) ∧ Calls P f ⟨args⟩ w fun e w' => ∃ v, e = .returned v ∧ R v w'

theorem CallsF.mono {P : Program} {f : FuncId} {args : List Value} {w : World} {R R' : Value → World → Prop} (h : CallsF P f args w R) (hr : ∀ v w', R v w' → R' v w') : CallsF P f args w R' :=
  ⟨h.1, h.2.mono fun e w' ⟨v, he, hv⟩ => ⟨v, he, hr _ _ hv⟩⟩

theorem callsF {P : Program} {f : FuncId} {fn : Func} {c : Code} {args : List Value} {w : World} {R : Value → World → Prop} {n : Nat}
    (hf : P.funcs[f]? = some fn) (hb : fn.body = some c) (hn : fn.ntmps = n) (hname : (fn.name == "runtime.NumGoroutine") = false) (hl : Nat.ble args.length n = true)
    (h : H P fn (fun e w' => ∃ v, e = .returned v ∧ R v w') n [.code c] .normal (argsE 0 args) w) : CallsF P f args w R :=
  ⟨⟨fn, hf, hname, by rw [hb]; rfl⟩, enter hf hb hn hl h⟩

section
variable {P : Program} {fn : Func} {S : Value → World → Prop} {n : Nat} {w : World} {e : Exit} {env : Env}
theorem ret0 (he : e = .normal ∨ e = .ret) (hr : fn.results = #[]) (h : S (.tuple #[]) w) : H P fn (fun e w' => ∃ v, e = .returned v ∧ S v w') n [] e env w := ev_ret0 he hr ⟨_, rfl, h⟩
theorem ret1 (he : e = .normal ∨ e = .ret) {t : Nat} (hr : fn.results = #[.tmp t]) {v : Value} (hv : look env t = some v) (h : S v w) : H P fn (fun e w' => ∃ v, e = .returned v ∧ S v w') n [] e env w := ev_ret1 he hr hv ⟨_, rfl, h⟩
theorem ret2 (he : e = .normal ∨ e = .ret) {t u : Nat} (hr : fn.results = #[.tmp t, .tmp u]) {v x : Value} (hv : look env t = some v) (hx : look env u = some x) (h : S (.tuple #[v, x]) w) : H P fn (fun e w' => ∃ v, e = .returned v ∧ S v w') n [] e env w := ev_ret2 he hr hv hx ⟨_, rfl, h⟩
theorem ret3 (he : e = .normal ∨ e = .ret) {t u s : Nat} (hr : fn.results = #[.tmp t, .tmp u, .tmp s]) {v x y : Value} (hv : look env t = some v) (hx : look env u = some x) (hy : look env s = some y) (h : S (.tuple #[v, x, y]) w) : H P fn (fun e w' => ∃ v, e = .returned v ∧ S v w') n [] e env w := ev_ret3 he hr hv hx hy ⟨_, rfl, h⟩
end
def evs (env : Env) : List Operand → Option (List Value)
  | [] => some []
  | x :: r => match ev env x, evs env r with
    | some v, some l => some (v :: l)
    | _, _ => none
theorem Ag.evs {n : Nat} {a : Act} {env : Env} (h : Ag n a env) : ∀ {l : List Operand} {vs : List Value}, evs env l = some vs → l.map a.eval = vs
  | [], vs, hl => by cases hl; rfl
  | x :: r, vs, hl => by
    simp only [Wk.evs] at hl
    split at hl
    · rename_i v l hv hr; cases hl
      simp [h.ev hv, h.evs hr]
    · cases hl

section
variable {P : Program} {fn : Func} {R : Ending → World → Prop} {n : Nat} {tab : Tab} {w : World}
/-- a call whose function value is known -/
theorem ev_callV {k : List It} {env : Env} {L l : List Oper} {d : Option Nat} {x : Operand} {xs : List Operand} {ats : Array TypeId} {ty : TypeId} {ps : String} {af : Array Edge} {g : Option (Nat × Bool)}
    {f : FuncId} {fst cap : List Value} {vs : List Value} {S : Value → World → Prop}
    (hg : guardOf L env g = some true) (hd : ∀ t, d = some t → Nat.blt t n = true) (hx : ev env x = some (.func (.func f) ⟨fst⟩ ⟨cap⟩)) (hvs : evs env xs = some vs)
    (hc : CallsF P f (fst ++ vs ++ cap) w S)
    (hk : ∀ v w', S v w' → H P fn R n (.ops L l :: k) .normal (match d with | some t => (t, v) :: env | none => env) w') :
    H P fn R n (.ops L (⟨d, .call ⟨.value x, ⟨xs⟩, ats⟩, ty, ps, af, g⟩ :: l) :: k) .normal env w := by
  intro a hA
  show wpList P L.toArray (semK P fn R k) _ a w
  have hw := guardOf_ok (o := ⟨d, .call ⟨.value x, ⟨xs⟩, ats⟩, ty, ps, af, g⟩) hg hA
  unfold wpList
  rw [if_pos hw]
  left
  unfold Oper.wp
  obtain ⟨⟨fc, h1, h2, h3⟩, hcalls⟩ := hc
  have hrun : (execOp a.eval ⟨d, .call ⟨.value x, ⟨xs⟩, ats⟩, ty, ps, af, g⟩).run P w = .ok (.enter f ⟨fst ++ vs ++ cap⟩) w := by
    have hargs : (⟨xs⟩ : Array Operand).map a.eval = ⟨vs⟩ := by
      have := hA.evs hvs
      simp [this]
    simp only [execOp, resolve, hargs, hA.ev hx, Deferred.ofValue]
    show Sem.run P ((Sem.pure _).bind _) w = _
    simp only [Sem.bind, invoke, callFunc]
    show Sem.run P ((Sem.program Sem.pure).bind _) w = _
    simp only [Sem.bind, Sem.run, h1, h2, h3]
    simp
  rw [hrun]
  show Calls P f _ w _
  refine hcalls.mono ?_
  rintro e w' ⟨v, rfl, hv⟩
  show wpList P L.toArray (semK P fn R k) l (a.put d v) w'
  have := hk v w' hv
  cases d with
  | none => exact this a hA
  | some t => exact this _ (hA.put (Nat.le_of_ble_eq_true (hd t rfl)) v)
/-- a call of a function by its number -/
theorem ev_call {k : List It} {env : Env} {L l : List Oper} {d : Nat} {f : FuncId} {xs : List Operand} {ats : Array TypeId} {ty : TypeId} {ps : String} {af : Array Edge} {g : Option (Nat × Bool)}
    {vs : List Value} {S : Value → World → Prop}
    (hg : guardOf L env g = some true) (hd : Nat.blt d n = true) (hvs : evs env xs = some vs)
    (hc : CallsF P f vs w S)
    (hk : ∀ v w', S v w' → H P fn R n (.ops L l :: k) .normal ((d, v) :: env) w') :
    H P fn R n (.ops L (⟨some d, .call ⟨.value (.func f), ⟨xs⟩, ats⟩, ty, ps, af, g⟩ :: l) :: k) .normal env w :=
  ev_callV (x := .func f) (fst := []) (cap := []) hg (fun t h => by cases h; exact hd) rfl hvs (by simpa using hc) hk
theorem ev_call0 {k : List It} {env : Env} {L l : List Oper} {f : FuncId} {xs : List Operand} {ats : Array TypeId} {ty : TypeId} {ps : String} {af : Array Edge} {g : Option (Nat × Bool)}
    {vs : List Value} {S : Value → World → Prop}
    (hg : guardOf L env g = some true) (hvs : evs env xs = some vs)
    (hc : CallsF P f vs w S)
    (hk : ∀ v w', S v w' → H P fn R n (.ops L l :: k) .normal env w') :
    H P fn R n (.ops L (⟨none, .call ⟨.value (.func f), ⟨xs⟩, ats⟩, ty, ps, af, g⟩ :: l) :: k) .normal env w :=
  ev_callV (x := .func f) (fst := []) (cap := []) hg (fun t h => by cases h) rfl hvs (by simpa using hc) hk

end
end Go.Wk
