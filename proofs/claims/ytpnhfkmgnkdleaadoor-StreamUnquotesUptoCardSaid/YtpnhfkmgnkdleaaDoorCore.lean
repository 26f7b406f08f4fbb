/-
  The walk kit of this repo, part 1: frames as lists of known slots, one step of straight code by computation, and what a configuration means.
-/
import Derived.WalkKit
set_option linter.unusedVariables false
set_option linter.unusedSimpArgs false
namespace Go.Wk
open Go

/-- what is known of a frame: slot, value; the first entry of a slot counts -/
abbrev Env := List (Nat × Value)

def look : Env → Nat → Option Value
  | [], _ => none
  | (k, v) :: r, t => match Nat.beq k t with | true => some v | false => look r t

theorem look_cons (k : Nat) (v : Value) (r : Env) (t : Nat) : look ((k, v) :: r) t = if k = t then some v else look r t := by
  by_cases h : k = t
  · subst h; simp [look]
  · have : Nat.beq k t = false := by
      cases hb : Nat.beq k t with
      | false => rfl
      | true => exact absurd (Nat.eq_of_beq_eq_true hb) h
    simp [look, this, h]

def Ag (n : Nat) (a : Act) (env : Env) : Prop := a.defers = [] ∧ a.tmps.size = n ∧ ∀ t v, look env t = some v → a.tmps[t]? = some v

theorem Ag.put {n : Nat} {a : Act} {env : Env} (h : Ag n a env) {d : Nat} (hd : d < n) (v : Value) : Ag n (a.put (some d) v) ((d, v) :: env) := by
  obtain ⟨h1, h2, h3⟩ := h
  refine ⟨h1, by simp [Act.put, h2], fun t u ht => ?_⟩
  rw [look_cons] at ht
  simp only [Act.put]
  by_cases e : d = t
  · subst e
    simp only [if_true, Option.some.injEq] at ht
    subst ht
    simp [h2, hd]
  · rw [if_neg e] at ht
    rw [Array.getElem?_setIfInBounds_ne e]
    exact h3 t u ht

theorem Ag.look {n : Nat} {a : Act} {env : Env} (h : Ag n a env) {t : Nat} {v : Value} (ht : look env t = some v) : a.tmps.getD t undef = v := by
  have := h.2.2 t v ht
  rw [Array.getD_eq_getD_getElem?, this]; rfl

/-- every entry of `e2` is known of `e1` -/
def SubE (e1 : Env) : Env → Prop
  | [] => True
  | (k, v) :: r => look e1 k = some v ∧ SubE e1 r

theorem Ag.sub {n : Nat} {a : Act} {e1 : Env} (h : Ag n a e1) : ∀ {e2 : Env}, SubE e1 e2 → Ag n a e2
  | [], _ => ⟨h.1, h.2.1, fun t v ht => by simp [Wk.look] at ht⟩
  | (k, v) :: r, hs => by
    refine ⟨h.1, h.2.1, fun t u ht => ?_⟩
    rw [look_cons] at ht
    by_cases e : k = t
    · subst e
      simp only [if_true, Option.some.injEq] at ht
      subst ht
      exact h.2.2 _ _ hs.1
    · rw [if_neg e] at ht
      exact (h.sub hs.2).2.2 t u ht

def ev (env : Env) : Operand → Option Value
  | .tmp t => look env t
  | .const v => some v
  | .global g => some (.pointer (some ⟨g, 0, none⟩))
  | .func f => some (.func (.func f) #[] #[])

theorem Ag.ev {n : Nat} {a : Act} {env : Env} (h : Ag n a env) {x : Operand} {v : Value} (hx : ev env x = some v) : a.eval x = v := by
  cases x with
  | tmp t => exact h.look hx
  | const u => simpa [Wk.ev, Act.eval] using hx
  | global g => simpa [Wk.ev, Act.eval] using hx
  | func f => simpa [Wk.ev, Act.eval] using hx

/-! ### types, as far as straight code asks of them -/
inductive TyD where
  | int (k : IntKind) | bool | str | ptr (e : Nat)
  | slice (e sz : Nat)
  | struct (fs : List (Nat × Nat × Bool))
  | arr (len e sz : Nat) (agg : Bool)
  | map (k e : Nat) | other
  deriving DecidableEq

def aggOf (P : Program) (t : TypeId) : Option Bool :=
  match P.underlying t with
  | some (.struct _) | some (.array _ _) => some true
  | some _ => some false
  | none => none

def sizeIf (P : Program) (t : TypeId) : Option Nat := (P.info? t).map (·.size)

def fieldsOf (P : Program) : List Field → Option (List (Nat × Nat × Bool))
  | [] => some []
  | f :: r => match sizeIf P f.type, aggOf P f.type, fieldsOf P r with
    | some s, some b, some l => some ((f.offset, s, b) :: l)
    | _, _, _ => none

def tyOf (P : Program) (t : TypeId) : TyD :=
  match P.underlying t with
  | some (.int k) => .int k
  | some .bool => .bool
  | some .string => .str
  | some (.pointer e) => .ptr e
  | some (.slice e) => match sizeIf P e with | some s => .slice e s | none => .other
  | some (.struct fs) => match fieldsOf P fs.toList with | some l => .struct l | none => .other
  | some (.array n e) => match sizeIf P e, aggOf P e with | some s, some b => .arr n e s b | _, _ => .other
  | some (.map k e) => .map k e
  | _ => .other

/-- a type, what it is, its cells -/
abbrev Tab := List (Nat × TyD × Nat)
def tyAt : Tab → Nat → TyD
  | [], _ => .other
  | (k, d, _) :: r, t => match Nat.beq k t with | true => d | false => tyAt r t
def szAt : Tab → Nat → Nat
  | [], _ => 0
  | (k, _, s) :: r, t => match Nat.beq k t with | true => s | false => szAt r t
def tabB (P : Program) (tab : Tab) : Bool := tab.all fun x => decide (tyOf P x.1 = x.2.1) && decide (sizeIf P x.1 = some x.2.2)
def TabOk (P : Program) (tab : Tab) : Prop := ∀ t, tyAt tab t ≠ .other → tyOf P t = tyAt tab t ∧ sizeIf P t = some (szAt tab t)
theorem tabOk_of {P : Program} : ∀ {tab : Tab}, tabB P tab = true → TabOk P tab
  | [], _, t, hd => absurd rfl hd
  | (k, e, s) :: r, hb, t, hd => by
    simp only [tabB, List.all_cons, Bool.and_eq_true, decide_eq_true_eq] at hb
    by_cases hk : k = t
    · subst hk
      simp only [tyAt, szAt, Nat.beq_refl]
      exact hb.1
    · have : Nat.beq k t = false := by
        cases hb : Nat.beq k t with
        | false => rfl
        | true => exact absurd (Nat.eq_of_beq_eq_true hb) hk
      simp only [tyAt, szAt, this] at hd ⊢
      exact tabOk_of (tab := r) hb.2 t hd

section
variable {P : Program} {tab : Tab}
theorem ty_int (hT : TabOk P tab) {t : Nat} {k : IntKind} (h : tyAt tab t = .int k) : P.underlying t = some (.int k) := by
  have := (hT t (by rw [h]; simp)).1
  rw [h] at this
  unfold tyOf at this
  split at this <;> first | (simp_all; done) | (repeat' split at this) <;> simp_all
theorem ty_str (hT : TabOk P tab) {t : Nat} (h : tyAt tab t = .str) : P.underlying t = some .string := by
  have := (hT t (by rw [h]; simp)).1
  rw [h] at this
  unfold tyOf at this
  split at this <;> first | (simp_all; done) | (repeat' split at this) <;> simp_all
theorem ty_bool (hT : TabOk P tab) {t : Nat} (h : tyAt tab t = .bool) : P.underlying t = some .bool := by
  have := (hT t (by rw [h]; simp)).1
  rw [h] at this
  unfold tyOf at this
  split at this <;> first | (simp_all; done) | (repeat' split at this) <;> simp_all
theorem ty_ptr (hT : TabOk P tab) {t e : Nat} (h : tyAt tab t = .ptr e) : P.underlying t = some (.pointer e) := by
  have := (hT t (by rw [h]; simp)).1
  rw [h] at this
  unfold tyOf at this
  split at this <;> first | (simp_all; done) | (repeat' split at this) <;> simp_all
theorem ty_map (hT : TabOk P tab) {t k e : Nat} (h : tyAt tab t = .map k e) : P.underlying t = some (.map k e) := by
  have := (hT t (by rw [h]; simp)).1
  rw [h] at this
  unfold tyOf at this
  split at this <;> first | (simp_all; done) | (repeat' split at this) <;> simp_all
theorem ty_slice (hT : TabOk P tab) {t e s : Nat} (h : tyAt tab t = .slice e s) : P.underlying t = some (.slice e) ∧ sizeIf P e = some s := by
  have := (hT t (by rw [h]; simp)).1
  rw [h] at this
  unfold tyOf at this
  split at this <;> first | (simp_all; done) | (repeat' split at this) <;> simp_all
theorem ty_arr (hT : TabOk P tab) {t n e s : Nat} {b : Bool} (h : tyAt tab t = .arr n e s b) : P.underlying t = some (.array n e) ∧ sizeIf P e = some s ∧ aggOf P e = some b := by
  have := (hT t (by rw [h]; simp)).1
  rw [h] at this
  unfold tyOf at this
  split at this <;> first | (simp_all; done) | (repeat' split at this) <;> simp_all
theorem ty_struct (hT : TabOk P tab) {t : Nat} {l : List (Nat × Nat × Bool)} (h : tyAt tab t = .struct l) : ∃ fs, P.underlying t = some (.struct fs) ∧ fieldsOf P fs.toList = some l := by
  have := (hT t (by rw [h]; simp)).1
  rw [h] at this
  unfold tyOf at this
  split at this <;> first | (simp_all; done) | (repeat' split at this) <;> simp_all
/-- is it of several cells? -/
def aggT : TyD → Option Bool
  | .other => none
  | .struct _ => some true
  | .arr _ _ _ _ => some true
  | _ => some false
theorem ty_agg (hT : TabOk P tab) {t : Nat} {b : Bool} (h : aggT (tyAt tab t) = some b) : aggOf P t = some b := by
  unfold aggOf
  cases hty : tyAt tab t with
  | other => rw [hty] at h; cases h
  | struct l => rw [hty] at h; cases h; obtain ⟨fs, h1, _⟩ := ty_struct hT hty; rw [h1]
  | arr n e s c => rw [hty] at h; cases h; rw [(ty_arr hT hty).1]
  | int k => rw [hty] at h; cases h; rw [ty_int hT hty]
  | bool => rw [hty] at h; cases h; rw [ty_bool hT hty]
  | str => rw [hty] at h; cases h; rw [ty_str hT hty]
  | ptr e => rw [hty] at h; cases h; rw [ty_ptr hT hty]
  | slice e s => rw [hty] at h; cases h; rw [(ty_slice hT hty).1]
  | map k e => rw [hty] at h; cases h; rw [ty_map hT hty]
theorem ty_size (hT : TabOk P tab) {t s : Nat} {b : Bool} (h : aggT (tyAt tab t) = some b) (hs : szAt tab t = s) : sizeIf P t = some s := by
  have := (hT t (fun e => by rw [e] at h; cases h)).2
  rw [this, hs]
theorem fieldsOf_get : ∀ {fs : List Field} {l : List (Nat × Nat × Bool)} {i : Nat} {o s : Nat} {b : Bool}, fieldsOf P fs = some l → l[i]? = some (o, s, b) →
    ∃ f, fs[i]? = some f ∧ f.offset = o ∧ sizeIf P f.type = some s ∧ aggOf P f.type = some b
  | [], l, i, o, s, b, h, hi => by simp [fieldsOf] at h; subst h; simp at hi
  | f :: r, l, i, o, s, b, h, hi => by
    simp only [fieldsOf] at h
    split at h
    · rename_i s' b' l' h1 h2 h3
      simp only [Option.some.injEq] at h
      subst h
      cases i with
      | zero => simp at hi; obtain ⟨rfl, rfl, rfl⟩ := hi; exact ⟨f, rfl, rfl, h1, h2⟩
      | succ i => simpa using fieldsOf_get h3 (by simpa using hi)
    · cases h
end

/-! ### running: small facts -/
section
variable {P : Program} {w : World}
theorem run_bind {α β : Type} {s : Sem α} {f : α → Sem β} {a : α} {w' : World} (h : s.run P w = .ok a w') : (s >>= f).run P w = (f a).run P w' := by
  show (Sem.bind s f).run P w = _
  induction s generalizing w with
  | pure x => simp [Sem.run] at h; obtain ⟨rfl, rfl⟩ := h; rfl
  | load m a k ih =>
    simp only [Sem.bind, Sem.run] at h ⊢
    split
    · rename_i v hv; rw [hv] at h; exact ih _ h
    · rename_i hv; rw [hv] at h; simp only at h
      split
      · rename_i v t hf; rw [hf] at h; exact ih _ h
      · rename_i hf; rw [hf] at h; cases h
  | store m a v k ih =>
    cases v <;> simp only [Sem.bind, Sem.run] at h ⊢ <;> first
      | (cases h; done)
      | (split
         · rename_i u hu; rw [hu] at h; simp only at h
           split
           · rename_i hf; rw [if_pos hf] at h; cases h
           · rename_i hf; rw [if_neg hf] at h; exact ih h
         · rename_i hu; rw [hu] at h; simp only at h
           split
           · rename_i w2 t hf; rw [hf] at h; exact ih h
           · rename_i hf; rw [hf] at h; cases h)
  | new o k ih => simp only [Sem.bind, Sem.run] at h ⊢; exact ih _ h
  | shape r k ih => simp only [Sem.bind, Sem.run] at h ⊢; exact ih _ h
  | freeze a n k ih => simp only [Sem.bind, Sem.run] at h ⊢; exact ih h
  | frozen a k ih => simp only [Sem.bind, Sem.run] at h ⊢; exact ih _ h
  | getObj r k ih =>
    simp only [Sem.bind, Sem.run] at h ⊢
    split <;> rename_i ho <;> rw [ho] at h <;> first | (cases h; done) | exact ih _ h | skip
    all_goals (first | (simp only at h; cases h; done) | (simp only at h; exact ih _ h) | skip)
  | setObj r o k ih =>
    simp only [Sem.bind, Sem.run] at h ⊢
    split <;> rename_i ho <;> rw [ho] at h <;> first | (cases h; done) | exact ih h | skip
    all_goals (first | (simp only at h; cases h; done) | (simp only at h; exact ih h) | skip)
  | choose q k ih =>
    simp only [Sem.bind, Sem.run] at h ⊢
    split
    · rename_i hq; rw [if_pos hq] at h; exact ih _ h
    · rename_i hq; rw [if_neg hq] at h; exact ih _ h
  | sys c k ih => simp only [Sem.bind, Sem.run] at h ⊢; exact ih _ h
  | program k ih => simp only [Sem.bind, Sem.run] at h ⊢; exact ih _ h
  | mark m k ih => simp only [Sem.bind, Sem.run] at h ⊢; exact ih h
  | halt x => cases h
theorem run_pure {α : Type} (a : α) : (pure a : Sem α).run P w = .ok a w := rfl
theorem run_underlying' {t : TypeId} {d : TypeDesc} (h : P.underlying t = some d) : (underlying t).run P w = .ok d w := by
  simp only [underlying, program]
  show (Sem.run P ((Sem.program Sem.pure).bind _) w) = _
  simp only [Sem.bind, Sem.run, h]; rfl
theorem run_typeInfo {t : TypeId} {i : TypeInfo} (h : P.info? t = some i) : (typeInfo t).run P w = .ok i w := by
  simp only [typeInfo, program]
  show (Sem.run P ((Sem.program Sem.pure).bind _) w) = _
  simp only [Sem.bind, Sem.run, h]; rfl
theorem run_sizeOf {t : TypeId} {s : Nat} (h : sizeIf P t = some s) : (sizeOf t).run P w = .ok s w := by
  simp only [sizeIf, Option.map_eq_some_iff] at h
  obtain ⟨i, hi, rfl⟩ := h
  exact run_bind (run_typeInfo hi)
theorem run_isAgg {t : TypeId} {b : Bool} (h : aggOf P t = some b) : (isAgg t).run P w = .ok b w := by
  unfold aggOf at h
  split at h
  · rename_i x hx; simp at h; subst h; exact run_bind (run_underlying' hx)
  · rename_i x y hx; simp at h; subst h; exact run_bind (run_underlying' hx)
  · rename_i x hx h1 h2
    simp at h; subst h
    refine (run_bind (run_underlying' h2)).trans ?_
    split
    · rename_i fs; exact absurd h2 (by simpa using hx fs)
    · rename_i n e; exact absurd h2 (by simpa using h1 n e)
    · rfl
  · cases h
end

/-! ### operations that ask nothing of the world -/
def notI64 : IntKind → Bool
  | .i64 => false
  | _ => true
def intOp (op : BinOp) (k : IntKind) (x y : Int) : Option Value :=
  match op with
  | .and => some (.int k (bits .and k x y))
  | .or => some (.int k (bits .or k x y))
  | .xor => some (.int k (bits .xor k x y))
  | .andNot => some (.int k (bits .andNot k x y))
  | .eql => some (.bool (decide (x = y)))
  | .neq => some (.bool (decide (¬ x = y)))
  | .lss => some (.bool (decide (x < y)))
  | .leq => some (.bool (decide (x ≤ y)))
  | .gtr => some (.bool (decide (y < x)))
  | .geq => some (.bool (decide (y ≤ x)))
  | _ => none

theorem beq_dec (x y : Int) : (x == y) = decide (x = y) := by
  by_cases h : x = y
  · subst h; simp
  · simp [h]
theorem intOp_ok {op : BinOp} {k : IntKind} {x y : Int} {v : Value} (h : intOp op k x y = some v) (t : TypeId) : binOp op t (.int k x) (.int k y) = Sem.pure v := by
  cases op <;> simp only [intOp] at h <;> first | (cases h; done) | skip
  all_goals (cases h; simp [binOp, Op.intBits, Op.intCmp, bits, beq_dec]; try rfl)

/-- a Go string, by its bytes -/
abbrev sOf (l : List UInt8) : ByteArray := ⟨⟨l⟩⟩
theorem sOf_toList (l : List UInt8) : (sOf l).toList = l := by
  simp
theorem sOf_ex (s : ByteArray) : ∃ l, s = sOf l := ⟨s.data.toList, rfl⟩
theorem sOf_size (l : List UInt8) : (sOf l).size = l.length := rfl

def strOp (op : BinOp) : ByteArray → ByteArray → Option Value
  | ⟨⟨x⟩⟩, ⟨⟨y⟩⟩ => match op with
    | .eql => some (.bool (decide (x = y)))
    | .neq => some (.bool (decide (¬ x = y)))
    | .lss => some (.bool (Op.bytesLess x y))
    | .leq => some (.bool (Op.bytesLess x y || decide (x = y)))
    | .gtr => some (.bool (!(Op.bytesLess x y || decide (x = y))))
    | .geq => some (.bool (!Op.bytesLess x y))
    | _ => none

theorem strOp_ok {op : BinOp} {x y : ByteArray} {v : Value} (h : strOp op x y = some v) (t : TypeId) : binOp op t (.string x) (.string y) = Sem.pure v := by
  obtain ⟨x, rfl⟩ := sOf_ex x
  obtain ⟨y, rfl⟩ := sOf_ex y
  have he : (x == y) = decide (x = y) := by
    by_cases h : x = y
    · subst h; simp
    · simp [h]
  cases op <;> simp only [strOp] at h <;> first | (cases h; done) | skip
  all_goals
    cases h
    simp only [binOp, Op.stringOp, sOf_toList, he]
    first | rfl | skip
  simp only [decide_not]; rfl

/-- an address, a few cells further on, written out -/
def addA : Addr → Nat → Addr
  | a, 0 => a
  | ⟨b, o, _⟩, n + 1 => ⟨b, o + (n + 1), none⟩
theorem addA_eq (a : Addr) (n : Nat) : addA a n = a.add n := by
  cases n with
  | zero => simp [addA, Addr.add]
  | succ n => simp [addA, Addr.add]

def nthF : List (Nat × Nat × Bool) → Nat → Option (Nat × Nat × Bool)
  | [], _ => none
  | x :: _, 0 => some x
  | _ :: r, n + 1 => nthF r n
theorem nthF_eq : ∀ (l : List (Nat × Nat × Bool)) (n : Nat), nthF l n = l[n]?
  | [], n => by simp [nthF]
  | x :: r, 0 => by simp [nthF]
  | x :: r, n + 1 => by simpa [nthF] using nthF_eq r n

def nthV : List Value → Nat → Option Value
  | [], _ => none
  | x :: _, 0 => some x
  | _ :: r, n + 1 => nthV r n
theorem nthV_eq : ∀ (l : List Value) (n : Nat), nthV l n = l[n]?
  | [], n => by simp [nthV]
  | x :: r, 0 => by simp [nthV]
  | x :: r, n + 1 => by simpa [nthV] using nthV_eq r n
def takeV : List Value → Nat → List Value
  | [], _ => []
  | _, 0 => []
  | x :: r, n + 1 => x :: takeV r n
def dropV : List Value → Nat → List Value
  | [], _ => []
  | l, 0 => l
  | _ :: r, n + 1 => dropV r n
theorem takeV_eq : ∀ (l : List Value) (n : Nat), takeV l n = l.take n
  | [], n => by cases n <;> simp [takeV]
  | x :: r, 0 => by simp [takeV]
  | x :: r, n + 1 => by simpa [takeV] using takeV_eq r n
theorem dropV_eq : ∀ (l : List Value) (n : Nat), dropV l n = l.drop n
  | [], n => by cases n <;> simp [dropV]
  | x :: r, 0 => by simp [dropV]
  | x :: r, n + 1 => by simpa [dropV] using dropV_eq r n

/-- the cells from `off` on, `s` of them, as one value -/
def partV (l : List Value) (off s : Nat) (agg : Bool) : Option Value :=
  match agg with
  | true => match takeV (dropV l off) s with | l' => some (.agg ⟨l'⟩)
  | false => nthV l off

theorem run_part {P : Program} {w : World} {t : TypeId} {l : List Value} {off s : Nat} {b : Bool} {v : Value} (hs : sizeIf P t = some s) (hb : aggOf P t = some b) (h : partV l off s b = some v) :
    (part t ⟨l⟩ off).run P w = .ok v w := by
  unfold part
  refine (run_bind (run_isAgg hb)).trans ?_
  cases b with
  | true =>
    simp only [partV, Option.some.injEq] at h
    simp only [if_true]
    refine (run_bind (run_sizeOf hs)).trans ?_
    rw [run_pure, ← h, takeV_eq, dropV_eq]
    simp
  | false =>
    simp only [partV, nthV_eq] at h
    simp only [Bool.false_eq_true, if_false]
    have : (⟨l⟩ : Array Value)[off]? = some v := by simpa using h
    rw [this]; rfl

end Go.Wk
