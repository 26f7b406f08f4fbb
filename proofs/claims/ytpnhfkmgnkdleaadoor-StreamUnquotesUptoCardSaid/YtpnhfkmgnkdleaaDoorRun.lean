/-
  The walk kit of this repo, part 2: straight code by computation.
-/
import Derived.Test.YtpnhfkmgnkdleaaDoorCore
set_option linter.unusedVariables false
set_option linter.unusedSimpArgs false
namespace Go.Wk
open Go

def sameK (a b : IntKind) : Bool := decide (a = b)
def eqOp (tab : Tab) (t : Nat) (x y : Value) : Option Bool :=
  match tyAt tab t, x, y with
  | .bool, .bool a, .bool b => some (a == b)
  | .ptr _, .pointer none, .pointer none => some true
  | .ptr _, .pointer none, .pointer (some _) => some false
  | .ptr _, .pointer (some _), .pointer none => some false
  | .slice _ _, .slice none _ _, .slice none _ _ => some true
  | .slice _ _, .slice none _ _, .slice (some _) _ _ => some false
  | .slice _ _, .slice (some _) _ _, .slice none _ _ => some false
  | _, _, _ => none

theorem equal_eq (t : TypeId) (x y : Value) : Op.equal t x y = Op.equalIn (9999 + 1) t x y := rfl
theorem eqOp_ok {P : Program} {tab : Tab} (hT : TabOk P tab) {t : Nat} {x y : Value} {b : Bool} (h : eqOp tab t x y = some b) (w : World) :
    (Op.equal t x y).run P w = .ok b w ∧ (∀ (o : BinOp) (p q : Operand), (eqGuard o t p q x y).run P w = .ok () w) ∧
    binOp .eql t x y = (do pure (.bool (← Op.equal t x y))) ∧ binOp .neq t x y = (do pure (.bool (!(← Op.equal t x y)))) := by
  unfold eqOp at h
  have pu : ∀ {α : Type} (a : α), Sem.run P (pure a : Sem α) w = .ok a w := fun a => rfl
  split at h <;> (first | (cases h; done) | skip) <;> rename_i hty <;> simp only [Option.some.injEq] at h <;> subst h
  · refine ⟨?_, fun o p q => ?_, rfl, rfl⟩
    · rw [equal_eq, Op.equalIn]; exact (run_bind (run_underlying' (ty_bool hT hty)))
    · cases o <;> rfl
  all_goals
    refine ⟨?_, fun o p q => by cases o <;> rfl, rfl, rfl⟩
    rw [equal_eq, Op.equalIn]
    first
      | exact (run_bind (run_underlying' (ty_ptr hT hty)))
      | exact (run_bind (run_underlying' (ty_slice hT hty).1))

def divOp (op : BinOp) (k : IntKind) (x : Int) : Int → Option Value
  | .ofNat 0 => none
  | y => match op with
    | .quo => some (.int k (k.wrap (x.tdiv y)))
    | .rem => some (.int k (x.tmod y))
    | _ => none
def shOp (op : BinOp) (k : IntKind) (x : Int) : Int → Option Value
  | .ofNat n => match Nat.ble n k.bits with
    | true => match op with
      | .shl => some (.int k (k.wrap (x * 2 ^ n)))
      | .shr => some (.int k (x.fdiv (2 ^ n)))
      | _ => none
    | false => none
  | .negSucc _ => none
def binV (tab : Tab) (op : BinOp) (t : Nat) : Value → Value → Option Value
  | .int k x, .int k' y =>
    match op with
    | .shl => shOp .shl k x y
    | .shr => shOp .shr k x y
    | .quo => none
    | .rem => none
    | o => match sameK k k' with | true => intOp o k x y | false => none
  | .string x, .string y => strOp op x y
  | x, y => match op with
    | .eql => match eqOp tab t x y with | some true => some (.bool true) | some false => some (.bool false) | none => none
    | .neq => match eqOp tab t x y with | some true => some (.bool false) | some false => some (.bool true) | none => none
    | _ => none

theorem divOp_ok {op : BinOp} {k : IntKind} {x y : Int} {v : Value} (h : divOp op k x y = some v) (t : TypeId) : binOp op t (.int k x) (.int k y) = Sem.pure v := by
  unfold divOp at h
  split at h
  · cases h
  · rename_i hy
    have hy0 : y ≠ 0 := fun e => by subst e; exact hy rfl
    cases op <;> simp at h <;> subst h <;> simp [binOp, Op.intDiv, hy0] <;> rfl

theorem shOp_ok {op : BinOp} {k k' : IntKind} {x y : Int} {v : Value} (h : shOp op k x y = some v) (t : TypeId) : binOp op t (.int k x) (.int k' y) = Sem.pure v := by
  unfold shOp at h
  split at h
  · rename_i n
    split at h
    · rename_i hb
      have hn : n ≤ k.bits := Nat.le_of_ble_eq_true hb
      have hneg : ¬ (Int.ofNat n < 0) := by simp
      cases op <;> simp at h <;> subst h <;>
        (simp only [binOp, Op.shift]; rw [if_neg hneg]; simp [Nat.min_eq_left hn]; rfl)
    · cases h
  · cases h

theorem binV_ok {P : Program} {tab : Tab} (hT : TabOk P tab) {op : BinOp} {t : Nat} {x y v : Value} (h : binV tab op t x y = some v) (w : World) (p q : Operand) :
    ((do eqGuard op t p q x y; binOp op t x y) : Sem Value).run P w = .ok v w := by
  have g0 : ∀ (k k' : IntKind) (a b : Int), (eqGuard op t p q (.int k a) (.int k' b)).run P w = .ok () w := fun k k' a b => by cases op <;> rfl
  have gs : ∀ (a b : ByteArray), (eqGuard op t p q (.string a) (.string b)).run P w = .ok () w := fun a b => by cases op <;> rfl
  have hs : ∀ {k k' : IntKind}, sameK k k' = true → k = k' := fun h => of_decide_eq_true h
  unfold binV at h
  split at h
  · rename_i k a k' b
    refine (run_bind (g0 _ _ _ _)).trans ?_
    split at h
    · rw [shOp_ok h]; rfl
    · rw [shOp_ok h]; rfl
    · cases h
    · cases h
    · split at h
      · rename_i hk; cases hs hk; rw [intOp_ok h]; rfl
      · cases h
  · refine (run_bind (gs _ _)).trans ?_
    rw [strOp_ok h]; rfl
  · split at h
    · split at h
      · rename_i he; cases h; obtain ⟨h1, h2, h3, _⟩ := eqOp_ok hT he w
        refine (run_bind (h2 _ _ _)).trans ?_; rw [h3]; exact run_bind h1
      · rename_i he; cases h; obtain ⟨h1, h2, h3, _⟩ := eqOp_ok hT he w
        refine (run_bind (h2 _ _ _)).trans ?_; rw [h3]; exact run_bind h1
      · cases h
    · split at h
      · rename_i he; cases h; obtain ⟨h1, h2, _, h3⟩ := eqOp_ok hT he w
        refine (run_bind (h2 _ _ _)).trans ?_; rw [h3]; exact run_bind h1
      · rename_i he; cases h; obtain ⟨h1, h2, _, h3⟩ := eqOp_ok hT he w
        refine (run_bind (h2 _ _ _)).trans ?_; rw [h3]; exact run_bind h1
      · cases h
    · cases h

def unV (op : UnOp) : Value → Option Value
  | .int k n => match op with
    | .neg => some (.int k (k.wrap (0 - n)))
    | .xor => match k.signed with
      | true => some (.int k (bits .xor k (-1) n))
      | false => some (.int k (bits .xor k k.max n))
    | _ => none
  | .bool true => match op with | .not => some (.bool false) | _ => none
  | .bool false => match op with | .not => some (.bool true) | _ => none
  | _ => none
/-- `!b` of a bool that is not known -/
def unB (op : UnOp) : Value → Option Value
  | .bool b => match op with | .not => some (.bool (!b)) | _ => none
  | .int k n => match op with
    | .neg => some (.int k (k.wrap (0 - n)))
    | .xor => match k.signed with
      | true => some (.int k (bits .xor k (-1) n))
      | false => some (.int k (bits .xor k k.max n))
    | _ => none
  | _ => none
theorem unB_ok {op : UnOp} {x v : Value} (h : unB op x = some v) : Op.unary op x = Sem.pure v := by
  unfold unB at h
  split at h
  · cases op <;> first | (cases h; done) | (cases h; rfl)
  · rename_i k n
    cases op <;> simp only at h
    · cases h; rfl
    · split at h <;> rename_i hk <;> (cases h; simp [Op.unary, Op.intBits, bits, hk]; rfl)
    · cases h
    · cases h
  · cases h

def convV (tab : Tab) (s d : Nat) : Value → Option Value
  | .string b => match tyAt tab s, tyAt tab d with
    | .str, .str => some (.string b)
    | _, _ => none
  | _ => none
theorem convV_ok {P : Program} {tab : Tab} (hT : TabOk P tab) {s d : Nat} {x v : Value} (h : convV tab s d x = some v) (w : World) : (convert s d x).run P w = .ok v w := by
  unfold convV at h
  split at h
  · split at h
    · rename_i h1 h2
      cases h
      unfold convert
      refine (run_bind (run_underlying' (ty_str hT h1))).trans ?_
      exact (run_bind (run_underlying' (ty_str hT h2)))
    · cases h
  · cases h

def fieldA (tab : Tab) (t f : Nat) : Value → Option Value
  | .pointer (some a) => match tyAt tab t with
    | .struct fs => match nthF fs f with
      | some (off, s + 1, _) => some (.pointer (some (addA a off)))
      | _ => none
    | _ => none
  | _ => none
theorem fieldA_ok {P : Program} {tab : Tab} (hT : TabOk P tab) {t f : Nat} {x v : Value} (h : fieldA tab t f x = some v) (w : World) : (Instr.fieldAt t x f).run P w = .ok v w := by
  unfold fieldA at h
  split at h
  · rename_i a
    split at h
    · rename_i fs hty
      split at h
      · rename_i off s b hf
        cases h
        obtain ⟨fs', h1, h2⟩ := ty_struct hT hty
        rw [nthF_eq] at hf
        obtain ⟨fd, h3, h4, h5, h6⟩ := fieldsOf_get h2 hf
        unfold Instr.fieldAt
        refine (run_bind (run_underlying' h1)).trans ?_
        have h7 : fs'[f]? = some fd := by simpa using h3
        simp only [h7]
        show Sem.run P ((Sem.pure a).bind _) w = _
        simp only [Sem.bind]
        have hz : (fieldPlace a fd).run P w = .ok (addA a off) w := by
          unfold fieldPlace
          refine (run_bind (run_sizeOf h5)).trans ?_
          rw [if_neg (by omega), addA_eq, h4]; rfl
        exact run_bind hz
      · cases h
    · cases h
  · cases h

def fieldV (tab : Tab) (t f : Nat) : Value → Option Value
  | .agg ⟨l⟩ => match tyAt tab t with
    | .struct fs => match nthF fs f with
      | some (off, s, b) => partV l off s b
      | _ => none
    | _ => none
  | _ => none
theorem fieldV_ok {P : Program} {tab : Tab} (hT : TabOk P tab) {t f : Nat} {x v : Value} (h : fieldV tab t f x = some v) (w : World) : (Instr.field t x f).run P w = .ok v w := by
  unfold fieldV at h
  split at h
  · rename_i l
    split at h
    · rename_i fs hty
      split at h
      · rename_i off s b hf
        obtain ⟨fs', h1, h2⟩ := ty_struct hT hty
        rw [nthF_eq] at hf
        obtain ⟨fd, h3, h4, h5, h6⟩ := fieldsOf_get h2 hf
        unfold Instr.field
        refine (run_bind (run_underlying' h1)).trans ?_
        have h7 : fs'[f]? = some fd := by simpa using h3
        simp only [h7, asAgg]
        show Sem.run P ((Sem.pure _).bind _) w = _
        simp only [Sem.bind]
        rw [h4]; exact run_part h5 h6 h
      · cases h
    · cases h
  · cases h

def extrV (i : Nat) : Value → Option Value
  | .tuple ⟨l⟩ => nthV l i
  | _ => none
theorem extrV_ok {P : Program} {i : Nat} {x v : Value} (h : extrV i x = some v) (w : World) : (Instr.extract x i).run P w = .ok v w := by
  unfold extrV at h
  split at h
  · rename_i l
    rw [nthV_eq] at h
    have : (⟨l⟩ : Array Value)[i]? = some v := by simpa using h
    simp only [Instr.extract, this]; rfl
  · cases h

def lenV (tab : Tab) (t : Nat) : Value → Option Value
  | .string ⟨⟨l⟩⟩ => match tyAt tab t with | .str => some (.int .i64 (l.length : Int)) | _ => none
  | .slice _ n _ => match tyAt tab t with | .slice _ _ => some (.int .i64 (n : Int)) | _ => none
  | _ => none
theorem lenV_ok {P : Program} {tab : Tab} (hT : TabOk P tab) {t : Nat} {x v : Value} (h : lenV tab t x = some v) (w : World) (ty : TypeId) : (Builtin.len_ #[t] ty #[x]).run P w = .ok v w := by
  unfold lenV at h
  split at h
  · split at h
    · rename_i h1; cases h
      exact run_bind (run_underlying' (ty_str hT h1))
    · cases h
  · split at h
    · rename_i h1; cases h
      exact run_bind (run_underlying' (ty_slice hT h1).1)
    · cases h
  · cases h

def mnmx (b : Builtin) : Value → Value → Option Value
  | .int k x, .int k' y => match sameK k k', b with
    | true, .min => some (.int k (if y < x then y else x))
    | true, .max => some (.int k (if x < y then y else x))
    | _, _ => none
  | _, _ => none

def callV (tab : Tab) (env : Env) (c : Call) : Option Value :=
  match c with
  | ⟨.builtin .len, ⟨[x]⟩, ⟨[t]⟩⟩ => match ev env x with | some v => lenV tab t v | none => none
  | ⟨.builtin .min, ⟨[x, y]⟩, _⟩ => match ev env x, ev env y with | some v, some u => mnmx .min v u | _, _ => none
  | ⟨.builtin .max, ⟨[x, y]⟩, _⟩ => match ev env x, ev env y with | some v, some u => mnmx .max v u | _, _ => none
  | _ => none

def pureVal (tab : Tab) (env : Env) : Op → Option Value
  | .move x => ev env x
  | .assign x => ev env x
  | .pick c a b => match ev env c with
    | some (.bool true) => ev env a
    | some (.bool false) => ev env b
    | _ => none
  | .nilCheck x => match ev env x with
    | some (.pointer (some a)) => some (.pointer (some a))
    | _ => none
  | .binOp op t x y _ => match ev env x, ev env y with
    | some v, some u => binV tab op t v u
    | _, _ => none
  | .unOp op _ x => match ev env x with | some v => unB op v | none => none
  | .convert s d x => match ev env x with | some v => convV tab s d v | none => none
  | .fieldAddr t x f => match ev env x with | some v => fieldA tab t f v | none => none
  | .field t x f => match ev env x with | some v => fieldV tab t f v | none => none
  | .extract x i => match ev env x with | some v => extrV i v | none => none
  | .call c => callV tab env c
  | _ => none

theorem pureVal_ok {P : Program} {tab : Tab} (hT : TabOk P tab) {n : Nat} {a : Act} {env : Env} (hA : Ag n a env) {o : Oper} {v : Value} (h : pureVal tab env o.op = some v) (w : World) :
    (execOp a.eval o).run P w = .ok (.value v) w := by
  obtain ⟨dst, op, type, pos, after, guard⟩ := o
  simp only at h
  have pv : ∀ {s : Sem Value}, s.run P w = .ok v w → Sem.run P (do let y ← s; pure (Next.value y)) w = .ok (.value v) w := fun h => run_bind h
  unfold pureVal at h
  split at h
  · simp only [execOp, hA.ev h]; rfl
  · simp only [execOp, hA.ev h]; rfl
  · rename_i c x y
    split at h
    · rename_i hc
      simp only [execOp, hA.ev hc, hA.ev h]; rfl
    · rename_i hc
      simp only [execOp, hA.ev hc, hA.ev h]; rfl
    · cases h
  · split at h
    · rename_i hx; cases h
      simp only [execOp, hA.ev hx]; rfl
    · cases h
  · split at h
    · rename_i x y h1 h2
      simp only [execOp, hA.ev h1, hA.ev h2]
      exact pv (binV_ok hT h w _ _)
    · cases h
  · split at h
    · rename_i x h1
      simp only [execOp, hA.ev h1]
      exact pv (by rw [unB_ok h]; rfl)
    · cases h
  · split at h
    · rename_i x h1
      simp only [execOp, hA.ev h1]
      exact pv (convV_ok hT h w)
    · cases h
  · split at h
    · rename_i x h1
      simp only [execOp, hA.ev h1]
      exact pv (fieldA_ok hT h w)
    · cases h
  · split at h
    · rename_i x h1
      simp only [execOp, hA.ev h1]
      exact pv (fieldV_ok hT h w)
    · cases h
  · split at h
    · rename_i x h1
      simp only [execOp, hA.ev h1]
      exact pv (extrV_ok h w)
    · cases h
  · rename_i c
    unfold callV at h
    split at h
    · split at h
      · rename_i x h1
        have e := lenV_ok hT h w type
        simp only [execOp, resolve, List.map_toArray, List.map, hA.ev h1]
        exact pv e
      · cases h
    · split at h
      · rename_i x y h1 h2
        unfold mnmx at h
        split at h
        · split at h
          · rename_i hk _; have := of_decide_eq_true hk; subst this; cases h
            simp only [execOp, resolve, List.map_toArray, List.map, hA.ev h1, hA.ev h2]; rfl
          · rename_i hb; cases hb
          · cases h
        · cases h
      · cases h
    · split at h
      · rename_i x y h1 h2
        unfold mnmx at h
        split at h
        · split at h
          · rename_i hb; cases hb
          · rename_i hk _; have := of_decide_eq_true hk; subst this; cases h
            simp only [execOp, resolve, List.map_toArray, List.map, hA.ev h1, hA.ev h2]; rfl
          · cases h
        · cases h
      · cases h
    · cases h
  · cases h
end Go.Wk
