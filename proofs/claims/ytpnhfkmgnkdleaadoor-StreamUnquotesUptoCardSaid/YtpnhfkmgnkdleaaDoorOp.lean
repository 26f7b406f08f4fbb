/-
  The walk kit of this repo, part 6: the operations, one lemma each.
-/
import Derived.Test.YtpnhfkmgnkdleaaDoorMem
set_option linter.unusedVariables false
set_option linter.unusedSimpArgs false
namespace Go.Wk
open Go Go.Lib

/-- a type's zero value, its cells, its bytes -/
def Inf (P : Program) (e : TypeId) (z : Value) (size bytes : Nat) : Prop := ∃ i, P.info? e = some i ∧ i.zero = some z ∧ i.size = size ∧ i.bytes = bytes
theorem inf_of {P : Program} {e : TypeId} {z : Value} {size bytes : Nat} (h : (P.info? e).map (fun i => (i.zero, i.size, i.bytes)) = some (some z, size, bytes)) : Inf P e z size bytes := by
  simp only [Option.map_eq_some_iff, Prod.mk.injEq] at h
  obtain ⟨i, h1, h2, h3, h4⟩ := h
  exact ⟨i, h1, h2, h3, h4⟩

/-- in every world of a class, an operation yields this and leaves the world -/
def Yv (P : Program) (n : Nat) (env : Env) (C : World → Prop) (o : Oper) (v : Value) : Prop :=
  ∀ a, Ag n a env → ∀ w, C w → (execOp a.eval o).run P w = .ok (.value v) w

def lowK : IntKind → Int
  | .i8 => -128 | .i16 => -32768 | .i32 => -2147483648 | .i64 => -9223372036854775808 | _ => 0
def hiK : IntKind → Int
  | .i8 => 127 | .i16 => 32767 | .i32 => 2147483647 | .i64 => 9223372036854775807
  | .u8 => 255 | .u16 => 65535 | .u32 => 4294967295 | .u64 => 18446744073709551615
theorem wrapK {k : IntKind} {x : Int} (h : lowK k ≤ x ∧ x ≤ hiK k) : k.wrap x = x := by
  obtain ⟨h1, h2⟩ := h
  cases k <;> simp only [lowK, hiK] at h1 h2 <;> simp [IntKind.wrap, IntKind.signed, IntKind.bits] <;> omega

def arithV (op : BinOp) (x y : Int) : Option Int :=
  match op with
  | .add => some (x + y)
  | .sub => some (x - y)
  | .mul => some (x * y)
  | _ => none

section
variable {P : Program} {n : Nat} {env : Env} {C : World → Prop} {tab : Tab} {ty : TypeId} {ps : String} {af : Array Edge} {g : Option (Nat × Bool)} {d : Option Nat}

theorem y_load {t : TypeId} {x : Operand} {p : Addr} {v : Value} (hT : TabOk P tab) (hx : ev env x = some (.pointer (some p))) (hag : aggT (tyAt tab t) = some false) (hc : ∀ w, C w → w.cell? p = some v) :
    Yv P n env C ⟨d, .load t x, ty, ps, af, g⟩ v := fun a hA w hw => by
  simp only [execOp, hA.ev hx]
  refine run_bind (a := v) (w' := w) ?_
  unfold Instr.loadAt
  show Sem.run P ((Sem.pure p).bind _) w = _
  simp only [Sem.bind, loadVar]
  refine (run_bind (run_isAgg (ty_agg hT hag))).trans ?_
  simp only [Bool.false_eq_true, if_false]
  show Sem.run P (Sem.load .plain p Sem.pure) w = _
  simp only [Sem.run, hc w hw]

theorem y_loadAgg {t : TypeId} {x : Operand} {p : Addr} {l : List Value} (hT : TabOk P tab) (hx : ev env x = some (.pointer (some p))) (hag : aggT (tyAt tab t) = some true) (hs : szAt tab t = l.length)
    (hc : ∀ w, C w → Cs w (some p) l) : Yv P n env C ⟨d, .load t x, ty, ps, af, g⟩ (.agg ⟨l⟩) := fun a hA w hw => by
  simp only [execOp, hA.ev hx]
  refine run_bind (a := Value.agg ⟨l⟩) (w' := w) ?_
  unfold Instr.loadAt
  show Sem.run P ((Sem.pure p).bind _) w = _
  simp only [Sem.bind, loadVar]
  refine (run_bind (run_isAgg (ty_agg hT hag))).trans ?_
  simp only [if_true]
  refine (run_bind (run_sizeOf (ty_size hT hag hs))).trans ?_
  have := run_loadCells_list (P := P) w p l (fun j v hj => by
    obtain ⟨b, o, e, hcc⟩ := hc w hw j v hj
    cases e
    rw [Addr.add_lit]; exact hcc)
  exact run_bind this

theorem y_index {t : TypeId} {x y : Operand} {s : List UInt8} {kd : IntKind} {i : Int} (hT : TabOk P tab) (hx : ev env x = some (.string (sOf s))) (hy : ev env y = some (.int kd i)) (hty : tyAt tab t = .str) (h0 : 0 ≤ i) (h1 : i < s.length) :
    Yv P n env C ⟨d, .index t x y, ty, ps, af, g⟩ (bv (s.getD i.toNat 0)) := fun a hA w hw => by
  simp only [execOp, hA.ev hx, hA.ev hy]
  refine run_bind (a := bv (s.getD i.toNat 0)) (w' := w) ?_
  unfold Instr.index
  show Sem.run P ((Sem.pure (kd, i)).bind _) w = _
  simp only [Sem.bind]
  refine (run_bind (run_underlying' (ty_str hT hty))).trans ?_
  have hlt : i.toNat < s.length := by omega
  have : (if 0 ≤ i then (sOf s)[i.toNat]? else none) = some (s.getD i.toNat 0) := by
    rw [if_pos h0]
    have h2 : i.toNat < (sOf s).size := hlt
    rw [getElem?_pos (sOf s) i.toNat h2]
    simp only [List.getD_eq_getElem?_getD, List.getElem?_eq_getElem hlt, Option.getD_some]
    rfl
  simp only [this]; rfl

theorem y_indexA {t : TypeId} {x y : Operand} {cs : List Value} {kd : IntKind} {i : Int} {len e s : Nat} {b : Bool} {v : Value}
    (hT : TabOk P tab) (hx : ev env x = some (.agg ⟨cs⟩)) (hy : ev env y = some (.int kd i)) (hty : tyAt tab t = .arr len e s b) (h0 : 0 ≤ i) (h1 : i < len)
    (hv : partV cs (i.toNat * s) s b = some v) : Yv P n env C ⟨d, .index t x y, ty, ps, af, g⟩ v := fun a hA w hw => by
  simp only [execOp, hA.ev hx, hA.ev hy]
  refine run_bind (a := v) (w' := w) ?_
  unfold Instr.index
  show Sem.run P ((Sem.pure (kd, i)).bind _) w = _
  simp only [Sem.bind]
  obtain ⟨h2, h3, h4⟩ := ty_arr hT hty
  refine (run_bind (run_underlying' h2)).trans ?_
  simp only []
  rw [if_pos ⟨h0, h1⟩]
  refine (run_bind (run_sizeOf h3)).trans ?_
  exact run_part h3 h4 hv

theorem guard_int {op : BinOp} {t : TypeId} {p q : Operand} {k k' : IntKind} {a b : Int} {w : World} : (eqGuard op t p q (.int k a) (.int k' b)).run P w = .ok () w := by cases op <;> rfl

theorem y_arith {op : BinOp} {t t' : TypeId} {x y : Operand} {kd : IntKind} {a b r : Int} (hx : ev env x = some (.int kd a)) (hy : ev env y = some (.int kd b)) (hr : arithV op a b = some r) (h1 : lowK kd ≤ r ∧ r ≤ hiK kd) :
    Yv P n env C ⟨d, .binOp op t x y t', ty, ps, af, g⟩ (.int kd r) := fun c hA w hw => by
  simp only [execOp, hA.ev hx, hA.ev hy]
  refine run_bind (a := Value.int kd r) (w' := w) ?_
  have e := wrapK h1
  refine (run_bind (a := ()) (w' := w) guard_int).trans ?_
  cases op <;> simp only [arithV] at hr <;> first | (cases hr; done) | (cases hr; simp [binOp, Op.intArith, e])
theorem y_arithW {op : BinOp} {t t' : TypeId} {x y : Operand} {kd : IntKind} {a b r : Int} (hx : ev env x = some (.int kd a)) (hy : ev env y = some (.int kd b)) (hr : arithV op a b = some r) :
    Yv P n env C ⟨d, .binOp op t x y t', ty, ps, af, g⟩ (.int kd (kd.wrap r)) := fun c hA w hw => by
  simp only [execOp, hA.ev hx, hA.ev hy]
  refine run_bind (a := Value.int kd (kd.wrap r)) (w' := w) ?_
  refine (run_bind (a := ()) (w' := w) guard_int).trans ?_
  cases op <;> simp only [arithV] at hr <;> first | (cases hr; done) | (cases hr; simp [binOp, Op.intArith])

/-- whole numbers of the same sign: Go's `/` and `%` are Lean's -/
theorem y_quo {t t' : TypeId} {x y : Operand} {kd : IntKind} {a b : Int} (hx : ev env x = some (.int kd a)) (hy : ev env y = some (.int kd b)) (h0 : 0 ≤ a) (hb : 0 < b) (h2 : a ≤ hiK kd) :
    Yv P n env C ⟨d, .binOp .quo t x y t', ty, ps, af, g⟩ (.int kd (a / b)) := fun c hA w hw => by
  simp only [execOp, hA.ev hx, hA.ev hy]
  refine run_bind (a := Value.int kd (a / b)) (w' := w) ?_
  refine (run_bind (a := ()) (w' := w) guard_int).trans ?_
  have h3 : 0 ≤ a / b := Int.ediv_nonneg h0 (by omega)
  have h4 : a / b ≤ a := Int.ediv_le_self _ h0
  have h5 : lowK kd ≤ 0 := by cases kd <;> decide
  have e : kd.wrap (a / b) = a / b := wrapK ⟨by omega, by omega⟩
  have e2 : a.tdiv b = a / b := by rw [Int.tdiv_eq_ediv_of_nonneg h0]
  simp [binOp, Op.intDiv, show ¬ b = 0 by omega, e2, e]
theorem y_rem {t t' : TypeId} {x y : Operand} {kd : IntKind} {a b : Int} (hx : ev env x = some (.int kd a)) (hy : ev env y = some (.int kd b)) (h0 : 0 ≤ a) (hb : 0 < b) :
    Yv P n env C ⟨d, .binOp .rem t x y t', ty, ps, af, g⟩ (.int kd (a % b)) := fun c hA w hw => by
  simp only [execOp, hA.ev hx, hA.ev hy]
  refine run_bind (a := Value.int kd (a % b)) (w' := w) ?_
  refine (run_bind (a := ()) (w' := w) guard_int).trans ?_
  have e2 : a.tmod b = a % b := by rw [Int.tmod_eq_emod_of_nonneg h0]
  simp [binOp, Op.intDiv, show ¬ b = 0 by omega, e2]
/-- whatever the signs -/
theorem y_remT {t t' : TypeId} {x y : Operand} {kd : IntKind} {a b : Int} (hx : ev env x = some (.int kd a)) (hy : ev env y = some (.int kd b)) (hb : b ≠ 0) :
    Yv P n env C ⟨d, .binOp .rem t x y t', ty, ps, af, g⟩ (.int kd (a.tmod b)) := fun c hA w hw => by
  simp only [execOp, hA.ev hx, hA.ev hy]
  refine run_bind (a := Value.int kd (a.tmod b)) (w' := w) ?_
  refine (run_bind (a := ()) (w' := w) guard_int).trans ?_
  simp [binOp, Op.intDiv, hb]
/-- a shift by a count that is no constant -/
theorem y_shl {t t' : TypeId} {x y : Operand} {k k' : IntKind} {a b : Int} (hx : ev env x = some (.int k a)) (hy : ev env y = some (.int k' b)) (h0 : 0 ≤ b) (h1 : b ≤ k.bits) :
    Yv P n env C ⟨d, .binOp .shl t x y t', ty, ps, af, g⟩ (.int k (k.wrap (a * 2 ^ b.toNat))) := fun c hA w hw => by
  simp only [execOp, hA.ev hx, hA.ev hy]
  refine run_bind (a := Value.int k (k.wrap (a * 2 ^ b.toNat))) (w' := w) ?_
  refine (run_bind (a := ()) (w' := w) guard_int).trans ?_
  simp only [binOp, Op.shift]
  rw [if_neg (by omega)]
  simp only [Nat.min_eq_left (show b.toNat ≤ k.bits by omega)]; rfl
theorem y_shr {t t' : TypeId} {x y : Operand} {k k' : IntKind} {a b : Int} (hx : ev env x = some (.int k a)) (hy : ev env y = some (.int k' b)) (h0 : 0 ≤ b) (h1 : b ≤ k.bits) :
    Yv P n env C ⟨d, .binOp .shr t x y t', ty, ps, af, g⟩ (.int k (a.fdiv (2 ^ b.toNat))) := fun c hA w hw => by
  simp only [execOp, hA.ev hx, hA.ev hy]
  refine run_bind (a := Value.int k (a.fdiv (2 ^ b.toNat))) (w' := w) ?_
  refine (run_bind (a := ()) (w' := w) guard_int).trans ?_
  simp only [binOp, Op.shift]
  rw [if_neg (by omega)]
  simp only [Nat.min_eq_left (show b.toNat ≤ k.bits by omega)]; rfl

theorem y_conv {s t : TypeId} {x : Operand} {k k' : IntKind} {a : Int} (hT : TabOk P tab) (hx : ev env x = some (.int k a)) (hs : tyAt tab s = .int k) (ht : tyAt tab t = .int k') (h : lowK k' ≤ a ∧ a ≤ hiK k') :
    Yv P n env C ⟨d, .convert s t x, ty, ps, af, g⟩ (.int k' a) := fun c hA w hw => by
  simp only [execOp, hA.ev hx]
  refine run_bind (a := Value.int k' a) (w' := w) ?_
  unfold convert
  refine (run_bind (run_underlying' (ty_int hT hs))).trans ?_
  refine (run_bind (run_underlying' (ty_int hT ht))).trans ?_
  simp only [Conv.intToInt, wrapK h]; rfl

theorem byte_lt (b : UInt8) : (b.toNat : Int) < 256 := by have := b.toNat_lt; omega
def fits8 : IntKind → Bool
  | .i8 => false
  | _ => true
theorem y_convB {s t : TypeId} {x : Operand} {k2 : IntKind} {b : UInt8} (hT : TabOk P tab) (hx : ev env x = some (bv b)) (hs : tyAt tab s = .int .u8) (ht : tyAt tab t = .int k2) (h : fits8 k2 = true) :
    Yv P n env C ⟨d, .convert s t x, ty, ps, af, g⟩ (.int k2 (b.toNat : Int)) :=
  y_conv hT hx hs ht (by have := byte_lt b; cases k2 <;> first | (cases h; done) | (simp only [lowK, hiK]; omega))
theorem y_convW {s t : TypeId} {x : Operand} {k k' : IntKind} {a : Int} (hT : TabOk P tab) (hx : ev env x = some (.int k a)) (hs : tyAt tab s = .int k) (ht : tyAt tab t = .int k') :
    Yv P n env C ⟨d, .convert s t x, ty, ps, af, g⟩ (.int k' (k'.wrap a)) := fun c hA w hw => by
  simp only [execOp, hA.ev hx]
  refine run_bind (a := Value.int k' (k'.wrap a)) (w' := w) ?_
  unfold convert
  refine (run_bind (run_underlying' (ty_int hT hs))).trans ?_
  exact (run_bind (run_underlying' (ty_int hT ht)))
theorem y_concat {t t' : TypeId} {x y : Operand} {s u : List UInt8} (hx : ev env x = some (.string (sOf s))) (hy : ev env y = some (.string (sOf u))) (h : s.length + u.length ≤ 9223372036854775807) :
    Yv P n env C ⟨d, .binOp .add t x y t', ty, ps, af, g⟩ (.string (sOf (s ++ u))) := fun c hA w hw => by
  simp only [execOp, hA.ev hx, hA.ev hy]
  refine run_bind (a := Value.string (sOf (s ++ u))) (w' := w) ?_
  refine (run_bind (a := ()) (w' := w) rfl).trans ?_
  show Sem.run P (Op.stringOp .add (sOf s) (sOf u)) w = _
  rw [run_string_add_sum (P := P) w (sOf s) (sOf u) h]
  have : sOf s ++ sOf u = sOf (s ++ u) := by
    apply ByteArray.ext
    simp
  rw [this]

/-- a bound of a slice expression, or what stands for it -/
def bnd (env : Env) (dflt : Int) : Option Operand → Option Int
  | none => some dflt
  | some x => match ev env x with
    | some (.int _ i) => some i
    | _ => none
theorem bnd_some {env : Env} {dflt : Int} {x : Operand} {i : Int} (h : bnd env dflt (some x) = some i) : ∃ k, ev env x = some (.int k i) := by
  simp only [bnd] at h
  split at h
  · rename_i k j hx; cases h; exact ⟨k, hx⟩
  · cases h
theorem run_bound {w : World} {k : IntKind} {i : Int} {y : Nat} (h0 : 0 ≤ i) (h1 : i ≤ y) (code : BoundsCode) : (Instr.sliceBound (.int k i) y code).run P w = .ok i.toNat w := by
  unfold Instr.sliceBound
  show Sem.run P ((Sem.pure (k, i)).bind _) w = _
  simp only [Sem.bind]
  rw [if_pos ⟨h0, h1⟩]; rfl
theorem run_bounds {env : Env} {a : Act} (hA : Ag n a env) {w : World} {isS : Bool} {len cap : Nat} {lo hi : Option Operand} {i j : Int}
    (hi' : bnd env (len : Nat) hi = some j) (hlo : bnd env (0 : Nat) lo = some i) (h0 : 0 ≤ i) (h1 : i ≤ j) (h2 : j ≤ cap) :
    (Instr.sliceBounds isS len cap (lo.map a.eval) (hi.map a.eval) none).run P w = .ok (i.toNat, j.toNat, cap) w := by
  unfold Instr.sliceBounds
  refine (run_bind (a := cap) (w' := w) rfl).trans ?_
  have low : ∀ (h : Nat), h = j.toNat → ((match lo.map a.eval with | some v => Instr.sliceBound v h (if (none : Option Value).isSome = true then .slice3C else .sliceB) | none => pure 0) : Sem Nat).run P w = .ok i.toNat w := by
    intro h hh
    subst hh
    cases lo with
    | none =>
      simp only [bnd, Option.some.injEq] at hlo
      subst hlo; rfl
    | some x =>
      obtain ⟨k, hx⟩ := bnd_some hlo
      simp only [Option.map_some, hA.ev hx]
      exact run_bound h0 (by omega) _
  cases hi with
  | none =>
    simp only [bnd, Option.some.injEq] at hi'
    simp only [Option.map_none]
    refine (run_bind (a := len) (w' := w) rfl).trans ?_
    have := low len (by omega)
    have hj : j.toNat = len := by omega
    cases lo with
    | none => rw [hj]; exact run_bind this
    | some x => rw [hj]; exact run_bind this
  | some y =>
    obtain ⟨k, hy⟩ := bnd_some hi'
    simp only [Option.map_some, hA.ev hy]
    refine (run_bind (run_bound (by omega) h2 _)).trans ?_
    have := low j.toNat rfl
    cases lo with
    | none => exact run_bind this
    | some x => exact run_bind this

theorem y_sliceStr {t : TypeId} {x : Operand} {lo hi : Option Operand} {s : List UInt8} {i j : Int} (hT : TabOk P tab) (hx : ev env x = some (.string (sOf s))) (hty : tyAt tab t = .str)
    (hi' : bnd env (s.length : Nat) hi = some j) (hlo : bnd env (0 : Nat) lo = some i) (h0 : 0 ≤ i) (h1 : i ≤ j) (h2 : j ≤ s.length) :
    Yv P n env C ⟨d, .slice t x lo hi none, ty, ps, af, g⟩ (.string (sOf ((s.take j.toNat).drop i.toNat))) := fun a hA w hw => by
  simp only [execOp, hA.ev hx]
  refine run_bind (a := Value.string (sOf ((s.take j.toNat).drop i.toNat))) (w' := w) ?_
  unfold Instr.sliceAt
  refine (run_bind (run_underlying' (ty_str hT hty))).trans ?_
  simp only [Instr.slice]
  refine (run_bind (run_underlying' (ty_str hT hty))).trans ?_
  simp only [Option.map_none, Option.isSome_none, Bool.false_eq_true, if_false]
  refine (run_bind (run_bounds (len := (sOf s).size) (cap := (sOf s).size) hA hi' hlo h0 h1 h2)).trans ?_
  have : (sOf s).extract i.toNat j.toNat = sOf ((s.take j.toNat).drop i.toNat) := by
    apply ByteArray.ext
    simp
    rw [List.drop_take]
  show Sem.run P (pure (Value.string ((sOf s).extract i.toNat j.toNat))) w = _
  rw [this]; rfl

/-- the address of a cut -/
def cutA (sz l m : Nat) (A : Option Addr) : Option Addr := if m = l then A else A.map (·.add (l * sz))
theorem y_slice {t e sz : Nat} {x : Operand} {lo hi : Option Operand} {A : Option Addr} {len cap : Nat} {i j : Int} (hT : TabOk P tab) (hx : ev env x = some (.slice A len cap)) (hty : tyAt tab t = .slice e sz)
    (hi' : bnd env (len : Nat) hi = some j) (hlo : bnd env (0 : Nat) lo = some i) (h0 : 0 ≤ i) (h1 : i ≤ j) (h2 : j ≤ cap) :
    Yv P n env C ⟨d, .slice t x lo hi none, ty, ps, af, g⟩ (.slice (cutA sz i.toNat cap A) (j.toNat - i.toNat) (cap - i.toNat)) := fun a hA w hw => by
  simp only [execOp, hA.ev hx]
  refine run_bind (a := Value.slice (cutA sz i.toNat cap A) (j.toNat - i.toNat) (cap - i.toNat)) (w' := w) ?_
  unfold Instr.sliceAt
  obtain ⟨ht, hs⟩ := ty_slice hT hty
  refine (run_bind (run_underlying' ht)).trans ?_
  simp only [Instr.slice]
  refine (run_bind (run_underlying' ht)).trans ?_
  simp only [Option.map_none]
  refine (run_bind (run_bounds hA hi' hlo h0 h1 h2)).trans ?_
  exact (run_bind (run_sizeOf hs)).trans rfl

theorem y_indexAddr {t e sz : Nat} {x y : Operand} {b o len cap : Nat} {kd : IntKind} {i : Int} (hT : TabOk P tab) (hx : ev env x = some (.slice (some ⟨b, o, none⟩) len cap)) (hy : ev env y = some (.int kd i)) (hty : tyAt tab t = .slice e sz)
    (h0 : 0 ≤ i) (h1 : i < len) : Yv P n env C ⟨d, .indexAddr t x y, ty, ps, af, g⟩ (.pointer (some ⟨b, o + i.toNat * sz, none⟩)) := fun a hA w hw => by
  simp only [execOp, hA.ev hx, hA.ev hy]
  refine run_bind (a := Value.pointer (some ⟨b, o + i.toNat * sz, none⟩)) (w' := w) ?_
  obtain ⟨ht, hs⟩ := ty_slice hT hty
  unfold Instr.indexAt
  show Sem.run P ((Sem.pure (kd, i)).bind _) w = _
  simp only [Sem.bind]
  refine (run_bind (run_underlying' ht)).trans ?_
  simp only []
  refine (run_bind (a := (some (⟨b, o, none⟩ : Addr), len, e)) (w' := w) rfl).trans ?_
  refine (run_bind (run_underlying' ht)).trans ?_
  simp only []
  rw [if_pos ⟨h0, h1⟩]
  refine (run_bind (run_sizeOf hs)).trans ?_
  have : (⟨b, o, none⟩ : Addr).add (i.toNat * sz) = ⟨b, o + i.toNat * sz, none⟩ := Addr.add_lit ..
  rw [this]; rfl

/-- a struct or an array built: the parts in any order; shown by a run that asks nothing of the world -/
def evPairs (env : Env) : List (Nat × Operand) → Option (List (Nat × Value))
  | [] => some []
  | (i, x) :: r => match ev env x, evPairs env r with
    | some v, some l => some ((i, v) :: l)
    | _, _ => none
theorem evPairs_ok {env : Env} {a : Act} (hA : Ag n a env) : ∀ {l : List (Nat × Operand)} {vs : List (Nat × Value)}, evPairs env l = some vs → l.map (fun x => (x.1, a.eval x.2)) = vs
  | [], vs, h => by cases h; rfl
  | (i, x) :: r, vs, h => by
    simp only [evPairs] at h
    split at h
    · rename_i v l h1 h2
      cases h
      simp only [List.map_cons, hA.ev h1, evPairs_ok hA h2]
    · cases h
theorem y_build {t : TypeId} {parts : List (Nat × Operand)} {v : Value} {vs : List (Nat × Value)} (hvs : evPairs env parts = some vs) (hrun : ∀ w, (Instr.build t ⟨vs⟩).run P w = .ok v w) :
    Yv P n env C ⟨d, .build t ⟨parts⟩, ty, ps, af, g⟩ v := fun a hA w hw => by
  have e1 : (⟨parts⟩ : Array (Nat × Operand)).map (fun x => (x.1, a.eval x.2)) = ⟨vs⟩ := by
    have := evPairs_ok hA hvs
    simpa using this
  have e2 : (⟨parts⟩ : Array (Nat × Operand)).map (fun x => match x with | (i, x) => (i, a.eval x)) = ⟨vs⟩ := e1
  simp only [execOp]
  rw [e2]
  exact run_bind (hrun w)

theorem strOfNums_bytes (l : List UInt8) : strOfNums (l.map fun b => (b.toNat : Int)) = sOf l := by
  unfold strOfNums
  congr 1
  simp [Function.comp_def]
theorem y_strOf {s t e : TypeId} {sz : Nat} {x : Operand} {A : Option Addr} {cap : Nat} {l : List UInt8} (hT : TabOk P tab) (hx : ev env x = some (.slice A l.length cap)) (hs : tyAt tab s = .slice e sz) (he : tyAt tab e = .int .u8) (ht : tyAt tab t = .str)
    (hc : ∀ w, C w → Cs w A (l.map bv)) : Yv P n env C ⟨d, .convert s t x, ty, ps, af, g⟩ (.string (sOf l)) := fun a hA w hw => by
  simp only [execOp, hA.ev hx]
  refine run_bind (a := Value.string (sOf l)) (w' := w) ?_
  obtain ⟨h1, h2⟩ := ty_slice hT hs
  cases A with
  | none =>
    have hl : l = [] := by
      cases l with
      | nil => rfl
      | cons b r =>
        obtain ⟨_, _, e1, _⟩ := hc w hw 0 (bv b) rfl
        cases e1
    subst hl
    exact run_convert_bytes_nil w s e h1 (ty_int hT he) 0 cap t (ty_str hT ht)
  | some ad =>
    by_cases hl : l = []
    · subst hl
      have h4 : (convert s t (.slice (some ad) 0 cap)).run P w = .ok (.string (sOf [])) w := by
        rw [run_convert_bytes_string w s t e _ 0 cap h1 (ty_int hT he) (ty_str hT ht), run_bytesToString w ad 0 cap [] (by simp [loadCells, loadCellsFrom])]
        rfl
      exact h4
    · have h0 : 0 < l.length := List.length_pos_iff.2 hl
      obtain ⟨b, o, e1, _⟩ := hc w hw 0 (bv l[0]) (by simp [h0])
      cases e1
      have := run_convert_bytes_arg (P := P) w s e h1 (ty_int hT he) b o l.length cap (l.map fun b => (b.toNat : Int)) (by simp) (fun i hi => by
        obtain ⟨b', o', e2, hcc⟩ := hc w hw i (bv l[i]) (by simp [hi])
        cases e2
        rw [hcc]
        simp [hi]) t (ty_str hT ht)
      rw [strOfNums_bytes] at this
      exact this
end

/-! ### as events -/
section
variable {P : Program} {fn : Func} {R : Ending → World → Prop} {n : Nat} {w : World}
theorem ev_y {k : List It} {env : Env} {L l : List Oper} {d : Nat} {op : Op} {ty : TypeId} {ps : String} {af : Array Edge} {g : Option (Nat × Bool)} {v : Value}
    (hg : guardOf L env g = some true) (hd : Nat.blt d n = true) (hy : Yv P n env (fun w' => w' = w) ⟨some d, op, ty, ps, af, g⟩ v)
    (hk : H P fn R n (.ops L l :: k) .normal ((d, v) :: env) w) : H P fn R n (.ops L (⟨some d, op, ty, ps, af, g⟩ :: l) :: k) .normal env w :=
  ev_op hg hd v w (fun a hA => hy a hA w rfl) hk
/-- a fact of this very world -/
theorem at_w {w : World} {φ : World → Prop} (h : φ w) : ∀ w', w' = w → φ w' := fun _ e => e ▸ h
theorem ev_load {k : List It} {env : Env} {L l : List Oper} {d : Nat} {t : TypeId} {x : Operand} {ty : TypeId} {ps : String} {af : Array Edge} {g : Option (Nat × Bool)} {tab : Tab} {p : Addr} {v : Value}
    (hg : guardOf L env g = some true) (hd : Nat.blt d n = true) (hT : TabOk P tab) (hx : ev env x = some (.pointer (some p))) (hag : aggT (tyAt tab t) = some false) (hc : w.cell? p = some v)
    (hk : H P fn R n (.ops L l :: k) .normal ((d, v) :: env) w) : H P fn R n (.ops L (⟨some d, .load t x, ty, ps, af, g⟩ :: l) :: k) .normal env w :=
  ev_y hg hd (y_load hT hx hag (at_w hc)) hk
/-- an operation that turns the world -/
theorem ev_w {k : List It} {env : Env} {L l : List Oper} {d : Nat} {op : Op} {ty : TypeId} {ps : String} {af : Array Edge} {g : Option (Nat × Bool)} {S : Value → World → Prop}
    (hg : guardOf L env g = some true) (hd : Nat.blt d n = true) (hy : ∃ v w', (∀ a, Ag n a env → (execOp a.eval ⟨some d, op, ty, ps, af, g⟩).run P w = .ok (.value v) w') ∧ S v w')
    (hk : ∀ v w', S v w' → H P fn R n (.ops L l :: k) .normal ((d, v) :: env) w') : H P fn R n (.ops L (⟨some d, op, ty, ps, af, g⟩ :: l) :: k) .normal env w := by
  obtain ⟨v, w', h1, h2⟩ := hy
  exact ev_op hg hd v w' h1 (hk v w' h2)

theorem ev_box {k : List It} {env : Env} {L l : List Oper} {d : Nat} {e : TypeId} {x : Operand} {ty : TypeId} {ps : String} {af : Array Edge} {g : Option (Nat × Bool)} {v : Value}
    (hg : guardOf L env g = some true) (hd : Nat.blt d n = true) (hx : ev env x = some v)
    (hk : ∀ b w', w.heap.size ≤ b → Blk w' b v.cells.toList e → Fr no w w' → H P fn R n (.ops L l :: k) .normal ((d, .pointer (some ⟨b, 0, none⟩)) :: env) w') :
    H P fn R n (.ops L (⟨some d, .box e x, ty, ps, af, g⟩ :: l) :: k) .normal env w :=
  ev_op hg hd (.pointer (some ⟨w.heap.size, 0, none⟩)) (w.alloc (.cells ⟨v.cells.toList⟩ e)) (fun a hA => by
    simp only [execOp, hA.ev hx]; rfl) (hk _ _ (Nat.le_refl _) (Blk.new _ _ _) (Fr.alloc _ _))
theorem ev_alloc {k : List It} {env : Env} {L l : List Oper} {d : Nat} {e : TypeId} {ty : TypeId} {ps : String} {af : Array Edge} {g : Option (Nat × Bool)} {z : Value} {s b : Nat}
    (hg : guardOf L env g = some true) (hd : Nat.blt d n = true) (hz : Inf P e z s b)
    (hk : ∀ b w', w.heap.size ≤ b → Blk w' b z.cells.toList e → Fr no w w' → H P fn R n (.ops L l :: k) .normal ((d, .pointer (some ⟨b, 0, none⟩)) :: env) w') :
    H P fn R n (.ops L (⟨some d, .alloc e, ty, ps, af, g⟩ :: l) :: k) .normal env w :=
  ev_op hg hd (.pointer (some ⟨w.heap.size, 0, none⟩)) (w.alloc (.cells ⟨z.cells.toList⟩ e)) (fun a hA => by
    obtain ⟨i, hi, hz, _, _⟩ := hz
    simp only [execOp]
    refine run_bind (a := Value.pointer (some ⟨w.heap.size, 0, none⟩)) ?_
    unfold Instr.alloc
    refine (run_bind (a := z) (w' := w) ?_).trans rfl
    unfold zeroValue
    refine (run_bind (run_typeInfo hi)).trans ?_
    rw [hz]; rfl) (hk _ _ (Nat.le_refl _) (Blk.new _ _ _) (Fr.alloc _ _))

theorem blt_of {a b : Nat} (h : a < b) : Nat.blt a b = true := Nat.ble_eq_true_of_le h
/-- a store of one cell into a block that is known -/
theorem ev_store {k : List It} {env : Env} {L l : List Oper} {t : TypeId} {x y : Operand} {ty : TypeId} {ps : String} {af : Array Edge} {g : Option (Nat × Bool)} {tab : Tab} {b o : Nat} {v : Value} {cs : List Value} {e : TypeId}
    (hT : TabOk P tab) (hg : guardOf L env g = some true) (hx : ev env x = some (.pointer (some ⟨b, o, none⟩))) (hy : ev env y = some v) (hag : aggT (tyAt tab t) = some false) (hs : szAt tab t = 1) (hv : v.oneCell' = true)
    (hb : Blk w b cs e) (ho : Nat.blt o cs.length = true)
    (hk : ∀ w', Blk w' b (setV cs o v) e → Fr (fun c => c = b) w w' → H P fn R n (.ops L l :: k) .normal env w') :
    H P fn R n (.ops L (⟨none, .store t x y, ty, ps, af, g⟩ :: l) :: k) .normal env w :=
  ev_do hg (w.setCell ⟨b, o, none⟩ v) (fun a hA => by
    simp only [execOp, hA.ev hx, hA.ev hy]
    refine run_bind (a := ()) (w' := w.setCell ⟨b, o, none⟩ v) ?_
    unfold Instr.storeAt
    show Sem.run P ((Sem.pure _).bind _) w = _
    simp only [Sem.bind, storeVar]
    refine (run_bind (run_sizeOf (ty_size hT hag hs))).trans ?_
    have hc : v.cells = #[v] := by cases v <;> first | rfl | (simp [Value.oneCell'] at hv)
    have ho' : o < cs.length := Nat.le_of_ble_eq_true ho
    simp only [hc, List.size_toArray, List.length_singleton, ne_eq, not_true_eq_false, if_false, storeCells]
    refine (run_bind (a := ()) (w' := w.setCell ⟨b, o, none⟩ v) ?_).trans rfl
    rw [run_store P w _ v .plain hv]
    have e1 : (⟨b, o, none⟩ : Addr).add 0 = ⟨b, o, none⟩ := rfl
    simp only [e1, hb.cell (o := o) (v := cs[o]) (by rw [nthV_eq]; simp [ho']), hb.frozen o]
    rfl) (hk _ (hb.set o v) (Fr.setCell w ⟨b, o, none⟩ v))

/-- parts of a literal, in their order -/
def evParts (env : Env) : Nat → List (Nat × Operand) → Option (List Value)
  | _, [] => some []
  | k, (i, x) :: r => match Nat.beq i k, ev env x, evParts env (k + 1) r with
    | true, some v, some l => some (v :: l)
    | _, _, _ => none
theorem evParts_ok {env : Env} {a : Act} (hA : Ag n a env) : ∀ {l : List (Nat × Operand)} {k : Nat} {vs : List Value}, evParts env k l = some vs →
    l.map (fun x => (x.1, a.eval x.2)) = (List.range' k vs.length).zip vs
  | [], k, vs, h => by cases h; rfl
  | (i, x) :: r, k, vs, h => by
    simp only [evParts] at h
    split at h
    · rename_i v l h1 h2 h3
      cases h
      have hi := Nat.eq_of_beq_eq_true h1
      subst hi
      simp only [List.map_cons, hA.ev h2, evParts_ok hA h3, List.length_cons, List.range'_succ, List.zip_cons_cons]
    · cases h
def flatV (vs : List Value) : List Value := vs.flatMap fun v => v.cells.toList
theorem fill_one (size off : Nat) : ∀ (l : List Value) (j : Nat) (cs : List Value), off + j + l.length ≤ cs.length →
    ((l.zipIdx j).foldl (fun (cs : Array Value) (x : Value × Nat) => cs.setIfInBounds (off + x.2) x.1) cs.toArray) = (cs.take (off + j) ++ l ++ cs.drop (off + j + l.length)).toArray
  | [], j, cs, h => by simp
  | v :: l, j, cs, h => by
    simp only [List.zipIdx_cons, List.foldl_cons, List.length_cons] at h ⊢
    have e : (cs.toArray.setIfInBounds (off + j) v) = (cs.set (off + j) v).toArray := by simp
    rw [e, fill_one size off l (j + 1) (cs.set (off + j) v) (by simp; omega)]
    congr 1
    have h1 : off + j < cs.length := by omega
    rw [show off + (j + 1) = off + j + 1 by omega]
    have e1 : (cs.set (off + j) v).take (off + j + 1) = cs.take (off + j) ++ [v] := by
      rw [List.take_succ_eq_append_getElem (by simpa using h1), List.take_set_of_le (Nat.le_refl _)]
      simp
    rw [e1, List.drop_set_of_lt (by omega)]
    simp only [List.append_assoc, List.singleton_append]
    rw [show off + j + 1 + l.length = off + j + (l.length + 1) by omega]
theorem fill_all (size : Nat) : ∀ (vs : List Value) (k : Nat) (cs : List Value), (∀ v ∈ vs, v.cells.size = size) → cs.length = (k + vs.length) * size →
    Instr.fill (fun i => some (i * size, size)) cs.toArray ((List.range' k vs.length).zip vs) = some (cs.take (k * size) ++ flatV vs).toArray
  | [], k, cs, _, hl => by
    have : cs.take (k * size) = cs := List.take_of_length_le (by simp at hl; omega)
    simp [Instr.fill, flatV, this]
  | v :: vs, k, cs, hv, hl => by
    have h1 : v.cells.size = size := hv v (by simp)
    have hlen : (k + (vs.length + 1)) * size = k * size + size + vs.length * size := by rw [Nat.add_mul, Nat.add_mul]; omega
    simp only [List.length_cons] at hl
    have hroom : k * size + size ≤ cs.length := by rw [hl, hlen]; omega
    simp only [List.length_cons, List.range'_succ, List.zip_cons_cons, Instr.fill, h1]
    have hcond : ¬ (k * size + size > cs.toArray.size) := by simpa using hroom
    simp only [ne_eq, not_true_eq_false, decide_false, Bool.false_or, decide_eq_true_eq, if_neg hcond]
    have e := fill_one size (k * size) v.cells.toList 0 cs (by simp [h1]; omega)
    have e2 : Array.foldl (fun (cs : Array Value) (x : Value × Nat) => cs.setIfInBounds (k * size + x.2) x.1) cs.toArray v.cells.zipIdx = (cs.take (k * size + 0) ++ v.cells.toList ++ cs.drop (k * size + 0 + v.cells.toList.length)).toArray := by
      rw [← e, ← Array.foldl_toList]
      simp
    have e3 : (Array.foldl (fun cs x => match x with | (c, j) => cs.setIfInBounds (k * size + j) c) cs.toArray v.cells.zipIdx) = Array.foldl (fun (cs : Array Value) (x : Value × Nat) => cs.setIfInBounds (k * size + x.2) x.1) cs.toArray v.cells.zipIdx := rfl
    rw [e3, e2]
    have e6 : (k + 1 + vs.length) * size = k * size + size + vs.length * size := by rw [Nat.add_mul, Nat.add_mul]; omega
    rw [fill_all size vs (k + 1) _ (fun u hu => hv u (by simp [hu])) (by
      rw [e6]
      simp only [List.length_append, List.length_take, List.length_drop, Array.length_toList, h1]
      rw [hl, hlen]
      omega)]
    congr 2
    have e4 : k * size + 0 = k * size := by omega
    rw [e4]
    have e5 : (cs.take (k * size) ++ v.cells.toList).length = (k + 1) * size := by
      simp only [List.length_append, List.length_take, Array.length_toList, h1, Nat.add_mul]; omega
    rw [List.take_append_of_le_length (by omega), List.take_of_length_le (by omega)]
    simp [flatV, List.append_assoc]

theorem ev_buildSlice {k : List It} {env : Env} {L l : List Oper} {d : Nat} {t len : Nat} {parts : List (Nat × Operand)} {ty : TypeId} {ps : String} {af : Array Edge} {g : Option (Nat × Bool)} {tab : Tab} {vs : List Value} {e sz : Nat} {z : Value} {b : Nat}
    (hT : TabOk P tab) (hg : guardOf L env g = some true) (hd : Nat.blt d n = true) (hty : tyAt tab t = .slice e sz) (hz : Inf P e z sz b) (hzc : z.cells.size = sz) (hvs : evParts env 0 parts = some vs) (hl : vs.length = len) (hsz : ∀ v ∈ vs, v.cells.size = sz)
    (hsmall : Nat.ble (len * sz) 16777216 = true)
    (hk : ∀ b w', w.heap.size ≤ b → Blk w' b (flatV vs) e → Fr no w w' → H P fn R n (.ops L l :: k) .normal ((d, .slice (some ⟨b, 0, none⟩) len len) :: env) w') :
    H P fn R n (.ops L (⟨some d, .buildSlice t len ⟨parts⟩, ty, ps, af, g⟩ :: l) :: k) .normal env w :=
  ev_op hg hd (.slice (some ⟨w.heap.size, 0, none⟩) len len) (w.alloc (.cells ⟨flatV vs⟩ e)) (fun a hA => by
    have e1 : (⟨parts⟩ : Array (Nat × Operand)).map (fun x => (x.1, a.eval x.2)) = ⟨(List.range' 0 vs.length).zip vs⟩ := by
      have := evParts_ok hA hvs
      simpa using this
    simp only [execOp]
    refine run_bind (a := Value.slice (some ⟨w.heap.size, 0, none⟩) len len) (w' := w.alloc (.cells ⟨flatV vs⟩ e)) ?_
    have e1' : (⟨parts⟩ : Array (Nat × Operand)).map (fun x => match x with | (i, x) => (i, a.eval x)) = ⟨(List.range' 0 vs.length).zip vs⟩ := e1
    rw [e1']
    unfold Instr.buildSlice
    obtain ⟨h1, h2⟩ := ty_slice hT hty
    obtain ⟨i, hi, hzv, hi2, _⟩ := hz
    refine (run_bind (run_underlying' h1)).trans ?_
    simp only []
    refine (run_bind (run_sizeOf h2)).trans ?_
    have hs := Nat.le_of_ble_eq_true hsmall
    rw [if_neg (by omega)]
    have hfill : ∀ (zs : Array Value), Instr.fill (fun i => some (i * sz, sz)) ((Array.range (len * sz)).map (zs[· % zs.size]!)) ((List.range' 0 vs.length).zip vs) = some ⟨flatV vs⟩ := by
      intro zs
      have := fill_all sz vs 0 ((Array.range (len * sz)).map (zs[· % zs.size]!)).toList hsz (by simp [hl])
      rw [Array.toArray_toList] at this
      rw [this]
      simp
    by_cases h0 : len * sz = 0
    · simp only [h0, if_true]
      refine (run_bind (a := (#[] : Array Value)) (w' := w) rfl).trans ?_
      have := hfill #[]
      rw [h0] at this
      simp only [this]; rfl
    · simp only [h0, if_false]
      refine (run_bind (a := z) (w' := w) ?_).trans ?_
      · unfold zeroValue
        refine (run_bind (run_typeInfo hi)).trans ?_
        rw [hzv]; rfl
      · refine (run_bind (a := z.cells) (w' := w) rfl).trans ?_
        simp only [hfill]; rfl) (hk _ _ (Nat.le_refl _) (Blk.new _ _ _) (Fr.alloc _ _))

theorem own_of_blk {e sz q m : Nat} {cs : List Value} (h : Blk w q cs e) (hl : cs.length = m * sz) (hm : m ≤ 9223372036854775807) : Own w e sz (.slice (some ⟨q, 0, none⟩) m m) m cs :=
  ⟨hl, .inr ⟨q, m, ⟨cs⟩, rfl, Nat.zero_le _, h, Nat.le_refl _, by unfold maxLen; omega, hl, List.take_of_length_le (by simp [hl])⟩⟩
/-- make([]T, n) -/
theorem ev_make {k : List It} {env : Env} {L l : List Oper} {d : Nat} {t : TypeId} {x y : Operand} {ty : TypeId} {ps : String} {af : Array Edge} {g : Option (Nat × Bool)} {tab : Tab} {e sz : Nat} {z : Value} {b : Nat} {kl kc : IntKind} {i : Int}
    (hT : TabOk P tab) (hg : guardOf L env g = some true) (hd : Nat.blt d n = true) (hty : tyAt tab t = .slice e sz) (hz : Inf P e z sz b) (hx : ev env x = some (.int kl i)) (hy : ev env y = some (.int kc i)) (h0 : 0 ≤ i) (hb : (b : Int) * i ≤ 281474976710656) (h63 : i ≤ 9223372036854775807)
    (hk : ∀ q w', w.heap.size ≤ q → Blk w' q (madeCells z.cells (i.toNat * sz)).toList e → Fr no w w' →
      H P fn R n (.ops L l :: k) .normal ((d, .slice (some ⟨q, 0, none⟩) i.toNat i.toNat) :: env) w') :
    H P fn R n (.ops L (⟨some d, .makeSlice t x y, ty, ps, af, g⟩ :: l) :: k) .normal env w := by
  obtain ⟨inf, hi, hzv, hs, hby⟩ := hz
  obtain ⟨h1, h2⟩ := ty_slice hT hty
  have hr := run_make (P := P) w t e inf z h1 hi hzv kl kc i i h0 (Int.le_refl _) (by rw [hby]; exact hb) h63
  rw [hs] at hr
  exact ev_op hg hd (.slice (some ⟨w.heap.size, 0, none⟩) i.toNat i.toNat) _ (fun a hA => by
    simp only [execOp, hA.ev hx, hA.ev hy]
    exact run_bind hr) (hk _ _ (Nat.le_refl _) (Blk.new _ _ _) (Fr.alloc _ _))

def allOne : List Value → Bool
  | [] => true
  | v :: r => match v.oneCell' with | true => allOne r | false => false
theorem allOne_ok : ∀ {l : List Value}, allOne l = true → ∀ v ∈ l, v.oneCell' = true
  | [], _, v, h => by cases h
  | u :: r, h, v, hv => by
    simp only [allOne] at h
    split at h
    · rename_i hu
      cases List.mem_cons.1 hv with
      | inl e => rw [e]; exact hu
      | inr e => exact allOne_ok h v e
    · cases h
/-- a struct stored over a whole block -/
theorem ev_storeAgg {k : List It} {env : Env} {L l : List Oper} {t : TypeId} {x y : Operand} {ty : TypeId} {ps : String} {af : Array Edge} {g : Option (Nat × Bool)} {tab : Tab} {b : Nat} {vs cs : List Value} {e : TypeId}
    (hT : TabOk P tab) (hg : guardOf L env g = some true) (hx : ev env x = some (.pointer (some ⟨b, 0, none⟩))) (hy : ev env y = some (.agg ⟨vs⟩)) (hag : aggT (tyAt tab t) = some true) (hs : szAt tab t = vs.length) (hv : allOne vs = true)
    (hb : Blk w b cs e) (hl : cs.length = vs.length)
    (hk : ∀ w', Blk w' b vs e → Fr (fun c => c = b) w w' → H P fn R n (.ops L l :: k) .normal env w') :
    H P fn R n (.ops L (⟨none, .store t x y, ty, ps, af, g⟩ :: l) :: k) .normal env w := by
  have hst := run_storeCells_at P b 0 e vs 0 ⟨cs⟩ w hb (by simp [hl]) (allOne_ok hv)
  refine ev_do hg (w.setRow b (((⟨cs⟩ : Array Value).toList.take (0 + 0) ++ vs ++ (⟨cs⟩ : Array Value).toList.drop (0 + 0 + vs.length)).toArray)) (fun a hA => by
    simp only [execOp, hA.ev hx, hA.ev hy]
    refine run_bind (a := ()) ?_
    unfold Instr.storeAt
    show Sem.run P ((Sem.pure _).bind _) w = _
    simp only [Sem.bind, storeVar]
    refine (run_bind (run_sizeOf (ty_size hT hag hs))).trans ?_
    simp only [Value.cells, List.size_toArray, ne_eq, not_true_eq_false, if_false]
    exact hst) (hk _ ?_ ?_)
  · have := setRow_heap w b ⟨cs⟩ (((⟨cs⟩ : Array Value).toList.take (0 + 0) ++ vs ++ (⟨cs⟩ : Array Value).toList.drop (0 + 0 + vs.length)).toArray) e _ hb
    unfold Blk
    rw [this]
    simp [hl]
  · exact ⟨rfl, rfl, rfl, by simp, fun c hc hn => setRow_other w b c _ (fun e => hn e)⟩

/-- append of what a slice holds -/
theorem ev_append {k : List It} {env : Env} {L l : List Oper} {d : Nat} {x y : Operand} {t : TypeId} {ty : TypeId} {ps : String} {af : Array Edge} {g : Option (Nat × Bool)} {tab : Tab} {e sz : Nat} {z : Value} {b : Nat} {v : Value} {nn : Nat} {xs : List Value} {A : Option Addr} {m c : Nat} {news : List Value}
    (hT : TabOk P tab) (hg : guardOf L env g = some true) (hd : Nat.blt d n = true) (hty : tyAt tab t = .slice e sz) (hz : Inf P e z sz b) (hzs : z.cells.size = sz) (hsz : 0 < sz)
    (hx : ev env x = some v) (hy : ev env y = some (.slice A m c)) (hown : Own w e sz v nn xs) (hc : Cs w A news) (hl : news.length = m * sz) (h1 : ∀ u ∈ news, u.oneCell' = true) (hbytes : (nn + m) * (b + 1) ≤ 140737488355328)
    (hk : ∀ v' w', Own w' e sz v' (nn + m) (xs ++ news) → Fr (fun q => v.ownBlock = some q) w w' → (v'.ownBlock = v.ownBlock ∨ v'.ownBlock = some w.heap.size) → H P fn R n (.ops L l :: k) .normal ((d, v') :: env) w') :
    H P fn R n (.ops L (⟨some d, .call ⟨.builtin .append, ⟨[x, y]⟩, ⟨[t, t]⟩⟩, ty, ps, af, g⟩ :: l) :: k) .normal env w := by
  obtain ⟨inf, hi, hzv, hs, hby⟩ := hz
  obtain ⟨ht, h2⟩ := ty_slice hT hty
  obtain ⟨v', w', hr, h3, h4, h5⟩ := run_app (P := P) w (ty := ty) ht hi hzv hs hzs hsz hown hl hc h1 (by rw [hby]; exact hbytes)
  exact ev_op hg hd v' w' (fun a hA => by
    simp only [execOp, resolve, List.map_toArray, List.map, hA.ev hx, hA.ev hy]
    exact run_bind hr) (hk v' w' h3 h4 h5)

/-- append of a string's bytes -/
theorem ev_appendStr {k : List It} {env : Env} {L l : List Oper} {d : Nat} {x y : Operand} {t u : TypeId} {ty : TypeId} {ps : String} {af : Array Edge} {g : Option (Nat × Bool)} {tab : Tab} {e : Nat} {v : Value} {nn : Nat} {xs : List Value} {s : List UInt8}
    (hT : TabOk P tab) (hg : guardOf L env g = some true) (hd : Nat.blt d n = true) (hty : tyAt tab t = .slice e 1) (hu : tyAt tab u = .str) (hz : Inf P e (.int .u8 0) 1 1)
    (hx : ev env x = some v) (hy : ev env y = some (.string (sOf s))) (hown : Own w e 1 v nn xs) (hbytes : nn + s.length ≤ 140737488355328)
    (hk : ∀ v' w', Own w' e 1 v' (nn + s.length) (xs ++ s.map bv) → Fr (fun q => v.ownBlock = some q) w w' → (v'.ownBlock = v.ownBlock ∨ v'.ownBlock = some w.heap.size) → H P fn R n (.ops L l :: k) .normal ((d, v') :: env) w') :
    H P fn R n (.ops L (⟨some d, .call ⟨.builtin .append, ⟨[x, y]⟩, ⟨[t, u]⟩⟩, ty, ps, af, g⟩ :: l) :: k) .normal env w := by
  obtain ⟨inf, hi, hzv, hs, hby⟩ := hz
  obtain ⟨ht, h2⟩ := ty_slice hT hty
  obtain ⟨v', w', hr, h3, h4, h5⟩ := run_app_str (P := P) w (ty := ty) ht (ty_str hT hu) hi hzv hs hby hown s hbytes
  exact ev_op hg hd v' w' (fun a hA => by
    simp only [execOp, resolve, List.map_toArray, List.map, hA.ev hx, hA.ev hy]
    exact run_bind hr) (hk v' w' h3 h4 h5)

/-- []byte(s) -/
theorem ev_bytesOf {k : List It} {env : Env} {L l : List Oper} {d : Nat} {x : Operand} {s t : TypeId} {ty : TypeId} {ps : String} {af : Array Edge} {g : Option (Nat × Bool)} {tab : Tab} {e sz : Nat} {r : List UInt8}
    (hT : TabOk P tab) (hg : guardOf L env g = some true) (hd : Nat.blt d n = true) (hs : tyAt tab s = .str) (ht : tyAt tab t = .slice e sz) (he : tyAt tab e = .int .u8) (hx : ev env x = some (.string (sOf r)))
    (hk : ∀ c w', Cs w' (some ⟨w.heap.size, 0, none⟩) (r.map bv) → Fr no w w' → r.length ≤ c → H P fn R n (.ops L l :: k) .normal ((d, .slice (some ⟨w.heap.size, 0, none⟩) r.length c) :: env) w') :
    H P fn R n (.ops L (⟨some d, .convert s t x, ty, ps, af, g⟩ :: l) :: k) .normal env w := by
  obtain ⟨h1, h2⟩ := ty_slice hT ht
  have hr := run_bytes_of_string (P := P) w s t e (sOf r) (ty_str hT hs) h1 (ty_int hT he)
  refine ev_op hg hd _ _ (fun a hA => by
    simp only [execOp, hA.ev hx]
    exact run_bind hr) (hk _ _ (fun j u hj => ⟨_, 0, rfl, ?_⟩) ((Fr.drew w).tr (Fr.alloc _ _)) (grownCap_ge _ _ _ _))
  have hlt : j < r.length := by simpa using (List.getElem?_eq_some_iff.1 hj).1
  have hnew := heap_alloc_new w.drew (.cells (bytesRow (sOf r) (grownCap w (sOf r).size 0 e)) e ((bytesRow (sOf r) (grownCap w (sOf r).size 0 e)).size, (bytesRow (sOf r) (grownCap w (sOf r).size 0 e)).size + 1))
  have hsz : w.drew.heap.size = w.heap.size := rfl
  rw [hsz] at hnew
  simp only [World.cell?, hnew, Nat.zero_add]
  simp only [List.getElem?_map, List.getElem?_eq_getElem hlt, Option.map_some, Option.some.injEq] at hj
  subst hj
  simp [bytesRow, Array.getElem?_append, hlt]
/-- what a row grew into begins in its own block or in a new one -/
def NB (w : World) (v v' : Value) : Prop := ∀ g, v'.ownBlock = some g → v.ownBlock = some g ∨ w.heap.size ≤ g
theorem NB.refl (w : World) (v : Value) : NB w v v := fun g h => .inl h
theorem NB.of {w : World} {v v' : Value} (h : v'.ownBlock = v.ownBlock ∨ v'.ownBlock = some w.heap.size) : NB w v v' := fun g hg => by
  rcases h with h | h
  · exact .inl (h ▸ hg)
  · rw [h] at hg; cases hg; exact .inr (Nat.le_refl _)
theorem NB.trans {w w1 : World} {v v1 v2 : Value} (h : NB w v v1) (h' : NB w1 v1 v2) (hs : w.heap.size ≤ w1.heap.size) : NB w v v2 := fun g hg => by
  rcases h' g hg with h1 | h1
  · exact h g h1
  · exact .inr (Nat.le_trans hs h1)

/-- append of a literal: the literal's row, then the append -/
theorem ev_append1 {k : List It} {env : Env} {L l : List Oper} {d1 d2 : Nat} {x : Operand} {t len : Nat} {parts : List (Nat × Operand)} {ty1 ty2 : TypeId} {ps1 ps2 : String} {af1 af2 : Array Edge} {g1 g2 : Option (Nat × Bool)} {tab : Tab} {e sz : Nat} {z : Value} {b : Nat} {v : Value} {nn : Nat} {xs vs : List Value}
    (hT : TabOk P tab) (hg1 : guardOf L env g1 = some true) (hd1 : Nat.blt d1 n = true) (hg2 : ∀ q, guardOf L ((d1, .slice (some ⟨q, 0, none⟩) len len) :: env) g2 = some true) (hd2 : Nat.blt d2 n = true)
    (hty : tyAt tab t = .slice e sz) (hz : Inf P e z sz b) (hzs : z.cells.size = sz) (hsz : 0 < sz) (hx : ∀ q, ev ((d1, .slice (some ⟨q, 0, none⟩) len len) :: env) x = some v)
    (hvs : evParts env 0 parts = some vs) (hl : vs.length = len) (hszv : ∀ v ∈ vs, v.cells.size = sz) (h1 : ∀ u ∈ flatV vs, u.oneCell' = true) (hsmall : Nat.ble (len * sz) 16777216 = true)
    (hown : Own w e sz v nn xs) (hbytes : (nn + len) * (b + 1) ≤ 140737488355328)
    (hk : ∀ v' w' q, Own w' e sz v' (nn + len) (xs ++ flatV vs) → Fr (fun q => v.ownBlock = some q) w w' → NB w v v' → H P fn R n (.ops L l :: k) .normal ((d2, v') :: (d1, .slice (some ⟨q, 0, none⟩) len len) :: env) w') :
    H P fn R n (.ops L (⟨some d1, .buildSlice t len ⟨parts⟩, ty1, ps1, af1, g1⟩ :: ⟨some d2, .call ⟨.builtin .append, ⟨[x, .tmp d1]⟩, ⟨[t, t]⟩⟩, ty2, ps2, af2, g2⟩ :: l) :: k) .normal env w := by
  refine ev_buildSlice hT hg1 hd1 hty hz hzs hvs hl hszv hsmall ?_
  intro q w1 hq hb hf
  have hlen : (flatV vs).length = len * sz := by
    rw [← hl]
    clear hvs h1 hk hb hl
    induction vs with
    | nil => simp [flatV]
    | cons u r ih =>
      have e1 := ih (fun v hv => hszv v (by simp [hv]))
      have e2 : u.cells.size = sz := hszv u (by simp)
      simp only [flatV, List.flatMap_cons, List.length_append, Array.length_toList, e2, List.length_cons] at e1 ⊢
      rw [e1, Nat.add_mul]; omega
  refine ev_append (z := z) (b := b) (xs := xs) (A := some ⟨q, 0, none⟩) (m := len) (c := len) (news := flatV vs) hT (hg2 q) hd2 hty hz hzs hsz (hx q) (by simp [ev, look_cons]) (hown.fr0 hf) (Cs.of_blk hb) hlen h1 hbytes ?_
  intro v' w2 ho hf2 hnb
  refine hk v' w2 q ho (hf.tr0 hf2) (fun g hg => ?_)
  rcases NB.of hnb g hg with h | h
  · exact .inl h
  · exact .inr (Nat.le_trans hf.size h)
/-- results, some of which stand in memory -/
def ResOk (tab : Tab) (env : Env) (w : World) : List ResultVar → List Value → Prop
  | [], [] => True
  | .tmp t :: r, v :: vs => look env t = some v ∧ ResOk tab env w r vs
  | .cell a t :: r, v :: vs => (∃ p, look env a = some (.pointer (some p)) ∧ ((aggT (tyAt tab t) = some true ∧ ∃ l, v = .agg ⟨l⟩ ∧ szAt tab t = l.length ∧ Cs w (some p) l) ∨ (aggT (tyAt tab t) = some false ∧ w.cell? p = some v))) ∧ ResOk tab env w r vs
  | _, _ => False
/-- one result -/
def resV (tmps : Array Value) : ResultVar → Sem Value
  | .tmp t => pure (tmps.getD t undef)
  | .cell a t => do loadVar t (← asAddr (tmps.getD a undef))
theorem resOk_run {tab : Tab} (hT : TabOk P tab) {env : Env} {a : Act} (hA : Ag n a env) : ∀ {rs : List ResultVar} {vs : List Value}, ResOk tab env w rs vs →
    (rs.mapM (resV a.tmps)).run P w = .ok vs w
  | [], [], _ => rfl
  | .tmp t :: r, v :: vs, h => by
    rw [List.mapM_cons]
    refine (run_bind (a := v) (w' := w) (by simp only [resV, hA.look h.1]; rfl)).trans ?_
    exact run_bind (resOk_run hT hA h.2)
  | .cell c t :: r, v :: vs, h => by
    obtain ⟨⟨p, hp, hv⟩, hr⟩ := h
    rw [List.mapM_cons]
    refine (run_bind (a := v) (w' := w) ?_).trans (run_bind (resOk_run hT hA hr))
    simp only [resV, hA.look hp]
    refine (run_bind (a := p) (w' := w) rfl).trans ?_
    unfold loadVar
    rcases hv with ⟨hag, l, rfl, hs, hc⟩ | ⟨hag, hc⟩
    · refine (run_bind (run_isAgg (ty_agg hT hag))).trans ?_
      simp only [if_true]
      refine (run_bind (run_sizeOf (ty_size hT hag hs))).trans ?_
      have := run_loadCells_list (P := P) w p l (fun j v hj => by
        obtain ⟨b, o, e, hcc⟩ := hc j v hj
        cases e
        rw [Addr.add_lit]; exact hcc)
      exact run_bind this
    · refine (run_bind (run_isAgg (ty_agg hT hag))).trans ?_
      simp only [Bool.false_eq_true, if_false]
      show Sem.run P (Sem.load .plain p Sem.pure) w = _
      simp only [Sem.run, hc]
  | [], _ :: _, h => h.elim
  | .tmp _ :: _, [], h => h.elim
  | .cell _ _ :: _, [], h => h.elim
def tupV : List Value → Value
  | [v] => v
  | vs => .tuple ⟨vs⟩
theorem retG {S : Value → World → Prop} {tab : Tab} {e : Exit} {env : Env} {rs : List ResultVar} (hT : TabOk P tab) (he : e = .normal ∨ e = .ret) (hr : fn.results = ⟨rs⟩) (vs : List Value) (hv : ResOk tab env w rs vs) (h : S (tupV vs) w) :
    H P fn (fun e w' => ∃ v, e = .returned v ∧ S v w') n [] e env w := by
  intro a hA
  have h1 : (results fn a.tmps).run P w = .ok (tupV vs) w := by
    have hres : results fn a.tmps = (do let vs ← fn.results.mapM (resV a.tmps); pure (if h : vs.size = 1 then vs[0] else .tuple vs)) := by
      unfold results
      congr 1
    rw [hres, hr]
    have h2 := resOk_run hT hA hv
    refine (run_bind (a := (⟨vs⟩ : Array Value)) (w' := w) ?_).trans ?_
    · have e1 : (⟨rs⟩ : Array ResultVar).mapM (resV a.tmps) = List.toArray <$> rs.mapM (resV a.tmps) := List.mapM_toArray
      rw [e1]
      show Sem.run P (List.toArray <$> rs.mapM (resV a.tmps)) w = _
      rw [← bind_pure_comp]
      exact run_bind h2
    · cases vs with
      | nil => rfl
      | cons v r => cases r with
        | nil => rfl
        | cons u q => simp [tupV]
  rcases he with rfl | rfl <;> exact ⟨hA.1, _, h1, _, rfl, h⟩
/-- reads of a block that is known whole -/
theorem ev_loadB {k : List It} {env : Env} {L l : List Oper} {d : Nat} {t : TypeId} {x : Operand} {ty : TypeId} {ps : String} {af : Array Edge} {g : Option (Nat × Bool)} {tab : Tab} {b o : Nat} {cs : List Value} {e : TypeId} {v : Value}
    (hg : guardOf L env g = some true) (hd : Nat.blt d n = true) (hT : TabOk P tab) (hx : ev env x = some (.pointer (some ⟨b, o, none⟩))) (hag : aggT (tyAt tab t) = some false) (hb : Blk w b cs e) (hv : nthV cs o = some v)
    (hk : H P fn R n (.ops L l :: k) .normal ((d, v) :: env) w) : H P fn R n (.ops L (⟨some d, .load t x, ty, ps, af, g⟩ :: l) :: k) .normal env w :=
  ev_load hg hd hT hx hag (hb.cell hv) hk
theorem ev_loadAggB {k : List It} {env : Env} {L l : List Oper} {d : Nat} {t : TypeId} {x : Operand} {ty : TypeId} {ps : String} {af : Array Edge} {g : Option (Nat × Bool)} {tab : Tab} {b : Nat} {cs : List Value} {e : TypeId}
    (hg : guardOf L env g = some true) (hd : Nat.blt d n = true) (hT : TabOk P tab) (hx : ev env x = some (.pointer (some ⟨b, 0, none⟩))) (hag : aggT (tyAt tab t) = some true) (hb : Blk w b cs e) (hs : szAt tab t = cs.length)
    (hk : H P fn R n (.ops L l :: k) .normal ((d, .agg ⟨cs⟩) :: env) w) : H P fn R n (.ops L (⟨some d, .load t x, ty, ps, af, g⟩ :: l) :: k) .normal env w :=
  ev_y hg hd (y_loadAgg hT hx hag hs (at_w (Cs.of_blk hb))) hk
end
end Go.Wk
