/-
  The walk kit of this repo, part 8 (written by genevs.py): each reading operation as an event, alone and in a region that draws.
-/
import Derived.Test.YtpnhfkmgnkdleaaDoorQuiet
set_option linter.unusedVariables false
namespace Go.Wk
open Go Go.Lib
section
variable {P : Program} {fn : Func} {R : Ending → World → Prop} {n : Nat} {w : World} {C : World → Prop} {Q : Act → Prop} {tab : Tab} {k : List It} {env : Env} {L l : List Oper} {d : Nat} {ty : TypeId} {ps : String} {af : Array Edge} {g : Option (Nat × Bool)}

theorem q_load {t : TypeId} {x : Operand} {p : Addr} {v : Value} (hg : guardOf L env g = some true) (hd : Nat.blt d n = true) (hT : TabOk P tab) (hx : ev env x = some (.pointer (some p))) (hag : aggT (tyAt tab t) = some false) (hc : ∀ w, C w → w.cell? p = some v)
    (hk : HQ P C n Q L l ((d, v) :: env)) : HQ P C n Q L (⟨some d, .load t x, ty, ps, af, g⟩ :: l) env :=
  q_y hg hd (y_load hT hx hag hc) hk
theorem ev_loadAgg {t : TypeId} {x : Operand} {p : Addr} {xs : List Value} (hg : guardOf L env g = some true) (hd : Nat.blt d n = true) (hT : TabOk P tab) (hx : ev env x = some (.pointer (some p))) (hag : aggT (tyAt tab t) = some true) (hs : szAt tab t = xs.length) (hc : Cs w (some p) xs)
    (hk : H P fn R n (.ops L l :: k) .normal ((d, (.agg ⟨xs⟩)) :: env) w) : H P fn R n (.ops L (⟨some d, .load t x, ty, ps, af, g⟩ :: l) :: k) .normal env w :=
  ev_y hg hd (y_loadAgg hT hx hag hs (at_w hc)) hk
theorem q_loadAgg {t : TypeId} {x : Operand} {p : Addr} {xs : List Value} (hg : guardOf L env g = some true) (hd : Nat.blt d n = true) (hT : TabOk P tab) (hx : ev env x = some (.pointer (some p))) (hag : aggT (tyAt tab t) = some true) (hs : szAt tab t = xs.length) (hc : ∀ w, C w → Cs w (some p) xs)
    (hk : HQ P C n Q L l ((d, (.agg ⟨xs⟩)) :: env)) : HQ P C n Q L (⟨some d, .load t x, ty, ps, af, g⟩ :: l) env :=
  q_y hg hd (y_loadAgg hT hx hag hs hc) hk
theorem ev_index {t : TypeId} {x y : Operand} {s : List UInt8} {kd : IntKind} {i : Int} (hg : guardOf L env g = some true) (hd : Nat.blt d n = true) (hT : TabOk P tab) (hx : ev env x = some (.string (sOf s))) (hy : ev env y = some (.int kd i)) (hty : tyAt tab t = .str) (h0 : 0 ≤ i) (h1 : i < s.length)
    (hk : H P fn R n (.ops L l :: k) .normal ((d, (bv (s.getD i.toNat 0))) :: env) w) : H P fn R n (.ops L (⟨some d, .index t x y, ty, ps, af, g⟩ :: l) :: k) .normal env w :=
  ev_y hg hd (y_index hT hx hy hty h0 h1) hk
theorem q_index {t : TypeId} {x y : Operand} {s : List UInt8} {kd : IntKind} {i : Int} (hg : guardOf L env g = some true) (hd : Nat.blt d n = true) (hT : TabOk P tab) (hx : ev env x = some (.string (sOf s))) (hy : ev env y = some (.int kd i)) (hty : tyAt tab t = .str) (h0 : 0 ≤ i) (h1 : i < s.length)
    (hk : HQ P C n Q L l ((d, (bv (s.getD i.toNat 0))) :: env)) : HQ P C n Q L (⟨some d, .index t x y, ty, ps, af, g⟩ :: l) env :=
  q_y hg hd (y_index hT hx hy hty h0 h1) hk
theorem ev_indexA {t : TypeId} {x y : Operand} {cs : List Value} {kd : IntKind} {i : Int} {len e s : Nat} {b : Bool} {v : Value} (hg : guardOf L env g = some true) (hd : Nat.blt d n = true) (hT : TabOk P tab) (hx : ev env x = some (.agg ⟨cs⟩)) (hy : ev env y = some (.int kd i)) (hty : tyAt tab t = .arr len e s b) (h0 : 0 ≤ i) (h1 : i < len) (hv : partV cs (i.toNat * s) s b = some v)
    (hk : H P fn R n (.ops L l :: k) .normal ((d, v) :: env) w) : H P fn R n (.ops L (⟨some d, .index t x y, ty, ps, af, g⟩ :: l) :: k) .normal env w :=
  ev_y hg hd (y_indexA hT hx hy hty h0 h1 hv) hk
theorem q_indexA {t : TypeId} {x y : Operand} {cs : List Value} {kd : IntKind} {i : Int} {len e s : Nat} {b : Bool} {v : Value} (hg : guardOf L env g = some true) (hd : Nat.blt d n = true) (hT : TabOk P tab) (hx : ev env x = some (.agg ⟨cs⟩)) (hy : ev env y = some (.int kd i)) (hty : tyAt tab t = .arr len e s b) (h0 : 0 ≤ i) (h1 : i < len) (hv : partV cs (i.toNat * s) s b = some v)
    (hk : HQ P C n Q L l ((d, v) :: env)) : HQ P C n Q L (⟨some d, .index t x y, ty, ps, af, g⟩ :: l) env :=
  q_y hg hd (y_indexA hT hx hy hty h0 h1 hv) hk
theorem ev_arith {op : BinOp} {t t' : TypeId} {x y : Operand} {kd : IntKind} {a b r : Int} (hg : guardOf L env g = some true) (hd : Nat.blt d n = true) (hx : ev env x = some (.int kd a)) (hy : ev env y = some (.int kd b)) (hr : arithV op a b = some r) (h1 : lowK kd ≤ r ∧ r ≤ hiK kd)
    (hk : H P fn R n (.ops L l :: k) .normal ((d, (.int kd r)) :: env) w) : H P fn R n (.ops L (⟨some d, .binOp op t x y t', ty, ps, af, g⟩ :: l) :: k) .normal env w :=
  ev_y hg hd (y_arith hx hy hr h1) hk
theorem q_arith {op : BinOp} {t t' : TypeId} {x y : Operand} {kd : IntKind} {a b r : Int} (hg : guardOf L env g = some true) (hd : Nat.blt d n = true) (hx : ev env x = some (.int kd a)) (hy : ev env y = some (.int kd b)) (hr : arithV op a b = some r) (h1 : lowK kd ≤ r ∧ r ≤ hiK kd)
    (hk : HQ P C n Q L l ((d, (.int kd r)) :: env)) : HQ P C n Q L (⟨some d, .binOp op t x y t', ty, ps, af, g⟩ :: l) env :=
  q_y hg hd (y_arith hx hy hr h1) hk
theorem ev_arithW {op : BinOp} {t t' : TypeId} {x y : Operand} {kd : IntKind} {a b r : Int} (hg : guardOf L env g = some true) (hd : Nat.blt d n = true) (hx : ev env x = some (.int kd a)) (hy : ev env y = some (.int kd b)) (hr : arithV op a b = some r)
    (hk : H P fn R n (.ops L l :: k) .normal ((d, (.int kd (kd.wrap r))) :: env) w) : H P fn R n (.ops L (⟨some d, .binOp op t x y t', ty, ps, af, g⟩ :: l) :: k) .normal env w :=
  ev_y hg hd (y_arithW hx hy hr) hk
theorem q_arithW {op : BinOp} {t t' : TypeId} {x y : Operand} {kd : IntKind} {a b r : Int} (hg : guardOf L env g = some true) (hd : Nat.blt d n = true) (hx : ev env x = some (.int kd a)) (hy : ev env y = some (.int kd b)) (hr : arithV op a b = some r)
    (hk : HQ P C n Q L l ((d, (.int kd (kd.wrap r))) :: env)) : HQ P C n Q L (⟨some d, .binOp op t x y t', ty, ps, af, g⟩ :: l) env :=
  q_y hg hd (y_arithW hx hy hr) hk
theorem ev_quo {t t' : TypeId} {x y : Operand} {kd : IntKind} {a b : Int} (hg : guardOf L env g = some true) (hd : Nat.blt d n = true) (hx : ev env x = some (.int kd a)) (hy : ev env y = some (.int kd b)) (h0 : 0 ≤ a) (hb : 0 < b) (h2 : a ≤ hiK kd)
    (hk : H P fn R n (.ops L l :: k) .normal ((d, (.int kd (a / b))) :: env) w) : H P fn R n (.ops L (⟨some d, .binOp .quo t x y t', ty, ps, af, g⟩ :: l) :: k) .normal env w :=
  ev_y hg hd (y_quo hx hy h0 hb h2) hk
theorem q_quo {t t' : TypeId} {x y : Operand} {kd : IntKind} {a b : Int} (hg : guardOf L env g = some true) (hd : Nat.blt d n = true) (hx : ev env x = some (.int kd a)) (hy : ev env y = some (.int kd b)) (h0 : 0 ≤ a) (hb : 0 < b) (h2 : a ≤ hiK kd)
    (hk : HQ P C n Q L l ((d, (.int kd (a / b))) :: env)) : HQ P C n Q L (⟨some d, .binOp .quo t x y t', ty, ps, af, g⟩ :: l) env :=
  q_y hg hd (y_quo hx hy h0 hb h2) hk
theorem ev_rem {t t' : TypeId} {x y : Operand} {kd : IntKind} {a b : Int} (hg : guardOf L env g = some true) (hd : Nat.blt d n = true) (hx : ev env x = some (.int kd a)) (hy : ev env y = some (.int kd b)) (h0 : 0 ≤ a) (hb : 0 < b)
    (hk : H P fn R n (.ops L l :: k) .normal ((d, (.int kd (a % b))) :: env) w) : H P fn R n (.ops L (⟨some d, .binOp .rem t x y t', ty, ps, af, g⟩ :: l) :: k) .normal env w :=
  ev_y hg hd (y_rem hx hy h0 hb) hk
theorem q_rem {t t' : TypeId} {x y : Operand} {kd : IntKind} {a b : Int} (hg : guardOf L env g = some true) (hd : Nat.blt d n = true) (hx : ev env x = some (.int kd a)) (hy : ev env y = some (.int kd b)) (h0 : 0 ≤ a) (hb : 0 < b)
    (hk : HQ P C n Q L l ((d, (.int kd (a % b))) :: env)) : HQ P C n Q L (⟨some d, .binOp .rem t x y t', ty, ps, af, g⟩ :: l) env :=
  q_y hg hd (y_rem hx hy h0 hb) hk
theorem ev_remT {t t' : TypeId} {x y : Operand} {kd : IntKind} {a b : Int} (hg : guardOf L env g = some true) (hd : Nat.blt d n = true) (hx : ev env x = some (.int kd a)) (hy : ev env y = some (.int kd b)) (hb : b ≠ 0)
    (hk : H P fn R n (.ops L l :: k) .normal ((d, (.int kd (a.tmod b))) :: env) w) : H P fn R n (.ops L (⟨some d, .binOp .rem t x y t', ty, ps, af, g⟩ :: l) :: k) .normal env w :=
  ev_y hg hd (y_remT hx hy hb) hk
theorem q_remT {t t' : TypeId} {x y : Operand} {kd : IntKind} {a b : Int} (hg : guardOf L env g = some true) (hd : Nat.blt d n = true) (hx : ev env x = some (.int kd a)) (hy : ev env y = some (.int kd b)) (hb : b ≠ 0)
    (hk : HQ P C n Q L l ((d, (.int kd (a.tmod b))) :: env)) : HQ P C n Q L (⟨some d, .binOp .rem t x y t', ty, ps, af, g⟩ :: l) env :=
  q_y hg hd (y_remT hx hy hb) hk
theorem ev_shl {t t' : TypeId} {x y : Operand} {k1 k2 : IntKind} {a b : Int} (hg : guardOf L env g = some true) (hd : Nat.blt d n = true) (hx : ev env x = some (.int k1 a)) (hy : ev env y = some (.int k2 b)) (h0 : 0 ≤ b) (h1 : b ≤ k1.bits)
    (hk : H P fn R n (.ops L l :: k) .normal ((d, (.int k1 (k1.wrap (a * 2 ^ b.toNat)))) :: env) w) : H P fn R n (.ops L (⟨some d, .binOp .shl t x y t', ty, ps, af, g⟩ :: l) :: k) .normal env w :=
  ev_y hg hd (y_shl hx hy h0 h1) hk
theorem q_shl {t t' : TypeId} {x y : Operand} {k1 k2 : IntKind} {a b : Int} (hg : guardOf L env g = some true) (hd : Nat.blt d n = true) (hx : ev env x = some (.int k1 a)) (hy : ev env y = some (.int k2 b)) (h0 : 0 ≤ b) (h1 : b ≤ k1.bits)
    (hk : HQ P C n Q L l ((d, (.int k1 (k1.wrap (a * 2 ^ b.toNat)))) :: env)) : HQ P C n Q L (⟨some d, .binOp .shl t x y t', ty, ps, af, g⟩ :: l) env :=
  q_y hg hd (y_shl hx hy h0 h1) hk
theorem ev_shr {t t' : TypeId} {x y : Operand} {k1 k2 : IntKind} {a b : Int} (hg : guardOf L env g = some true) (hd : Nat.blt d n = true) (hx : ev env x = some (.int k1 a)) (hy : ev env y = some (.int k2 b)) (h0 : 0 ≤ b) (h1 : b ≤ k1.bits)
    (hk : H P fn R n (.ops L l :: k) .normal ((d, (.int k1 (a.fdiv (2 ^ b.toNat)))) :: env) w) : H P fn R n (.ops L (⟨some d, .binOp .shr t x y t', ty, ps, af, g⟩ :: l) :: k) .normal env w :=
  ev_y hg hd (y_shr hx hy h0 h1) hk
theorem q_shr {t t' : TypeId} {x y : Operand} {k1 k2 : IntKind} {a b : Int} (hg : guardOf L env g = some true) (hd : Nat.blt d n = true) (hx : ev env x = some (.int k1 a)) (hy : ev env y = some (.int k2 b)) (h0 : 0 ≤ b) (h1 : b ≤ k1.bits)
    (hk : HQ P C n Q L l ((d, (.int k1 (a.fdiv (2 ^ b.toNat)))) :: env)) : HQ P C n Q L (⟨some d, .binOp .shr t x y t', ty, ps, af, g⟩ :: l) env :=
  q_y hg hd (y_shr hx hy h0 h1) hk
theorem ev_conv {s t : TypeId} {x : Operand} {k1 k2 : IntKind} {a : Int} (hg : guardOf L env g = some true) (hd : Nat.blt d n = true) (hT : TabOk P tab) (hx : ev env x = some (.int k1 a)) (hs : tyAt tab s = .int k1) (ht : tyAt tab t = .int k2) (h : lowK k2 ≤ a ∧ a ≤ hiK k2)
    (hk : H P fn R n (.ops L l :: k) .normal ((d, (.int k2 a)) :: env) w) : H P fn R n (.ops L (⟨some d, .convert s t x, ty, ps, af, g⟩ :: l) :: k) .normal env w :=
  ev_y hg hd (y_conv hT hx hs ht h) hk
theorem q_conv {s t : TypeId} {x : Operand} {k1 k2 : IntKind} {a : Int} (hg : guardOf L env g = some true) (hd : Nat.blt d n = true) (hT : TabOk P tab) (hx : ev env x = some (.int k1 a)) (hs : tyAt tab s = .int k1) (ht : tyAt tab t = .int k2) (h : lowK k2 ≤ a ∧ a ≤ hiK k2)
    (hk : HQ P C n Q L l ((d, (.int k2 a)) :: env)) : HQ P C n Q L (⟨some d, .convert s t x, ty, ps, af, g⟩ :: l) env :=
  q_y hg hd (y_conv hT hx hs ht h) hk
theorem ev_convB {s t : TypeId} {x : Operand} {k2 : IntKind} {b : UInt8} (hg : guardOf L env g = some true) (hd : Nat.blt d n = true) (hT : TabOk P tab) (hx : ev env x = some (bv b)) (hs : tyAt tab s = .int .u8) (ht : tyAt tab t = .int k2) (h : fits8 k2 = true)
    (hk : H P fn R n (.ops L l :: k) .normal ((d, (.int k2 (b.toNat : Int))) :: env) w) : H P fn R n (.ops L (⟨some d, .convert s t x, ty, ps, af, g⟩ :: l) :: k) .normal env w :=
  ev_y hg hd (y_convB hT hx hs ht h) hk
theorem q_convB {s t : TypeId} {x : Operand} {k2 : IntKind} {b : UInt8} (hg : guardOf L env g = some true) (hd : Nat.blt d n = true) (hT : TabOk P tab) (hx : ev env x = some (bv b)) (hs : tyAt tab s = .int .u8) (ht : tyAt tab t = .int k2) (h : fits8 k2 = true)
    (hk : HQ P C n Q L l ((d, (.int k2 (b.toNat : Int))) :: env)) : HQ P C n Q L (⟨some d, .convert s t x, ty, ps, af, g⟩ :: l) env :=
  q_y hg hd (y_convB hT hx hs ht h) hk
theorem ev_convW {s t : TypeId} {x : Operand} {k1 k2 : IntKind} {a : Int} (hg : guardOf L env g = some true) (hd : Nat.blt d n = true) (hT : TabOk P tab) (hx : ev env x = some (.int k1 a)) (hs : tyAt tab s = .int k1) (ht : tyAt tab t = .int k2)
    (hk : H P fn R n (.ops L l :: k) .normal ((d, (.int k2 (k2.wrap a))) :: env) w) : H P fn R n (.ops L (⟨some d, .convert s t x, ty, ps, af, g⟩ :: l) :: k) .normal env w :=
  ev_y hg hd (y_convW hT hx hs ht) hk
theorem q_convW {s t : TypeId} {x : Operand} {k1 k2 : IntKind} {a : Int} (hg : guardOf L env g = some true) (hd : Nat.blt d n = true) (hT : TabOk P tab) (hx : ev env x = some (.int k1 a)) (hs : tyAt tab s = .int k1) (ht : tyAt tab t = .int k2)
    (hk : HQ P C n Q L l ((d, (.int k2 (k2.wrap a))) :: env)) : HQ P C n Q L (⟨some d, .convert s t x, ty, ps, af, g⟩ :: l) env :=
  q_y hg hd (y_convW hT hx hs ht) hk
theorem ev_concat {t t' : TypeId} {x y : Operand} {s u : List UInt8} (hg : guardOf L env g = some true) (hd : Nat.blt d n = true) (hx : ev env x = some (.string (sOf s))) (hy : ev env y = some (.string (sOf u))) (h : s.length + u.length ≤ 9223372036854775807)
    (hk : H P fn R n (.ops L l :: k) .normal ((d, (.string (sOf (s ++ u)))) :: env) w) : H P fn R n (.ops L (⟨some d, .binOp .add t x y t', ty, ps, af, g⟩ :: l) :: k) .normal env w :=
  ev_y hg hd (y_concat hx hy h) hk
theorem q_concat {t t' : TypeId} {x y : Operand} {s u : List UInt8} (hg : guardOf L env g = some true) (hd : Nat.blt d n = true) (hx : ev env x = some (.string (sOf s))) (hy : ev env y = some (.string (sOf u))) (h : s.length + u.length ≤ 9223372036854775807)
    (hk : HQ P C n Q L l ((d, (.string (sOf (s ++ u)))) :: env)) : HQ P C n Q L (⟨some d, .binOp .add t x y t', ty, ps, af, g⟩ :: l) env :=
  q_y hg hd (y_concat hx hy h) hk
theorem ev_sliceStr {t : TypeId} {x : Operand} {lo hi : Option Operand} {s : List UInt8} {i j : Int} (hg : guardOf L env g = some true) (hd : Nat.blt d n = true) (hT : TabOk P tab) (hx : ev env x = some (.string (sOf s))) (hty : tyAt tab t = .str) (hj : bnd env (s.length : Nat) hi = some j) (hlo : bnd env (0 : Nat) lo = some i) (h0 : 0 ≤ i) (h1 : i ≤ j) (h2 : j ≤ s.length)
    (hk : H P fn R n (.ops L l :: k) .normal ((d, (.string (sOf ((s.take j.toNat).drop i.toNat)))) :: env) w) : H P fn R n (.ops L (⟨some d, .slice t x lo hi none, ty, ps, af, g⟩ :: l) :: k) .normal env w :=
  ev_y hg hd (y_sliceStr hT hx hty hj hlo h0 h1 h2) hk
theorem q_sliceStr {t : TypeId} {x : Operand} {lo hi : Option Operand} {s : List UInt8} {i j : Int} (hg : guardOf L env g = some true) (hd : Nat.blt d n = true) (hT : TabOk P tab) (hx : ev env x = some (.string (sOf s))) (hty : tyAt tab t = .str) (hj : bnd env (s.length : Nat) hi = some j) (hlo : bnd env (0 : Nat) lo = some i) (h0 : 0 ≤ i) (h1 : i ≤ j) (h2 : j ≤ s.length)
    (hk : HQ P C n Q L l ((d, (.string (sOf ((s.take j.toNat).drop i.toNat)))) :: env)) : HQ P C n Q L (⟨some d, .slice t x lo hi none, ty, ps, af, g⟩ :: l) env :=
  q_y hg hd (y_sliceStr hT hx hty hj hlo h0 h1 h2) hk
theorem ev_slice {t e sz : Nat} {x : Operand} {lo hi : Option Operand} {A : Option Addr} {len cap : Nat} {i j : Int} (hg : guardOf L env g = some true) (hd : Nat.blt d n = true) (hT : TabOk P tab) (hx : ev env x = some (.slice A len cap)) (hty : tyAt tab t = .slice e sz) (hj : bnd env (len : Nat) hi = some j) (hlo : bnd env (0 : Nat) lo = some i) (h0 : 0 ≤ i) (h1 : i ≤ j) (h2 : j ≤ cap)
    (hk : H P fn R n (.ops L l :: k) .normal ((d, (.slice (cutA sz i.toNat cap A) (j.toNat - i.toNat) (cap - i.toNat))) :: env) w) : H P fn R n (.ops L (⟨some d, .slice t x lo hi none, ty, ps, af, g⟩ :: l) :: k) .normal env w :=
  ev_y hg hd (y_slice hT hx hty hj hlo h0 h1 h2) hk
theorem q_slice {t e sz : Nat} {x : Operand} {lo hi : Option Operand} {A : Option Addr} {len cap : Nat} {i j : Int} (hg : guardOf L env g = some true) (hd : Nat.blt d n = true) (hT : TabOk P tab) (hx : ev env x = some (.slice A len cap)) (hty : tyAt tab t = .slice e sz) (hj : bnd env (len : Nat) hi = some j) (hlo : bnd env (0 : Nat) lo = some i) (h0 : 0 ≤ i) (h1 : i ≤ j) (h2 : j ≤ cap)
    (hk : HQ P C n Q L l ((d, (.slice (cutA sz i.toNat cap A) (j.toNat - i.toNat) (cap - i.toNat))) :: env)) : HQ P C n Q L (⟨some d, .slice t x lo hi none, ty, ps, af, g⟩ :: l) env :=
  q_y hg hd (y_slice hT hx hty hj hlo h0 h1 h2) hk
theorem ev_indexAddr {t e sz : Nat} {x y : Operand} {b o len cap : Nat} {kd : IntKind} {i : Int} (hg : guardOf L env g = some true) (hd : Nat.blt d n = true) (hT : TabOk P tab) (hx : ev env x = some (.slice (some ⟨b, o, none⟩) len cap)) (hy : ev env y = some (.int kd i)) (hty : tyAt tab t = .slice e sz) (h0 : 0 ≤ i) (h1 : i < len)
    (hk : H P fn R n (.ops L l :: k) .normal ((d, (.pointer (some ⟨b, o + i.toNat * sz, none⟩))) :: env) w) : H P fn R n (.ops L (⟨some d, .indexAddr t x y, ty, ps, af, g⟩ :: l) :: k) .normal env w :=
  ev_y hg hd (y_indexAddr hT hx hy hty h0 h1) hk
theorem q_indexAddr {t e sz : Nat} {x y : Operand} {b o len cap : Nat} {kd : IntKind} {i : Int} (hg : guardOf L env g = some true) (hd : Nat.blt d n = true) (hT : TabOk P tab) (hx : ev env x = some (.slice (some ⟨b, o, none⟩) len cap)) (hy : ev env y = some (.int kd i)) (hty : tyAt tab t = .slice e sz) (h0 : 0 ≤ i) (h1 : i < len)
    (hk : HQ P C n Q L l ((d, (.pointer (some ⟨b, o + i.toNat * sz, none⟩))) :: env)) : HQ P C n Q L (⟨some d, .indexAddr t x y, ty, ps, af, g⟩ :: l) env :=
  q_y hg hd (y_indexAddr hT hx hy hty h0 h1) hk
theorem ev_strOf {s t e : TypeId} {sz : Nat} {x : Operand} {A : Option Addr} {cap : Nat} {bs : List UInt8} (hg : guardOf L env g = some true) (hd : Nat.blt d n = true) (hT : TabOk P tab) (hx : ev env x = some (.slice A bs.length cap)) (hs : tyAt tab s = .slice e sz) (he : tyAt tab e = .int .u8) (ht : tyAt tab t = .str) (hc : Cs w A (bs.map bv))
    (hk : H P fn R n (.ops L l :: k) .normal ((d, (.string (sOf bs))) :: env) w) : H P fn R n (.ops L (⟨some d, .convert s t x, ty, ps, af, g⟩ :: l) :: k) .normal env w :=
  ev_y hg hd (y_strOf hT hx hs he ht (at_w hc)) hk
theorem q_strOf {s t e : TypeId} {sz : Nat} {x : Operand} {A : Option Addr} {cap : Nat} {bs : List UInt8} (hg : guardOf L env g = some true) (hd : Nat.blt d n = true) (hT : TabOk P tab) (hx : ev env x = some (.slice A bs.length cap)) (hs : tyAt tab s = .slice e sz) (he : tyAt tab e = .int .u8) (ht : tyAt tab t = .str) (hc : ∀ w, C w → Cs w A (bs.map bv))
    (hk : HQ P C n Q L l ((d, (.string (sOf bs))) :: env)) : HQ P C n Q L (⟨some d, .convert s t x, ty, ps, af, g⟩ :: l) env :=
  q_y hg hd (y_strOf hT hx hs he ht hc) hk
theorem ev_build {t : TypeId} {parts : List (Nat × Operand)} {v : Value} {vs : List (Nat × Value)} (hg : guardOf L env g = some true) (hd : Nat.blt d n = true) (hvs : evPairs env parts = some vs) (hrun : ∀ w, (Instr.build t ⟨vs⟩).run P w = .ok v w)
    (hk : H P fn R n (.ops L l :: k) .normal ((d, v) :: env) w) : H P fn R n (.ops L (⟨some d, .build t ⟨parts⟩, ty, ps, af, g⟩ :: l) :: k) .normal env w :=
  ev_y hg hd (y_build hvs hrun) hk
theorem q_build {t : TypeId} {parts : List (Nat × Operand)} {v : Value} {vs : List (Nat × Value)} (hg : guardOf L env g = some true) (hd : Nat.blt d n = true) (hvs : evPairs env parts = some vs) (hrun : ∀ w, (Instr.build t ⟨vs⟩).run P w = .ok v w)
    (hk : HQ P C n Q L l ((d, v) :: env)) : HQ P C n Q L (⟨some d, .build t ⟨parts⟩, ty, ps, af, g⟩ :: l) env :=
  q_y hg hd (y_build hvs hrun) hk
end
end Go.Wk
