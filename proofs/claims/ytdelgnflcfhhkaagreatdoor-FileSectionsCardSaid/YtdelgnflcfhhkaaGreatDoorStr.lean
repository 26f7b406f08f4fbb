/-
  The walk kit of this repo, part 14: ranging over a string; bytes made a string without a copy; pointers held against themselves, turned and back.
-/
import Derived.Test.YtdelgnflcfhhkaaGreatDoorBits
import Derived.Laws.RangeString
import Derived.Laws.Externs
import Derived.Lib.Builder
import Derived.Lib.UnsafeStr
set_option linter.unusedVariables false
namespace Go.Wk
open Go Go.Lib

/-- the character at a place: what it is, how many bytes -/
def dcd (s : List UInt8) (i : Nat) : Nat × Nat := Utf8.decode (sOf s) i
/-- an iterator over a string at a place -/
def Itr (w : World) (r : Nat) (s : List UInt8) (i : Nat) : Prop := w.heap[r]? = some (.stringIter (sOf s) i)
theorem Itr.lt {w : World} {r i : Nat} {s : List UInt8} (h : Itr w r s i) : r < w.heap.size := (Array.getElem?_eq_some_iff.1 h).1
theorem Itr.fr {S : Nat → Prop} {w w' : World} {r i : Nat} {s : List UInt8} (h : Itr w r s i) (hf : Fr S w w') (hn : ¬ S r) : Itr w' r s i := by
  unfold Itr; rw [hf.block r h.lt hn]; exact h
theorem Itr.fr0 {w w' : World} {r i : Nat} {s : List UInt8} (h : Itr w r s i) (hf : Fr no w w') : Itr w' r s i := h.fr hf id

section
variable {P : Program} {fn : Func} {R : Ending → World → Prop} {n : Nat} {w : World} {tab : Tab} {k : List It} {env : Env} {L l : List Oper} {d : Nat} {ty : TypeId} {ps : String} {af : Array Edge} {g : Option (Nat × Bool)}

theorem ev_range {t : TypeId} {x : Operand} {s : List UInt8} (hT : TabOk P tab) (hg : guardOf L env g = some true) (hd : Nat.blt d n = true) (hx : ev env x = some (.string (sOf s))) (hty : tyAt tab t = .str)
    (hk : ∀ r w', w.heap.size ≤ r → Itr w' r s 0 → Fr no w w' → H P fn R n (.ops L l :: k) .normal ((d, .pointer (some ⟨r, 0, none⟩)) :: env) w') :
    H P fn R n (.ops L (⟨some d, .range t x, ty, ps, af, g⟩ :: l) :: k) .normal env w :=
  ev_op hg hd (.pointer (some ⟨w.heap.size, 0, none⟩)) (w.iter (sOf s) 0) (fun a hA => by
    simp only [execOp, hA.ev hx]
    exact run_bind (run_range_string w t (sOf s) (ty_str hT hty))) (hk _ _ (Nat.le_refl _) (World.iter_heap w (sOf s) 0) (Fr.alloc _ _))

theorem run_next_at {w : World} {r i : Nat} {s : List UInt8} (h : Itr w r s i) (hi : i < s.length) (ty : TypeId) :
    (Instr.next (.pointer (some ⟨r, 0, none⟩)) true ty).run P w = .ok (.tuple #[.bool true, .int .i64 i, .int .i32 (dcd s i).1]) { w with heap := w.heap.setIfInBounds r (.stringIter (sOf s) (i + (dcd s i).2)) } := by
  have hi' : i < (sOf s).size := hi
  unfold Itr at h
  simp only [Instr.next, getObj, setObj, Sem.run_bind, Sem.run, h, Result.andThen, hi', if_true, dcd]
  simp [goInt]
theorem run_next_end {w : World} {r i : Nat} {s : List UInt8} (h : Itr w r s i) (hi : ¬ i < s.length) (ty : TypeId) :
    (Instr.next (.pointer (some ⟨r, 0, none⟩)) true ty).run P w = .ok (.tuple #[.bool false]) w := by
  have hi' : ¬ i < (sOf s).size := hi
  unfold Itr at h
  simp [Instr.next, getObj, Sem.run, h, hi']

theorem ev_next1 {x : Operand} {r i : Nat} {s : List UInt8} (hg : guardOf L env g = some true) (hd : Nat.blt d n = true) (hx : ev env x = some (.pointer (some ⟨r, 0, none⟩))) (hit : Itr w r s i)
    (hk : ∀ w', i < s.length → Itr w' r s (i + (dcd s i).2) → Fr (fun c => c = r) w w' → H P fn R n (.ops L l :: k) .normal ((d, .tuple ⟨[.bool true, .int .i64 i, .int .i32 (dcd s i).1]⟩) :: env) w')
    (hk2 : ¬ i < s.length → H P fn R n (.ops L l :: k) .normal ((d, .tuple ⟨[.bool false]⟩) :: env) w) :
    H P fn R n (.ops L (⟨some d, .next x true, ty, ps, af, g⟩ :: l) :: k) .normal env w := by
  by_cases hi : i < s.length
  · refine ev_op hg hd (.tuple ⟨[.bool true, .int .i64 i, .int .i32 (dcd s i).1]⟩) { w with heap := w.heap.setIfInBounds r (.stringIter (sOf s) (i + (dcd s i).2)) } (fun a hA => by
      simp only [execOp, hA.ev hx]
      exact run_bind (run_next_at hit hi ty)) (hk _ hi ?_ ⟨rfl, rfl, rfl, by simp, fun b hb hn => ?_⟩)
    · unfold Itr
      have := hit.lt
      simp [this]
    · have hn' : ¬ b = r := hn
      simp only
      rw [Array.getElem?_setIfInBounds_ne (fun e => hn' e.symm)]
  · exact ev_op hg hd (.tuple ⟨[.bool false]⟩) w (fun a hA => by
      simp only [execOp, hA.ev hx]
      exact run_bind (run_next_end hit hi ty)) (hk2 hi)

/-- a pointer held against itself -/
theorem ev_neqPtr {t te : TypeId} {x y : Operand} {a : Addr} (hT : TabOk P tab) (hg : guardOf L env g = some true) (hd : Nat.blt d n = true) (hx : ev env x = some (.pointer (some a))) (hy : ev env y = some (.pointer (some a))) {t' : TypeId} (hty : tyAt tab t = .ptr te) {z : Value} {sz b : Nat} (hz : Inf P te z sz b)
    (hk : H P fn R n (.ops L l :: k) .normal ((d, .bool false) :: env) w) : H P fn R n (.ops L (⟨some d, .binOp .neq t x y t', ty, ps, af, g⟩ :: l) :: k) .normal env w := by
  obtain ⟨i, hi, _⟩ := hz
  refine ev_op hg hd (.bool false) w (fun c hA => ?_) hk
  simp only [execOp, hA.ev hx, hA.ev hy]
  refine run_bind (a := Value.bool false) (w' := w) ?_
  refine (run_bind (a := ()) (w' := w) rfl).trans ?_
  exact run_neq_ptr_same w a (ty_ptr hT hty) hi

/-- a function of the model's own -/
theorem ev_ext {f : FuncId} {fc : Func} {e : Array Value → Sem Value} {xs : List Operand} {ats : Array TypeId} {vs : List Value} {v : Value} (hg : guardOf L env g = some true) (hd : Nat.blt d n = true) (hvs : evs env xs = some vs)
    (hf : P.funcs[f]? = some fc) (hname : (fc.name == "runtime.NumGoroutine") = false) (hb : fc.body.isNone = true) (hn : Extern.findNext fc = none) (he : Extern.find fc = some e) (hr : (e ⟨vs⟩).run P w = .ok v w)
    (hk : H P fn R n (.ops L l :: k) .normal ((d, v) :: env) w) : H P fn R n (.ops L (⟨some d, .call ⟨.value (.func f), ⟨xs⟩, ats⟩, ty, ps, af, g⟩ :: l) :: k) .normal env w :=
  ev_op hg hd v w (fun a hA => by
    have hargs : (⟨xs⟩ : Array Operand).map a.eval = ⟨vs⟩ := by
      have := hA.evs hvs
      simp [this]
    have hf' : a.eval (.func f) = .func (.func f) #[] #[] := rfl
    simp only [execOp, resolve, hargs, hf', Deferred.ofValue]
    show Sem.run P ((Sem.pure _).bind _) w = _
    simp only [Sem.bind, invoke]
    have := run_callFunc_extern hf hname hb hn he (⟨vs⟩ : Array Value) w
    simp only [hr, Result.andThen] at this
    simpa using this) hk

theorem ev_toUnsafe {s t u e : TypeId} {x : Operand} {b : Nat} {cs : List Value} {z : Value} {sz bb : Nat} (hT : TabOk P tab) (hg : guardOf L env g = some true) (hd : Nat.blt d n = true) (hx : ev env x = some (.pointer (some ⟨b, 0, none⟩))) (hs : tyAt tab s = .ptr u) (ht : P.underlying t = some .unsafePointer) (hz : Inf P u z sz bb) (hsz : Nat.ble 1 sz = true) (hb : Blk w b cs e) (hl : Nat.ble 1 cs.length = true)
    (hk : H P fn R n (.ops L l :: k) .normal ((d, .pointer (some ⟨b, 0, none⟩)) :: env) w) : H P fn R n (.ops L (⟨some d, .convert s t x, ty, ps, af, g⟩ :: l) :: k) .normal env w := by
  obtain ⟨i, hi, _, hsi, _⟩ := hz
  have h1 : 1 ≤ sz := Nat.le_of_ble_eq_true hsz
  have h2 : 1 ≤ cs.length := Nat.le_of_ble_eq_true hl
  refine ev_op hg hd (.pointer (some ⟨b, 0, none⟩)) w (fun a hA => ?_) hk
  simp only [execOp, hA.ev hx]
  refine run_bind (a := Value.pointer (some ⟨b, 0, none⟩)) (w' := w) ?_
  exact run_to_unsafe (e := e) (cells := cs.length) w ⟨b, 0, none⟩ (ty_ptr hT hs) ht hi (by omega) (by unfold Blk at hb; simp [World.shape?, hb]) h2
theorem ev_fromUnsafe {s t u e : TypeId} {x : Operand} {b : Nat} {cs : List Value} {z : Value} {sz bb : Nat} (hT : TabOk P tab) (hg : guardOf L env g = some true) (hd : Nat.blt d n = true) (hx : ev env x = some (.pointer (some ⟨b, 0, none⟩))) (hs : P.underlying s = some .unsafePointer) (ht : tyAt tab t = .ptr u) (hz : Inf P u z sz bb) (hb : Blk w b cs e) (hl : liesAt P P.depth e (cs.length / P.cellsOf e) 0 u 1 = true)
    (hk : H P fn R n (.ops L l :: k) .normal ((d, .pointer (some ⟨b, 0, none⟩)) :: env) w) : H P fn R n (.ops L (⟨some d, .convert s t x, ty, ps, af, g⟩ :: l) :: k) .normal env w := by
  obtain ⟨i, hi, _, hsi, _⟩ := hz
  refine ev_op hg hd (.pointer (some ⟨b, 0, none⟩)) w (fun a hA => ?_) hk
  simp only [execOp, hA.ev hx]
  refine run_bind (a := Value.pointer (some ⟨b, 0, none⟩)) (w' := w) ?_
  exact run_from_unsafe (e := e) (cells := cs.length) w ⟨b, 0, none⟩ hs (ty_ptr hT ht) hi (by unfold Blk at hb; simp [World.shape?, hb]) hl

/-- unsafe.SliceData of a row of one's own -/
theorem ev_sliceData {t e : TypeId} {x : Operand} {v : Value} {nn : Nat} {xs : List Value} (hT : TabOk P tab) (hg : guardOf L env g = some true) (hd : Nat.blt d n = true) (hx : ev env x = some v) (hp : P.underlying ty = some (.pointer e)) (ho : Own w e 1 v nn xs)
    (hk : ∀ p w', Fr no w w' → (∀ b, v.ownBlock = some b → 0 < nn → p = some ⟨b, 0, none⟩) → H P fn R n (.ops L l :: k) .normal ((d, .pointer p) :: env) w') :
    H P fn R n (.ops L (⟨some d, .call ⟨.builtin .unsafeSliceData, ⟨[x]⟩, ⟨[t]⟩⟩, ty, ps, af, g⟩ :: l) :: k) .normal env w := by
  have key : ∃ p w', (Builtin.unsafeSliceData_ #[t] ty #[v]).run P w = .ok (.pointer p) w' ∧ Fr no w w' ∧ (∀ b, v.ownBlock = some b → 0 < nn → p = some ⟨b, 0, none⟩) := by
    rcases ho.2 with ⟨rfl, h0⟩ | ⟨q, cap, cur, rfl, _, hq, hnc, _, _, _⟩
    · exact ⟨none, w, run_unsafeSliceData_nil w _ _ 0 0, Fr.refl _ _, fun b hb => by cases hb⟩
    · by_cases hc : cap = 0
      · subst hc
        exact ⟨_, _, run_unsafeSliceData_zero w _ ty e hp ⟨q, 0, none⟩ nn (e, cur.size) (by simp [World.shape?, hq]), Fr.alloc _ _, fun b hb hn => by omega⟩
      · exact ⟨_, w, run_unsafeSliceData_row w _ _ ⟨q, 0, none⟩ nn cap hc, Fr.refl _ _, fun b hb _ => by simp only [Value.ownBlock, Option.some.injEq] at hb; rw [hb]⟩
  obtain ⟨p, w', h1, h2, h3⟩ := key
  exact ev_op hg hd _ w' (fun a hA => by
    simp only [execOp, resolve, List.map_toArray, List.map, hA.ev hx]
    exact run_bind h1) (hk p w' h2 h3)

/-- unsafe.String of such -/
theorem ev_unsafeStr {t u e : TypeId} {x y : Operand} {v : Value} {s : List UInt8} {p : Option Addr} (hT : TabOk P tab) (hg : guardOf L env g = some true) (hd : Nat.blt d n = true) (hx : ev env x = some (.pointer p)) (hy : ev env y = some (.int .i64 s.length)) (hp : P.underlying t = some (.pointer e)) (hc : P.cellsOf e = 1) (ho : Own w e 1 v s.length (s.map bv)) (hpp : ∀ b, v.ownBlock = some b → 0 < s.length → p = some ⟨b, 0, none⟩)
    (hk : ∀ w', Fr (fun c => v.ownBlock = some c) w w' → H P fn R n (.ops L l :: k) .normal ((d, .string (sOf s)) :: env) w') :
    H P fn R n (.ops L (⟨some d, .call ⟨.builtin .unsafeString, ⟨[x, y]⟩, ⟨[t, u]⟩⟩, ty, ps, af, g⟩ :: l) :: k) .normal env w := by
  have key : ∃ w', (Builtin.unsafeString_ #[t, u] ty #[.pointer p, .int .i64 s.length]).run P w = .ok (.string (sOf s)) w' ∧ Fr (fun c => v.ownBlock = some c) w w' := by
    by_cases hs : s = []
    · subst hs
      exact ⟨w, run_unsafeString_none w t u ty p, Fr.refl _ _⟩
    · have hl : 0 < s.length := List.length_pos_iff.2 hs
      have hcells := fun q hq => World.ownsRow.cells ho (g := q) hq
      rcases ho.2 with ⟨rfl, h0⟩ | ⟨q, cap, cur, rfl, _, hq, hnc, hcm, hcs, _⟩
      · omega
      · have hp1 := hpp q rfl hl
        subst hp1
        refine ⟨_, run_unsafeString_row w t u ty e hp hc q cur.size (by simp [World.shape?, hq]) s hs (by omega) (by unfold maxLen at hcm; omega) (fun j x hx => hcells q rfl j _ (by rw [List.getElem?_map, hx]; rfl)), ?_⟩
        refine ⟨?_, ?_, ?_, ?_, fun b hb hn => ?_⟩
        · unfold World.freeze; split <;> rfl
        · unfold World.freeze; split <;> rfl
        · unfold World.freeze; split <;> rfl
        · unfold World.freeze; split <;> simp
        · unfold World.freeze
          split
          · rfl
          · simp only [Array.getElem?_modify]
            rw [if_neg (fun e => hn (by simp [Value.ownBlock, e]))]
  obtain ⟨w', h1, h2⟩ := key
  exact ev_op hg hd _ w' (fun a hA => by
    simp only [execOp, resolve, List.map_toArray, List.map, hA.ev hx, hA.ev hy]
    exact run_bind h1) (hk w' h2)
/-- the address of an element of an array that is pointed to -/
theorem y_indexAddrP {C : World → Prop} {d : Option Nat} {t e sz len : Nat} {b o : Nat} {ag : Bool} {x y : Operand} {kd : IntKind} {i : Int} (hT : TabOk P tab) (hx : ev env x = some (.pointer (some ⟨b, o, none⟩))) (hy : ev env y = some (.int kd i)) (hty : tyAt tab t = .arr len e sz ag)
    (h0 : 0 ≤ i) (h1 : i < len) : Yv P n env C ⟨d, .indexAddr t x y, ty, ps, af, g⟩ (.pointer (some ⟨b, o + i.toNat * sz, none⟩)) := fun a hA w hw => by
  simp only [execOp, hA.ev hx, hA.ev hy]
  refine run_bind (a := Value.pointer (some ⟨b, o + i.toNat * sz, none⟩)) (w' := w) ?_
  obtain ⟨ht, hs, _⟩ := ty_arr hT hty
  unfold Instr.indexAt
  show Sem.run P ((Sem.pure (kd, i)).bind _) w = _
  simp only [Sem.bind]
  refine (run_bind (run_underlying' ht)).trans ?_
  simp only []
  refine (run_bind (a := (some (⟨b, o, none⟩ : Addr), len, e)) (w' := w) rfl).trans ?_
  refine (run_bind (run_underlying' ht)).trans ?_
  simp only []
  rw [if_pos ⟨h0, h1⟩]
  refine (run_bind (run_sizeOf hs)).trans ?_
  have : (⟨b, o, none⟩ : Addr).add (i.toNat * sz) = ⟨b, o + i.toNat * sz, none⟩ := Addr.add_lit ..
  rw [this]; rfl
theorem ev_indexAddrP {t e sz len : Nat} {b o : Nat} {ag : Bool} {x y : Operand} {kd : IntKind} {i : Int} (hg : guardOf L env g = some true) (hd : Nat.blt d n = true) (hT : TabOk P tab) (hx : ev env x = some (.pointer (some ⟨b, o, none⟩))) (hy : ev env y = some (.int kd i)) (hty : tyAt tab t = .arr len e sz ag)
    (h0 : 0 ≤ i) (h1 : i < len) (hk : H P fn R n (.ops L l :: k) .normal ((d, .pointer (some ⟨b, o + i.toNat * sz, none⟩)) :: env) w) : H P fn R n (.ops L (⟨some d, .indexAddr t x y, ty, ps, af, g⟩ :: l) :: k) .normal env w :=
  ev_y hg hd (y_indexAddrP hT hx hy hty h0 h1) hk
end
end Go.Wk
