/-
  The walk kit of this repo, part 17: maps that the call has made: made, asked, given a new key.
-/
import Derived.Test.YtdelgnflcfhhkaaGreatDoorEvs
set_option linter.unusedVariables false
set_option linter.unusedSimpArgs false
namespace Go.Wk
open Go Go.Lib

/-- block b is a map that holds these keys with these values, in this order -/
def Mp {α : Type} (κ : α → Value) (w : World) (b : Nat) (m : List (α × Value)) : Prop :=
  ∃ ent clock, w.heap[b]? = some (.map ent clock) ∧ ent.toList.map (fun e => (e.key, e.val)) = m.map (fun p => (κ p.1, p.2))
theorem Mp.lt {α : Type} {κ : α → Value} {w : World} {b : Nat} {m : List (α × Value)} (h : Mp κ w b m) : b < w.heap.size := by
  obtain ⟨_, _, h, _⟩ := h; exact (Array.getElem?_eq_some_iff.1 h).1
theorem Mp.fr {α : Type} {κ : α → Value} {S : Nat → Prop} {w w' : World} {b : Nat} {m : List (α × Value)} (h : Mp κ w b m) (hf : Fr S w w') (hn : ¬ S b) : Mp κ w' b m := by
  have hlt := h.lt
  obtain ⟨ent, c, h1, h2⟩ := h
  exact ⟨ent, c, (hf.block b hlt hn).trans h1, h2⟩
theorem Mp.fr0 {α : Type} {κ : α → Value} {w w' : World} {b : Nat} {m : List (α × Value)} (h : Mp κ w b m) (hf : Fr no w w') : Mp κ w' b m := h.fr hf id

/-- where a key stands, and with what -/
def findM {α : Type} [DecidableEq α] : List (α × Value) → α → Nat → Option (Nat × Value)
  | [], _, _ => none
  | p :: r, x, i => if p.1 = x then some (i, p.2) else findM r x (i + 1)
/-- what a key has -/
def getM {α : Type} [DecidableEq α] : List (α × Value) → α → Option Value
  | [], _ => none
  | p :: r, x => if p.1 = x then some p.2 else getM r x
theorem findM_get {α : Type} [DecidableEq α] : ∀ (m : List (α × Value)) (x : α) (i : Nat), (findM m x i).map (·.2) = getM m x
  | [], _, _ => rfl
  | p :: r, x, i => by
    unfold findM getM
    split
    · rfl
    · exact findM_get r x (i + 1)
/-- a type of keys that can be held against one another -/
structure KeyT {α : Type} [DecidableEq α] (P : Program) (kt : TypeId) (κ : α → Value) : Prop where
  chk : ∀ e x w, (Instr.checkKey e 10000 kt (κ x)).run P w = .ok () w
  find : ∀ x (ent : List MapEntry) (m : List (α × Value)) w, ent.map (fun e => (e.key, e.val)) = m.map (fun p => (κ p.1, p.2)) → (Instr.findKey kt (κ x) ent).run P w = .ok (findM m x 0) w

theorem baBeq (x y : ByteArray) : (x == y) = decide (x = y) := by
  obtain ⟨a⟩ := x
  obtain ⟨b⟩ := y
  have h1 : ((⟨a⟩ : ByteArray) == ⟨b⟩) = (a == b) := rfl
  rw [h1]
  by_cases h : a = b
  · subst h; simp
  · have h2 : ¬ (⟨a⟩ : ByteArray) = ⟨b⟩ := fun e => h (by cases e; rfl)
    simp [h, h2]
section
variable {P : Program}
theorem findNow_str (x : List UInt8) : ∀ (ent : List MapEntry) (m : List (List UInt8 × Value)) (i : Nat), ent.map (fun e => (e.key, e.val)) = m.map (fun p => (Value.string (sOf p.1), p.2)) →
    Instr.findNow .string (.string (sOf x)) ent i = some (findM m x i)
  | [], m, i, h => by
    have : m = [] := by simpa using h
    subst this; rfl
  | e :: r, [], i, h => by simp at h
  | e :: r, p :: m, i, h => by
    simp only [List.map_cons, List.cons.injEq, Prod.mk.injEq] at h
    obtain ⟨⟨h1, h2⟩, h3⟩ := h
    have ih := findNow_str x r m (i + 1) h3
    have he : (sOf x == sOf p.1) = decide (p.1 = x) := by
      rw [baBeq]
      refine decide_eq_decide.2 ⟨fun e => ?_, fun e => by rw [e]⟩
      have := congrArg (fun b : ByteArray => b.data.toList) e
      exact this.symm
    unfold Instr.findNow findM
    rw [h1]
    simp only [Instr.sameNow, he]
    by_cases hx : p.1 = x
    · rw [if_pos hx, decide_eq_true hx, ← h2]
    · rw [if_neg hx, decide_eq_false hx]; exact ih
theorem key_str {kt : TypeId} (h : P.underlying kt = some .string) : KeyT P kt (fun s : List UInt8 => Value.string (sOf s)) where
  chk := fun e x w => by
    show (Instr.checkKey e (9999 + 1) kt _).run P w = _
    unfold Instr.checkKey
    exact run_bind (run_underlying' h)
  find := fun x ent m w he => by
    unfold Instr.findKey
    refine (run_bind (run_underlying' h)).trans ?_
    rw [findNow_str x ent m 0 he]; rfl
end

section
variable {P : Program} {fn : Func} {R : Ending → World → Prop} {n : Nat} {w : World} {tab : Tab} {k : List It} {env : Env} {L l : List Oper} {d : Nat} {ty : TypeId} {ps : String} {af : Array Edge} {g : Option (Nat × Bool)}
theorem run_getObj {w : World} {b : Nat} {o : Obj} (h : w.heap[b]? = some o) (hm : ∃ e c, o = .map e c) : (getObj b).run P w = .ok o w := by
  obtain ⟨e, c, rfl⟩ := hm
  simp [getObj, Sem.run, h]
theorem ev_makeMap {α : Type} (κ : α → Value) {t : TypeId} (hg : guardOf L env g = some true) (hd : Nat.blt d n = true)
    (hk : ∀ b w', w.heap.size ≤ b → Mp κ w' b [] → Fr no w w' → H P fn R n (.ops L l :: k) .normal ((d, .map (some b)) :: env) w') :
    H P fn R n (.ops L (⟨some d, .makeMap t none, ty, ps, af, g⟩ :: l) :: k) .normal env w :=
  ev_op hg hd (.map (some w.heap.size)) (w.alloc (.map #[] 0)) (fun a hA => by
    simp only [execOp]
    rfl) (hk _ _ (Nat.le_refl _) ⟨#[], 0, heap_alloc_new w _, rfl⟩ (Fr.alloc _ _))
/-- what a key has, and whether it is there -/
theorem run_lookup {α : Type} [DecidableEq α] {κ : α → Value} {t kt e : TypeId} {b : Nat} {m : List (α × Value)} {x : α} {z : Value} {s bb : Nat} (hu : P.underlying t = some (.map kt e)) (hK : KeyT P kt κ) (hm : Mp κ w b m) (hz : Inf P e z s bb) :
    (Instr.lookup t (.map (some b)) (κ x) true).run P w = .ok (match getM m x with | some v => .tuple ⟨[v, .bool true]⟩ | none => .tuple ⟨[z, .bool false]⟩) w := by
  obtain ⟨ent, c, h1, h2⟩ := hm
  obtain ⟨i, hi, hz, _, _⟩ := hz
  unfold Instr.lookup
  refine (run_bind (run_underlying' hu)).trans ?_
  simp only []
  refine (run_bind (run_getObj h1 ⟨_, _, rfl⟩)).trans ?_
  simp only []
  refine (run_bind (a := ent) (w' := w) rfl).trans ?_
  refine (run_bind (hK.chk _ x w)).trans ?_
  rw [← findM_get m x 0]
  have hf := hK.find x ent.toList m w h2
  cases hfm : findM m x 0 with
  | none =>
    rw [hfm] at hf
    refine (run_bind hf).trans ?_
    simp only []
    refine (run_bind (a := z) (w' := w) ?_).trans rfl
    unfold zeroValue
    refine (run_bind (run_typeInfo hi)).trans ?_
    rw [hz]; rfl
  | some r =>
    rw [hfm] at hf
    exact (run_bind hf).trans rfl
theorem ev_lookup {α : Type} [DecidableEq α] {κ : α → Value} {t kt e : TypeId} {x y : Operand} {b : Nat} {m : List (α × Value)} {q : α} {z : Value} {s bb : Nat} (hT : TabOk P tab) (hg : guardOf L env g = some true) (hd : Nat.blt d n = true)
    (hx : ev env x = some (.map (some b))) (hm : Mp κ w b m) (hy : ev env y = some (κ q)) (hty : tyAt tab t = .map kt e) (hK : KeyT P kt κ) (hz : Inf P e z s bb)
    (hk1 : ∀ v, getM m q = some v → H P fn R n (.ops L l :: k) .normal ((d, .tuple ⟨[v, .bool true]⟩) :: env) w)
    (hk2 : getM m q = none → H P fn R n (.ops L l :: k) .normal ((d, .tuple ⟨[z, .bool false]⟩) :: env) w) :
    H P fn R n (.ops L (⟨some d, .lookup t x y true, ty, ps, af, g⟩ :: l) :: k) .normal env w := by
  have hr := run_lookup (P := P) (x := q) (ty_map hT hty) hK hm hz
  cases hg' : getM m q with
  | none =>
    rw [hg'] at hr
    exact ev_op hg hd _ w (fun a hA => by simp only [execOp, hA.ev hx, hA.ev hy]; exact run_bind hr) (hk2 hg')
  | some v =>
    rw [hg'] at hr
    exact ev_op hg hd _ w (fun a hA => by simp only [execOp, hA.ev hx, hA.ev hy]; exact run_bind hr) (hk1 v hg')
/-- a key that is not there yet -/
theorem ev_mapPut {α : Type} [DecidableEq α] {κ : α → Value} {t kt e : TypeId} {x y z : Operand} {b : Nat} {m : List (α × Value)} {q : α} {v : Value} (hT : TabOk P tab) (hg : guardOf L env g = some true)
    (hx : ev env x = some (.map (some b))) (hm : Mp κ w b m) (hy : ev env y = some (κ q)) (hz : ev env z = some v) (hty : tyAt tab t = .map kt e) (hK : KeyT P kt κ) (hno : getM m q = none)
    (hk : ∀ w', Mp κ w' b (m ++ [(q, v)]) → Fr (fun c => c = b) w w' → H P fn R n (.ops L l :: k) .normal env w') :
    H P fn R n (.ops L (⟨none, .mapUpdate t x y z, ty, ps, af, g⟩ :: l) :: k) .normal env w := by
  have hlt := hm.lt
  obtain ⟨ent, c, h1, h2⟩ := hm
  have hf := hK.find q ent.toList m w h2
  have hfm : findM m q 0 = none := by
    have := findM_get m q 0
    rw [hno] at this
    simpa using this
  rw [hfm] at hf
  have hr : (Instr.mapUpdate t (.map (some b)) (κ q) v).run P w = .ok () { w with heap := w.heap.setIfInBounds b (.map (ent.push { key := κ q, val := v, born := c }) (c + 1)) } := by
    unfold Instr.mapUpdate
    refine (run_bind (run_underlying' (ty_map hT hty))).trans ?_
    simp only []
    refine (run_bind (run_getObj h1 ⟨_, _, rfl⟩)).trans ?_
    simp only []
    refine (run_bind (hK.chk _ q w)).trans ?_
    refine (run_bind hf).trans ?_
    simp only [setObj, Sem.run, h1]
  refine ev_do hg { w with heap := w.heap.setIfInBounds b (.map (ent.push { key := κ q, val := v, born := c }) (c + 1)) } (fun a hA => by simp only [execOp, hA.ev hx, hA.ev hy, hA.ev hz]; exact run_bind hr) (hk _ ⟨ent.push { key := κ q, val := v, born := c }, c + 1, ?_, ?_⟩ ⟨rfl, rfl, rfl, by simp, fun i hi hn => ?_⟩)
  · simp [hlt]
  · simp [h2]
  · have : b ≠ i := fun e => hn e.symm
    simp only
    rw [Array.getElem?_setIfInBounds_ne this]
end
end Go.Wk
set_option linter.unusedSectionVars false
namespace Go.Wk
open Go

/-- the first place from a on where p holds, of k places; a + k: none -/
def fstP (p : Nat → Prop) [DecidablePred p] : Nat → Nat → Nat
  | a, 0 => a
  | a, k + 1 => if p a then a else fstP p (a + 1) k
theorem fstP_spec (p : Nat → Prop) [DecidablePred p] : ∀ k a, a ≤ fstP p a k ∧ fstP p a k ≤ a + k ∧ (∀ j, a ≤ j → j < fstP p a k → ¬ p j) ∧ (fstP p a k < a + k → p (fstP p a k))
  | 0, a => ⟨Nat.le_refl _, Nat.le_refl _, fun j h1 h2 => by simp only [fstP] at h2; omega, fun h => by simp only [fstP] at h; omega⟩
  | k + 1, a => by
    unfold fstP
    split
    · exact ⟨Nat.le_refl _, by omega, fun j h1 h2 => by omega, fun _ => by assumption⟩
    · rename_i hp
      obtain ⟨h1, h2, h3, h4⟩ := fstP_spec p k (a + 1)
      refine ⟨by omega, by omega, fun j h5 h6 => ?_, fun h => h4 (by omega)⟩
      by_cases e : j = a
      · subst e; exact hp
      · exact h3 j (by omega) h6
theorem fstP_of {p : Nat → Prop} [DecidablePred p] {a k n : Nat} (h1 : a ≤ n) (h2 : n ≤ a + k) (h3 : ∀ j, a ≤ j → j < n → ¬ p j) (h4 : n < a + k → p n) : fstP p a k = n := by
  obtain ⟨g1, g2, g3, g4⟩ := fstP_spec p k a
  rcases Nat.lt_trichotomy (fstP p a k) n with h | h | h
  · exact absurd (g4 (by omega)) (h3 _ g1 h)
  · exact h
  · exact absurd (h4 (by omega)) (g3 _ h1 h)
theorem fstP_at {p : Nat → Prop} [DecidablePred p] {k n : Nat} (h2 : n < k) (h3 : ∀ j, j < n → ¬ p j) (h4 : p n) : fstP p 0 k = n := fstP_of (Nat.zero_le _) (by omega) (fun j _ h => h3 j h) (fun _ => h4)
theorem fstP_no {p : Nat → Prop} [DecidablePred p] {k : Nat} (h3 : ∀ j, j < k → ¬ p j) : fstP p 0 k = k := fstP_of (Nat.zero_le _) (by omega) (fun j _ h => h3 j h) (fun h => by omega)

section
variable {α : Type} [DecidableEq α]
theorem getM_none : ∀ {m : List (α × Value)} {q : α}, getM m q = none ↔ ∀ p ∈ m, p.1 ≠ q
  | [], q => by simp [getM]
  | p :: r, q => by
    unfold getM
    by_cases h : p.1 = q
    · rw [if_pos h]; simp [h]
    · rw [if_neg h, getM_none]; simp [h]
theorem getM_some : ∀ {m : List (α × Value)} {q : α} {v : Value}, getM m q = some v → (q, v) ∈ m
  | [], q, v, h => by simp [getM] at h
  | p :: r, q, v, h => by
    unfold getM at h
    split at h
    · rename_i e; cases h; subst e; simp
    · exact List.mem_cons_of_mem _ (getM_some h)
/-- a map filled with one entry a round -/
def mapN (f : Nat → α) (g : Nat → Value) (k : Nat) : List (α × Value) := (List.range k).map fun i => (f i, g i)
theorem mapN_succ (f : Nat → α) (g : Nat → Value) (k : Nat) : mapN f g (k + 1) = mapN f g k ++ [(f k, g k)] := by unfold mapN; rw [List.range_succ, List.map_append]; rfl
theorem mapN_none {f : Nat → α} {g : Nat → Value} {k : Nat} {q : α} : getM (mapN f g k) q = none ↔ ∀ i, i < k → f i ≠ q := by
  rw [getM_none]
  unfold mapN
  simp
theorem mapN_some {f : Nat → α} {g : Nat → Value} {k : Nat} {q : α} {v : Value} (h : getM (mapN f g k) q = some v) : ∃ i, i < k ∧ f i = q ∧ v = g i := by
  have := getM_some h
  unfold mapN at this
  simp at this
  obtain ⟨i, h1, h2, h3⟩ := this
  exact ⟨i, h1, h2, h3.symm⟩
end

/-- a part of a row -/
theorem Cs.part {w : World} {b o : Nat} {xs ys : List Value} (h : Cs w (some ⟨b, o, none⟩) xs) (off : Nat) (hs : ∀ j u, ys[j]? = some u → xs[off + j]? = some u) : Cs w (some ⟨b, o + off, none⟩) ys := fun j u hj => by
  obtain ⟨b', o', e, hc⟩ := h _ _ (hs j u hj)
  cases e
  exact ⟨b, o + off, rfl, by rw [Nat.add_assoc]; exact hc⟩
end Go.Wk
