/-
  Chapter 13: pairs as keys of a map; merges held against one another.
-/
import Derived.Test.YtfgllkflnkolhaaDoorFst
import Derived.Test.YtfgllkflnkolhaaDoorTab
import Derived.Test.YtfgllkflnkolhaaDoorCopy
import Derived.Laws.StructEq
set_option linter.unusedVariables false
namespace Go.Wk.YtfgllkflnkolhaaDoor
open Go Go.Wk Go.Proofs

abbrev pairV (p : Int × Int) : Value := .agg ⟨[.int .i64 p.1, .int .i64 p.2]⟩
theorem pair_part (a b : Int) (w : World) : (part 3 ⟨[.int .i64 a, .int .i64 b]⟩ 0).run Tryd.prog w = .ok (.int .i64 a) w ∧ (part 3 ⟨[.int .i64 a, .int .i64 b]⟩ 1).run Tryd.prog w = .ok (.int .i64 b) w :=
  ⟨run_part siz3 agg3 rfl, run_part siz3 agg3 rfl⟩
theorem pair_eq (a b c d : Int) (w : World) : (Op.equal 161 (.agg ⟨[.int .i64 a, .int .i64 b]⟩) (.agg ⟨[.int .i64 c, .int .i64 d]⟩)).run Tryd.prog w = .ok (decide ((c, d) = (a, b))) w := by
  have u3 := Tryd.underlying3
  have a3 := Tryd.isAgg3
  have z3 := Tryd.sizeOf3
  rw [equal_eq, Op.equalIn]
  simp only [Sem.run_bind, run_underlying Tryd.underlying161, Result.andThen_ok]
  simp only [Std.Legacy.Range.forIn_eq_forIn_range', Std.Legacy.Range.size, Nat.sub_zero, Nat.add_sub_cancel, Nat.div_one, List.range'_succ, List.range'_zero, List.forIn_cons, List.forIn_nil]
  go_simp
  by_cases h1 : a = c <;> by_cases h2 : b = d <;> simp [h1, h2, eq_comm]
theorem pair_find (x : Int × Int) (w : World) : ∀ (ent : List MapEntry) (m : List ((Int × Int) × Value)) (i : Nat), ent.map (fun e => (e.key, e.val)) = m.map (fun p => (pairV p.1, p.2)) →
    (Instr.findAsking 161 (pairV x) ent i).run Tryd.prog w = .ok (findM m x i) w
  | [], m, i, h => by
    have : m = [] := by simpa using h
    subst this; rfl
  | e :: r, [], i, h => by simp at h
  | e :: r, p :: m, i, h => by
    simp only [List.map_cons, List.cons.injEq, Prod.mk.injEq] at h
    obtain ⟨⟨h1, h2⟩, h3⟩ := h
    have ih := pair_find x w r m (i + 1) h3
    unfold Instr.findAsking findM
    rw [h1]
    refine (run_bind (pair_eq x.1 x.2 p.1.1 p.1.2 w)).trans ?_
    have e1 : ((p.1.1, p.1.2) = (x.1, x.2)) ↔ p.1 = x := Iff.rfl
    by_cases hx : p.1 = x
    · rw [if_pos hx]
      have : decide ((p.1.1, p.1.2) = (x.1, x.2)) = true := decide_eq_true hx
      simp only [this, if_true, ← h2]; rfl
    · rw [if_neg hx]
      have : decide ((p.1.1, p.1.2) = (x.1, x.2)) = false := decide_eq_false hx
      simp only [this, Bool.false_eq_true, if_false]; exact ih
theorem key_pair : KeyT Tryd.prog 161 pairV where
  chk := fun e x w => by
    show (Instr.checkKey e (9999 + 1) 161 _).run Tryd.prog w = _
    have u3 := Tryd.underlying3
    have a3 := Tryd.isAgg3
    have z3 := Tryd.sizeOf3
    have hc : ∀ v : Int, ∀ w, (Instr.checkKey e 9999 3 (.int .i64 v)).run Tryd.prog w = .ok () w := fun v w => by
      show (Instr.checkKey e (9998 + 1) 3 _).run Tryd.prog w = _
      unfold Instr.checkKey
      exact run_bind (run_underlying' Tryd.underlying3)
    unfold Instr.checkKey
    simp only [Sem.run_bind, run_underlying Tryd.underlying161, Result.andThen_ok]
    simp only [Std.Legacy.Range.forIn_eq_forIn_range', Std.Legacy.Range.size, Nat.sub_zero, Nat.add_sub_cancel, Nat.div_one, List.range'_succ, List.range'_zero, List.forIn_cons, List.forIn_nil]
    go_simp
  find := fun x ent m w he => by
    unfold Instr.findKey
    refine (run_bind (run_underlying' Tryd.underlying161)).trans ?_
    cases ent with
    | nil =>
      have : m = [] := by simpa using he
      subst this; rfl
    | cons e r =>
      cases m with
      | nil => simp at he
      | cons p m =>
        have h0 := he
        simp only [List.map_cons, List.cons.injEq, Prod.mk.injEq] at h0
        have h1 : Instr.findNow (.array 2 3) (pairV x) (e :: r) 0 = none := by
          unfold Instr.findNow; rw [h0.1.1]; rfl
        simp only [h1]
        exact pair_find x w (e :: r) (p :: m) 0 he

abbrev mrgV (m : Int × Int × Int) : Value := .agg ⟨[.int .i64 m.1, .int .i64 m.2.1, .int .i64 m.2.2]⟩
theorem mrg_neq (m n : Int × Int × Int) (w : World) : (binOp .neq 123 (mrgV m) (mrgV n)).run Tryd.prog w = .ok (.bool (!decide (m = n))) w := by
  obtain ⟨a, b, c⟩ := m
  obtain ⟨a', b', c'⟩ := n
  have u3 := Tryd.underlying3
  have a3 := Tryd.isAgg3
  have z3 := Tryd.sizeOf3
  have hS : Tryd.prog.underlying 123 = some (.struct (Tryd.prog.fieldsOf 123)) := by kernel_rfl
  rw [run_neq_struct, show (10000 : Nat) = 9999 + 1 from rfl, run_equalIn_agg w 9999 123 _ _ hS (by kernel_rfl)]
  simp only [Program.fieldsOf, Tryd.underlying123]
  go_simp
  by_cases h1 : a = a' <;> by_cases h2 : b = b' <;> by_cases h3 : c = c' <;> simp [h1, h2, h3]
end Go.Wk.YtfgllkflnkolhaaDoor
