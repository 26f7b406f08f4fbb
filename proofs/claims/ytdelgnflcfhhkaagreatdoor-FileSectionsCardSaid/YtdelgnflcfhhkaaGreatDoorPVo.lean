/-
  Taken for this seat out of VoM.
-/
import Derived.Test.YtdelgnflcfhhkaaGreatDoorFst
import Derived.Test.YtdelgnflcfhhkaaGreatDoorTab
import Derived.Test.YtdelgnflcfhhkaaGreatDoorCopy
import Derived.Laws.StructEq
import Derived.Test.YtdelgnflcfhhkaaGreatDoorMevs
set_option linter.unusedVariables false
namespace Go.Wk.YtdelgnflcfhhkaaGreatDoor
open Go Go.Wk Go.Proofs
abbrev pairV (p : Int × Int) : Value := .agg ⟨[.int .i64 p.1, .int .i64 p.2]⟩
theorem pair_eq (a b c d : Int) (w : World) : (Op.equal 252 (.agg ⟨[.int .i64 a, .int .i64 b]⟩) (.agg ⟨[.int .i64 c, .int .i64 d]⟩)).run Tryz.prog w = .ok (decide ((c, d) = (a, b))) w := by
  have u3 := Tryz.underlying3
  have a3 := Tryz.isAgg3
  have z3 := Tryz.sizeOf3
  rw [equal_eq, Op.equalIn]
  simp only [Sem.run_bind, run_underlying Tryz.underlying252, Result.andThen_ok]
  simp only [Std.Legacy.Range.forIn_eq_forIn_range', Std.Legacy.Range.size, Nat.sub_zero, Nat.add_sub_cancel, Nat.div_one, List.range'_succ, List.range'_zero, List.forIn_cons, List.forIn_nil]
  go_simp
  by_cases h1 : a = c <;> by_cases h2 : b = d <;> simp [h1, h2, eq_comm]
theorem pair_find (x : Int × Int) (w : World) : ∀ (ent : List MapEntry) (m : List ((Int × Int) × Value)) (i : Nat), ent.map (fun e => (e.key, e.val)) = m.map (fun p => (pairV p.1, p.2)) →
    (Instr.findAsking 252 (pairV x) ent i).run Tryz.prog w = .ok (findM m x i) w
  | [], m, i, h => by
    have : m = [] := by simpa using h
    subst this; rfl
  | e :: r, [], i, h => by simp at h
  | e :: r, p :: m, i, h => by
    simp only [List.map_cons, List.cons.injEq, Prod.mk.injEq] at h
    obtain ⟨⟨h1, h2⟩, h3⟩ := h
    have ih := pair_find x w r m (i + 1) h3
    unfold Instr.findAsking findM
    rw [h1]
    refine (run_bind (pair_eq x.1 x.2 p.1.1 p.1.2 w)).trans ?_
    have e1 : ((p.1.1, p.1.2) = (x.1, x.2)) ↔ p.1 = x := Iff.rfl
    by_cases hx : p.1 = x
    · rw [if_pos hx]
      have : decide ((p.1.1, p.1.2) = (x.1, x.2)) = true := decide_eq_true hx
      simp only [this, if_true, ← h2]; rfl
    · rw [if_neg hx]
      have : decide ((p.1.1, p.1.2) = (x.1, x.2)) = false := decide_eq_false hx
      simp only [this, Bool.false_eq_true, if_false]; exact ih
theorem key_pair : KeyT Tryz.prog 252 pairV where
  chk := fun e x w => by
    show (Instr.checkKey e (9999 + 1) 252 _).run Tryz.prog w = _
    have u3 := Tryz.underlying3
    have a3 := Tryz.isAgg3
    have z3 := Tryz.sizeOf3
    have hc : ∀ v : Int, ∀ w, (Instr.checkKey e 9999 3 (.int .i64 v)).run Tryz.prog w = .ok () w := fun v w => by
      show (Instr.checkKey e (9998 + 1) 3 _).run Tryz.prog w = _
      unfold Instr.checkKey
      exact run_bind (run_underlying' Tryz.underlying3)
    unfold Instr.checkKey
    simp only [Sem.run_bind, run_underlying Tryz.underlying252, Result.andThen_ok]
    simp only [Std.Legacy.Range.forIn_eq_forIn_range', Std.Legacy.Range.size, Nat.sub_zero, Nat.add_sub_cancel, Nat.div_one, List.range'_succ, List.range'_zero, List.forIn_cons, List.forIn_nil]
    go_simp
  find := fun x ent m w he => by
    unfold Instr.findKey
    refine (run_bind (run_underlying' Tryz.underlying252)).trans ?_
    cases ent with
    | nil =>
      have : m = [] := by simpa using he
      subst this; rfl
    | cons e r =>
      cases m with
      | nil => simp at he
      | cons p m =>
        have h0 := he
        simp only [List.map_cons, List.cons.injEq, Prod.mk.injEq] at h0
        have h1 : Instr.findNow (.array 2 3) (pairV x) (e :: r) 0 = none := by
          unfold Instr.findNow; rw [h0.1.1]; rfl
        simp only [h1]
        exact pair_find x w (e :: r) (p :: m) 0 he
abbrev mrgV (m : Int × Int × Int) : Value := .agg ⟨[.int .i64 m.1, .int .i64 m.2.1, .int .i64 m.2.2]⟩
theorem mrg_neq (m n : Int × Int × Int) (w : World) : (binOp .neq 134 (mrgV m) (mrgV n)).run Tryz.prog w = .ok (.bool (!decide (m = n))) w := by
  obtain ⟨a, b, c⟩ := m
  obtain ⟨a', b', c'⟩ := n
  have u3 := Tryz.underlying3
  have a3 := Tryz.isAgg3
  have z3 := Tryz.sizeOf3
  have hS : Tryz.prog.underlying 134 = some (.struct (Tryz.prog.fieldsOf 134)) := by kernel_rfl
  rw [run_neq_struct, show (10000 : Nat) = 9999 + 1 from rfl, run_equalIn_agg w 9999 134 _ _ hS (by kernel_rfl)]
  simp only [Program.fieldsOf, Tryz.underlying134]
  go_simp
  by_cases h1 : a = a' <;> by_cases h2 : b = b' <;> by_cases h3 : c = c' <;> simp [h1, h2, h3]
end Go.Wk.YtdelgnflcfhhkaaGreatDoor
namespace Go.Wk.YtdelgnflcfhhkaaGreatDoor
open Go Go.Wk Go.Proofs
theorem mixed : Tryz.prog.follows .mixedOrders = true := by kernel_rfl
abbrev sv (t : List UInt8) : Value := .string (sOf t)
abbrev i64 (n : Int) : Value := .int .i64 n
theorem strs_at {w : World} {A : Option Addr} {l : List (List UInt8)} (h : Cs w A (l.map sv)) {j : Nat} (hj : j < l.length) : ∃ g o, A = some ⟨g, o, none⟩ ∧ w.cell? ⟨g, o + (j : Int).toNat * 1, none⟩ = some (sv (l.getD j [])) := by
  obtain ⟨g, o, rfl, hc⟩ := h j _ (show (l.map sv)[j]? = some (sv (l.getD j [])) by simp [hj])
  exact ⟨g, o, rfl, by simpa using hc⟩
theorem getD_mem' {l : List (List UInt8)} {j : Nat} (hj : j < l.length) : l.getD j [] ∈ l := by
  rw [List.getD_eq_getElem?_getD, List.getElem?_eq_getElem hj]; simp
/-- a vocabulary -/
structure VV where
  texts : List (List UInt8)
  merges : List (Int × Int × Int)
abbrev Mrg := Int × Int × Int
def mrg1 (m : Mrg) : List Value := [i64 m.1, i64 m.2.1, i64 m.2.2]
def mcs (l : List Mrg) : List Value := l.flatMap mrg1
def VV.m (v : VV) (j : Nat) : Mrg := v.merges.getD j (0, 0, 0)
def VV.t (v : VV) (i : Nat) : List UInt8 := v.texts.getD i []
theorem mcs_at : ∀ (l : List Mrg) (i : Nat) (k : Nat) (u : Value), i < l.length → (mrg1 (l.getD i (0, 0, 0)))[k]? = some u → (mcs l)[i * 3 + k]? = some u
  | [], i, k, u, hi, h => by simp at hi
  | m :: l, 0, k, u, hi, h => by
    have hk : k < 3 := by simpa [mrg1] using (List.getElem?_eq_some_iff.1 h).1
    unfold mcs
    rw [List.flatMap_cons, Nat.zero_mul, Nat.zero_add, List.getElem?_append_left (by simpa [mrg1] using hk)]
    simpa using h
  | m :: l, i + 1, k, u, hi, h => by
    have ih := mcs_at l i k u (by simpa using hi) (by simpa using h)
    unfold mcs at ih ⊢
    rw [List.flatMap_cons, List.getElem?_append_right (by simp [mrg1]; omega)]
    rw [show (i + 1) * 3 + k - (mrg1 m).length = i * 3 + k by simp [mrg1]; omega]
    exact ih
/-- a row of merges at a place -/
theorem mrgs_at {w : World} {A : Option Addr} {l : List Mrg} (h : Cs w A (mcs l)) {j : Nat} (hj : j < l.length) :
    ∃ g o, A = some ⟨g, o, none⟩ ∧ Cs w (some ⟨g, o + (j : Int).toNat * 3, none⟩) (mrg1 (l.getD j (0, 0, 0))) := by
  obtain ⟨g, o, rfl, _⟩ := h (j * 3) _ (mcs_at l j 0 _ hj rfl)
  exact ⟨g, o, rfl, by rw [Int.toNat_natCast]; exact h.part (j * 3) fun k u hk => mcs_at l j k u hj hk⟩
theorem mrg_cells {w : World} {g o : Nat} {m : Mrg} (h : Cs w (some ⟨g, o, none⟩) (mrg1 m)) : w.cell? ⟨g, o, none⟩ = some (i64 m.1) ∧ w.cell? ⟨g, o + 1, none⟩ = some (i64 m.2.1) ∧ w.cell? ⟨g, o + 2, none⟩ = some (i64 m.2.2) :=
  ⟨h.at (j := 0) rfl, h.at (j := 1) rfl, h.at (j := 2) rfl⟩
abbrev vv (A : Option Addr) (c : Nat) (B : Option Addr) (d : Nat) (v : VV) : Value := .agg ⟨[.slice A v.texts.length c, .slice B v.merges.length d]⟩
/-- where a vocabulary's rows stand -/
def Vo (w : World) (A B : Option Addr) (v : VV) : Prop := Cs w A (v.texts.map sv) ∧ Cs w B (mcs v.merges)
theorem Vo.fr {S : Nat → Prop} {w w' : World} {A B : Option Addr} {v : VV} (h : Vo w A B v) (hf : Fr S w w') (h1 : ∀ a, A = some a → ¬ S a.block) (h2 : ∀ a, B = some a → ¬ S a.block) : Vo w' A B v := ⟨h.1.fr hf h1, h.2.fr hf h2⟩
theorem Vo.fr0 {w w' : World} {A B : Option Addr} {v : VV} (h : Vo w A B v) (hf : Fr no w w') : Vo w' A B v := ⟨h.1.fr0 hf, h.2.fr0 hf⟩
/-- small enough -/
structure VS (v : VV) : Prop where
  texts : v.texts.length ≤ 5000000
  each : ∀ t ∈ v.texts, t.length ≤ 5000000
  merges : v.merges.length ≤ 5000000
theorem VS.len {v : VV} (h : VS v) (i : Nat) : (v.t i).length ≤ 5000000 := by
  by_cases hi : i < v.texts.length
  · exact h.each _ (getD_mem' hi)
  · have : v.t i = [] := by unfold VV.t; rw [List.getD_eq_getElem?_getD, List.getElem?_eq_none (by omega)]; rfl
    rw [this]; simp
def VV.tok (v : VV) (i : Int) : Prop := 0 < i ∧ i < v.texts.length
instance (v : VV) (i : Int) : Decidable (v.tok i) := by unfold VV.tok; infer_instance
def VV.okT (v : VV) (i : Nat) : Prop := (∀ k, k < i → v.t k ≠ v.t i) ∧ (v.t i = [] ↔ i = 0) ∧ (v.t i).length ≤ 64
instance (v : VV) (i : Nat) : Decidable (v.okT i) := by unfold VV.okT; infer_instance
def VV.okM (v : VV) (j : Nat) : Prop := v.tok (v.m j).1 ∧ v.tok (v.m j).2.1 ∧ v.tok (v.m j).2.2 ∧ v.t (v.m j).2.2.toNat = v.t (v.m j).1.toNat ++ v.t (v.m j).2.1.toNat ∧ ∀ k, k < j → ((v.m k).1, (v.m k).2.1) ≠ ((v.m j).1, (v.m j).2.1)
instance (v : VV) (j : Nat) : Decidable (v.okM j) := by unfold VV.okM; infer_instance
/-- the first text, the first merge that is not right -/
def VV.fT (v : VV) : Nat := fstP (fun i => ¬ v.okT i) 0 v.texts.length
def VV.fM (v : VV) : Nat := fstP (fun i => ¬ v.okM i) 0 v.merges.length
/-- what is wrong, and where -/
def VV.chk (v : VV) : Nat × Nat :=
  if 512 < v.texts.length then (512, 130) else if v.fT < v.texts.length then (v.fT, 130) else if v.texts.length < 2 then (v.texts.length, 130)
  else if 1024 < v.merges.length then (1024, 131) else if v.fM < v.merges.length then (v.fM, 131) else (0, 0)
abbrev chkR (v : VV) : Value := .tuple #[i64 v.chk.1, i64 v.chk.2]
theorem chk_1 {v : VV} (h : 512 < v.texts.length) : v.chk = (512, 130) := by unfold VV.chk; rw [if_pos h]
theorem chk_2 {v : VV} (h : ¬ 512 < v.texts.length) {i : Nat} (hi : i < v.texts.length) (h1 : ∀ k, k < i → v.okT k) (h2 : ¬ v.okT i) : v.chk = (i, 130) := by
  have : v.fT = i := fstP_at hi (fun j hj => Decidable.not_not.2 (h1 j hj)) h2
  unfold VV.chk; rw [if_neg h, this, if_pos hi]
theorem fT_all {v : VV} (h1 : ∀ k, k < v.texts.length → v.okT k) : v.fT = v.texts.length := fstP_no fun j hj => Decidable.not_not.2 (h1 j hj)
theorem chk_3 {v : VV} (h : ¬ 512 < v.texts.length) (h1 : ∀ k, k < v.texts.length → v.okT k) (h2 : v.texts.length < 2) : v.chk = (v.texts.length, 130) := by
  unfold VV.chk; rw [if_neg h, fT_all h1, if_neg (by omega), if_pos h2]
theorem chk_4 {v : VV} (h : ¬ 512 < v.texts.length) (h1 : ∀ k, k < v.texts.length → v.okT k) (h2 : ¬ v.texts.length < 2) (h3 : 1024 < v.merges.length) : v.chk = (1024, 131) := by
  unfold VV.chk; rw [if_neg h, fT_all h1, if_neg (by omega), if_neg h2, if_pos h3]
theorem chk_5 {v : VV} (h : ¬ 512 < v.texts.length) (h1 : ∀ k, k < v.texts.length → v.okT k) (h2 : ¬ v.texts.length < 2) (h3 : ¬ 1024 < v.merges.length) {j : Nat} (hj : j < v.merges.length) (h4 : ∀ k, k < j → v.okM k) (h5 : ¬ v.okM j) : v.chk = (j, 131) := by
  have : v.fM = j := fstP_at hj (fun i hi => Decidable.not_not.2 (h4 i hi)) h5
  unfold VV.chk; rw [if_neg h, fT_all h1, if_neg (by omega), if_neg h2, if_neg h3, this, if_pos hj]
theorem chk_6 {v : VV} (h : ¬ 512 < v.texts.length) (h1 : ∀ k, k < v.texts.length → v.okT k) (h2 : ¬ v.texts.length < 2) (h3 : ¬ 1024 < v.merges.length) (h4 : ∀ k, k < v.merges.length → v.okM k) : v.chk = (0, 0) := by
  have : v.fM = v.merges.length := fstP_no fun i hi => Decidable.not_not.2 (h4 i hi)
  unfold VV.chk; rw [if_neg h, fT_all h1, if_neg (by omega), if_neg h2, if_neg h3, this, if_neg (by omega)]
/-- what holds of one that is right -/
structure VV.ok (v : VV) : Prop where
  few : v.texts.length ≤ 512
  two : 2 ≤ v.texts.length
  fewM : v.merges.length ≤ 1024
  texts : ∀ k, k < v.texts.length → v.okT k
  merges : ∀ k, k < v.merges.length → v.okM k
theorem chk_ok {v : VV} (h : v.chk.2 = 0) : v.ok := by
  unfold VV.chk at h
  split at h
  · cases h
  split at h
  · cases h
  split at h
  · cases h
  split at h
  · cases h
  split at h
  · cases h
  rename_i h1 h2 h3 h4 h5
  have f1 := fstP_spec (fun i => ¬ v.okT i) v.texts.length 0
  have f2 := fstP_spec (fun i => ¬ v.okM i) v.merges.length 0
  exact ⟨by omega, by omega, by omega, fun k hk => Decidable.not_not.1 (f1.2.2.1 k (Nat.zero_le _) (by unfold VV.fT at h2; omega)), fun k hk => Decidable.not_not.1 (f2.2.2.1 k (Nat.zero_le _) (by unfold VV.fM at h5; omega))⟩
theorem chk_le (v : VV) : v.chk.1 ≤ 1024 ∧ (v.chk.2 = 0 ∨ v.chk.2 = 130 ∨ v.chk.2 = 131) := by
  unfold VV.chk
  (repeat' split) <;> simp <;> omega
end Go.Wk.YtdelgnflcfhhkaaGreatDoor
namespace Go.Wk.YtdelgnflcfhhkaaGreatDoor
open Go Go.Wk Go.Proofs
theorem refToken (A : Option Addr) (c : Nat) (B : Option Addr) (d : Nat) (v : VV) (i : Int) (w : World) :
    CallsF Tryz.prog 160 [vv A c B d v, i64 i] w fun r w' => r = .bool (decide (v.tok i)) ∧ Fr no w w' := by
  refine callsF Tryz.func160 rfl rfl (by decide) rfl ?_
  refine stepF_ok tabOk [] (m := 3) rfl ?_
  refine ev_box rfl rfl rfl (fun p wb hp hB hfb => ?_)
  have hB : Blk wb p [.slice A v.texts.length c, .slice B v.merges.length d] 53 := hB
  refine sC [] rfl ?_; refine sD [] rfl ?_; refine sD [] rfl ?_; refine sD [] rfl ?_
  refine ev_guardD rfl rfl (fun h1 => ?_) (fun h1 => ?_)
  · refine sA [] rfl ?_; refine ev_loadB rfl rfl tabOk rfl rfl ‹_› (by rfl) ?_; refine sA [] rfl ?_
    refine ret1 (.inr rfl) rfl rfl ⟨?_, hfb⟩
    congr 1
    exact decide_eq_decide.2 ⟨fun h => ⟨by omega, h⟩, fun h => h.2⟩
  · refine sA [] rfl ?_
    refine ret1 (.inr rfl) rfl rfl ⟨?_, hfb⟩
    rw [decide_eq_false (fun h => h1 (by have := h.1; omega))]
theorem says (A : Option Addr) (c : Nat) (B : Option Addr) (d : Nat) (v : VV) (i : Int) (w : World) :
    CallsF Tryz.prog 137 [vv A c B d v, i64 i] w fun r w' => r = .bool (decide (v.tok i)) ∧ Fr no w w' := by
  refine callsF Tryz.func137 rfl rfl (by decide) rfl ?_
  refine stepF_ok tabOk [] (m := 3) rfl ?_
  refine ev_box rfl rfl rfl (fun p wb hp hB hfb => ?_)
  have hB : Blk wb p [.slice A v.texts.length c, .slice B v.merges.length d] 39 := hB
  refine sC [] rfl ?_; refine sD [] rfl ?_; refine sD [] rfl ?_; refine sD [] rfl ?_
  refine ev_guardD rfl rfl (fun h1 => ?_) (fun h1 => ?_)
  · refine sA [] rfl ?_; refine ev_loadB rfl rfl tabOk rfl rfl ‹_› (by rfl) ?_; refine sA [] rfl ?_
    refine ret1 (.inr rfl) rfl rfl ⟨?_, hfb⟩
    congr 1
    exact decide_eq_decide.2 ⟨fun h => ⟨by omega, h⟩, fun h => h.2⟩
  · refine sA [] rfl ?_
    refine ret1 (.inr rfl) rfl rfl ⟨?_, hfb⟩
    rw [decide_eq_false (fun h => h1 (by have := h.1; omega))]
theorem refText (A : Option Addr) (c : Nat) (B : Option Addr) (d : Nat) (v : VV) (i : Nat) (w : World) (hV : Vo w A B v) (hi : i < v.texts.length) (hS : VS v) :
    CallsF Tryz.prog 147 [vv A c B d v, i64 i] w fun r w' => r = .bool (decide (v.okT i)) ∧ Fr no w w' := by
  have hn := hS.texts
  have hl := hS.len i
  refine callsF Tryz.func147 rfl rfl (by decide) rfl ?_
  refine stepF_ok tabOk [] (m := 3) rfl ?_
  refine ev_box rfl rfl rfl (fun p wb hp hB hfb => ?_)
  have hB : Blk wb p [.slice A v.texts.length c, .slice B v.merges.length d] 53 := hB
  have hA := hV.1.fr0 hfb
  obtain ⟨g, o, e1, hcx⟩ := strs_at hA hi
  subst e1
  have hcx : wb.cell? ⟨g, o + (i : Int).toNat * 1, none⟩ = some (sv (v.t i)) := hcx
  refine sA [] rfl ?_; refine ev_loadB rfl rfl tabOk rfl rfl ‹_› (by rfl) ?_; refine sA [] rfl ?_
  refine ev_indexAddr (len := v.texts.length) (i := i) rfl rfl tabOk rfl rfl rfl (by omega) (by omega) ?_
  refine ev_load rfl rfl tabOk rfl rfl ‹_› ?_; refine sA [] rfl ?_
  refine ev_loop (α := Nat) (fun k => [(1, i64 i), (2, .pointer (some ⟨p, 0, none⟩)), (5, sv (v.t i)), (6, i64 k)])
    (fun k w' => k ≤ i ∧ (∀ j, j < k → v.t j ≠ v.t i) ∧ w' = wb) (fun k => i - k) 0 ⟨rfl, rfl, rfl, rfl, trivial⟩ ⟨Nat.zero_le _, fun j h => by omega, rfl⟩ ?_
  rintro k w1 ⟨hk, hno, rfl⟩
  refine sC [] rfl ?_; refine sD [] rfl ?_; refine sD [] rfl ?_; refine sD [] rfl ?_
  refine ev_condD rfl (fun hlt => ?_) (fun hlt => ?_)
  · have hk1 : k < v.texts.length := by omega
    have hcy : w1.cell? ⟨g, o + (k : Int).toNat * 1, none⟩ = some (sv (v.t k)) := by
      obtain ⟨g', o', e', hc'⟩ := strs_at hA hk1
      cases e'
      exact hc'
    refine sA [] rfl ?_; refine ev_loadB rfl rfl tabOk rfl rfl ‹_› (by rfl) ?_; refine sA [] rfl ?_
    refine ev_indexAddr (len := v.texts.length) (i := k) rfl rfl tabOk rfl rfl rfl (by omega) (by omega) ?_
    refine ev_load rfl rfl tabOk rfl rfl ‹_› ?_; refine sD [] rfl ?_; refine sD [] rfl ?_; refine sD [] rfl ?_
    refine ev_condD rfl (fun he => ?_) (fun he => ?_)
    · refine sA [] rfl ?_
      exact ret1 (.inr rfl) rfl rfl ⟨by rw [decide_eq_false (fun h => (h : v.okT i).1 k (by omega) he)], hfb⟩
    · refine sA [] rfl ?_; refine ev_arith rfl rfl rfl rfl rfl (by simp only [lowK, hiK]; omega) ?_; refine sA [] rfl ?_
      refine ev_next (k + 1) (by omega) ⟨by omega, fun j hj => ?_, rfl⟩ ⟨rfl, rfl, rfl, rfl, trivial⟩
      by_cases e : j = k
      · subst e; exact he
      · exact hno j (by omega)
  · have hki : k = i := by omega
    subst hki
    have e0 : decide ((k : Int) = 0) = decide (k = 0) := decide_eq_decide.2 ⟨fun h => by omega, fun h => by omega⟩
    refine sC [] rfl ?_; refine sC [] rfl ?_; refine sD [] rfl ?_; refine sD [] rfl ?_
    rw [e0]
    by_cases h1 : v.t k = []
    · rw [h1]
      by_cases h2 : k = 0
      · rw [decide_eq_true h2]
        refine sA [] rfl ?_
        exact ret1 (.inr rfl) rfl rfl ⟨by rw [decide_eq_true (show v.okT k from ⟨hno, ⟨fun _ => h2, fun _ => h1⟩, by rw [h1]; simp⟩)]; rfl, hfb⟩
      · rw [decide_eq_false h2]
        refine sA [] rfl ?_
        exact ret1 (.inr rfl) rfl rfl ⟨by rw [decide_eq_false (fun h => h2 ((h : v.okT k).2.1.1 h1))], hfb⟩
    · rw [decide_eq_false h1]
      by_cases h2 : k = 0
      · rw [decide_eq_true h2]
        refine sA [] rfl ?_
        exact ret1 (.inr rfl) rfl rfl ⟨by rw [decide_eq_false (fun h => h1 ((h : v.okT k).2.1.2 h2))], hfb⟩
      · rw [decide_eq_false h2]
        refine sA [] rfl ?_
        refine ret1 (.inr rfl) rfl rfl ⟨?_, hfb⟩
        congr 1
        refine decide_eq_decide.2 ⟨fun h => ⟨hno, ⟨fun e => absurd e h1, fun e => absurd e h2⟩, by omega⟩, fun h => ?_⟩
        have := h.2.2
        omega
theorem refMerge (A : Option Addr) (c : Nat) (B : Option Addr) (d : Nat) (v : VV) (j : Nat) (w : World) (hV : Vo w A B v) (hj : j < v.merges.length) (hS : VS v) :
    CallsF Tryz.prog 148 [vv A c B d v, i64 j] w fun r w' => r = .bool (decide (v.okM j)) ∧ Fr no w w' := by
  have hn := hS.merges
  have hnt := hS.texts
  refine callsF Tryz.func148 rfl rfl (by decide) rfl ?_
  refine stepF_ok tabOk [] (m := 3) rfl ?_
  refine ev_box rfl rfl rfl (fun p wb hp hB hfb => ?_)
  have hB : Blk wb p [.slice A v.texts.length c, .slice B v.merges.length d] 53 := hB
  have hM := hV.2.fr0 hfb
  obtain ⟨g, o, e1, hcx⟩ := mrgs_at hM hj
  subst e1
  have hcx : Cs wb (some ⟨g, o + (j : Int).toNat * 3, none⟩) (mrg1 (v.m j)) := hcx
  refine sA [] rfl ?_; refine ev_loadB rfl rfl tabOk rfl rfl ‹_› (by rfl) ?_; refine sA [] rfl ?_
  refine ev_indexAddr (len := v.merges.length) (i := j) rfl rfl tabOk rfl rfl rfl (by omega) (by omega) ?_
  refine ev_loadAgg rfl rfl tabOk rfl rfl rfl hcx ?_
  have hpl := hB.lt
  refine ev_alloc rfl rfl inf134 (fun q w1 hq hQ hf1 => ?_)
  refine ev_storeAgg tabOk rfl rfl rfl rfl rfl rfl hQ rfl (fun w2 hQ2 hf2 => ?_)
  have hQ2 : Blk w2 q [i64 (v.m j).1, i64 (v.m j).2.1, i64 (v.m j).2.2] 134 := hQ2
  have hfb2 : Fr no wb w2 := hf1.trans hf2 (fun b hb e => by have : b = q := e; omega)
  have hf02 := hfb.tr hfb2
  have hB2 := hB.fr0 hfb2
  have hV2 := hV.fr0 hf02
  clear hB hQ hM hcx hf1 hf2 hfb2
  have bad : ¬ v.okM j → decide (v.okM j) = false := fun h => decide_eq_false h
  obtain ⟨m1, hm1⟩ : ∃ x, x = (v.m j).1 := ⟨_, rfl⟩
  obtain ⟨m2, hm2⟩ : ∃ x, x = (v.m j).2.1 := ⟨_, rfl⟩
  obtain ⟨m3, hm3⟩ : ∃ x, x = (v.m j).2.2 := ⟨_, rfl⟩
  have hokM : v.okM j ↔ v.tok m1 ∧ v.tok m2 ∧ v.tok m3 ∧ v.t m3.toNat = v.t m1.toNat ++ v.t m2.toNat ∧ ∀ k, k < j → ((v.m k).1, (v.m k).2.1) ≠ (m1, m2) := by rw [hm1, hm2, hm3]; exact Iff.rfl
  rw [← hm1, ← hm2, ← hm3] at hQ2
  have tk : ∀ (i : Int) w', Fr no w2 w' → CallsF Tryz.prog 160 [vv A c (some ⟨g, o, none⟩) d v, i64 i] w' fun u w'' => u = .bool (decide (v.tok i)) ∧ Fr no w2 w'' := fun i w' hw' => (refToken A c _ d v i w').mono fun u w'' z => ⟨z.1, hw'.tr z.2⟩
  refine sA [] rfl ?_
  by_cases h1 : v.tok m1
  · have h1' := decide_eq_true h1
    by_cases h2 : v.tok m2
    · have h2' := decide_eq_true h2
      by_cases h3 : v.tok m3
      · have h3' := decide_eq_true h3
        obtain ⟨k1, hk1⟩ : ∃ k : Nat, m1 = k := ⟨m1.toNat, by have := h1.1; omega⟩
        obtain ⟨k2, hk2⟩ : ∃ k : Nat, m2 = k := ⟨m2.toNat, by have := h2.1; omega⟩
        obtain ⟨k3, hk3⟩ : ∃ k : Nat, m3 = k := ⟨m3.toNat, by have := h3.1; omega⟩
        have b1 := h1.2; have b2 := h2.2; have b3 := h3.2
        have hA2 := hV2.1
        obtain ⟨ga, oa, ea, ca1⟩ := strs_at hA2 (j := k1) (by omega)
        subst ea
        have ca1 : w2.cell? ⟨ga, oa + m1.toNat * 1, none⟩ = some (sv (v.t m1.toNat)) := by rw [hk1]; exact ca1
        have ca2 : w2.cell? ⟨ga, oa + m2.toNat * 1, none⟩ = some (sv (v.t m2.toNat)) := by
          obtain ⟨g', o', e', hc'⟩ := strs_at hA2 (j := k2) (by omega)
          cases e'; rw [hk2]; exact hc'
        have ca3 : w2.cell? ⟨ga, oa + m3.toNat * 1, none⟩ = some (sv (v.t m3.toNat)) := by
          obtain ⟨g', o', e', hc'⟩ := strs_at hA2 (j := k3) (by omega)
          cases e'; rw [hk3]; exact hc'
        have l1 := hS.len m1.toNat
        have l2 := hS.len m2.toNat
        refine ev_draw mixed (by kernel_rfl) ?_
        refine q_loadAggB rfl rfl tabOk rfl rfl ‹_› (by rfl) ?_; refine qA rfl ?_; refine q_loadB rfl rfl tabOk rfl rfl ‹_› (by rfl) ?_
        refine q_call rfl rfl rfl (tk m1) ?_
        rw [h1']
        refine qA rfl ?_; refine q_loadAggB rfl rfl tabOk rfl rfl ‹_› (by rfl) ?_; refine qA rfl ?_; refine q_loadB rfl rfl tabOk rfl rfl ‹_› (by rfl) ?_
        refine q_call rfl rfl rfl (tk m2) ?_
        rw [h2']
        refine qA rfl ?_; refine q_loadAggB rfl rfl tabOk rfl rfl ‹_› (by rfl) ?_; refine qA rfl ?_; refine q_loadB rfl rfl tabOk rfl rfl ‹_› (by rfl) ?_
        refine q_call rfl rfl rfl (tk m3) ?_
        rw [h3']
        refine qA rfl ?_; refine q_loadB rfl rfl tabOk rfl rfl ‹_› (by rfl) ?_; refine qA rfl ?_; refine q_loadB rfl rfl tabOk rfl rfl ‹_› (by rfl) ?_
        refine q_indexAddr (len := v.texts.length) (i := m3) rfl rfl tabOk rfl rfl rfl (by omega) (by omega) ?_
        refine q_load rfl rfl tabOk rfl rfl (fun _ hf => cell_fr (by assumption) hf id) ?_; refine qA rfl ?_; refine q_loadB rfl rfl tabOk rfl rfl ‹_› (by rfl) ?_; refine qA rfl ?_; refine q_loadB rfl rfl tabOk rfl rfl ‹_› (by rfl) ?_
        refine q_indexAddr (len := v.texts.length) (i := m1) rfl rfl tabOk rfl rfl rfl (by omega) (by omega) ?_
        refine q_load rfl rfl tabOk rfl rfl (fun _ hf => cell_fr (by assumption) hf id) ?_; refine qA rfl ?_; refine q_loadB rfl rfl tabOk rfl rfl ‹_› (by rfl) ?_; refine qA rfl ?_; refine q_loadB rfl rfl tabOk rfl rfl ‹_› (by rfl) ?_
        refine q_indexAddr (len := v.texts.length) (i := m2) rfl rfl tabOk rfl rfl rfl (by omega) (by omega) ?_
        refine q_load rfl rfl tabOk rfl rfl (fun _ hf => cell_fr (by assumption) hf id) ?_
        refine q_concat rfl rfl rfl rfl (by omega) ?_
        refine qA rfl ?_
        refine q_end fun w3 hf3 => ?_
        have hf03 := hf02.tr hf3
        have hB3 := hB2.fr0 hf3
        have hQ3 := hQ2.fr0 hf3
        have hV3 := hV2.fr0 hf3
        clear hB2 hQ2 hV2 ca1 ca2 ca3 hA2
        refine ev_condD rfl (fun h4 => ?_) (fun h4 => ?_)
        · refine sA [] rfl ?_
          exact ret1 (.inr rfl) rfl rfl ⟨by rw [bad (fun h => h4 (hokM.1 h).2.2.2.1)], hf03⟩
        · have h4 := Decidable.not_not.1 h4
          refine sA [] rfl ?_
          refine ev_loop (α := Nat) (fun k => [(1, i64 j), (2, .pointer (some ⟨p, 0, none⟩)), (5, .pointer (some ⟨q, 0, none⟩)), (6, i64 k)])
            (fun k w' => k ≤ j ∧ (∀ i, i < k → ((v.m i).1, (v.m i).2.1) ≠ (m1, m2)) ∧ Fr no w w' ∧ Vo w' (some ⟨ga, oa, none⟩) (some ⟨g, o, none⟩) v ∧ Blk w' p [.slice (some ⟨ga, oa, none⟩) v.texts.length c, .slice (some ⟨g, o, none⟩) v.merges.length d] 53 ∧ Blk w' q [i64 m1, i64 m2, i64 m3] 134) (fun k => j - k) 0 ⟨rfl, rfl, rfl, rfl, trivial⟩ ⟨Nat.zero_le _, fun j h => by omega, hf03, hV3, hB3, hQ3⟩ ?_
          clear hf03 hV3 hB3 hQ3
          rintro k w4 ⟨hk, hno, hf4, hV4, hB4, hQ4⟩
          refine sC [] rfl ?_; refine sD [] rfl ?_; refine sD [] rfl ?_; refine sD [] rfl ?_
          refine ev_condD rfl (fun hlt => ?_) (fun hlt => ?_)
          · obtain ⟨g', o', e', hc⟩ := mrgs_at hV4.2 (j := k) (by omega)
            cases e'
            obtain ⟨hc1, hc2, hc3⟩ := mrg_cells hc
            have hc1 : w4.cell? ⟨g, o + (k : Int).toNat * 3, none⟩ = some (i64 (v.m k).1) := hc1
            have hc2 : w4.cell? ⟨g, o + (k : Int).toNat * 3 + 1, none⟩ = some (i64 (v.m k).2.1) := hc2
            clear hc3
            refine sA [] rfl ?_
            refine ev_draw mixed (by kernel_rfl) ?_
            refine qA rfl ?_; refine q_loadB rfl rfl tabOk rfl rfl ‹_› (by rfl) ?_; refine qA rfl ?_
            refine q_indexAddr (len := v.merges.length) (i := k) rfl rfl tabOk rfl rfl rfl (by omega) (by omega) ?_
            refine qA rfl ?_; refine q_load rfl rfl tabOk rfl rfl (fun _ hf => cell_fr (by assumption) hf id) ?_; refine qA rfl ?_; refine q_loadB rfl rfl tabOk rfl rfl ‹_› (by rfl) ?_; refine qD rfl ?_; refine qD rfl ?_
            by_cases h5 : (v.m k).1 = m1
            · rw [decide_eq_true h5]
              refine qA rfl ?_; refine q_loadB rfl rfl tabOk rfl rfl ‹_› (by rfl) ?_; refine qA rfl ?_
              refine q_indexAddr (len := v.merges.length) (i := k) rfl rfl tabOk rfl rfl rfl (by omega) (by omega) ?_
              refine qA rfl ?_; refine q_load rfl rfl tabOk rfl rfl (fun _ hf => cell_fr (by assumption) hf id) ?_; refine qA rfl ?_; refine q_loadB rfl rfl tabOk rfl rfl ‹_› (by rfl) ?_; refine qA rfl ?_
              refine q_end fun w5 hf5 => ?_
              have hf05 := hf4.tr hf5
              refine ev_condD rfl (fun h6 => ?_) (fun h6 => ?_)
              · refine sA [] rfl ?_
                exact ret1 (.inr rfl) rfl rfl ⟨by rw [bad (fun h => (hokM.1 h).2.2.2.2 k (by omega) (by rw [h5, h6]))], hf05⟩
              · refine sA [] rfl ?_; refine ev_arith rfl rfl rfl rfl rfl (by simp only [lowK, hiK]; omega) ?_; refine sA [] rfl ?_
                refine ev_next (k + 1) (by omega) ⟨by omega, fun i hi => ?_, hf05, hV4.fr0 hf5, hB4.fr0 hf5, hQ4.fr0 hf5⟩ ⟨rfl, rfl, rfl, rfl, trivial⟩
                by_cases e : i = k
                · subst e; exact fun e => h6 (congrArg Prod.snd e)
                · exact hno i (by omega)
            · rw [decide_eq_false h5]
              refine qA rfl ?_
              refine q_end fun w5 hf5 => ?_
              refine sA [] rfl ?_; refine ev_arith rfl rfl rfl rfl rfl (by simp only [lowK, hiK]; omega) ?_; refine sA [] rfl ?_
              refine ev_next (k + 1) (by omega) ⟨by omega, fun i hi => ?_, hf4.tr hf5, hV4.fr0 hf5, hB4.fr0 hf5, hQ4.fr0 hf5⟩ ⟨rfl, rfl, rfl, rfl, trivial⟩
              by_cases e : i = k
              · subst e; exact fun e => h5 (congrArg Prod.fst e)
              · exact hno i (by omega)
          · have hkj : k = j := by omega
            subst hkj
            refine sA [] rfl ?_
            exact ret1 (.inr rfl) rfl rfl ⟨by rw [decide_eq_true (hokM.2 ⟨h1, h2, h3, h4, hno⟩)], hf4⟩
      · have h3' := decide_eq_false h3
        refine ev_draw mixed (by kernel_rfl) ?_
        refine q_loadAggB rfl rfl tabOk rfl rfl ‹_› (by rfl) ?_; refine qA rfl ?_; refine q_loadB rfl rfl tabOk rfl rfl ‹_› (by rfl) ?_
        refine q_call rfl rfl rfl (tk m1) ?_
        rw [h1']
        refine qA rfl ?_; refine q_loadAggB rfl rfl tabOk rfl rfl ‹_› (by rfl) ?_; refine qA rfl ?_; refine q_loadB rfl rfl tabOk rfl rfl ‹_› (by rfl) ?_
        refine q_call rfl rfl rfl (tk m2) ?_
        rw [h2']
        refine qA rfl ?_; refine q_loadAggB rfl rfl tabOk rfl rfl ‹_› (by rfl) ?_; refine qA rfl ?_; refine q_loadB rfl rfl tabOk rfl rfl ‹_› (by rfl) ?_
        refine q_call rfl rfl rfl (tk m3) ?_
        rw [h3']
        refine qA rfl ?_
        refine q_end fun w3 hf3 => ?_
        refine sA [] rfl ?_
        exact ret1 (.inr rfl) rfl rfl ⟨by rw [bad (fun h => h3 (hokM.1 h).2.2.1)], hf02.tr hf3⟩
    · have h2' := decide_eq_false h2
      refine ev_draw mixed (by kernel_rfl) ?_
      refine q_loadAggB rfl rfl tabOk rfl rfl ‹_› (by rfl) ?_; refine qA rfl ?_; refine q_loadB rfl rfl tabOk rfl rfl ‹_› (by rfl) ?_
      refine q_call rfl rfl rfl (tk m1) ?_
      rw [h1']
      refine qA rfl ?_; refine q_loadAggB rfl rfl tabOk rfl rfl ‹_› (by rfl) ?_; refine qA rfl ?_; refine q_loadB rfl rfl tabOk rfl rfl ‹_› (by rfl) ?_
      refine q_call rfl rfl rfl (tk m2) ?_
      rw [h2']
      refine qA rfl ?_
      refine q_end fun w3 hf3 => ?_
      refine sA [] rfl ?_
      exact ret1 (.inr rfl) rfl rfl ⟨by rw [bad (fun h => h2 (hokM.1 h).2.1)], hf02.tr hf3⟩
  · have h1' := decide_eq_false h1
    refine ev_draw mixed (by kernel_rfl) ?_
    refine q_loadAggB rfl rfl tabOk rfl rfl ‹_› (by rfl) ?_; refine qA rfl ?_; refine q_loadB rfl rfl tabOk rfl rfl ‹_› (by rfl) ?_
    refine q_call rfl rfl rfl (tk m1) ?_
    rw [h1']
    refine qA rfl ?_
    refine q_end fun w3 hf3 => ?_
    refine sA [] rfl ?_
    exact ret1 (.inr rfl) rfl rfl ⟨by rw [bad (fun h => h1 (hokM.1 h).1)], hf02.tr hf3⟩
theorem refCheck (A : Option Addr) (c : Nat) (B : Option Addr) (d : Nat) (v : VV) (w : World) (hV : Vo w A B v) (hS : VS v) :
    CallsF Tryz.prog 117 [vv A c B d v] w fun r w' => r = chkR v ∧ Fr no w w' := by
  have hn := hS.merges
  have hnt := hS.texts
  refine callsF Tryz.func117 rfl rfl (by decide) rfl ?_
  refine stepF_ok tabOk [] (m := 3) rfl ?_
  refine ev_box rfl rfl rfl (fun p wb hp hB hfb => ?_)
  have hB : Blk wb p [.slice A v.texts.length c, .slice B v.merges.length d] 53 := hB
  refine sA [] rfl ?_; refine ev_loadB rfl rfl tabOk rfl rfl ‹_› (by rfl) ?_; refine sD [] rfl ?_; refine sD [] rfl ?_; refine sD [] rfl ?_
  refine ev_condD rfl (fun h1 => ?_) (fun h1 => ?_)
  · refine sA [] rfl ?_
    exact ret2 (.inr rfl) rfl rfl rfl ⟨by unfold chkR; rw [chk_1 (by omega)]; rfl, hfb⟩
  have h1 : ¬ 512 < v.texts.length := by omega
  refine sA [] rfl ?_
  refine ev_loop (α := Nat) (fun k => [(1, .pointer (some ⟨p, 0, none⟩)), (2, i64 0), (3, i64 0), (4, i64 k)])
    (fun k w' => k ≤ v.texts.length ∧ (∀ j, j < k → v.okT j) ∧ Fr no w w' ∧ Blk w' p [.slice A v.texts.length c, .slice B v.merges.length d] 53) (fun k => v.texts.length - k) 0 ⟨rfl, rfl, rfl, rfl, trivial⟩ ⟨Nat.zero_le _, fun j h => by omega, hfb, hB⟩ ?_
  clear hB hfb
  rintro k w1 ⟨hk, hall, hf, hB⟩
  refine sA [] rfl ?_; refine ev_loadB rfl rfl tabOk rfl rfl ‹_› (by rfl) ?_; refine sD [] rfl ?_; refine sD [] rfl ?_; refine sD [] rfl ?_
  refine ev_condD rfl (fun hlt => ?_) (fun hlt => ?_)
  · have hk1 : k < v.texts.length := by omega
    refine sA [] rfl ?_; refine ev_loadAggB rfl rfl tabOk rfl rfl ‹_› (by rfl) ?_; refine sA [] rfl ?_
    refine ev_call rfl rfl rfl (refText A c B d v k _ (hV.fr0 hf) hk1 hS) (fun r w2 hr => ?_)
    obtain ⟨rfl, hf2⟩ := hr
    have hB2 := hB.fr0 hf2
    clear hB
    by_cases h2 : v.okT k
    · rw [decide_eq_true h2]
      refine sA [] rfl ?_; refine ev_arith rfl rfl rfl rfl rfl (by simp only [lowK, hiK]; omega) ?_; refine sA [] rfl ?_
      refine ev_next (k + 1) (by omega) ⟨by omega, fun i hi => ?_, hf.tr hf2, hB2⟩ ⟨rfl, rfl, rfl, rfl, trivial⟩
      by_cases e : i = k
      · subst e; exact h2
      · exact hall i (by omega)
    · rw [decide_eq_false h2]
      refine sA [] rfl ?_
      exact ret2 (.inr rfl) rfl rfl rfl ⟨by unfold chkR; rw [chk_2 h1 hk1 hall h2]; rfl, hf.tr hf2⟩
  · have hkn : k = v.texts.length := by omega
    subst hkn
    refine sA [] rfl ?_; refine ev_loadB rfl rfl tabOk rfl rfl ‹_› (by rfl) ?_; refine sD [] rfl ?_; refine sD [] rfl ?_; refine sD [] rfl ?_
    refine ev_condD rfl (fun h2 => ?_) (fun h2 => ?_)
    · refine sA [] rfl ?_; refine ev_loadB rfl rfl tabOk rfl rfl ‹_› (by rfl) ?_; refine sA [] rfl ?_
      exact ret2 (.inr rfl) rfl rfl rfl ⟨by unfold chkR; rw [chk_3 h1 hall (by omega)]; rfl, hf⟩
    have h2 : ¬ v.texts.length < 2 := by omega
    refine sA [] rfl ?_; refine ev_loadB rfl rfl tabOk rfl rfl ‹_› (by rfl) ?_; refine sD [] rfl ?_; refine sD [] rfl ?_; refine sD [] rfl ?_
    refine ev_condD rfl (fun h3 => ?_) (fun h3 => ?_)
    · refine sA [] rfl ?_
      exact ret2 (.inr rfl) rfl rfl rfl ⟨by unfold chkR; rw [chk_4 h1 hall h2 (by omega)]; rfl, hf⟩
    have h3 : ¬ 1024 < v.merges.length := by omega
    refine sA [] rfl ?_
    refine ev_loop (α := Nat) (fun k => [(1, .pointer (some ⟨p, 0, none⟩)), (2, i64 0), (3, i64 0), (5, i64 k)])
      (fun k w' => k ≤ v.merges.length ∧ (∀ j, j < k → v.okM j) ∧ Fr no w w' ∧ Blk w' p [.slice A v.texts.length c, .slice B v.merges.length d] 53) (fun k => v.merges.length - k) 0 ⟨rfl, rfl, rfl, rfl, trivial⟩ ⟨Nat.zero_le _, fun j h => by omega, hf, hB⟩ ?_
    clear hB hf
    rintro k w1 ⟨hk, hallM, hf, hB⟩
    refine sA [] rfl ?_; refine ev_loadB rfl rfl tabOk rfl rfl ‹_› (by rfl) ?_; refine sD [] rfl ?_; refine sD [] rfl ?_; refine sD [] rfl ?_
    refine ev_condD rfl (fun hlt => ?_) (fun hlt => ?_)
    · have hk1 : k < v.merges.length := by omega
      refine sA [] rfl ?_; refine ev_loadAggB rfl rfl tabOk rfl rfl ‹_› (by rfl) ?_; refine sA [] rfl ?_
      refine ev_call rfl rfl rfl (refMerge A c B d v k _ (hV.fr0 hf) hk1 hS) (fun r w2 hr => ?_)
      obtain ⟨rfl, hf2⟩ := hr
      have hB2 := hB.fr0 hf2
      clear hB
      by_cases h4 : v.okM k
      · rw [decide_eq_true h4]
        refine sA [] rfl ?_; refine ev_arith rfl rfl rfl rfl rfl (by simp only [lowK, hiK]; omega) ?_; refine sA [] rfl ?_
        refine ev_next (k + 1) (by omega) ⟨by omega, fun i hi => ?_, hf.tr hf2, hB2⟩ ⟨rfl, rfl, rfl, rfl, trivial⟩
        by_cases e : i = k
        · subst e; exact h4
        · exact hallM i (by omega)
      · rw [decide_eq_false h4]
        refine sA [] rfl ?_
        exact ret2 (.inr rfl) rfl rfl rfl ⟨by unfold chkR; rw [chk_5 h1 hall h2 h3 hk1 hallM h4]; rfl, hf.tr hf2⟩
    · have hkn : k = v.merges.length := by omega
      subst hkn
      refine sA [] rfl ?_
      exact ret2 (.inr rfl) rfl rfl rfl ⟨by unfold chkR; rw [chk_6 h1 hall h2 h3 hallM]; rfl, hf⟩
end Go.Wk.YtdelgnflcfhhkaaGreatDoor
namespace Go.Wk.YtdelgnflcfhhkaaGreatDoor
open Go Go.Wk Go.Proofs
abbrev strK (s : List UInt8) : Value := .string (sOf s)
theorem keyS : KeyT Tryz.prog 9 strK := key_str Tryz.underlying9
theorem old {w w1 w2 : World} {b : Nat} (h : Fr no w w1) (hb : w.heap.size ≤ b) (h2 : Fr (fun c => c = b) w1 w2) : Fr no w w2 := h.trans h2 fun c hc e => by have : c = b := e; omega
theorem blk_old {w w' : World} {p b : Nat} {cs : List Value} {t : TypeId} (h : Blk w p cs t) (hf : Fr (fun c => c = b) w w') (hn : p < b) : Blk w' p cs t := h.fr hf (fun e => by have : p = b := e; omega)
set_option maxHeartbeats 2000000 in
theorem wCheck (A : Option Addr) (c : Nat) (B : Option Addr) (d : Nat) (v : VV) (w : World) (hV : Vo w A B v) (hS : VS v) :
    CallsF Tryz.prog 109 [vv A c B d v] w fun r w' => r = chkR v ∧ Fr no w w' := by
  have hn := hS.merges
  have hnt := hS.texts
  refine callsF Tryz.func109 rfl rfl (by decide) rfl ?_
  refine stepF_ok tabOk [] (m := 3) rfl ?_
  refine ev_box rfl rfl rfl (fun p wb hp hB hfb => ?_)
  have hB : Blk wb p [.slice A v.texts.length c, .slice B v.merges.length d] 39 := hB
  have hzb := hfb.size
  refine sA [] rfl ?_; refine ev_loadB rfl rfl tabOk rfl rfl ‹_› (by rfl) ?_; refine sD [] rfl ?_; refine sD [] rfl ?_; refine sD [] rfl ?_
  refine ev_condD rfl (fun h1 => ?_) (fun h1 => ?_)
  · refine sA [] rfl ?_
    exact ret2 (.inr rfl) rfl rfl rfl ⟨by unfold chkR; rw [chk_1 (by omega)]; rfl, hfb⟩
  have h1 : ¬ 512 < v.texts.length := by omega
  refine sA [] rfl ?_
  have hpl := hB.lt
  refine ev_makeMap strK rfl rfl (fun q w1 hq hM1 hf1 => ?_)
  have hB1 := hB.fr0 hf1
  have hf01 := hfb.tr hf1
  have hqw : w.heap.size ≤ q := by omega
  have hpq : p < q := by omega
  clear hB hf1 hfb
  refine sA [] rfl ?_; refine ev_loadB rfl rfl tabOk rfl rfl ‹_› (by rfl) ?_; refine sA [] rfl ?_
  refine ev_loop (α := Nat) (fun k => [(1, .pointer (some ⟨p, 0, none⟩)), (2, i64 0), (3, i64 0), (4, .map (some q)), (21, .slice A v.texts.length c), (22, i64 v.texts.length), (23, i64 k)])
    (fun k w' => k ≤ v.texts.length ∧ (∀ j, j < k → v.okT j) ∧ Fr no w w' ∧ Blk w' p [.slice A v.texts.length c, .slice B v.merges.length d] 39 ∧ Mp strK w' q (mapN v.t (fun i => i64 i) k)) (fun k => v.texts.length - k) 0 ⟨rfl, rfl, rfl, rfl, rfl, rfl, rfl, trivial⟩ ⟨Nat.zero_le _, fun j h => by omega, hf01, hB1, hM1⟩ ?_
  clear hB1 hf01 hM1
  rintro k w2 ⟨hk, hall, hf, hB, hM⟩
  have hA := (hV.fr0 hf).1
  refine sC [] rfl ?_; refine sD [] rfl ?_
  refine ev_condD rfl (fun hlt => ?_) (fun hlt => ?_)
  · have hk1 : k < v.texts.length := by omega
    obtain ⟨g, o, e1, hcx⟩ := strs_at hA hk1
    subst e1
    have hcx : w2.cell? ⟨g, o + (k : Int).toNat * 1, none⟩ = some (sv (v.t k)) := hcx
    have hkl := hS.len k
    refine sA [] rfl ?_
    refine ev_indexAddr (len := v.texts.length) (i := k) rfl rfl tabOk rfl rfl rfl (by omega) (by omega) ?_
    refine ev_load rfl rfl tabOk rfl rfl ‹_› ?_; refine sA [] rfl ?_
    refine ev_lookup (κ := strK) (q := v.t k) tabOk rfl rfl rfl hM rfl rfl keyS inf3 (fun u hu => ?_) (fun hu => ?_)
    · obtain ⟨i, hi, he, rfl⟩ := mapN_some hu
      refine sA [] rfl ?_
      exact ret2 (.inr rfl) rfl rfl rfl ⟨by unfold chkR; rw [chk_2 h1 hk1 hall (fun h => h.1 i hi he)]; rfl, hf⟩
    · have hno := mapN_none.1 hu
      have e0 : decide ((k : Int) = 0) = decide (k = 0) := decide_eq_decide.2 ⟨fun h => by omega, fun h => by omega⟩
      refine sC [] rfl ?_; refine sC [] rfl ?_; refine sC [] rfl ?_; refine sD [] rfl ?_; refine sD [] rfl ?_
      rw [e0]
      by_cases h2 : (v.t k = [] ↔ k = 0)
      · rw [show decide (v.t k = []) = decide (k = 0) from decide_eq_decide.2 h2]
        generalize decide (k = 0) = a
        cases a
        all_goals
          repeat (first | refine sA [] rfl ?_ | refine sB [] rfl ?_ | refine sC [] rfl ?_ | refine sD [] rfl ?_ | refine ev_load rfl rfl tabOk rfl rfl ‹_› ?_ | refine ev_loadB rfl rfl tabOk rfl rfl ‹_› (by rfl) ?_ | refine ev_loadAggB rfl rfl tabOk rfl rfl ‹_› (by rfl) ?_ | refine ev_arith rfl rfl rfl rfl rfl (by simp only [lowK, hiK]; omega) ?_ | refine ev_rem rfl rfl rfl rfl (by omega) (by omega) ?_ | refine ev_quo rfl rfl rfl rfl (by omega) (by omega) (by simp only [hiK]; omega) ?_ | refine ev_index rfl rfl tabOk rfl rfl rfl (by omega) (by omega) ?_ | refine ev_indexA rfl rfl tabOk rfl rfl rfl (by omega) (by omega) rfl ?_ | refine ev_convB rfl rfl tabOk rfl rfl rfl rfl ?_ | refine ev_conv rfl rfl tabOk rfl rfl rfl (by simp only [lowK, hiK]; omega) ?_)
          refine ev_condD rfl (fun h3 => ?_) (fun h3 => ?_)
          · repeat (first | refine sA [] rfl ?_ | refine sB [] rfl ?_ | refine sC [] rfl ?_ | refine sD [] rfl ?_ | refine ev_load rfl rfl tabOk rfl rfl ‹_› ?_ | refine ev_loadB rfl rfl tabOk rfl rfl ‹_› (by rfl) ?_ | refine ev_loadAggB rfl rfl tabOk rfl rfl ‹_› (by rfl) ?_ | refine ev_arith rfl rfl rfl rfl rfl (by simp only [lowK, hiK]; omega) ?_ | refine ev_rem rfl rfl rfl rfl (by omega) (by omega) ?_ | refine ev_quo rfl rfl rfl rfl (by omega) (by omega) (by simp only [hiK]; omega) ?_ | refine ev_index rfl rfl tabOk rfl rfl rfl (by omega) (by omega) ?_ | refine ev_indexA rfl rfl tabOk rfl rfl rfl (by omega) (by omega) rfl ?_ | refine ev_convB rfl rfl tabOk rfl rfl rfl rfl ?_ | refine ev_conv rfl rfl tabOk rfl rfl rfl (by simp only [lowK, hiK]; omega) ?_)
            exact ret2 (.inr rfl) rfl rfl rfl ⟨by unfold chkR; rw [chk_2 h1 hk1 hall (fun h => by have := h.2.2; omega)]; rfl, hf⟩
          · repeat (first | refine sA [] rfl ?_ | refine sB [] rfl ?_ | refine sC [] rfl ?_ | refine sD [] rfl ?_ | refine ev_load rfl rfl tabOk rfl rfl ‹_› ?_ | refine ev_loadB rfl rfl tabOk rfl rfl ‹_› (by rfl) ?_ | refine ev_loadAggB rfl rfl tabOk rfl rfl ‹_› (by rfl) ?_ | refine ev_arith rfl rfl rfl rfl rfl (by simp only [lowK, hiK]; omega) ?_ | refine ev_rem rfl rfl rfl rfl (by omega) (by omega) ?_ | refine ev_quo rfl rfl rfl rfl (by omega) (by omega) (by simp only [hiK]; omega) ?_ | refine ev_index rfl rfl tabOk rfl rfl rfl (by omega) (by omega) ?_ | refine ev_indexA rfl rfl tabOk rfl rfl rfl (by omega) (by omega) rfl ?_ | refine ev_convB rfl rfl tabOk rfl rfl rfl rfl ?_ | refine ev_conv rfl rfl tabOk rfl rfl rfl (by simp only [lowK, hiK]; omega) ?_)
            refine ev_mapPut (κ := strK) (q := v.t k) (v := i64 k) tabOk rfl rfl hM rfl rfl rfl keyS hu (fun w3 hM3 hf3 => ?_)
            rw [← mapN_succ v.t (fun i => i64 i) k] at hM3
            repeat (first | refine sA [] rfl ?_ | refine sB [] rfl ?_ | refine sC [] rfl ?_ | refine sD [] rfl ?_ | refine ev_load rfl rfl tabOk rfl rfl ‹_› ?_ | refine ev_loadB rfl rfl tabOk rfl rfl ‹_› (by rfl) ?_ | refine ev_loadAggB rfl rfl tabOk rfl rfl ‹_› (by rfl) ?_ | refine ev_arith rfl rfl rfl rfl rfl (by simp only [lowK, hiK]; omega) ?_ | refine ev_rem rfl rfl rfl rfl (by omega) (by omega) ?_ | refine ev_quo rfl rfl rfl rfl (by omega) (by omega) (by simp only [hiK]; omega) ?_ | refine ev_index rfl rfl tabOk rfl rfl rfl (by omega) (by omega) ?_ | refine ev_indexA rfl rfl tabOk rfl rfl rfl (by omega) (by omega) rfl ?_ | refine ev_convB rfl rfl tabOk rfl rfl rfl rfl ?_ | refine ev_conv rfl rfl tabOk rfl rfl rfl (by simp only [lowK, hiK]; omega) ?_)
            refine ev_next (k + 1) (by omega) ⟨by omega, fun i hi => ?_, old hf hqw hf3, blk_old hB hf3 hpq, hM3⟩ ⟨rfl, rfl, rfl, rfl, rfl, rfl, rfl, trivial⟩
            by_cases e : i = k
            · subst e; exact ⟨hno, h2, by omega⟩
            · exact hall i (by omega)
      · have hne : decide (v.t k = []) = !decide (k = 0) := by
          by_cases a : v.t k = []
          · have b : ¬ k = 0 := fun b => h2 ⟨fun _ => b, fun _ => a⟩
            rw [decide_eq_true a, decide_eq_false b]; rfl
          · have b : k = 0 := Decidable.byContradiction fun b => h2 ⟨fun e => absurd e a, fun e => absurd e b⟩
            rw [decide_eq_false a, decide_eq_true b]; rfl
        rw [hne]
        generalize decide (k = 0) = a
        cases a
        all_goals
          repeat (first | refine sA [] rfl ?_ | refine sB [] rfl ?_ | refine sC [] rfl ?_ | refine sD [] rfl ?_ | refine ev_load rfl rfl tabOk rfl rfl ‹_› ?_ | refine ev_loadB rfl rfl tabOk rfl rfl ‹_› (by rfl) ?_ | refine ev_loadAggB rfl rfl tabOk rfl rfl ‹_› (by rfl) ?_ | refine ev_arith rfl rfl rfl rfl rfl (by simp only [lowK, hiK]; omega) ?_ | refine ev_rem rfl rfl rfl rfl (by omega) (by omega) ?_ | refine ev_quo rfl rfl rfl rfl (by omega) (by omega) (by simp only [hiK]; omega) ?_ | refine ev_index rfl rfl tabOk rfl rfl rfl (by omega) (by omega) ?_ | refine ev_indexA rfl rfl tabOk rfl rfl rfl (by omega) (by omega) rfl ?_ | refine ev_convB rfl rfl tabOk rfl rfl rfl rfl ?_ | refine ev_conv rfl rfl tabOk rfl rfl rfl (by simp only [lowK, hiK]; omega) ?_)
          exact ret2 (.inr rfl) rfl rfl rfl ⟨by unfold chkR; rw [chk_2 h1 hk1 hall (fun h => h2 h.2.1)]; rfl, hf⟩
  · have hkn : k = v.texts.length := by omega
    subst hkn
    clear hM
    refine sA [] rfl ?_; refine ev_loadB rfl rfl tabOk rfl rfl ‹_› (by rfl) ?_; refine sC [] rfl ?_
    refine ev_condD rfl (fun h2 => ?_) (fun h2 => ?_)
    · refine sA [] rfl ?_; refine ev_loadB rfl rfl tabOk rfl rfl ‹_› (by rfl) ?_; refine sA [] rfl ?_
      exact ret2 (.inr rfl) rfl rfl rfl ⟨by unfold chkR; rw [chk_3 h1 hall (by omega)]; rfl, hf⟩
    have h2 : ¬ v.texts.length < 2 := by omega
    refine sA [] rfl ?_; refine ev_loadB rfl rfl tabOk rfl rfl ‹_› (by rfl) ?_; refine sC [] rfl ?_
    refine ev_condD rfl (fun h3 => ?_) (fun h3 => ?_)
    · refine sA [] rfl ?_
      exact ret2 (.inr rfl) rfl rfl rfl ⟨by unfold chkR; rw [chk_4 h1 hall h2 (by omega)]; rfl, hf⟩
    have h3 : ¬ 1024 < v.merges.length := by omega
    have hz2 := hf.size
    refine sA [] rfl ?_
    refine ev_makeMap pairV rfl rfl (fun r w3 hr hM3 hf3 => ?_)
    have hB3 := hB.fr0 hf3
    have hf03 := hf.tr hf3
    have hrw : w.heap.size ≤ r := by omega
    have hpr : p < r := by have := hB.lt; omega
    clear hB hf3 hf
    refine sA [] rfl ?_; refine ev_loadB rfl rfl tabOk rfl rfl ‹_› (by rfl) ?_; refine sA [] rfl ?_
    refine ev_loop (α := Nat) (fun k => [(1, .pointer (some ⟨p, 0, none⟩)), (2, i64 0), (3, i64 0), (9, .map (some r)), (67, .slice B v.merges.length d), (68, i64 v.merges.length), (69, i64 k)])
      (fun k w' => k ≤ v.merges.length ∧ (∀ j, j < k → v.okM j) ∧ Fr no w w' ∧ Blk w' p [.slice A v.texts.length c, .slice B v.merges.length d] 39 ∧ Mp pairV w' r (mapN (fun i => ((v.m i).1, (v.m i).2.1)) (fun i => i64 i) k)) (fun k => v.merges.length - k) 0 ⟨rfl, rfl, rfl, rfl, rfl, rfl, rfl, trivial⟩ ⟨Nat.zero_le _, fun j h => by omega, hf03, hB3, hM3⟩ ?_
    clear hB3 hf03 hM3
    rintro k w4 ⟨hk, hallM, hf, hB, hM⟩
    refine sC [] rfl ?_; refine sD [] rfl ?_
    refine ev_condD rfl (fun hlt => ?_) (fun hlt => ?_)
    · have hk1 : k < v.merges.length := by omega
      obtain ⟨g, o, e1, hcx⟩ := mrgs_at (hV.fr0 hf).2 hk1
      subst e1
      have hcx : Cs w4 (some ⟨g, o + (k : Int).toNat * 3, none⟩) (mrg1 (v.m k)) := hcx
      refine sA [] rfl ?_
      refine ev_indexAddr (len := v.merges.length) (i := k) rfl rfl tabOk rfl rfl rfl (by omega) (by omega) ?_
      refine ev_loadAgg rfl rfl tabOk rfl rfl rfl hcx ?_
      refine ev_alloc rfl rfl inf100 (fun s w5 hs hQ hf5 => ?_)
      refine sA [] rfl ?_
      refine ev_storeAgg tabOk rfl rfl rfl rfl rfl rfl hQ rfl (fun w6 hQ6 hf6 => ?_)
      have hQ6 : Blk w6 s [i64 (v.m k).1, i64 (v.m k).2.1, i64 (v.m k).2.2] 100 := hQ6
      have hf46 : Fr no w4 w6 := old hf5 (by omega) hf6
      have hB6 := hB.fr0 hf46
      have hM6 := hM.fr0 hf46
      clear hQ hf5 hf6 hcx
      refine sA [] rfl ?_; refine ev_loadB rfl rfl tabOk rfl rfl ‹_› (by rfl) ?_; refine sA [] rfl ?_; refine ev_loadB rfl rfl tabOk rfl rfl ‹_› (by rfl) ?_
      refine ev_build rfl rfl (v := pairV ((v.m k).1, (v.m k).2.1)) rfl (fun w => by kernel_rfl) ?_
      refine ev_alloc rfl rfl inf252 (fun s2 w7 hs2 hQ7 hf7 => ?_)
      refine ev_storeAgg tabOk rfl rfl rfl rfl rfl rfl hQ7 rfl (fun w8 hQ8 hf8 => ?_)
      have hQ8 : Blk w8 s2 [i64 (v.m k).1, i64 (v.m k).2.1] 252 := hQ8
      have hf68 : Fr no w6 w8 := old hf7 (by omega) hf8
      have hQ86 := hQ6.fr0 hf68
      have hf48 := hf46.tr hf68
      have hB8 := hB6.fr0 hf68
      have hM8 := hM6.fr0 hf68
      have hf08 := hf.tr hf48
      have hV8 := hV.fr0 hf08
      have hps2 : s2 > r := by have := hM6.lt; omega
      have hsr : r < s := by have := hM.lt; omega
      clear hQ7 hf7 hf8 hQ6 hB6 hM6 hf46 hf68
      refine sA [] rfl ?_; refine ev_loadAggB rfl rfl tabOk rfl rfl ‹_› (by rfl) ?_
      refine ev_lookup (κ := pairV) (q := ((v.m k).1, (v.m k).2.1)) tabOk rfl rfl rfl hM8 rfl rfl key_pair inf3 (fun u hu => ?_) (fun hu => ?_)
      · obtain ⟨i, hi, he, rfl⟩ := mapN_some hu
        have hbad : ¬ v.okM k := fun h => h.2.2.2.2 i hi he
        refine sA [] rfl ?_
        refine ev_draw mixed (by kernel_rfl) ?_
        refine qA rfl ?_
        refine q_end fun w9 hf9 => ?_
        refine sA [] rfl ?_
        exact ret2 (.inr rfl) rfl rfl rfl ⟨by unfold chkR; rw [chk_5 h1 hall h2 h3 hk1 hallM hbad]; rfl, hf08.tr hf9⟩
      · have hno := mapN_none.1 hu
        obtain ⟨m1, hm1⟩ : ∃ x, x = (v.m k).1 := ⟨_, rfl⟩
        obtain ⟨m2, hm2⟩ : ∃ x, x = (v.m k).2.1 := ⟨_, rfl⟩
        obtain ⟨m3, hm3⟩ : ∃ x, x = (v.m k).2.2 := ⟨_, rfl⟩
        have hokM : v.okM k ↔ v.tok m1 ∧ v.tok m2 ∧ v.tok m3 ∧ v.t m3.toNat = v.t m1.toNat ++ v.t m2.toNat ∧ ∀ i, i < k → ((v.m i).1, (v.m i).2.1) ≠ (m1, m2) := by rw [hm1, hm2, hm3]; exact Iff.rfl
        have hbad : ∀ {w' : World}, ¬ v.okM k → Fr no w w' → (Value.tuple #[i64 k, i64 131] = chkR v ∧ Fr no w w') := fun h hf => ⟨by unfold chkR; rw [chk_5 h1 hall h2 h3 hk1 hallM h]; rfl, hf⟩
        rw [← hm1, ← hm2, ← hm3] at hQ86
        rw [← hm1, ← hm2] at hQ8 hu hno
        have hms := mapN_succ (fun i => ((v.m i).1, (v.m i).2.1)) (fun i => i64 i) k
        simp only [← hm1, ← hm2] at hms
        have tk : ∀ (i : Int) w', Fr no w8 w' → CallsF Tryz.prog 137 [vv A c (some ⟨g, o, none⟩) d v, i64 i] w' fun u w'' => u = .bool (decide (v.tok i)) ∧ Fr no w8 w'' := fun i w' hw' => (says A c _ d v i w').mono fun u w'' z => ⟨z.1, hw'.tr z.2⟩
        refine sA [] rfl ?_
        by_cases t1 : v.tok m1
        · have t1' := decide_eq_true t1
          by_cases t2 : v.tok m2
          · have t2' := decide_eq_true t2
            by_cases t3 : v.tok m3
            · have t3' := decide_eq_true t3
              obtain ⟨k1, hk1'⟩ : ∃ k : Nat, m1 = k := ⟨m1.toNat, by have := t1.1; omega⟩
              obtain ⟨k2, hk2'⟩ : ∃ k : Nat, m2 = k := ⟨m2.toNat, by have := t2.1; omega⟩
              obtain ⟨k3, hk3'⟩ : ∃ k : Nat, m3 = k := ⟨m3.toNat, by have := t3.1; omega⟩
              have b1 := t1.2; have b2 := t2.2; have b3 := t3.2
              have c1 := t1.1; have c2 := t2.1; have c3 := t3.1
              have hA2 := hV8.1
              obtain ⟨ga, oa, ea, ca1⟩ := strs_at hA2 (j := k1) (by omega)
              subst ea
              have ca1 : w8.cell? ⟨ga, oa + m1.toNat * 1, none⟩ = some (sv (v.t m1.toNat)) := by rw [hk1']; exact ca1
              have ca2 : w8.cell? ⟨ga, oa + m2.toNat * 1, none⟩ = some (sv (v.t m2.toNat)) := by
                obtain ⟨g', o', e', hc'⟩ := strs_at hA2 (j := k2) (by omega)
                cases e'; rw [hk2']; exact hc'
              have ca3 : w8.cell? ⟨ga, oa + m3.toNat * 1, none⟩ = some (sv (v.t m3.toNat)) := by
                obtain ⟨g', o', e', hc'⟩ := strs_at hA2 (j := k3) (by omega)
                cases e'; rw [hk3']; exact hc'
              have l1 := hS.len m1.toNat
              have l2 := hS.len m2.toNat
              refine ev_draw mixed (by kernel_rfl) ?_
              refine qA rfl ?_; refine q_loadAggB rfl rfl tabOk rfl rfl ‹_› (by rfl) ?_; refine qA rfl ?_; refine q_loadB rfl rfl tabOk rfl rfl ‹_› (by rfl) ?_
              refine q_call rfl rfl rfl (tk m1) ?_
              rw [t1']
              refine qA rfl ?_; refine q_loadAggB rfl rfl tabOk rfl rfl ‹_› (by rfl) ?_; refine qA rfl ?_; refine q_loadB rfl rfl tabOk rfl rfl ‹_› (by rfl) ?_
              refine q_call rfl rfl rfl (tk m2) ?_
              rw [t2']
              refine qA rfl ?_; refine q_loadAggB rfl rfl tabOk rfl rfl ‹_› (by rfl) ?_; refine qA rfl ?_; refine q_loadB rfl rfl tabOk rfl rfl ‹_› (by rfl) ?_
              refine q_call rfl rfl rfl (tk m3) ?_
              rw [t3']
              refine qA rfl ?_; refine q_loadB rfl rfl tabOk rfl rfl ‹_› (by rfl) ?_; refine qA rfl ?_; refine q_loadB rfl rfl tabOk rfl rfl ‹_› (by rfl) ?_
              refine q_indexAddr (len := v.texts.length) (i := m3) rfl rfl tabOk rfl rfl rfl (by omega) (by omega) ?_
              refine q_load rfl rfl tabOk rfl rfl (fun _ hf => cell_fr (by assumption) hf id) ?_; refine qA rfl ?_; refine q_loadB rfl rfl tabOk rfl rfl ‹_› (by rfl) ?_; refine qA rfl ?_; refine q_loadB rfl rfl tabOk rfl rfl ‹_› (by rfl) ?_
              refine q_indexAddr (len := v.texts.length) (i := m1) rfl rfl tabOk rfl rfl rfl (by omega) (by omega) ?_
              refine q_load rfl rfl tabOk rfl rfl (fun _ hf => cell_fr (by assumption) hf id) ?_; refine qA rfl ?_; refine q_loadB rfl rfl tabOk rfl rfl ‹_› (by rfl) ?_; refine qA rfl ?_; refine q_loadB rfl rfl tabOk rfl rfl ‹_› (by rfl) ?_
              refine q_indexAddr (len := v.texts.length) (i := m2) rfl rfl tabOk rfl rfl rfl (by omega) (by omega) ?_
              refine q_load rfl rfl tabOk rfl rfl (fun _ hf => cell_fr (by assumption) hf id) ?_
              refine q_concat rfl rfl rfl rfl (by omega) ?_
              refine qA rfl ?_
              refine q_end fun w9 hf9 => ?_
              have hf09 := hf08.tr hf9
              have hB9 := hB8.fr0 hf9
              have hM9 := hM8.fr0 hf9
              have hQ9 := hQ8.fr0 hf9
              clear hB8 hM8 hQ86 hQ8 hV8 ca1 ca2 ca3 hA2
              refine ev_condD rfl (fun h4 => ?_) (fun h4 => ?_)
              · refine sA [] rfl ?_
                exact ret2 (.inr rfl) rfl rfl rfl (hbad (fun h => h4 (hokM.1 h).2.2.2.1) hf09)
              · have h4 := Decidable.not_not.1 h4
                refine sA [] rfl ?_; refine ev_loadAggB rfl rfl tabOk rfl rfl ‹_› (by rfl) ?_; refine sA [] rfl ?_
                refine ev_mapPut (κ := pairV) (q := (m1, m2)) (v := i64 k) tabOk rfl rfl hM9 rfl rfl rfl key_pair hu (fun w10 hM10 hf10 => ?_)
                rw [← hms] at hM10
                refine sA [] rfl ?_; refine ev_arith rfl rfl rfl rfl rfl (by simp only [lowK, hiK]; omega) ?_; refine sA [] rfl ?_
                refine ev_next (k + 1) (by omega) ⟨by omega, fun i hi => ?_, old hf09 hrw hf10, blk_old hB9 hf10 hpr, hM10⟩ ⟨rfl, rfl, rfl, rfl, rfl, rfl, rfl, trivial⟩
                by_cases e : i = k
                · subst e; exact hokM.2 ⟨t1, t2, t3, h4, hno⟩
                · exact hallM i (by omega)
            · have t3' := decide_eq_false t3
              refine ev_draw mixed (by kernel_rfl) ?_
              refine qA rfl ?_; refine q_loadAggB rfl rfl tabOk rfl rfl ‹_› (by rfl) ?_; refine qA rfl ?_; refine q_loadB rfl rfl tabOk rfl rfl ‹_› (by rfl) ?_
              refine q_call rfl rfl rfl (tk m1) ?_
              rw [t1']
              refine qA rfl ?_; refine q_loadAggB rfl rfl tabOk rfl rfl ‹_› (by rfl) ?_; refine qA rfl ?_; refine q_loadB rfl rfl tabOk rfl rfl ‹_› (by rfl) ?_
              refine q_call rfl rfl rfl (tk m2) ?_
              rw [t2']
              refine qA rfl ?_; refine q_loadAggB rfl rfl tabOk rfl rfl ‹_› (by rfl) ?_; refine qA rfl ?_; refine q_loadB rfl rfl tabOk rfl rfl ‹_› (by rfl) ?_
              refine q_call rfl rfl rfl (tk m3) ?_
              rw [t3']
              refine qA rfl ?_
              refine q_end fun w9 hf9 => ?_
              refine sA [] rfl ?_
              exact ret2 (.inr rfl) rfl rfl rfl (hbad (fun h => t3 (hokM.1 h).2.2.1) (hf08.tr hf9))
          · have t2' := decide_eq_false t2
            refine ev_draw mixed (by kernel_rfl) ?_
            refine qA rfl ?_; refine q_loadAggB rfl rfl tabOk rfl rfl ‹_› (by rfl) ?_; refine qA rfl ?_; refine q_loadB rfl rfl tabOk rfl rfl ‹_› (by rfl) ?_
            refine q_call rfl rfl rfl (tk m1) ?_
            rw [t1']
            refine qA rfl ?_; refine q_loadAggB rfl rfl tabOk rfl rfl ‹_› (by rfl) ?_; refine qA rfl ?_; refine q_loadB rfl rfl tabOk rfl rfl ‹_› (by rfl) ?_
            refine q_call rfl rfl rfl (tk m2) ?_
            rw [t2']
            refine qA rfl ?_
            refine q_end fun w9 hf9 => ?_
            refine sA [] rfl ?_
            exact ret2 (.inr rfl) rfl rfl rfl (hbad (fun h => t2 (hokM.1 h).2.1) (hf08.tr hf9))
        · have t1' := decide_eq_false t1
          refine ev_draw mixed (by kernel_rfl) ?_
          refine qA rfl ?_; refine q_loadAggB rfl rfl tabOk rfl rfl ‹_› (by rfl) ?_; refine qA rfl ?_; refine q_loadB rfl rfl tabOk rfl rfl ‹_› (by rfl) ?_
          refine q_call rfl rfl rfl (tk m1) ?_
          rw [t1']
          refine qA rfl ?_
          refine q_end fun w9 hf9 => ?_
          refine sA [] rfl ?_
          exact ret2 (.inr rfl) rfl rfl rfl (hbad (fun h => t1 (hokM.1 h).1) (hf08.tr hf9))
    · have hkn : k = v.merges.length := by omega
      subst hkn
      refine sA [] rfl ?_
      exact ret2 (.inr rfl) rfl rfl rfl ⟨by unfold chkR; rw [chk_6 h1 hall h2 h3 hallM]; rfl, hf⟩
end Go.Wk.YtdelgnflcfhhkaaGreatDoor
namespace Go.Wk.YtdelgnflcfhhkaaGreatDoor
open Go Go.Wk Go.Proofs
theorem q_mrgNeq {C : World → Prop} {n : Nat} {Q : Act → Prop} {L l : List Oper} {env : Env} {d : Nat} {ty t' : TypeId} {ps : String} {af : Array Edge} {g : Option (Nat × Bool)} {x y : Operand} {m m' : Mrg}
    (hg : guardOf L env g = some true) (hd : Nat.blt d n = true) (hx : ev env x = some (.agg ⟨mrg1 m⟩)) (hy : ev env y = some (.agg ⟨mrg1 m'⟩))
    (hk : HQ Tryz.prog C n Q L l ((d, .bool (!decide (m = m'))) :: env)) : HQ Tryz.prog C n Q L (⟨some d, .binOp .neq 134 x y t', ty, ps, af, g⟩ :: l) env :=
  q_y hg hd (fun a hA w _ => by
    simp only [execOp, hA.ev hx, hA.ev hy]
    refine run_bind (a := Value.bool (!decide (m = m'))) (w' := w) ?_
    refine (run_bind (a := ()) (w' := w) (run_eqGuard_agg _ _ _ _ _ _ _ (by kernel_rfl))).trans ?_
    exact mrg_neq m m' w) hk
def VV.same (a b : VV) : Prop := a.texts = b.texts ∧ a.merges = b.merges
instance (a b : VV) : Decidable (a.same b) := by unfold VV.same; infer_instance
theorem VV.same_refl (a : VV) : a.same a := ⟨rfl, rfl⟩
theorem same_of {a b : VV} (h1 : a.texts.length = b.texts.length) (h2 : a.merges.length = b.merges.length) (h3 : ∀ i, i < a.texts.length → a.t i = b.t i) (h4 : ∀ i, i < a.merges.length → a.m i = b.m i) : a.same b := by
  refine ⟨List.ext_getElem h1 fun i hi hj => ?_, List.ext_getElem h2 fun i hi hj => ?_⟩
  · have := h3 i hi
    unfold VV.t at this
    rw [List.getD_eq_getElem?_getD, List.getD_eq_getElem?_getD, List.getElem?_eq_getElem hi, List.getElem?_eq_getElem hj] at this
    exact this
  · have := h4 i hi
    unfold VV.m at this
    rw [List.getD_eq_getElem?_getD, List.getD_eq_getElem?_getD, List.getElem?_eq_getElem hi, List.getElem?_eq_getElem hj] at this
    exact this
theorem VV.same_t {a b : VV} (h : a.same b) (i : Nat) : a.t i = b.t i := by unfold VV.t; rw [h.1]
theorem VV.same_m {a b : VV} (h : a.same b) (i : Nat) : a.m i = b.m i := by unfold VV.m; rw [h.2]
theorem refSame (A : Option Addr) (c : Nat) (B : Option Addr) (d : Nat) (v : VV) (A2 : Option Addr) (c2 : Nat) (B2 : Option Addr) (d2 : Nat) (u : VV) (w : World) (hV : Vo w A B v) (hU : Vo w A2 B2 u) (hS : VS v) (hS2 : VS u) :
    CallsF Tryz.prog 47 [vv A c B d v, vv A2 c2 B2 d2 u] w fun r w' => r = .bool (decide (v.same u)) ∧ Fr no w w' := by
  have hn := hS.merges
  have hnt := hS.texts
  have hn2 := hS2.merges
  have hnt2 := hS2.texts
  have bad : ¬ v.same u → decide (v.same u) = false := fun h => decide_eq_false h
  refine callsF Tryz.func47 rfl rfl (by decide) rfl ?_
  refine stepF_ok tabOk [] (m := 3) rfl ?_
  refine ev_box rfl rfl rfl (fun p wb hp hB hfb => ?_)
  have hB : Blk wb p [.slice A v.texts.length c, .slice B v.merges.length d] 53 := hB
  refine ev_box rfl rfl rfl (fun q w1 hq hQ hf1 => ?_)
  have hQ : Blk w1 q [.slice A2 u.texts.length c2, .slice B2 u.merges.length d2] 53 := hQ
  have hB := hB.fr0 hf1
  have hf01 := hfb.tr hf1
  clear hfb hf1
  refine sA [] rfl ?_; refine ev_loadB rfl rfl tabOk rfl rfl ‹_› (by rfl) ?_; refine sA [] rfl ?_; refine ev_loadB rfl rfl tabOk rfl rfl ‹_› (by rfl) ?_; refine sD [] rfl ?_; refine sD [] rfl ?_; refine sD [] rfl ?_
  by_cases h1 : ¬ v.texts.length = u.texts.length
  · rw [show decide (¬ (v.texts.length : Int) = u.texts.length) = true from decide_eq_true (by omega)]
    refine sA [] rfl ?_
    exact ret1 (.inr rfl) rfl rfl ⟨by rw [bad (fun h => h1 (congrArg List.length h.1))], hf01⟩
  have h1 := Decidable.not_not.1 h1
  rw [show decide (¬ (v.texts.length : Int) = u.texts.length) = false from decide_eq_false (by omega)]
  refine sA [] rfl ?_; refine ev_loadB rfl rfl tabOk rfl rfl ‹_› (by rfl) ?_; refine sA [] rfl ?_; refine ev_loadB rfl rfl tabOk rfl rfl ‹_› (by rfl) ?_; refine sC [] rfl ?_
  refine ev_condD rfl (fun h2 => ?_) (fun h2 => ?_)
  · refine sA [] rfl ?_
    exact ret1 (.inr rfl) rfl rfl ⟨by rw [bad (fun h => h2 (by rw [h.2]))], hf01⟩
  have h2 : v.merges.length = u.merges.length := by omega
  refine sA [] rfl ?_
  refine ev_loop (α := Nat) (fun k => [(2, .pointer (some ⟨p, 0, none⟩)), (3, .pointer (some ⟨q, 0, none⟩)), (5, i64 k)])
    (fun k w' => k ≤ v.texts.length ∧ (∀ i, i < k → v.t i = u.t i) ∧ Fr no w w' ∧ Blk w' p [.slice A v.texts.length c, .slice B v.merges.length d] 53 ∧ Blk w' q [.slice A2 u.texts.length c2, .slice B2 u.merges.length d2] 53) (fun k => v.texts.length - k) 0 ⟨rfl, rfl, rfl, trivial⟩ ⟨Nat.zero_le _, fun j h => by omega, hf01, hB, hQ⟩ ?_
  clear hB hQ hf01
  rintro k w2 ⟨hk, hall, hf, hB, hQ⟩
  refine sA [] rfl ?_; refine ev_loadB rfl rfl tabOk rfl rfl ‹_› (by rfl) ?_; refine sD [] rfl ?_; refine sD [] rfl ?_; refine sD [] rfl ?_
  refine ev_condD rfl (fun hlt => ?_) (fun hlt => ?_)
  · have hk1 : k < v.texts.length := by omega
    obtain ⟨g, o, e1, hcx⟩ := strs_at (hV.fr0 hf).1 hk1
    subst e1
    obtain ⟨g2, o2, e2, hcy⟩ := strs_at (hU.fr0 hf).1 (j := k) (by omega)
    subst e2
    have hcx : w2.cell? ⟨g, o + (k : Int).toNat * 1, none⟩ = some (sv (v.t k)) := hcx
    have hcy : w2.cell? ⟨g2, o2 + (k : Int).toNat * 1, none⟩ = some (sv (u.t k)) := hcy
    refine sA [] rfl ?_
    refine ev_draw mixed (by kernel_rfl) ?_
    refine qA rfl ?_; refine q_loadB rfl rfl tabOk rfl rfl ‹_› (by rfl) ?_; refine qA rfl ?_
    refine q_indexAddr (len := v.texts.length) (i := k) rfl rfl tabOk rfl rfl rfl (by omega) (by omega) ?_
    refine q_load rfl rfl tabOk rfl rfl (fun _ hf => cell_fr (by assumption) hf id) ?_; refine qA rfl ?_; refine q_loadB rfl rfl tabOk rfl rfl ‹_› (by rfl) ?_; refine qA rfl ?_
    refine q_indexAddr (len := u.texts.length) (i := k) rfl rfl tabOk rfl rfl rfl (by omega) (by omega) ?_
    refine q_load rfl rfl tabOk rfl rfl (fun _ hf => cell_fr (by assumption) hf id) ?_; refine qA rfl ?_
    refine q_end fun w3 hf3 => ?_
    refine ev_condD rfl (fun h3 => ?_) (fun h3 => ?_)
    · refine sA [] rfl ?_
      exact ret1 (.inr rfl) rfl rfl ⟨by rw [bad (fun h => h3 (VV.same_t h k))], hf.tr hf3⟩
    · have hB3 := hB.fr0 hf3
      have hQ3 := hQ.fr0 hf3
      have h3 := Decidable.not_not.1 h3
      clear hB hQ hcx hcy
      refine sA [] rfl ?_; refine ev_arith rfl rfl rfl rfl rfl (by simp only [lowK, hiK]; omega) ?_; refine sA [] rfl ?_
      refine ev_next (k + 1) (by omega) ⟨by omega, fun i hi => ?_, hf.tr hf3, hB3, hQ3⟩ ⟨rfl, rfl, rfl, trivial⟩
      by_cases e : i = k
      · subst e; exact h3
      · exact hall i (by omega)
  · have hkn : k = v.texts.length := by omega
    subst hkn
    refine sA [] rfl ?_
    refine ev_loop (α := Nat) (fun k => [(2, .pointer (some ⟨p, 0, none⟩)), (3, .pointer (some ⟨q, 0, none⟩)), (6, i64 k)])
      (fun k w' => k ≤ v.merges.length ∧ (∀ i, i < k → v.m i = u.m i) ∧ Fr no w w' ∧ Blk w' p [.slice A v.texts.length c, .slice B v.merges.length d] 53 ∧ Blk w' q [.slice A2 u.texts.length c2, .slice B2 u.merges.length d2] 53) (fun k => v.merges.length - k) 0 ⟨rfl, rfl, rfl, trivial⟩ ⟨Nat.zero_le _, fun j h => by omega, hf, hB, hQ⟩ ?_
    clear hB hQ hf
    rintro k w2 ⟨hk, hallM, hf, hB, hQ⟩
    refine sA [] rfl ?_; refine ev_loadB rfl rfl tabOk rfl rfl ‹_› (by rfl) ?_; refine sD [] rfl ?_; refine sD [] rfl ?_; refine sD [] rfl ?_
    refine ev_condD rfl (fun hlt => ?_) (fun hlt => ?_)
    · have hk1 : k < v.merges.length := by omega
      obtain ⟨g, o, e1, hcx⟩ := mrgs_at hV.2 hk1
      subst e1
      obtain ⟨g2, o2, e2, hcy⟩ := mrgs_at hU.2 (j := k) (by omega)
      subst e2
      have hcx : ∀ w', Fr no w2 w' → Cs w' (some ⟨g, o + (k : Int).toNat * 3, none⟩) (mrg1 (v.m k)) := fun w' hf' => hcx.fr0 (hf.tr hf')
      have hcy : ∀ w', Fr no w2 w' → Cs w' (some ⟨g2, o2 + (k : Int).toNat * 3, none⟩) (mrg1 (u.m k)) := fun w' hf' => hcy.fr0 (hf.tr hf')
      refine sA [] rfl ?_
      refine ev_draw mixed (by kernel_rfl) ?_
      refine qA rfl ?_; refine q_loadB rfl rfl tabOk rfl rfl ‹_› (by rfl) ?_; refine qA rfl ?_
      refine q_indexAddr (len := v.merges.length) (i := k) rfl rfl tabOk rfl rfl rfl (by omega) (by omega) ?_
      refine q_loadAgg rfl rfl tabOk rfl rfl rfl hcx ?_
      refine qA rfl ?_; refine q_loadB rfl rfl tabOk rfl rfl ‹_› (by rfl) ?_; refine qA rfl ?_
      refine q_indexAddr (len := u.merges.length) (i := k) rfl rfl tabOk rfl rfl rfl (by omega) (by omega) ?_
      refine q_loadAgg rfl rfl tabOk rfl rfl rfl hcy ?_
      refine q_mrgNeq (m := v.m k) (m' := u.m k) rfl rfl rfl rfl ?_
      skip
      refine q_end fun w3 hf3 => ?_
      refine ev_condND rfl (fun h3 => ?_) (fun h3 => ?_)
      · refine sA [] rfl ?_
        exact ret1 (.inr rfl) rfl rfl ⟨by rw [bad (fun h => h3 (VV.same_m h k))], hf.tr hf3⟩
      · have hB3 := hB.fr0 hf3
        have hQ3 := hQ.fr0 hf3
        clear hB hQ hcx hcy
        refine sA [] rfl ?_; refine ev_arith rfl rfl rfl rfl rfl (by simp only [lowK, hiK]; omega) ?_; refine sA [] rfl ?_
        refine ev_next (k + 1) (by omega) ⟨by omega, fun i hi => ?_, hf.tr hf3, hB3, hQ3⟩ ⟨rfl, rfl, rfl, trivial⟩
        by_cases e : i = k
        · subst e; exact h3
        · exact hallM i (by omega)
    · have hkn : k = v.merges.length := by omega
      subst hkn
      refine sA [] rfl ?_
      exact ret1 (.inr rfl) rfl rfl ⟨by rw [decide_eq_true (same_of h1 h2 hall hallM)], hf⟩
end Go.Wk.YtdelgnflcfhhkaaGreatDoor
