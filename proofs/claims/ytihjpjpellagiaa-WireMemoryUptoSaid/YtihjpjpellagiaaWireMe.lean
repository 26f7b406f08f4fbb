/-
  WireMemory: the walk.
-/
import Derived.Test.YtihjpjpellagiaaWireZ
import Derived.Test.YtihjpjpellagiaaWireO
import Derived.Test.YtihjpjpellagiaaKeep
set_option linter.unusedVariables false
namespace Go.Wk.Ytihjpjpellagiaa
open Go Go.Wk Go.Proofs

/-- rows kept: each its own block, none of the world W1 -/
def KP (W1 w : World) (m : Nat) (R : List Value) (X : Nat → List Value) : Prop := ∀ (i : Nat) (y : Value), R[i]? = some y → Own w 37 1 y m (X i) ∧ ∀ g, y.ownBlock = some g → W1.heap.size ≤ g ∧ ∀ (j : Nat) (z : Value), j ≠ i → R[j]? = some z → z.ownBlock ≠ some g
theorem KP.fr0 {W1 w w' : World} {m : Nat} {R : List Value} {X : Nat → List Value} (h : KP W1 w m R X) (hf : Fr no w w') : KP W1 w' m R X := fun i y hy => ⟨(h i y hy).1.fr0 hf, (h i y hy).2⟩
theorem own_apart {w : World} {e1 e2 s1 s2 : Nat} {v1 v2 : Value} {n1 n2 : Nat} {x1 x2 : List Value} (h1 : Own w e1 s1 v1 n1 x1) (h2 : Own w e2 s2 v2 n2 x2) (he : e1 ≠ e2) : ∀ g, v1.ownBlock = some g → v2.ownBlock ≠ some g := by
  intro g hg hg2
  rcases h1.2 with ⟨rfl, _⟩ | ⟨q1, c1, k1, rfl, _, hq1, _⟩
  · cases hg
  rcases h2.2 with ⟨rfl, _⟩ | ⟨q2, c2, k2, rfl, _, hq2, _⟩
  · cases hg2
  simp only [Value.ownBlock, Option.some.injEq] at hg hg2
  subst hg hg2
  rw [hq1] at hq2
  simp only [Option.some.injEq, Obj.cells.injEq] at hq2
  exact he hq2.2.1
theorem KP.ext {W1 w : World} {m : Nat} {R : List Value} {X X' : Nat → List Value} (h : KP W1 w m R X) (hX : ∀ i y, R[i]? = some y → X' i = X i) : KP W1 w m R X' := fun i y hy => by
  rw [hX i y hy]; exact h i y hy
theorem KP.add {W1 w w' : World} {m : Nat} {R : List Value} {X : Nat → List Value} {y : Value} (h : KP W1 w m R X) (hW : W1.heap.size ≤ w.heap.size) (hf : ∀ (i : Nat) (z : Value), R[i]? = some z → Own w' 37 1 z m (X i)) (ho : Own w' 37 1 y m (X R.length)) (hy : ∀ g, y.ownBlock = some g → w.heap.size ≤ g) : KP W1 w' m (R ++ [y]) X := by
  intro i z hz
  by_cases hi : i < R.length
  · rw [List.getElem?_append_left hi] at hz
    refine ⟨hf i z hz, fun g hg => ⟨((h i z hz).2 g hg).1, fun j u hj hu hug => ?_⟩⟩
    by_cases hjl : j < R.length
    · rw [List.getElem?_append_left hjl] at hu
      exact ((h i z hz).2 g hg).2 j u hj hu hug
    · rw [List.getElem?_append_right (by omega)] at hu
      have : u = y := by
        cases hjj : j - R.length with
        | zero => rw [hjj] at hu; simpa using hu.symm
        | succ q => rw [hjj] at hu; simp at hu
      subst this
      have h1 := hy g hug
      have h2 := Own.lt (h i z hz).1 g hg
      omega
  · rw [List.getElem?_append_right (by omega)] at hz
    have hii : i = R.length := by
      cases hjj : i - R.length with
      | zero => omega
      | succ q => rw [hjj] at hz; simp at hz
    subst hii
    simp at hz
    subst hz
    refine ⟨ho, fun g hg => ⟨Nat.le_trans hW (hy g hg), fun j u hj hu hug => ?_⟩⟩
    have hjl : j < R.length := by
      by_cases hjl : j < R.length
      · exact hjl
      · rw [List.getElem?_eq_none (by simp; omega)] at hu; cases hu
    rw [List.getElem?_append_left hjl] at hu
    have h1 := hy g hg
    have h2 := Own.lt (h j u hu).1 g hug
    omega
/-- row i became another, in its block -/
theorem KP.put {W1 w w' : World} {m : Nat} {R : List Value} {X X' : Nat → List Value} {i : Nat} {y : Value} {g : Nat} (h : KP W1 w m R X) (hy : R[i]? = some y) (hg : y.ownBlock = some g) (ho : Own w' 37 1 y m (X' i)) (hf : Fr (fun c => c = g) w w') (hX : ∀ j, j ≠ i → X' j = X j) : KP W1 w' m R X' := by
  intro j z hz
  refine ⟨?_, (h j z hz).2⟩
  by_cases hj : j = i
  · subst hj
    rw [hy] at hz; cases hz; exact ho
  · rw [hX j hj]
    exact (h j z hz).1.fr hf (fun q hq e => ((h i y hy).2 g hg).2 j z hj hz (e ▸ hq))
theorem own_at {w : World} {e : Nat} {v : Value} {n : Nat} {xs : List Value} (h : Own w e 1 v n xs) {j : Nat} (hj : j < n) : ∃ g c u, v = .slice (some ⟨g, 0, none⟩) n c ∧ xs[j]? = some u ∧ w.cell? ⟨g, 0 + (j : Int).toNat * 1, none⟩ = some u := by
  have hl := h.len
  rcases h.2 with ⟨rfl, h0⟩ | ⟨g, c, cur, rfl, _⟩
  · omega
  · have hx : xs[j]? = some xs[j] := List.getElem?_eq_getElem (by omega)
    have hc := h.cells (g := g) rfl j _ hx
    rw [Addr.add_lit] at hc
    refine ⟨g, c, _, rfl, hx, ?_⟩
    rw [Int.toNat_natCast, Nat.mul_one]; exact hc
/-- what row j holds while row i is being filled -/
def fillX (l : List Int8) (i j : Nat) (q : Nat) : List Value := if q < i then List.replicate l.length (.int .i8 ((q : Int) + 1)) else if q = i then List.replicate j (.int .i8 ((q : Int) + 1)) ++ (l.map iv).drop j else l.map iv
theorem fillX_set {l : List Int8} {i j : Nat} (hj : j < l.length) : (fillX l i j i).set j (.int .i8 ((i : Int) + 1)) = fillX l i (j + 1) i := by
  unfold fillX
  rw [if_neg (by omega), if_pos rfl, if_neg (by omega), if_pos rfl]
  rw [List.set_append_right _ _ (by simp)]
  simp only [List.length_replicate, Nat.sub_self]
  have e : (l.map iv).drop j = iv l[j] :: (l.map iv).drop (j + 1) := by
    rw [← List.getElem_cons_drop (by simpa using hj)]; simp
  rw [e, List.set_cons_zero, List.replicate_succ', List.append_assoc]; rfl
theorem fillX_done (l : List Int8) (i q : Nat) : fillX l (i + 1) 0 q = fillX l i l.length q := by
  unfold fillX
  rcases Nat.lt_trichotomy q i with h | h | h
  · rw [if_pos (show q < i + 1 by omega), if_pos h]
  · subst h; rw [if_pos (show q < q + 1 by omega), if_neg (show ¬ q < q by omega), if_pos rfl, List.drop_eq_nil_of_le (by simp), List.append_nil]
  · rw [if_neg (show ¬ q < i + 1 by omega), if_neg (show ¬ q < i by omega), if_neg (show ¬ q = i by omega)]; split <;> simp

set_option maxHeartbeats 2000000 in
theorem wireMemory (A : Option Addr) (c : Nat) (l : List Int8) (t : List UInt8) (W : World) (hA : Cs W A (l.map iv)) (hl : l.length ≤ 100000000) (ht : t.length ≤ 100000000) :
    CallsF Try.prog 5 [.slice A l.length c, .string (sOf t)] W fun r w' => r = .bool true ∧ Fr no W w' := by
  refine callsF Try.func5 rfl rfl (by decide) rfl ?_
  repeat (first
    | refine stepF_ok tabOk [] (m := 400) rfl ?_
    | refine stepF_ok tabOk [] (m := 16) rfl ?_
    | refine stepF_ok tabOk [] (m := 3) rfl ?_
    | refine stepF_ok tabOk [] (m := 0) rfl ?_
    | refine ev_load rfl rfl tabOk rfl rfl (by assumption) ?_
    | refine ev_loadB rfl rfl tabOk rfl rfl (by assumption) (by rfl) ?_
    | refine ev_loadAggB rfl rfl tabOk rfl rfl (by assumption) (by rfl) ?_
    | refine ev_arith rfl rfl rfl rfl rfl (by simp only [lowK, hiK]; omega) ?_
    | refine ev_rem rfl rfl rfl rfl (by omega) (by omega) ?_
    | refine ev_quo rfl rfl rfl rfl (by omega) (by omega) (by simp only [hiK]; omega) ?_
    | refine ev_index rfl rfl tabOk rfl rfl rfl (by omega) (by omega) ?_
    | refine ev_indexA rfl rfl tabOk rfl rfl rfl (by omega) (by omega) rfl ?_
    | refine ev_convB rfl rfl tabOk rfl rfl rfl rfl ?_
    | refine ev_conv rfl rfl tabOk rfl rfl rfl (by simp only [lowK, hiK]; omega) ?_)
  refine ev_call rfl rfl rfl (awake _) (fun r w1 hr => ?_)
  obtain ⟨rfl, hf1⟩ := hr
  repeat (first
    | refine stepF_ok tabOk [] (m := 400) rfl ?_
    | refine stepF_ok tabOk [] (m := 16) rfl ?_
    | refine stepF_ok tabOk [] (m := 3) rfl ?_
    | refine stepF_ok tabOk [] (m := 0) rfl ?_
    | refine ev_load rfl rfl tabOk rfl rfl (by assumption) ?_
    | refine ev_loadB rfl rfl tabOk rfl rfl (by assumption) (by rfl) ?_
    | refine ev_loadAggB rfl rfl tabOk rfl rfl (by assumption) (by rfl) ?_
    | refine ev_arith rfl rfl rfl rfl rfl (by simp only [lowK, hiK]; omega) ?_
    | refine ev_rem rfl rfl rfl rfl (by omega) (by omega) ?_
    | refine ev_quo rfl rfl rfl rfl (by omega) (by omega) (by simp only [hiK]; omega) ?_
    | refine ev_index rfl rfl tabOk rfl rfl rfl (by omega) (by omega) ?_
    | refine ev_indexA rfl rfl tabOk rfl rfl rfl (by omega) (by omega) rfl ?_
    | refine ev_convB rfl rfl tabOk rfl rfl rfl rfl ?_
    | refine ev_conv rfl rfl tabOk rfl rfl rfl (by simp only [lowK, hiK]; omega) ?_)
  refine ev_buildSlice tabOk rfl rfl rfl inf37 rfl rfl rfl (by simp) rfl (fun q w2 hq hb2 hf2 => ?_)
  have ho2 := own_of_blk (m := 0) (sz := 1) hb2 rfl (by omega)
  repeat (first
    | refine stepF_ok tabOk [] (m := 400) rfl ?_
    | refine stepF_ok tabOk [] (m := 16) rfl ?_
    | refine stepF_ok tabOk [] (m := 3) rfl ?_
    | refine stepF_ok tabOk [] (m := 0) rfl ?_
    | refine ev_load rfl rfl tabOk rfl rfl (by assumption) ?_
    | refine ev_loadB rfl rfl tabOk rfl rfl (by assumption) (by rfl) ?_
    | refine ev_loadAggB rfl rfl tabOk rfl rfl (by assumption) (by rfl) ?_
    | refine ev_arith rfl rfl rfl rfl rfl (by simp only [lowK, hiK]; omega) ?_
    | refine ev_rem rfl rfl rfl rfl (by omega) (by omega) ?_
    | refine ev_quo rfl rfl rfl rfl (by omega) (by omega) (by simp only [hiK]; omega) ?_
    | refine ev_index rfl rfl tabOk rfl rfl rfl (by omega) (by omega) ?_
    | refine ev_indexA rfl rfl tabOk rfl rfl rfl (by omega) (by omega) rfl ?_
    | refine ev_convB rfl rfl tabOk rfl rfl rfl rfl ?_
    | refine ev_conv rfl rfl tabOk rfl rfl rfl (by simp only [lowK, hiK]; omega) ?_)
  refine ev_append tabOk rfl rfl rfl inf37 rfl (by omega) rfl rfl ho2 ((hA.fr0 hf1).fr0 hf2) (by simp) (by simp [Value.oneCell']) (by omega) (fun tv w3 hoT hf3 hn3 => ?_)
  have hoT : Own w3 37 1 tv l.length (l.map iv) := by rw [Nat.zero_add] at hoT; exact hoT
  have hf03 : Fr no W w3 := (hf1.tr hf2).trans hf3 (fun b hb e => by simp only [Value.ownBlock, Option.some.injEq] at e; have := hf1.size; omega)
  clear hf1 hf2 hf3 hb2 ho2 hn3 hq
  obtain ⟨At, ct, rfl, hcT, _⟩ := hoT.slice
  repeat (first
    | refine stepF_ok tabOk [] (m := 400) rfl ?_
    | refine stepF_ok tabOk [] (m := 16) rfl ?_
    | refine stepF_ok tabOk [] (m := 3) rfl ?_
    | refine stepF_ok tabOk [] (m := 0) rfl ?_
    | refine ev_load rfl rfl tabOk rfl rfl (by assumption) ?_
    | refine ev_loadB rfl rfl tabOk rfl rfl (by assumption) (by rfl) ?_
    | refine ev_loadAggB rfl rfl tabOk rfl rfl (by assumption) (by rfl) ?_
    | refine ev_arith rfl rfl rfl rfl rfl (by simp only [lowK, hiK]; omega) ?_
    | refine ev_rem rfl rfl rfl rfl (by omega) (by omega) ?_
    | refine ev_quo rfl rfl rfl rfl (by omega) (by omega) (by simp only [hiK]; omega) ?_
    | refine ev_index rfl rfl tabOk rfl rfl rfl (by omega) (by omega) ?_
    | refine ev_indexA rfl rfl tabOk rfl rfl rfl (by omega) (by omega) rfl ?_
    | refine ev_convB rfl rfl tabOk rfl rfl rfl rfl ?_
    | refine ev_conv rfl rfl tabOk rfl rfl rfl (by simp only [lowK, hiK]; omega) ?_)
  refine ev_call rfl rfl rfl (refRow At ct l _ (by omega) hcT) (fun r w4 hr => ?_)
  obtain ⟨rfl, hf4⟩ := hr
  have hoT4 := hoT.fr0 hf4
  have hf04 := hf03.tr hf4
  clear hoT hcT hf03 hf4
  have hrl : (rowB l).length = l.length := by simp [rowB]
  repeat (first
    | refine stepF_ok tabOk [] (m := 400) rfl ?_
    | refine stepF_ok tabOk [] (m := 16) rfl ?_
    | refine stepF_ok tabOk [] (m := 3) rfl ?_
    | refine stepF_ok tabOk [] (m := 0) rfl ?_
    | refine ev_load rfl rfl tabOk rfl rfl (by assumption) ?_
    | refine ev_loadB rfl rfl tabOk rfl rfl (by assumption) (by rfl) ?_
    | refine ev_loadAggB rfl rfl tabOk rfl rfl (by assumption) (by rfl) ?_
    | refine ev_arith rfl rfl rfl rfl rfl (by simp only [lowK, hiK]; omega) ?_
    | refine ev_rem rfl rfl rfl rfl (by omega) (by omega) ?_
    | refine ev_quo rfl rfl rfl rfl (by omega) (by omega) (by simp only [hiK]; omega) ?_
    | refine ev_index rfl rfl tabOk rfl rfl rfl (by omega) (by omega) ?_
    | refine ev_indexA rfl rfl tabOk rfl rfl rfl (by omega) (by omega) rfl ?_
    | refine ev_convB rfl rfl tabOk rfl rfl rfl rfl ?_
    | refine ev_conv rfl rfl tabOk rfl rfl rfl (by simp only [lowK, hiK]; omega) ?_)
  refine ev_concat rfl rfl rfl rfl (by omega) ?_
  have hsl : (rowB l ++ t).length = l.length + t.length := by rw [List.length_append, hrl]
  repeat (first
    | refine stepF_ok tabOk [] (m := 400) rfl ?_
    | refine stepF_ok tabOk [] (m := 16) rfl ?_
    | refine stepF_ok tabOk [] (m := 3) rfl ?_
    | refine stepF_ok tabOk [] (m := 0) rfl ?_
    | refine ev_load rfl rfl tabOk rfl rfl (by assumption) ?_
    | refine ev_loadB rfl rfl tabOk rfl rfl (by assumption) (by rfl) ?_
    | refine ev_loadAggB rfl rfl tabOk rfl rfl (by assumption) (by rfl) ?_
    | refine ev_arith rfl rfl rfl rfl rfl (by simp only [lowK, hiK]; omega) ?_
    | refine ev_rem rfl rfl rfl rfl (by omega) (by omega) ?_
    | refine ev_quo rfl rfl rfl rfl (by omega) (by omega) (by simp only [hiK]; omega) ?_
    | refine ev_index rfl rfl tabOk rfl rfl rfl (by omega) (by omega) ?_
    | refine ev_indexA rfl rfl tabOk rfl rfl rfl (by omega) (by omega) rfl ?_
    | refine ev_convB rfl rfl tabOk rfl rfl rfl rfl ?_
    | refine ev_conv rfl rfl tabOk rfl rfl rfl (by simp only [lowK, hiK]; omega) ?_)
  refine ev_buildSlice tabOk rfl rfl rfl inf28 rfl rfl rfl (by simp) rfl (fun q w5 hq hb5 hf5 => ?_)
  have ho5 := own_of_blk (m := 0) (sz := 1) hb5 rfl (by omega)
  have hP5 : KP w4 w5 l.length [] (fun _ => l.map iv) := fun i y h => by simp at h
  have hS0 := hf04.size
  repeat (first
    | refine stepF_ok tabOk [] (m := 400) rfl ?_
    | refine stepF_ok tabOk [] (m := 16) rfl ?_
    | refine stepF_ok tabOk [] (m := 3) rfl ?_
    | refine stepF_ok tabOk [] (m := 0) rfl ?_
    | refine ev_load rfl rfl tabOk rfl rfl (by assumption) ?_
    | refine ev_loadB rfl rfl tabOk rfl rfl (by assumption) (by rfl) ?_
    | refine ev_loadAggB rfl rfl tabOk rfl rfl (by assumption) (by rfl) ?_
    | refine ev_arith rfl rfl rfl rfl rfl (by simp only [lowK, hiK]; omega) ?_
    | refine ev_rem rfl rfl rfl rfl (by omega) (by omega) ?_
    | refine ev_quo rfl rfl rfl rfl (by omega) (by omega) (by simp only [hiK]; omega) ?_
    | refine ev_index rfl rfl tabOk rfl rfl rfl (by omega) (by omega) ?_
    | refine ev_indexA rfl rfl tabOk rfl rfl rfl (by omega) (by omega) rfl ?_
    | refine ev_convB rfl rfl tabOk rfl rfl rfl rfl ?_
    | refine ev_conv rfl rfl tabOk rfl rfl rfl (by simp only [lowK, hiK]; omega) ?_)
  refine ev_loop (α := Nat × Value × List Value) (fun y => [(0, .slice A l.length c), (1, .string (sOf t)), (5, .slice At l.length ct), (6, .string (sOf (rowB l ++ t))), (7, y.2.1), (8, .int .i64 y.1)])
    (fun y w' => y.1 ≤ 3 ∧ Own w' 28 1 y.2.1 y.1 y.2.2 ∧ (∀ g, y.2.1.ownBlock = some g → w4.heap.size ≤ g) ∧ KP w4 w' l.length y.2.2 (fun _ => l.map iv) ∧ Fr no w4 w') (fun y => 3 - y.1) (0, .slice (some ⟨q, 0, none⟩) 0 0, []) ⟨rfl, rfl, rfl, rfl, rfl, rfl, trivial⟩
    ⟨by simp only; omega, ho5, fun g hg => by simp only [Value.ownBlock, Option.some.injEq] at hg; omega, hP5, hf5⟩ ?_
  clear ho5 hP5 hf5 hq hb5
  rintro ⟨k, kv, R⟩ w ⟨hk, hoK, hgK, hP, hfW⟩
  simp only at hk hoK hgK hP hfW
  have hRl : R.length = k := by have := hoK.len; omega
  repeat (first
    | refine stepF_ok tabOk [] (m := 400) rfl ?_
    | refine stepF_ok tabOk [] (m := 16) rfl ?_
    | refine stepF_ok tabOk [] (m := 3) rfl ?_
    | refine stepF_ok tabOk [] (m := 0) rfl ?_
    | refine ev_load rfl rfl tabOk rfl rfl (by assumption) ?_
    | refine ev_loadB rfl rfl tabOk rfl rfl (by assumption) (by rfl) ?_
    | refine ev_loadAggB rfl rfl tabOk rfl rfl (by assumption) (by rfl) ?_
    | refine ev_arith rfl rfl rfl rfl rfl (by simp only [lowK, hiK]; omega) ?_
    | refine ev_rem rfl rfl rfl rfl (by omega) (by omega) ?_
    | refine ev_quo rfl rfl rfl rfl (by omega) (by omega) (by simp only [hiK]; omega) ?_
    | refine ev_index rfl rfl tabOk rfl rfl rfl (by omega) (by omega) ?_
    | refine ev_indexA rfl rfl tabOk rfl rfl rfl (by omega) (by omega) rfl ?_
    | refine ev_convB rfl rfl tabOk rfl rfl rfl rfl ?_
    | refine ev_conv rfl rfl tabOk rfl rfl rfl (by simp only [lowK, hiK]; omega) ?_)
  refine ev_condD rfl (fun hlt => ?_) (fun hlt => ?_)
  · simp only at hlt
    repeat (first
      | refine stepF_ok tabOk [] (m := 400) rfl ?_
      | refine stepF_ok tabOk [] (m := 16) rfl ?_
      | refine stepF_ok tabOk [] (m := 3) rfl ?_
      | refine stepF_ok tabOk [] (m := 0) rfl ?_
      | refine ev_load rfl rfl tabOk rfl rfl (by assumption) ?_
      | refine ev_loadB rfl rfl tabOk rfl rfl (by assumption) (by rfl) ?_
      | refine ev_loadAggB rfl rfl tabOk rfl rfl (by assumption) (by rfl) ?_
      | refine ev_arith rfl rfl rfl rfl rfl (by simp only [lowK, hiK]; omega) ?_
      | refine ev_rem rfl rfl rfl rfl (by omega) (by omega) ?_
      | refine ev_quo rfl rfl rfl rfl (by omega) (by omega) (by simp only [hiK]; omega) ?_
      | refine ev_index rfl rfl tabOk rfl rfl rfl (by omega) (by omega) ?_
      | refine ev_indexA rfl rfl tabOk rfl rfl rfl (by omega) (by omega) rfl ?_
      | refine ev_convB rfl rfl tabOk rfl rfl rfl rfl ?_
      | refine ev_conv rfl rfl tabOk rfl rfl rfl (by simp only [lowK, hiK]; omega) ?_)
    refine ev_call rfl rfl rfl (newReader (rowB l ++ t) _) (fun r w6 hr => ?_)
    obtain ⟨p, rfl, hp, hR6, hf6⟩ := hr
    obtain ⟨e1, e2, e3⟩ := back_raw [] (rowB l) t (s := rowB l ++ t) rfl (m := l.length) (by omega)
    simp only [List.length_nil] at e1 e2 e3
    repeat (first
      | refine stepF_ok tabOk [] (m := 400) rfl ?_
      | refine stepF_ok tabOk [] (m := 16) rfl ?_
      | refine stepF_ok tabOk [] (m := 3) rfl ?_
      | refine stepF_ok tabOk [] (m := 0) rfl ?_
      | refine ev_load rfl rfl tabOk rfl rfl (by assumption) ?_
      | refine ev_loadB rfl rfl tabOk rfl rfl (by assumption) (by rfl) ?_
      | refine ev_loadAggB rfl rfl tabOk rfl rfl (by assumption) (by rfl) ?_
      | refine ev_arith rfl rfl rfl rfl rfl (by simp only [lowK, hiK]; omega) ?_
      | refine ev_rem rfl rfl rfl rfl (by omega) (by omega) ?_
      | refine ev_quo rfl rfl rfl rfl (by omega) (by omega) (by simp only [hiK]; omega) ?_
      | refine ev_index rfl rfl tabOk rfl rfl rfl (by omega) (by omega) ?_
      | refine ev_indexA rfl rfl tabOk rfl rfl rfl (by omega) (by omega) rfl ?_
      | refine ev_convB rfl rfl tabOk rfl rfl rfl rfl ?_
      | refine ev_conv rfl rfl tabOk rfl rfl rfl (by simp only [lowK, hiK]; omega) ?_)
    refine ev_call rfl rfl rfl (rdRow p _ _ _ _ hR6 (by omega) (by omega)) (fun r w7 hr => ?_)
    obtain ⟨y, rfl, hoy, hny, hR7, hf7⟩ := hr
    rw [e1]
    rw [e2, back_row, hrl] at hoy
    obtain ⟨Ay, cy, rfl, hcy, _⟩ := hoy.slice
    have hf67 : Fr no w w7 := hf6.trans hf7 (fun b hb e => by have : b = p := e; omega)
    have hoT7 := (hoT4.fr0 hfW).fr0 hf67
    obtain ⟨_, _, e4, hcT, _⟩ := hoT7.slice
    cases e4
    repeat (first
      | refine stepF_ok tabOk [] (m := 400) rfl ?_
      | refine stepF_ok tabOk [] (m := 16) rfl ?_
      | refine stepF_ok tabOk [] (m := 3) rfl ?_
      | refine stepF_ok tabOk [] (m := 0) rfl ?_
      | refine ev_load rfl rfl tabOk rfl rfl (by assumption) ?_
      | refine ev_loadB rfl rfl tabOk rfl rfl (by assumption) (by rfl) ?_
      | refine ev_loadAggB rfl rfl tabOk rfl rfl (by assumption) (by rfl) ?_
      | refine ev_arith rfl rfl rfl rfl rfl (by simp only [lowK, hiK]; omega) ?_
      | refine ev_rem rfl rfl rfl rfl (by omega) (by omega) ?_
      | refine ev_quo rfl rfl rfl rfl (by omega) (by omega) (by simp only [hiK]; omega) ?_
      | refine ev_index rfl rfl tabOk rfl rfl rfl (by omega) (by omega) ?_
      | refine ev_indexA rfl rfl tabOk rfl rfl rfl (by omega) (by omega) rfl ?_
      | refine ev_convB rfl rfl tabOk rfl rfl rfl rfl ?_
      | refine ev_conv rfl rfl tabOk rfl rfl rfl (by simp only [lowK, hiK]; omega) ?_)
    refine ev_call rfl rfl rfl (rowsC Ay At l l cy ct _ hcy hcT (by omega)) (fun r w8 hr => ?_)
    obtain ⟨rfl, hf8⟩ := hr
    rw [show decide (l = l) = true from decide_eq_true rfl]
    have hoy8 := hoy.fr0 hf8
    have hf68 := hf67.tr hf8
    have hoK8 := hoK.fr0 hf68
    have hs6 := hf6.size
    have hs68 := hf68.size
    repeat (first
      | refine stepF_ok tabOk [] (m := 400) rfl ?_
      | refine stepF_ok tabOk [] (m := 16) rfl ?_
      | refine stepF_ok tabOk [] (m := 3) rfl ?_
      | refine stepF_ok tabOk [] (m := 0) rfl ?_
      | refine ev_load rfl rfl tabOk rfl rfl (by assumption) ?_
      | refine ev_loadB rfl rfl tabOk rfl rfl (by assumption) (by rfl) ?_
      | refine ev_loadAggB rfl rfl tabOk rfl rfl (by assumption) (by rfl) ?_
      | refine ev_arith rfl rfl rfl rfl rfl (by simp only [lowK, hiK]; omega) ?_
      | refine ev_rem rfl rfl rfl rfl (by omega) (by omega) ?_
      | refine ev_quo rfl rfl rfl rfl (by omega) (by omega) (by simp only [hiK]; omega) ?_
      | refine ev_index rfl rfl tabOk rfl rfl rfl (by omega) (by omega) ?_
      | refine ev_indexA rfl rfl tabOk rfl rfl rfl (by omega) (by omega) rfl ?_
      | refine ev_convB rfl rfl tabOk rfl rfl rfl rfl ?_
      | refine ev_conv rfl rfl tabOk rfl rfl rfl (by simp only [lowK, hiK]; omega) ?_)
    refine ev_append1 tabOk rfl rfl (fun _ => rfl) rfl rfl inf28 rfl (by omega) (fun _ => rfl) rfl rfl (by simp [Value.cells]) (by simp [flatV, Value.cells, Value.oneCell']) rfl hoK8 (by omega) (fun kv9 w9 q9 ho9 hf9 hn9 => ?_)
    have hP9 : KP w4 w9 l.length (R ++ [.slice Ay l.length cy]) (fun _ => l.map iv) := by
      refine KP.add hP hfW.size (fun i z hz => ?_) ?_ (fun g hg => Nat.le_trans hs6 (hny g hg))
      · exact ((hP i z hz).1.fr0 hf68).fr hf9 (fun g hg e => own_apart hoK8 ((hP i z hz).1.fr0 hf68) (by decide) g e hg)
      · exact hoy8.fr hf9 (fun g hg e => own_apart hoK8 hoy8 (by decide) g e hg)
    repeat (first
      | refine stepF_ok tabOk [] (m := 400) rfl ?_
      | refine stepF_ok tabOk [] (m := 16) rfl ?_
      | refine stepF_ok tabOk [] (m := 3) rfl ?_
      | refine stepF_ok tabOk [] (m := 0) rfl ?_
      | refine ev_load rfl rfl tabOk rfl rfl (by assumption) ?_
      | refine ev_loadB rfl rfl tabOk rfl rfl (by assumption) (by rfl) ?_
      | refine ev_loadAggB rfl rfl tabOk rfl rfl (by assumption) (by rfl) ?_
      | refine ev_arith rfl rfl rfl rfl rfl (by simp only [lowK, hiK]; omega) ?_
      | refine ev_rem rfl rfl rfl rfl (by omega) (by omega) ?_
      | refine ev_quo rfl rfl rfl rfl (by omega) (by omega) (by simp only [hiK]; omega) ?_
      | refine ev_index rfl rfl tabOk rfl rfl rfl (by omega) (by omega) ?_
      | refine ev_indexA rfl rfl tabOk rfl rfl rfl (by omega) (by omega) rfl ?_
      | refine ev_convB rfl rfl tabOk rfl rfl rfl rfl ?_
      | refine ev_conv rfl rfl tabOk rfl rfl rfl (by simp only [lowK, hiK]; omega) ?_)
    refine ev_next (k + 1, kv9, R ++ [.slice Ay l.length cy]) (by simp only; omega) ⟨by simp only; omega, ho9, fun g hg => ?_, hP9, (hfW.tr hf68).trans hf9 (fun b hb e => by have := hgK b e; omega)⟩ ⟨rfl, rfl, rfl, rfl, rfl, rfl, trivial⟩
    rcases hn9 g hg with h | h
    · exact hgK g h
    · have := hfW.size; omega
  simp only at hlt
  have hk3 : k = 3 := by omega
  subst hk3
  clear hlt hk
  repeat (first
    | refine stepF_ok tabOk [] (m := 400) rfl ?_
    | refine stepF_ok tabOk [] (m := 16) rfl ?_
    | refine stepF_ok tabOk [] (m := 3) rfl ?_
    | refine stepF_ok tabOk [] (m := 0) rfl ?_
    | refine ev_load rfl rfl tabOk rfl rfl (by assumption) ?_
    | refine ev_loadB rfl rfl tabOk rfl rfl (by assumption) (by rfl) ?_
    | refine ev_loadAggB rfl rfl tabOk rfl rfl (by assumption) (by rfl) ?_
    | refine ev_arith rfl rfl rfl rfl rfl (by simp only [lowK, hiK]; omega) ?_
    | refine ev_rem rfl rfl rfl rfl (by omega) (by omega) ?_
    | refine ev_quo rfl rfl rfl rfl (by omega) (by omega) (by simp only [hiK]; omega) ?_
    | refine ev_index rfl rfl tabOk rfl rfl rfl (by omega) (by omega) ?_
    | refine ev_indexA rfl rfl tabOk rfl rfl rfl (by omega) (by omega) rfl ?_
    | refine ev_convB rfl rfl tabOk rfl rfl rfl rfl ?_
    | refine ev_conv rfl rfl tabOk rfl rfl rfl (by simp only [lowK, hiK]; omega) ?_)
  obtain ⟨Ak, ck, rfl, _, _⟩ := hoK.slice
  refine ev_loop (α := Nat) (fun i => [(0, .slice A l.length c), (1, .string (sOf t)), (5, .slice At l.length ct), (7, .slice Ak 3 ck), (12, .int .i64 i)])
    (fun i w' => i ≤ 3 ∧ Own w' 28 1 (.slice Ak 3 ck) 3 R ∧ KP w4 w' l.length R (fillX l i 0) ∧ Fr no w4 w') (fun i => 3 - i) 0 ⟨rfl, rfl, rfl, rfl, rfl, trivial⟩
    ⟨by omega, hoK, hP.ext (fun i y _ => by unfold fillX; rw [if_neg (by omega)]; split <;> simp), hfW⟩ ?_
  clear hP hoK hfW hgK
  rintro i w ⟨hi, hoK, hP, hfW⟩
  have hRl : R.length = 3 := by have := hoK.len; omega
  repeat (first
    | refine stepF_ok tabOk [] (m := 400) rfl ?_
    | refine stepF_ok tabOk [] (m := 16) rfl ?_
    | refine stepF_ok tabOk [] (m := 3) rfl ?_
    | refine stepF_ok tabOk [] (m := 0) rfl ?_
    | refine ev_load rfl rfl tabOk rfl rfl (by assumption) ?_
    | refine ev_loadB rfl rfl tabOk rfl rfl (by assumption) (by rfl) ?_
    | refine ev_loadAggB rfl rfl tabOk rfl rfl (by assumption) (by rfl) ?_
    | refine ev_arith rfl rfl rfl rfl rfl (by simp only [lowK, hiK]; omega) ?_
    | refine ev_rem rfl rfl rfl rfl (by omega) (by omega) ?_
    | refine ev_quo rfl rfl rfl rfl (by omega) (by omega) (by simp only [hiK]; omega) ?_
    | refine ev_index rfl rfl tabOk rfl rfl rfl (by omega) (by omega) ?_
    | refine ev_indexA rfl rfl tabOk rfl rfl rfl (by omega) (by omega) rfl ?_
    | refine ev_convB rfl rfl tabOk rfl rfl rfl rfl ?_
    | refine ev_conv rfl rfl tabOk rfl rfl rfl (by simp only [lowK, hiK]; omega) ?_)
  refine ev_condD rfl (fun hlt => ?_) (fun hlt => ?_)
  · repeat (first
      | refine stepF_ok tabOk [] (m := 400) rfl ?_
      | refine stepF_ok tabOk [] (m := 16) rfl ?_
      | refine stepF_ok tabOk [] (m := 3) rfl ?_
      | refine stepF_ok tabOk [] (m := 0) rfl ?_
      | refine ev_load rfl rfl tabOk rfl rfl (by assumption) ?_
      | refine ev_loadB rfl rfl tabOk rfl rfl (by assumption) (by rfl) ?_
      | refine ev_loadAggB rfl rfl tabOk rfl rfl (by assumption) (by rfl) ?_
      | refine ev_arith rfl rfl rfl rfl rfl (by simp only [lowK, hiK]; omega) ?_
      | refine ev_rem rfl rfl rfl rfl (by omega) (by omega) ?_
      | refine ev_quo rfl rfl rfl rfl (by omega) (by omega) (by simp only [hiK]; omega) ?_
      | refine ev_index rfl rfl tabOk rfl rfl rfl (by omega) (by omega) ?_
      | refine ev_indexA rfl rfl tabOk rfl rfl rfl (by omega) (by omega) rfl ?_
      | refine ev_convB rfl rfl tabOk rfl rfl rfl rfl ?_
      | refine ev_conv rfl rfl tabOk rfl rfl rfl (by simp only [lowK, hiK]; omega) ?_)
    obtain ⟨y, hy⟩ : ∃ y, R[i]? = some y := ⟨_, List.getElem?_eq_getElem (by omega)⟩
    have hoy0 := (hP i y hy).1
    obtain ⟨Ay, cy, rfl, _, _⟩ := hoy0.slice
    clear hoy0
    refine ev_loop (α := Nat) (fun j => [(0, .slice A l.length c), (1, .string (sOf t)), (5, .slice At l.length ct), (7, .slice Ak 3 ck), (12, .int .i64 i), (13, .int .i64 j)])
      (fun j w' => j ≤ l.length ∧ Own w' 28 1 (.slice Ak 3 ck) 3 R ∧ KP w4 w' l.length R (fillX l i j) ∧ Fr no w4 w') (fun j => l.length - j) 0 ⟨rfl, rfl, rfl, rfl, rfl, rfl, trivial⟩ ⟨by omega, hoK, hP, hfW⟩ ?_
    clear hP hoK hfW
    rintro j w ⟨hj, hoK, hP, hfW⟩
    obtain ⟨gk, ck', u, e1, hu, hck⟩ := own_at hoK (j := i) (by omega)
    cases e1
    rw [hy] at hu
    cases hu
    repeat (first
      | refine stepF_ok tabOk [] (m := 400) rfl ?_
      | refine stepF_ok tabOk [] (m := 16) rfl ?_
      | refine stepF_ok tabOk [] (m := 3) rfl ?_
      | refine stepF_ok tabOk [] (m := 0) rfl ?_
      | refine ev_load rfl rfl tabOk rfl rfl (by assumption) ?_
      | refine ev_loadB rfl rfl tabOk rfl rfl (by assumption) (by rfl) ?_
      | refine ev_loadAggB rfl rfl tabOk rfl rfl (by assumption) (by rfl) ?_
      | refine ev_arith rfl rfl rfl rfl rfl (by simp only [lowK, hiK]; omega) ?_
      | refine ev_rem rfl rfl rfl rfl (by omega) (by omega) ?_
      | refine ev_quo rfl rfl rfl rfl (by omega) (by omega) (by simp only [hiK]; omega) ?_
      | refine ev_index rfl rfl tabOk rfl rfl rfl (by omega) (by omega) ?_
      | refine ev_indexA rfl rfl tabOk rfl rfl rfl (by omega) (by omega) rfl ?_
      | refine ev_convB rfl rfl tabOk rfl rfl rfl rfl ?_
      | refine ev_conv rfl rfl tabOk rfl rfl rfl (by simp only [lowK, hiK]; omega) ?_)
    refine ev_indexAddr rfl rfl tabOk rfl rfl rfl (by omega) (by omega) ?_
    repeat (first
      | refine stepF_ok tabOk [] (m := 400) rfl ?_
      | refine stepF_ok tabOk [] (m := 16) rfl ?_
      | refine stepF_ok tabOk [] (m := 3) rfl ?_
      | refine stepF_ok tabOk [] (m := 0) rfl ?_
      | refine ev_load rfl rfl tabOk rfl rfl (by assumption) ?_
      | refine ev_loadB rfl rfl tabOk rfl rfl (by assumption) (by rfl) ?_
      | refine ev_loadAggB rfl rfl tabOk rfl rfl (by assumption) (by rfl) ?_
      | refine ev_arith rfl rfl rfl rfl rfl (by simp only [lowK, hiK]; omega) ?_
      | refine ev_rem rfl rfl rfl rfl (by omega) (by omega) ?_
      | refine ev_quo rfl rfl rfl rfl (by omega) (by omega) (by simp only [hiK]; omega) ?_
      | refine ev_index rfl rfl tabOk rfl rfl rfl (by omega) (by omega) ?_
      | refine ev_indexA rfl rfl tabOk rfl rfl rfl (by omega) (by omega) rfl ?_
      | refine ev_convB rfl rfl tabOk rfl rfl rfl rfl ?_
      | refine ev_conv rfl rfl tabOk rfl rfl rfl (by simp only [lowK, hiK]; omega) ?_)
    refine ev_condD rfl (fun hltj => ?_) (fun hltj => ?_)
    · have hoy := (hP i _ hy).1
      obtain ⟨gy, cy', v, e2, hv, hcy⟩ := own_at hoy (j := j) (by omega)
      cases e2
      repeat (first
        | refine stepF_ok tabOk [] (m := 400) rfl ?_
        | refine stepF_ok tabOk [] (m := 16) rfl ?_
        | refine stepF_ok tabOk [] (m := 3) rfl ?_
        | refine stepF_ok tabOk [] (m := 0) rfl ?_
        | refine ev_load rfl rfl tabOk rfl rfl (by assumption) ?_
        | refine ev_loadB rfl rfl tabOk rfl rfl (by assumption) (by rfl) ?_
        | refine ev_loadAggB rfl rfl tabOk rfl rfl (by assumption) (by rfl) ?_
        | refine ev_arith rfl rfl rfl rfl rfl (by simp only [lowK, hiK]; omega) ?_
        | refine ev_rem rfl rfl rfl rfl (by omega) (by omega) ?_
        | refine ev_quo rfl rfl rfl rfl (by omega) (by omega) (by simp only [hiK]; omega) ?_
        | refine ev_index rfl rfl tabOk rfl rfl rfl (by omega) (by omega) ?_
        | refine ev_indexA rfl rfl tabOk rfl rfl rfl (by omega) (by omega) rfl ?_
        | refine ev_convB rfl rfl tabOk rfl rfl rfl rfl ?_
        | refine ev_conv rfl rfl tabOk rfl rfl rfl (by simp only [lowK, hiK]; omega) ?_)
      refine ev_indexAddr rfl rfl tabOk rfl rfl rfl (by omega) (by omega) ?_
      repeat (first
        | refine stepF_ok tabOk [] (m := 400) rfl ?_
        | refine stepF_ok tabOk [] (m := 16) rfl ?_
        | refine stepF_ok tabOk [] (m := 3) rfl ?_
        | refine stepF_ok tabOk [] (m := 0) rfl ?_
        | refine ev_load rfl rfl tabOk rfl rfl (by assumption) ?_
        | refine ev_loadB rfl rfl tabOk rfl rfl (by assumption) (by rfl) ?_
        | refine ev_loadAggB rfl rfl tabOk rfl rfl (by assumption) (by rfl) ?_
        | refine ev_arith rfl rfl rfl rfl rfl (by simp only [lowK, hiK]; omega) ?_
        | refine ev_rem rfl rfl rfl rfl (by omega) (by omega) ?_
        | refine ev_quo rfl rfl rfl rfl (by omega) (by omega) (by simp only [hiK]; omega) ?_
        | refine ev_index rfl rfl tabOk rfl rfl rfl (by omega) (by omega) ?_
        | refine ev_indexA rfl rfl tabOk rfl rfl rfl (by omega) (by omega) rfl ?_
        | refine ev_convB rfl rfl tabOk rfl rfl rfl rfl ?_
        | refine ev_conv rfl rfl tabOk rfl rfl rfl (by simp only [lowK, hiK]; omega) ?_)
      refine ev_indexAddr rfl rfl tabOk rfl rfl rfl (by omega) (by omega) ?_
      repeat (first
        | refine stepF_ok tabOk [] (m := 400) rfl ?_
        | refine stepF_ok tabOk [] (m := 16) rfl ?_
        | refine stepF_ok tabOk [] (m := 3) rfl ?_
        | refine stepF_ok tabOk [] (m := 0) rfl ?_
        | refine ev_load rfl rfl tabOk rfl rfl (by assumption) ?_
        | refine ev_loadB rfl rfl tabOk rfl rfl (by assumption) (by rfl) ?_
        | refine ev_loadAggB rfl rfl tabOk rfl rfl (by assumption) (by rfl) ?_
        | refine ev_arith rfl rfl rfl rfl rfl (by simp only [lowK, hiK]; omega) ?_
        | refine ev_rem rfl rfl rfl rfl (by omega) (by omega) ?_
        | refine ev_quo rfl rfl rfl rfl (by omega) (by omega) (by simp only [hiK]; omega) ?_
        | refine ev_index rfl rfl tabOk rfl rfl rfl (by omega) (by omega) ?_
        | refine ev_indexA rfl rfl tabOk rfl rfl rfl (by omega) (by omega) rfl ?_
        | refine ev_convB rfl rfl tabOk rfl rfl rfl rfl ?_
        | refine ev_conv rfl rfl tabOk rfl rfl rfl (by simp only [lowK, hiK]; omega) ?_)
      refine ev_storeRow tabOk rfl rfl rfl rfl rfl rfl hoy rfl (by omega) (fun w9 ho9 hf9 => ?_)
      have e3 : (0 + (j : Int).toNat * 1) = j := by omega
      rw [e3, fillX_set (by omega)] at ho9
      have hP9 := hP.put (X' := fillX l i (j + 1)) hy rfl ho9 hf9 (fun q hq => by unfold fillX; rw [if_neg hq, if_neg hq])
      have hgy := ((hP i _ hy).2 gy rfl).1
      repeat (first
        | refine stepF_ok tabOk [] (m := 400) rfl ?_
        | refine stepF_ok tabOk [] (m := 16) rfl ?_
        | refine stepF_ok tabOk [] (m := 3) rfl ?_
        | refine stepF_ok tabOk [] (m := 0) rfl ?_
        | refine ev_load rfl rfl tabOk rfl rfl (by assumption) ?_
        | refine ev_loadB rfl rfl tabOk rfl rfl (by assumption) (by rfl) ?_
        | refine ev_loadAggB rfl rfl tabOk rfl rfl (by assumption) (by rfl) ?_
        | refine ev_arith rfl rfl rfl rfl rfl (by simp only [lowK, hiK]; omega) ?_
        | refine ev_rem rfl rfl rfl rfl (by omega) (by omega) ?_
        | refine ev_quo rfl rfl rfl rfl (by omega) (by omega) (by simp only [hiK]; omega) ?_
        | refine ev_index rfl rfl tabOk rfl rfl rfl (by omega) (by omega) ?_
        | refine ev_indexA rfl rfl tabOk rfl rfl rfl (by omega) (by omega) rfl ?_
        | refine ev_convB rfl rfl tabOk rfl rfl rfl rfl ?_
        | refine ev_conv rfl rfl tabOk rfl rfl rfl (by simp only [lowK, hiK]; omega) ?_)
      exact ev_next (j + 1) (by omega) ⟨by omega, hoK.fr hf9 (fun g hg e => own_apart hoK hoy (by decide) g hg (by rw [← e]; rfl)), hP9, hfW.trans hf9 (fun b hb e => by omega)⟩ ⟨rfl, rfl, rfl, rfl, rfl, rfl, trivial⟩
    · have hjl : j = l.length := by omega
      subst hjl
      have hP9 : KP w4 w l.length R (fillX l (i + 1) 0) := hP.ext (fun q z _ => fillX_done l i q)
      repeat (first
        | refine stepF_ok tabOk [] (m := 400) rfl ?_
        | refine stepF_ok tabOk [] (m := 16) rfl ?_
        | refine stepF_ok tabOk [] (m := 3) rfl ?_
        | refine stepF_ok tabOk [] (m := 0) rfl ?_
        | refine ev_load rfl rfl tabOk rfl rfl (by assumption) ?_
        | refine ev_loadB rfl rfl tabOk rfl rfl (by assumption) (by rfl) ?_
        | refine ev_loadAggB rfl rfl tabOk rfl rfl (by assumption) (by rfl) ?_
        | refine ev_arith rfl rfl rfl rfl rfl (by simp only [lowK, hiK]; omega) ?_
        | refine ev_rem rfl rfl rfl rfl (by omega) (by omega) ?_
        | refine ev_quo rfl rfl rfl rfl (by omega) (by omega) (by simp only [hiK]; omega) ?_
        | refine ev_index rfl rfl tabOk rfl rfl rfl (by omega) (by omega) ?_
        | refine ev_indexA rfl rfl tabOk rfl rfl rfl (by omega) (by omega) rfl ?_
        | refine ev_convB rfl rfl tabOk rfl rfl rfl rfl ?_
        | refine ev_conv rfl rfl tabOk rfl rfl rfl (by simp only [lowK, hiK]; omega) ?_)
      exact ev_next (i + 1) (by omega) ⟨by omega, hoK, hP9, hfW⟩ ⟨rfl, rfl, rfl, rfl, rfl, trivial⟩
  have hi3 : i = 3 := by omega
  subst hi3
  clear hlt hi
  have hP : KP w4 w l.length R (fun q => List.replicate l.length (.int .i8 ((q : Int) + 1))) := hP.ext (fun q z hz => by
    have hq : q < 3 := by have := (List.getElem?_eq_some_iff.1 hz).1; omega
    unfold fillX; rw [if_pos hq])
  repeat (first
    | refine stepF_ok tabOk [] (m := 400) rfl ?_
    | refine stepF_ok tabOk [] (m := 16) rfl ?_
    | refine stepF_ok tabOk [] (m := 3) rfl ?_
    | refine stepF_ok tabOk [] (m := 0) rfl ?_
    | refine ev_load rfl rfl tabOk rfl rfl (by assumption) ?_
    | refine ev_loadB rfl rfl tabOk rfl rfl (by assumption) (by rfl) ?_
    | refine ev_loadAggB rfl rfl tabOk rfl rfl (by assumption) (by rfl) ?_
    | refine ev_arith rfl rfl rfl rfl rfl (by simp only [lowK, hiK]; omega) ?_
    | refine ev_rem rfl rfl rfl rfl (by omega) (by omega) ?_
    | refine ev_quo rfl rfl rfl rfl (by omega) (by omega) (by simp only [hiK]; omega) ?_
    | refine ev_index rfl rfl tabOk rfl rfl rfl (by omega) (by omega) ?_
    | refine ev_indexA rfl rfl tabOk rfl rfl rfl (by omega) (by omega) rfl ?_
    | refine ev_convB rfl rfl tabOk rfl rfl rfl rfl ?_
    | refine ev_conv rfl rfl tabOk rfl rfl rfl (by simp only [lowK, hiK]; omega) ?_)
  refine ev_loop (α := Nat) (fun i => [(0, .slice A l.length c), (1, .string (sOf t)), (5, .slice At l.length ct), (7, .slice Ak 3 ck), (14, .int .i64 i)])
    (fun i w' => i ≤ 3 ∧ Own w' 28 1 (.slice Ak 3 ck) 3 R ∧ KP w4 w' l.length R (fun q => List.replicate l.length (.int .i8 ((q : Int) + 1))) ∧ Fr no w4 w') (fun i => 3 - i) 0 ⟨rfl, rfl, rfl, rfl, rfl, trivial⟩
    ⟨by omega, hoK, hP, hfW⟩ ?_
  clear hP hoK hfW
  rintro i w ⟨hi, hoK, hP, hfW⟩
  repeat (first
    | refine stepF_ok tabOk [] (m := 400) rfl ?_
    | refine stepF_ok tabOk [] (m := 16) rfl ?_
    | refine stepF_ok tabOk [] (m := 3) rfl ?_
    | refine stepF_ok tabOk [] (m := 0) rfl ?_
    | refine ev_load rfl rfl tabOk rfl rfl (by assumption) ?_
    | refine ev_loadB rfl rfl tabOk rfl rfl (by assumption) (by rfl) ?_
    | refine ev_loadAggB rfl rfl tabOk rfl rfl (by assumption) (by rfl) ?_
    | refine ev_arith rfl rfl rfl rfl rfl (by simp only [lowK, hiK]; omega) ?_
    | refine ev_rem rfl rfl rfl rfl (by omega) (by omega) ?_
    | refine ev_quo rfl rfl rfl rfl (by omega) (by omega) (by simp only [hiK]; omega) ?_
    | refine ev_index rfl rfl tabOk rfl rfl rfl (by omega) (by omega) ?_
    | refine ev_indexA rfl rfl tabOk rfl rfl rfl (by omega) (by omega) rfl ?_
    | refine ev_convB rfl rfl tabOk rfl rfl rfl rfl ?_
    | refine ev_conv rfl rfl tabOk rfl rfl rfl (by simp only [lowK, hiK]; omega) ?_)
  refine ev_condD rfl (fun hlt => ?_) (fun hlt => ?_)
  · obtain ⟨gk, ck', y, e1, hy, hck⟩ := own_at hoK (j := i) (by omega)
    cases e1
    have hoy := (hP i _ hy).1
    have hgy := fun g hg => ((hP i _ hy).2 g hg).1
    obtain ⟨Ay, cy, rfl, _, _⟩ := hoy.slice
    repeat (first
      | refine stepF_ok tabOk [] (m := 400) rfl ?_
      | refine stepF_ok tabOk [] (m := 16) rfl ?_
      | refine stepF_ok tabOk [] (m := 3) rfl ?_
      | refine stepF_ok tabOk [] (m := 0) rfl ?_
      | refine ev_load rfl rfl tabOk rfl rfl (by assumption) ?_
      | refine ev_loadB rfl rfl tabOk rfl rfl (by assumption) (by rfl) ?_
      | refine ev_loadAggB rfl rfl tabOk rfl rfl (by assumption) (by rfl) ?_
      | refine ev_arith rfl rfl rfl rfl rfl (by simp only [lowK, hiK]; omega) ?_
      | refine ev_rem rfl rfl rfl rfl (by omega) (by omega) ?_
      | refine ev_quo rfl rfl rfl rfl (by omega) (by omega) (by simp only [hiK]; omega) ?_
      | refine ev_index rfl rfl tabOk rfl rfl rfl (by omega) (by omega) ?_
      | refine ev_indexA rfl rfl tabOk rfl rfl rfl (by omega) (by omega) rfl ?_
      | refine ev_convB rfl rfl tabOk rfl rfl rfl rfl ?_
      | refine ev_conv rfl rfl tabOk rfl rfl rfl (by simp only [lowK, hiK]; omega) ?_)
    refine ev_indexAddr rfl rfl tabOk rfl rfl rfl (by omega) (by omega) ?_
    repeat (first
      | refine stepF_ok tabOk [] (m := 400) rfl ?_
      | refine stepF_ok tabOk [] (m := 16) rfl ?_
      | refine stepF_ok tabOk [] (m := 3) rfl ?_
      | refine stepF_ok tabOk [] (m := 0) rfl ?_
      | refine ev_load rfl rfl tabOk rfl rfl (by assumption) ?_
      | refine ev_loadB rfl rfl tabOk rfl rfl (by assumption) (by rfl) ?_
      | refine ev_loadAggB rfl rfl tabOk rfl rfl (by assumption) (by rfl) ?_
      | refine ev_arith rfl rfl rfl rfl rfl (by simp only [lowK, hiK]; omega) ?_
      | refine ev_rem rfl rfl rfl rfl (by omega) (by omega) ?_
      | refine ev_quo rfl rfl rfl rfl (by omega) (by omega) (by simp only [hiK]; omega) ?_
      | refine ev_index rfl rfl tabOk rfl rfl rfl (by omega) (by omega) ?_
      | refine ev_indexA rfl rfl tabOk rfl rfl rfl (by omega) (by omega) rfl ?_
      | refine ev_convB rfl rfl tabOk rfl rfl rfl rfl ?_
      | refine ev_conv rfl rfl tabOk rfl rfl rfl (by simp only [lowK, hiK]; omega) ?_)
    refine ev_loop (α := Nat × Value × List Value) (fun y => [(0, .slice A l.length c), (1, .string (sOf t)), (5, .slice At l.length ct), (7, .slice (some ⟨gk, 0, none⟩) 3 ck), (14, .int .i64 i), (15, y.2.1), (16, .int .i64 y.1)])
      (fun y w' => y.1 ≤ 20 ∧ Own w' 28 1 (.slice (some ⟨gk, 0, none⟩) 3 ck) 3 R ∧ KP w4 w' l.length R (fun q => List.replicate l.length (.int .i8 ((q : Int) + 1))) ∧ Fr no w4 w' ∧ Own w' 37 1 y.2.1 (l.length + y.1) y.2.2 ∧ ∀ g, y.2.1.ownBlock = some g → w4.heap.size ≤ g) (fun y => 20 - y.1)
      (0, .slice Ay l.length cy, _) ⟨rfl, rfl, rfl, rfl, rfl, rfl, rfl, trivial⟩ ⟨by simp only; omega, hoK, hP, hfW, hoy, hgy⟩ ?_
    clear hP hoK hfW hoy hck
    rintro ⟨j, gv, xs⟩ w ⟨hj, hoK, hP, hfW, hoG, hgG⟩
    simp only at hj hoG hgG
    repeat (first
      | refine stepF_ok tabOk [] (m := 400) rfl ?_
      | refine stepF_ok tabOk [] (m := 16) rfl ?_
      | refine stepF_ok tabOk [] (m := 3) rfl ?_
      | refine stepF_ok tabOk [] (m := 0) rfl ?_
      | refine ev_load rfl rfl tabOk rfl rfl (by assumption) ?_
      | refine ev_loadB rfl rfl tabOk rfl rfl (by assumption) (by rfl) ?_
      | refine ev_loadAggB rfl rfl tabOk rfl rfl (by assumption) (by rfl) ?_
      | refine ev_arith rfl rfl rfl rfl rfl (by simp only [lowK, hiK]; omega) ?_
      | refine ev_rem rfl rfl rfl rfl (by omega) (by omega) ?_
      | refine ev_quo rfl rfl rfl rfl (by omega) (by omega) (by simp only [hiK]; omega) ?_
      | refine ev_index rfl rfl tabOk rfl rfl rfl (by omega) (by omega) ?_
      | refine ev_indexA rfl rfl tabOk rfl rfl rfl (by omega) (by omega) rfl ?_
      | refine ev_convB rfl rfl tabOk rfl rfl rfl rfl ?_
      | refine ev_conv rfl rfl tabOk rfl rfl rfl (by simp only [lowK, hiK]; omega) ?_)
    refine ev_condD rfl (fun hltj => ?_) (fun hltj => ?_)
    · simp only at hltj
      repeat (first
        | refine stepF_ok tabOk [] (m := 400) rfl ?_
        | refine stepF_ok tabOk [] (m := 16) rfl ?_
        | refine stepF_ok tabOk [] (m := 3) rfl ?_
        | refine stepF_ok tabOk [] (m := 0) rfl ?_
        | refine ev_load rfl rfl tabOk rfl rfl (by assumption) ?_
        | refine ev_loadB rfl rfl tabOk rfl rfl (by assumption) (by rfl) ?_
        | refine ev_loadAggB rfl rfl tabOk rfl rfl (by assumption) (by rfl) ?_
        | refine ev_arith rfl rfl rfl rfl rfl (by simp only [lowK, hiK]; omega) ?_
        | refine ev_rem rfl rfl rfl rfl (by omega) (by omega) ?_
        | refine ev_quo rfl rfl rfl rfl (by omega) (by omega) (by simp only [hiK]; omega) ?_
        | refine ev_index rfl rfl tabOk rfl rfl rfl (by omega) (by omega) ?_
        | refine ev_indexA rfl rfl tabOk rfl rfl rfl (by omega) (by omega) rfl ?_
        | refine ev_convB rfl rfl tabOk rfl rfl rfl rfl ?_
        | refine ev_conv rfl rfl tabOk rfl rfl rfl (by simp only [lowK, hiK]; omega) ?_)
      refine ev_append1K tabOk rfl rfl (fun _ => rfl) rfl rfl inf37 rfl (by omega) (fun _ => rfl) rfl rfl (by simp [Value.cells]) (by simp [flatV, Value.cells, Value.oneCell']) rfl hoG (by omega) (fun gv9 w9 q9 ho9 hf9 hn9 hK9 => ?_)
      have hP9 : KP w4 w9 l.length R (fun q => List.replicate l.length (.int .i8 ((q : Int) + 1))) := fun q z hz => ⟨hK9 _ _ _ (hP q z hz).1 (by omega), (hP q z hz).2⟩
      repeat (first
        | refine stepF_ok tabOk [] (m := 400) rfl ?_
        | refine stepF_ok tabOk [] (m := 16) rfl ?_
        | refine stepF_ok tabOk [] (m := 3) rfl ?_
        | refine stepF_ok tabOk [] (m := 0) rfl ?_
        | refine ev_load rfl rfl tabOk rfl rfl (by assumption) ?_
        | refine ev_loadB rfl rfl tabOk rfl rfl (by assumption) (by rfl) ?_
        | refine ev_loadAggB rfl rfl tabOk rfl rfl (by assumption) (by rfl) ?_
        | refine ev_arith rfl rfl rfl rfl rfl (by simp only [lowK, hiK]; omega) ?_
        | refine ev_rem rfl rfl rfl rfl (by omega) (by omega) ?_
        | refine ev_quo rfl rfl rfl rfl (by omega) (by omega) (by simp only [hiK]; omega) ?_
        | refine ev_index rfl rfl tabOk rfl rfl rfl (by omega) (by omega) ?_
        | refine ev_indexA rfl rfl tabOk rfl rfl rfl (by omega) (by omega) rfl ?_
        | refine ev_convB rfl rfl tabOk rfl rfl rfl rfl ?_
        | refine ev_conv rfl rfl tabOk rfl rfl rfl (by simp only [lowK, hiK]; omega) ?_)
      refine ev_next (j + 1, gv9, _) (by simp only; omega) ⟨by simp only; omega, hoK.fr hf9 (fun g hg e => own_apart hoK hoG (by decide) g hg e), hP9, hfW.trans hf9 (fun b hb e => by have := hgG b e; omega), ho9, fun g hg => ?_⟩ ⟨rfl, rfl, rfl, rfl, rfl, rfl, rfl, trivial⟩
      rcases hn9 g hg with h | h
      · exact hgG g h
      · have := hfW.size; omega
    · repeat (first
        | refine stepF_ok tabOk [] (m := 400) rfl ?_
        | refine stepF_ok tabOk [] (m := 16) rfl ?_
        | refine stepF_ok tabOk [] (m := 3) rfl ?_
        | refine stepF_ok tabOk [] (m := 0) rfl ?_
        | refine ev_load rfl rfl tabOk rfl rfl (by assumption) ?_
        | refine ev_loadB rfl rfl tabOk rfl rfl (by assumption) (by rfl) ?_
        | refine ev_loadAggB rfl rfl tabOk rfl rfl (by assumption) (by rfl) ?_
        | refine ev_arith rfl rfl rfl rfl rfl (by simp only [lowK, hiK]; omega) ?_
        | refine ev_rem rfl rfl rfl rfl (by omega) (by omega) ?_
        | refine ev_quo rfl rfl rfl rfl (by omega) (by omega) (by simp only [hiK]; omega) ?_
        | refine ev_index rfl rfl tabOk rfl rfl rfl (by omega) (by omega) ?_
        | refine ev_indexA rfl rfl tabOk rfl rfl rfl (by omega) (by omega) rfl ?_
        | refine ev_convB rfl rfl tabOk rfl rfl rfl rfl ?_
        | refine ev_conv rfl rfl tabOk rfl rfl rfl (by simp only [lowK, hiK]; omega) ?_)
      exact ev_next (i + 1) (by omega) ⟨by omega, hoK, hP, hfW⟩ ⟨rfl, rfl, rfl, rfl, rfl, trivial⟩
  clear hlt hi
  repeat (first
    | refine stepF_ok tabOk [] (m := 400) rfl ?_
    | refine stepF_ok tabOk [] (m := 16) rfl ?_
    | refine stepF_ok tabOk [] (m := 3) rfl ?_
    | refine stepF_ok tabOk [] (m := 0) rfl ?_
    | refine ev_load rfl rfl tabOk rfl rfl (by assumption) ?_
    | refine ev_loadB rfl rfl tabOk rfl rfl (by assumption) (by rfl) ?_
    | refine ev_loadAggB rfl rfl tabOk rfl rfl (by assumption) (by rfl) ?_
    | refine ev_arith rfl rfl rfl rfl rfl (by simp only [lowK, hiK]; omega) ?_
    | refine ev_rem rfl rfl rfl rfl (by omega) (by omega) ?_
    | refine ev_quo rfl rfl rfl rfl (by omega) (by omega) (by simp only [hiK]; omega) ?_
    | refine ev_index rfl rfl tabOk rfl rfl rfl (by omega) (by omega) ?_
    | refine ev_indexA rfl rfl tabOk rfl rfl rfl (by omega) (by omega) rfl ?_
    | refine ev_convB rfl rfl tabOk rfl rfl rfl rfl ?_
    | refine ev_conv rfl rfl tabOk rfl rfl rfl (by simp only [lowK, hiK]; omega) ?_)
  refine ev_loop (α := Nat) (fun i => [(0, .slice A l.length c), (1, .string (sOf t)), (5, .slice At l.length ct), (7, .slice Ak 3 ck), (17, .int .i64 i)])
    (fun i w' => i ≤ 3 ∧ w' = w) (fun i => 3 - i) 0 ⟨rfl, rfl, rfl, rfl, rfl, trivial⟩ ⟨by omega, rfl⟩ ?_
  rintro i w' ⟨hi, rfl⟩
  repeat (first
    | refine stepF_ok tabOk [] (m := 400) rfl ?_
    | refine stepF_ok tabOk [] (m := 16) rfl ?_
    | refine stepF_ok tabOk [] (m := 3) rfl ?_
    | refine stepF_ok tabOk [] (m := 0) rfl ?_
    | refine ev_load rfl rfl tabOk rfl rfl (by assumption) ?_
    | refine ev_loadB rfl rfl tabOk rfl rfl (by assumption) (by rfl) ?_
    | refine ev_loadAggB rfl rfl tabOk rfl rfl (by assumption) (by rfl) ?_
    | refine ev_arith rfl rfl rfl rfl rfl (by simp only [lowK, hiK]; omega) ?_
    | refine ev_rem rfl rfl rfl rfl (by omega) (by omega) ?_
    | refine ev_quo rfl rfl rfl rfl (by omega) (by omega) (by simp only [hiK]; omega) ?_
    | refine ev_index rfl rfl tabOk rfl rfl rfl (by omega) (by omega) ?_
    | refine ev_indexA rfl rfl tabOk rfl rfl rfl (by omega) (by omega) rfl ?_
    | refine ev_convB rfl rfl tabOk rfl rfl rfl rfl ?_
    | refine ev_conv rfl rfl tabOk rfl rfl rfl (by simp only [lowK, hiK]; omega) ?_)
  refine ev_condD rfl (fun hlt => ?_) (fun hlt => ?_)
  · obtain ⟨gk, ck', y, e1, hy, hck⟩ := own_at hoK (j := i) (by omega)
    cases e1
    have hoy := (hP i _ hy).1
    obtain ⟨Ay, cy, rfl, _, _⟩ := hoy.slice
    repeat (first
      | refine stepF_ok tabOk [] (m := 400) rfl ?_
      | refine stepF_ok tabOk [] (m := 16) rfl ?_
      | refine stepF_ok tabOk [] (m := 3) rfl ?_
      | refine stepF_ok tabOk [] (m := 0) rfl ?_
      | refine ev_load rfl rfl tabOk rfl rfl (by assumption) ?_
      | refine ev_loadB rfl rfl tabOk rfl rfl (by assumption) (by rfl) ?_
      | refine ev_loadAggB rfl rfl tabOk rfl rfl (by assumption) (by rfl) ?_
      | refine ev_arith rfl rfl rfl rfl rfl (by simp only [lowK, hiK]; omega) ?_
      | refine ev_rem rfl rfl rfl rfl (by omega) (by omega) ?_
      | refine ev_quo rfl rfl rfl rfl (by omega) (by omega) (by simp only [hiK]; omega) ?_
      | refine ev_index rfl rfl tabOk rfl rfl rfl (by omega) (by omega) ?_
      | refine ev_indexA rfl rfl tabOk rfl rfl rfl (by omega) (by omega) rfl ?_
      | refine ev_convB rfl rfl tabOk rfl rfl rfl rfl ?_
      | refine ev_conv rfl rfl tabOk rfl rfl rfl (by simp only [lowK, hiK]; omega) ?_)
    refine ev_loop (α := Nat) (fun j => [(0, .slice A l.length c), (1, .string (sOf t)), (5, .slice At l.length ct), (7, .slice (some ⟨gk, 0, none⟩) 3 ck), (17, .int .i64 i), (18, .int .i64 j)])
      (fun j w2 => j ≤ l.length ∧ w2 = w') (fun j => l.length - j) 0 ⟨rfl, rfl, rfl, rfl, rfl, rfl, trivial⟩ ⟨by omega, rfl⟩ ?_
    rintro j w2 ⟨hj, rfl⟩
    repeat (first
      | refine stepF_ok tabOk [] (m := 400) rfl ?_
      | refine stepF_ok tabOk [] (m := 16) rfl ?_
      | refine stepF_ok tabOk [] (m := 3) rfl ?_
      | refine stepF_ok tabOk [] (m := 0) rfl ?_
      | refine ev_load rfl rfl tabOk rfl rfl (by assumption) ?_
      | refine ev_loadB rfl rfl tabOk rfl rfl (by assumption) (by rfl) ?_
      | refine ev_loadAggB rfl rfl tabOk rfl rfl (by assumption) (by rfl) ?_
      | refine ev_arith rfl rfl rfl rfl rfl (by simp only [lowK, hiK]; omega) ?_
      | refine ev_rem rfl rfl rfl rfl (by omega) (by omega) ?_
      | refine ev_quo rfl rfl rfl rfl (by omega) (by omega) (by simp only [hiK]; omega) ?_
      | refine ev_index rfl rfl tabOk rfl rfl rfl (by omega) (by omega) ?_
      | refine ev_indexA rfl rfl tabOk rfl rfl rfl (by omega) (by omega) rfl ?_
      | refine ev_convB rfl rfl tabOk rfl rfl rfl rfl ?_
      | refine ev_conv rfl rfl tabOk rfl rfl rfl (by simp only [lowK, hiK]; omega) ?_)
    refine ev_indexAddr rfl rfl tabOk rfl rfl rfl (by omega) (by omega) ?_
    repeat (first
      | refine stepF_ok tabOk [] (m := 400) rfl ?_
      | refine stepF_ok tabOk [] (m := 16) rfl ?_
      | refine stepF_ok tabOk [] (m := 3) rfl ?_
      | refine stepF_ok tabOk [] (m := 0) rfl ?_
      | refine ev_load rfl rfl tabOk rfl rfl (by assumption) ?_
      | refine ev_loadB rfl rfl tabOk rfl rfl (by assumption) (by rfl) ?_
      | refine ev_loadAggB rfl rfl tabOk rfl rfl (by assumption) (by rfl) ?_
      | refine ev_arith rfl rfl rfl rfl rfl (by simp only [lowK, hiK]; omega) ?_
      | refine ev_rem rfl rfl rfl rfl (by omega) (by omega) ?_
      | refine ev_quo rfl rfl rfl rfl (by omega) (by omega) (by simp only [hiK]; omega) ?_
      | refine ev_index rfl rfl tabOk rfl rfl rfl (by omega) (by omega) ?_
      | refine ev_indexA rfl rfl tabOk rfl rfl rfl (by omega) (by omega) rfl ?_
      | refine ev_convB rfl rfl tabOk rfl rfl rfl rfl ?_
      | refine ev_conv rfl rfl tabOk rfl rfl rfl (by simp only [lowK, hiK]; omega) ?_)
    refine ev_condD rfl (fun hltj => ?_) (fun hltj => ?_)
    · obtain ⟨gy, cy', v, e2, hv, hcy⟩ := own_at hoy (j := j) (by omega)
      cases e2
      rw [List.getElem?_replicate, if_pos (by omega)] at hv
      cases hv
      repeat (first
        | refine stepF_ok tabOk [] (m := 400) rfl ?_
        | refine stepF_ok tabOk [] (m := 16) rfl ?_
        | refine stepF_ok tabOk [] (m := 3) rfl ?_
        | refine stepF_ok tabOk [] (m := 0) rfl ?_
        | refine ev_load rfl rfl tabOk rfl rfl (by assumption) ?_
        | refine ev_loadB rfl rfl tabOk rfl rfl (by assumption) (by rfl) ?_
        | refine ev_loadAggB rfl rfl tabOk rfl rfl (by assumption) (by rfl) ?_
        | refine ev_arith rfl rfl rfl rfl rfl (by simp only [lowK, hiK]; omega) ?_
        | refine ev_rem rfl rfl rfl rfl (by omega) (by omega) ?_
        | refine ev_quo rfl rfl rfl rfl (by omega) (by omega) (by simp only [hiK]; omega) ?_
        | refine ev_index rfl rfl tabOk rfl rfl rfl (by omega) (by omega) ?_
        | refine ev_indexA rfl rfl tabOk rfl rfl rfl (by omega) (by omega) rfl ?_
        | refine ev_convB rfl rfl tabOk rfl rfl rfl rfl ?_
        | refine ev_conv rfl rfl tabOk rfl rfl rfl (by simp only [lowK, hiK]; omega) ?_)
      refine ev_indexAddr rfl rfl tabOk rfl rfl rfl (by omega) (by omega) ?_
      repeat (first
        | refine stepF_ok tabOk [] (m := 400) rfl ?_
        | refine stepF_ok tabOk [] (m := 16) rfl ?_
        | refine stepF_ok tabOk [] (m := 3) rfl ?_
        | refine stepF_ok tabOk [] (m := 0) rfl ?_
        | refine ev_load rfl rfl tabOk rfl rfl (by assumption) ?_
        | refine ev_loadB rfl rfl tabOk rfl rfl (by assumption) (by rfl) ?_
        | refine ev_loadAggB rfl rfl tabOk rfl rfl (by assumption) (by rfl) ?_
        | refine ev_arith rfl rfl rfl rfl rfl (by simp only [lowK, hiK]; omega) ?_
        | refine ev_rem rfl rfl rfl rfl (by omega) (by omega) ?_
        | refine ev_quo rfl rfl rfl rfl (by omega) (by omega) (by simp only [hiK]; omega) ?_
        | refine ev_index rfl rfl tabOk rfl rfl rfl (by omega) (by omega) ?_
        | refine ev_indexA rfl rfl tabOk rfl rfl rfl (by omega) (by omega) rfl ?_
        | refine ev_convB rfl rfl tabOk rfl rfl rfl rfl ?_
        | refine ev_conv rfl rfl tabOk rfl rfl rfl (by simp only [lowK, hiK]; omega) ?_)
      refine ev_indexAddr rfl rfl tabOk rfl rfl rfl (by omega) (by omega) ?_
      repeat (first
        | refine stepF_ok tabOk [] (m := 400) rfl ?_
        | refine stepF_ok tabOk [] (m := 16) rfl ?_
        | refine stepF_ok tabOk [] (m := 3) rfl ?_
        | refine stepF_ok tabOk [] (m := 0) rfl ?_
        | refine ev_load rfl rfl tabOk rfl rfl (by assumption) ?_
        | refine ev_loadB rfl rfl tabOk rfl rfl (by assumption) (by rfl) ?_
        | refine ev_loadAggB rfl rfl tabOk rfl rfl (by assumption) (by rfl) ?_
        | refine ev_arith rfl rfl rfl rfl rfl (by simp only [lowK, hiK]; omega) ?_
        | refine ev_rem rfl rfl rfl rfl (by omega) (by omega) ?_
        | refine ev_quo rfl rfl rfl rfl (by omega) (by omega) (by simp only [hiK]; omega) ?_
        | refine ev_index rfl rfl tabOk rfl rfl rfl (by omega) (by omega) ?_
        | refine ev_indexA rfl rfl tabOk rfl rfl rfl (by omega) (by omega) rfl ?_
        | refine ev_convB rfl rfl tabOk rfl rfl rfl rfl ?_
        | refine ev_conv rfl rfl tabOk rfl rfl rfl (by simp only [lowK, hiK]; omega) ?_)
      refine ev_condD rfl (fun h => absurd rfl h) (fun _ => ?_)
      repeat (first
        | refine stepF_ok tabOk [] (m := 400) rfl ?_
        | refine stepF_ok tabOk [] (m := 16) rfl ?_
        | refine stepF_ok tabOk [] (m := 3) rfl ?_
        | refine stepF_ok tabOk [] (m := 0) rfl ?_
        | refine ev_load rfl rfl tabOk rfl rfl (by assumption) ?_
        | refine ev_loadB rfl rfl tabOk rfl rfl (by assumption) (by rfl) ?_
        | refine ev_loadAggB rfl rfl tabOk rfl rfl (by assumption) (by rfl) ?_
        | refine ev_arith rfl rfl rfl rfl rfl (by simp only [lowK, hiK]; omega) ?_
        | refine ev_rem rfl rfl rfl rfl (by omega) (by omega) ?_
        | refine ev_quo rfl rfl rfl rfl (by omega) (by omega) (by simp only [hiK]; omega) ?_
        | refine ev_index rfl rfl tabOk rfl rfl rfl (by omega) (by omega) ?_
        | refine ev_indexA rfl rfl tabOk rfl rfl rfl (by omega) (by omega) rfl ?_
        | refine ev_convB rfl rfl tabOk rfl rfl rfl rfl ?_
        | refine ev_conv rfl rfl tabOk rfl rfl rfl (by simp only [lowK, hiK]; omega) ?_)
      exact ev_next (j + 1) (by omega) ⟨by omega, rfl⟩ ⟨rfl, rfl, rfl, rfl, rfl, rfl, trivial⟩
    · repeat (first
        | refine stepF_ok tabOk [] (m := 400) rfl ?_
        | refine stepF_ok tabOk [] (m := 16) rfl ?_
        | refine stepF_ok tabOk [] (m := 3) rfl ?_
        | refine stepF_ok tabOk [] (m := 0) rfl ?_
        | refine ev_load rfl rfl tabOk rfl rfl (by assumption) ?_
        | refine ev_loadB rfl rfl tabOk rfl rfl (by assumption) (by rfl) ?_
        | refine ev_loadAggB rfl rfl tabOk rfl rfl (by assumption) (by rfl) ?_
        | refine ev_arith rfl rfl rfl rfl rfl (by simp only [lowK, hiK]; omega) ?_
        | refine ev_rem rfl rfl rfl rfl (by omega) (by omega) ?_
        | refine ev_quo rfl rfl rfl rfl (by omega) (by omega) (by simp only [hiK]; omega) ?_
        | refine ev_index rfl rfl tabOk rfl rfl rfl (by omega) (by omega) ?_
        | refine ev_indexA rfl rfl tabOk rfl rfl rfl (by omega) (by omega) rfl ?_
        | refine ev_convB rfl rfl tabOk rfl rfl rfl rfl ?_
        | refine ev_conv rfl rfl tabOk rfl rfl rfl (by simp only [lowK, hiK]; omega) ?_)
      exact ev_next (i + 1) (by omega) ⟨by omega, rfl⟩ ⟨rfl, rfl, rfl, rfl, rfl, trivial⟩
  have hoT5 := hoT4.fr0 hfW
  repeat (first
    | refine stepF_ok tabOk [] (m := 400) rfl ?_
    | refine stepF_ok tabOk [] (m := 16) rfl ?_
    | refine stepF_ok tabOk [] (m := 3) rfl ?_
    | refine stepF_ok tabOk [] (m := 0) rfl ?_
    | refine ev_load rfl rfl tabOk rfl rfl (by assumption) ?_
    | refine ev_loadB rfl rfl tabOk rfl rfl (by assumption) (by rfl) ?_
    | refine ev_loadAggB rfl rfl tabOk rfl rfl (by assumption) (by rfl) ?_
    | refine ev_arith rfl rfl rfl rfl rfl (by simp only [lowK, hiK]; omega) ?_
    | refine ev_rem rfl rfl rfl rfl (by omega) (by omega) ?_
    | refine ev_quo rfl rfl rfl rfl (by omega) (by omega) (by simp only [hiK]; omega) ?_
    | refine ev_index rfl rfl tabOk rfl rfl rfl (by omega) (by omega) ?_
    | refine ev_indexA rfl rfl tabOk rfl rfl rfl (by omega) (by omega) rfl ?_
    | refine ev_convB rfl rfl tabOk rfl rfl rfl rfl ?_
    | refine ev_conv rfl rfl tabOk rfl rfl rfl (by simp only [lowK, hiK]; omega) ?_)
  refine ev_call rfl rfl rfl (newWriter _) (fun r w6 hr => ?_)
  obtain ⟨p, rfl, hp, hW6, hf6⟩ := hr
  repeat (first
    | refine stepF_ok tabOk [] (m := 400) rfl ?_
    | refine stepF_ok tabOk [] (m := 16) rfl ?_
    | refine stepF_ok tabOk [] (m := 3) rfl ?_
    | refine stepF_ok tabOk [] (m := 0) rfl ?_
    | refine ev_load rfl rfl tabOk rfl rfl (by assumption) ?_
    | refine ev_loadB rfl rfl tabOk rfl rfl (by assumption) (by rfl) ?_
    | refine ev_loadAggB rfl rfl tabOk rfl rfl (by assumption) (by rfl) ?_
    | refine ev_arith rfl rfl rfl rfl rfl (by simp only [lowK, hiK]; omega) ?_
    | refine ev_rem rfl rfl rfl rfl (by omega) (by omega) ?_
    | refine ev_quo rfl rfl rfl rfl (by omega) (by omega) (by simp only [hiK]; omega) ?_
    | refine ev_index rfl rfl tabOk rfl rfl rfl (by omega) (by omega) ?_
    | refine ev_indexA rfl rfl tabOk rfl rfl rfl (by omega) (by omega) rfl ?_
    | refine ev_convB rfl rfl tabOk rfl rfl rfl rfl ?_
    | refine ev_conv rfl rfl tabOk rfl rfl rfl (by simp only [lowK, hiK]; omega) ?_)
  refine ev_buildSlice tabOk rfl rfl rfl inf37 rfl rfl rfl (by simp) rfl (fun q w7 hq hb7 hf7 => ?_)
  have ho7 := own_of_blk (m := 0) (sz := 1) hb7 rfl (by omega)
  have hoT7 := (hoT5.fr0 hf6).fr0 hf7
  obtain ⟨_, _, e4, hcT, _⟩ := hoT7.slice
  cases e4
  repeat (first
    | refine stepF_ok tabOk [] (m := 400) rfl ?_
    | refine stepF_ok tabOk [] (m := 16) rfl ?_
    | refine stepF_ok tabOk [] (m := 3) rfl ?_
    | refine stepF_ok tabOk [] (m := 0) rfl ?_
    | refine ev_load rfl rfl tabOk rfl rfl (by assumption) ?_
    | refine ev_loadB rfl rfl tabOk rfl rfl (by assumption) (by rfl) ?_
    | refine ev_loadAggB rfl rfl tabOk rfl rfl (by assumption) (by rfl) ?_
    | refine ev_arith rfl rfl rfl rfl rfl (by simp only [lowK, hiK]; omega) ?_
    | refine ev_rem rfl rfl rfl rfl (by omega) (by omega) ?_
    | refine ev_quo rfl rfl rfl rfl (by omega) (by omega) (by simp only [hiK]; omega) ?_
    | refine ev_index rfl rfl tabOk rfl rfl rfl (by omega) (by omega) ?_
    | refine ev_indexA rfl rfl tabOk rfl rfl rfl (by omega) (by omega) rfl ?_
    | refine ev_convB rfl rfl tabOk rfl rfl rfl rfl ?_
    | refine ev_conv rfl rfl tabOk rfl rfl rfl (by simp only [lowK, hiK]; omega) ?_)
  refine ev_append tabOk rfl rfl rfl inf37 rfl (by omega) rfl rfl ho7 hcT (by simp) (by simp [Value.oneCell']) (by omega) (fun gv w8 hoG hf8 hn8 => ?_)
  have hoG : Own w8 37 1 gv l.length (l.map iv) := by rw [Nat.zero_add] at hoG; exact hoG
  have hf48 : Fr no w4 w8 := ((hfW.tr hf6).tr hf7).trans hf8 (fun b hb e => by simp only [Value.ownBlock, Option.some.injEq] at e; have := hfW.size; have := hf6.size; omega)
  have hgG : ∀ g, gv.ownBlock = some g → w6.heap.size ≤ g := fun g hg => by
    rcases hn8 with h | h
    · rw [h] at hg; simp only [Value.ownBlock, Option.some.injEq] at hg; omega
    · rw [h] at hg; simp only [Option.some.injEq] at hg; have := hf7.size; omega
  have hpw : p < w6.heap.size := hW6.1.lt
  have hW8 := (hW6.fr0 hf7).fr hf8 (fun e => by simp only [Value.ownBlock, Option.some.injEq] at e; omega) (fun g hg => by cases hg)
  have hw46 : w4.heap.size ≤ w6.heap.size := Nat.le_trans hfW.size hf6.size
  have hw4 : w4.heap.size ≤ w'.heap.size := hfW.size
  clear hf6 hf7 hf8 hn8 ho7 hb7 hoT7 hcT hW6 hoK hP hfW hoT5
  obtain ⟨Ag, cg, rfl, hcG, hAg⟩ := hoG.slice
  repeat (first
    | refine stepF_ok tabOk [] (m := 400) rfl ?_
    | refine stepF_ok tabOk [] (m := 16) rfl ?_
    | refine stepF_ok tabOk [] (m := 3) rfl ?_
    | refine stepF_ok tabOk [] (m := 0) rfl ?_
    | refine ev_load rfl rfl tabOk rfl rfl (by assumption) ?_
    | refine ev_loadB rfl rfl tabOk rfl rfl (by assumption) (by rfl) ?_
    | refine ev_loadAggB rfl rfl tabOk rfl rfl (by assumption) (by rfl) ?_
    | refine ev_arith rfl rfl rfl rfl rfl (by simp only [lowK, hiK]; omega) ?_
    | refine ev_rem rfl rfl rfl rfl (by omega) (by omega) ?_
    | refine ev_quo rfl rfl rfl rfl (by omega) (by omega) (by simp only [hiK]; omega) ?_
    | refine ev_index rfl rfl tabOk rfl rfl rfl (by omega) (by omega) ?_
    | refine ev_indexA rfl rfl tabOk rfl rfl rfl (by omega) (by omega) rfl ?_
    | refine ev_convB rfl rfl tabOk rfl rfl rfl rfl ?_
    | refine ev_conv rfl rfl tabOk rfl rfl rfl (by simp only [lowK, hiK]; omega) ?_)
  refine ev_call rfl rfl rfl (wrRow p _ [] Ag cg l _ hW8 (by simp only [List.length_nil]; omega) hcG (fun _ a ha => ⟨fun e => by have := hgG _ (hAg a ha).1; omega, fun e => by cases e⟩)) (fun r w9 hr => ?_)
  obtain ⟨v9, hW9, hf9, hn9⟩ := hr
  simp only [List.nil_append] at hW9
  have hoG9 := hoG.fr hf9 (fun g hg e => by
    rcases e with e | e
    · have := hgG g hg; omega
    · cases e)
  have hf49 : Fr no w4 w9 := hf48.trans hf9 (fun b hb e => by
    rcases e with e | e
    · omega
    · cases e)
  have hv9 : ∀ g, v9.ownBlock = some g → w8.heap.size ≤ g := fun g hg => by
    rcases hn9 g hg with h | h
    · cases h
    · exact h
  have hG8 := Own.lt hoG
  clear hf48 hf9 hoG hcG hW8
  repeat (first
    | refine stepF_ok tabOk [] (m := 400) rfl ?_
    | refine stepF_ok tabOk [] (m := 16) rfl ?_
    | refine stepF_ok tabOk [] (m := 3) rfl ?_
    | refine stepF_ok tabOk [] (m := 0) rfl ?_
    | refine ev_load rfl rfl tabOk rfl rfl (by assumption) ?_
    | refine ev_loadB rfl rfl tabOk rfl rfl (by assumption) (by rfl) ?_
    | refine ev_loadAggB rfl rfl tabOk rfl rfl (by assumption) (by rfl) ?_
    | refine ev_arith rfl rfl rfl rfl rfl (by simp only [lowK, hiK]; omega) ?_
    | refine ev_rem rfl rfl rfl rfl (by omega) (by omega) ?_
    | refine ev_quo rfl rfl rfl rfl (by omega) (by omega) (by simp only [hiK]; omega) ?_
    | refine ev_index rfl rfl tabOk rfl rfl rfl (by omega) (by omega) ?_
    | refine ev_indexA rfl rfl tabOk rfl rfl rfl (by omega) (by omega) rfl ?_
    | refine ev_convB rfl rfl tabOk rfl rfl rfl rfl ?_
    | refine ev_conv rfl rfl tabOk rfl rfl rfl (by simp only [lowK, hiK]; omega) ?_)
  refine ev_loop (α := Nat) (fun j => [(5, .slice At l.length ct), (19, .pointer (some ⟨p, 0, none⟩)), (20, .slice Ag l.length cg), (21, .int .i64 j)])
    (fun j w' => j ≤ l.length ∧ (∃ xs, Own w' 37 1 (.slice Ag l.length cg) l.length xs) ∧ Wr w' p v9 (rowB l) ∧ Fr no w4 w') (fun j => l.length - j) 0 ⟨rfl, rfl, rfl, rfl, trivial⟩ ⟨by omega, ⟨_, hoG9⟩, hW9, hf49⟩ ?_
  clear hoG9 hW9 hf49
  rintro j w ⟨hj, ⟨xs, hoG⟩, hWr, hfW⟩
  repeat (first
    | refine stepF_ok tabOk [] (m := 400) rfl ?_
    | refine stepF_ok tabOk [] (m := 16) rfl ?_
    | refine stepF_ok tabOk [] (m := 3) rfl ?_
    | refine stepF_ok tabOk [] (m := 0) rfl ?_
    | refine ev_load rfl rfl tabOk rfl rfl (by assumption) ?_
    | refine ev_loadB rfl rfl tabOk rfl rfl (by assumption) (by rfl) ?_
    | refine ev_loadAggB rfl rfl tabOk rfl rfl (by assumption) (by rfl) ?_
    | refine ev_arith rfl rfl rfl rfl rfl (by simp only [lowK, hiK]; omega) ?_
    | refine ev_rem rfl rfl rfl rfl (by omega) (by omega) ?_
    | refine ev_quo rfl rfl rfl rfl (by omega) (by omega) (by simp only [hiK]; omega) ?_
    | refine ev_index rfl rfl tabOk rfl rfl rfl (by omega) (by omega) ?_
    | refine ev_indexA rfl rfl tabOk rfl rfl rfl (by omega) (by omega) rfl ?_
    | refine ev_convB rfl rfl tabOk rfl rfl rfl rfl ?_
    | refine ev_conv rfl rfl tabOk rfl rfl rfl (by simp only [lowK, hiK]; omega) ?_)
  refine ev_condD rfl (fun hlt => ?_) (fun hlt => ?_)
  · obtain ⟨gy, cy', v, e2, hv, hcy⟩ := own_at hoG (j := j) (by omega)
    cases e2
    repeat (first
      | refine stepF_ok tabOk [] (m := 400) rfl ?_
      | refine stepF_ok tabOk [] (m := 16) rfl ?_
      | refine stepF_ok tabOk [] (m := 3) rfl ?_
      | refine stepF_ok tabOk [] (m := 0) rfl ?_
      | refine ev_load rfl rfl tabOk rfl rfl (by assumption) ?_
      | refine ev_loadB rfl rfl tabOk rfl rfl (by assumption) (by rfl) ?_
      | refine ev_loadAggB rfl rfl tabOk rfl rfl (by assumption) (by rfl) ?_
      | refine ev_arith rfl rfl rfl rfl rfl (by simp only [lowK, hiK]; omega) ?_
      | refine ev_rem rfl rfl rfl rfl (by omega) (by omega) ?_
      | refine ev_quo rfl rfl rfl rfl (by omega) (by omega) (by simp only [hiK]; omega) ?_
      | refine ev_index rfl rfl tabOk rfl rfl rfl (by omega) (by omega) ?_
      | refine ev_indexA rfl rfl tabOk rfl rfl rfl (by omega) (by omega) rfl ?_
      | refine ev_convB rfl rfl tabOk rfl rfl rfl rfl ?_
      | refine ev_conv rfl rfl tabOk rfl rfl rfl (by simp only [lowK, hiK]; omega) ?_)
    refine ev_indexAddr rfl rfl tabOk rfl rfl rfl (by omega) (by omega) ?_
    repeat (first
      | refine stepF_ok tabOk [] (m := 400) rfl ?_
      | refine stepF_ok tabOk [] (m := 16) rfl ?_
      | refine stepF_ok tabOk [] (m := 3) rfl ?_
      | refine stepF_ok tabOk [] (m := 0) rfl ?_
      | refine ev_load rfl rfl tabOk rfl rfl (by assumption) ?_
      | refine ev_loadB rfl rfl tabOk rfl rfl (by assumption) (by rfl) ?_
      | refine ev_loadAggB rfl rfl tabOk rfl rfl (by assumption) (by rfl) ?_
      | refine ev_arith rfl rfl rfl rfl rfl (by simp only [lowK, hiK]; omega) ?_
      | refine ev_rem rfl rfl rfl rfl (by omega) (by omega) ?_
      | refine ev_quo rfl rfl rfl rfl (by omega) (by omega) (by simp only [hiK]; omega) ?_
      | refine ev_index rfl rfl tabOk rfl rfl rfl (by omega) (by omega) ?_
      | refine ev_indexA rfl rfl tabOk rfl rfl rfl (by omega) (by omega) rfl ?_
      | refine ev_convB rfl rfl tabOk rfl rfl rfl rfl ?_
      | refine ev_conv rfl rfl tabOk rfl rfl rfl (by simp only [lowK, hiK]; omega) ?_)
    refine ev_storeRow tabOk rfl rfl rfl rfl rfl rfl hoG rfl (by omega) (fun w9 ho9 hf9 => ?_)
    have hg1 := hgG gy rfl
    have hg2 := hG8 gy rfl
    repeat (first
      | refine stepF_ok tabOk [] (m := 400) rfl ?_
      | refine stepF_ok tabOk [] (m := 16) rfl ?_
      | refine stepF_ok tabOk [] (m := 3) rfl ?_
      | refine stepF_ok tabOk [] (m := 0) rfl ?_
      | refine ev_load rfl rfl tabOk rfl rfl (by assumption) ?_
      | refine ev_loadB rfl rfl tabOk rfl rfl (by assumption) (by rfl) ?_
      | refine ev_loadAggB rfl rfl tabOk rfl rfl (by assumption) (by rfl) ?_
      | refine ev_arith rfl rfl rfl rfl rfl (by simp only [lowK, hiK]; omega) ?_
      | refine ev_rem rfl rfl rfl rfl (by omega) (by omega) ?_
      | refine ev_quo rfl rfl rfl rfl (by omega) (by omega) (by simp only [hiK]; omega) ?_
      | refine ev_index rfl rfl tabOk rfl rfl rfl (by omega) (by omega) ?_
      | refine ev_indexA rfl rfl tabOk rfl rfl rfl (by omega) (by omega) rfl ?_
      | refine ev_convB rfl rfl tabOk rfl rfl rfl rfl ?_
      | refine ev_conv rfl rfl tabOk rfl rfl rfl (by simp only [lowK, hiK]; omega) ?_)
    exact ev_next (j + 1) (by omega) ⟨by omega, ⟨_, ho9⟩, hWr.fr hf9 (fun e => by omega) (fun g hg e => by have := hv9 g hg; omega), hfW.trans hf9 (fun b hb e => by omega)⟩ ⟨rfl, rfl, rfl, rfl, trivial⟩
  · repeat (first
      | refine stepF_ok tabOk [] (m := 400) rfl ?_
      | refine stepF_ok tabOk [] (m := 16) rfl ?_
      | refine stepF_ok tabOk [] (m := 3) rfl ?_
      | refine stepF_ok tabOk [] (m := 0) rfl ?_
      | refine ev_load rfl rfl tabOk rfl rfl (by assumption) ?_
      | refine ev_loadB rfl rfl tabOk rfl rfl (by assumption) (by rfl) ?_
      | refine ev_loadAggB rfl rfl tabOk rfl rfl (by assumption) (by rfl) ?_
      | refine ev_arith rfl rfl rfl rfl rfl (by simp only [lowK, hiK]; omega) ?_
      | refine ev_rem rfl rfl rfl rfl (by omega) (by omega) ?_
      | refine ev_quo rfl rfl rfl rfl (by omega) (by omega) (by simp only [hiK]; omega) ?_
      | refine ev_index rfl rfl tabOk rfl rfl rfl (by omega) (by omega) ?_
      | refine ev_indexA rfl rfl tabOk rfl rfl rfl (by omega) (by omega) rfl ?_
      | refine ev_convB rfl rfl tabOk rfl rfl rfl rfl ?_
      | refine ev_conv rfl rfl tabOk rfl rfl rfl (by simp only [lowK, hiK]; omega) ?_)
    refine ev_call rfl rfl rfl (wrBytes p v9 _ _ hWr) (fun r w6 hr => ?_)
    obtain ⟨rfl, rfl⟩ := hr
    have hoT7 := hoT4.fr0 hfW
    obtain ⟨_, _, e4, hcT, _⟩ := hoT7.slice
    cases e4
    repeat (first
      | refine stepF_ok tabOk [] (m := 400) rfl ?_
      | refine stepF_ok tabOk [] (m := 16) rfl ?_
      | refine stepF_ok tabOk [] (m := 3) rfl ?_
      | refine stepF_ok tabOk [] (m := 0) rfl ?_
      | refine ev_load rfl rfl tabOk rfl rfl (by assumption) ?_
      | refine ev_loadB rfl rfl tabOk rfl rfl (by assumption) (by rfl) ?_
      | refine ev_loadAggB rfl rfl tabOk rfl rfl (by assumption) (by rfl) ?_
      | refine ev_arith rfl rfl rfl rfl rfl (by simp only [lowK, hiK]; omega) ?_
      | refine ev_rem rfl rfl rfl rfl (by omega) (by omega) ?_
      | refine ev_quo rfl rfl rfl rfl (by omega) (by omega) (by simp only [hiK]; omega) ?_
      | refine ev_index rfl rfl tabOk rfl rfl rfl (by omega) (by omega) ?_
      | refine ev_indexA rfl rfl tabOk rfl rfl rfl (by omega) (by omega) rfl ?_
      | refine ev_convB rfl rfl tabOk rfl rfl rfl rfl ?_
      | refine ev_conv rfl rfl tabOk rfl rfl rfl (by simp only [lowK, hiK]; omega) ?_)
    refine ev_call rfl rfl rfl (refRow At ct l _ (by omega) hcT) (fun r w7 hr => ?_)
    obtain ⟨rfl, hf7⟩ := hr
    repeat (first
      | refine stepF_ok tabOk [] (m := 400) rfl ?_
      | refine stepF_ok tabOk [] (m := 16) rfl ?_
      | refine stepF_ok tabOk [] (m := 3) rfl ?_
      | refine stepF_ok tabOk [] (m := 0) rfl ?_
      | refine ev_load rfl rfl tabOk rfl rfl (by assumption) ?_
      | refine ev_loadB rfl rfl tabOk rfl rfl (by assumption) (by rfl) ?_
      | refine ev_loadAggB rfl rfl tabOk rfl rfl (by assumption) (by rfl) ?_
      | refine ev_arith rfl rfl rfl rfl rfl (by simp only [lowK, hiK]; omega) ?_
      | refine ev_rem rfl rfl rfl rfl (by omega) (by omega) ?_
      | refine ev_quo rfl rfl rfl rfl (by omega) (by omega) (by simp only [hiK]; omega) ?_
      | refine ev_index rfl rfl tabOk rfl rfl rfl (by omega) (by omega) ?_
      | refine ev_indexA rfl rfl tabOk rfl rfl rfl (by omega) (by omega) rfl ?_
      | refine ev_convB rfl rfl tabOk rfl rfl rfl rfl ?_
      | refine ev_conv rfl rfl tabOk rfl rfl rfl (by simp only [lowK, hiK]; omega) ?_)
    exact ret1 (.inr rfl) rfl rfl ⟨by rw [decide_eq_true rfl], (hf04.tr hfW).tr hf7⟩
end Go.Wk.Ytihjpjpellagiaa
