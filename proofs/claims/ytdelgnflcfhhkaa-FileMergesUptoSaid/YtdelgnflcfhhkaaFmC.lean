/-
  Chapter 17: adapters merged in, in plain; the document's Merge: the walk.
-/
import Derived.Test.YtdelgnflcfhhkaaFmB
set_option linter.unusedVariables false
namespace Go.Wk.Ytdelgnflcfhhkaa
open Go Go.Wk Go.Proofs

/-- an adapter, and where its rows lie -/
structure Adp where
  bk : Int
  pt : Int
  rk : Int
  sf : Int
  A : Rw
  B : Rw
abbrev Adp.C (a : Adp) : List Value := adC a.bk a.pt a.rk a.sf a.A a.B
def okA (n : Nat) (d : Int) (a : Adp) : Prop := (0 ≤ a.bk ∧ a.bk < n) ∧ (1 ≤ a.pt ∧ a.pt ≤ 4) ∧ (1 ≤ a.rk ∧ a.rk ≤ 16) ∧ (0 ≤ a.sf ∧ a.sf ≤ 31) ∧ (a.A.xs.length : Int) = a.rk * d ∧ (a.B.xs.length : Int) = d * a.rk
instance (n : Nat) (d : Int) (a : Adp) : Decidable (okA n d a) := by unfold okA; infer_instance
def getP {ρ : Type} (b : Bk ρ) (pt : Int) : ρ := if pt = 1 then b.q else if pt = 2 then b.k else if pt = 3 then b.v else b.o
def setP {ρ : Type} (b : Bk ρ) (pt : Int) (x : ρ) : Bk ρ := if pt = 1 then { b with q := x } else if pt = 2 then { b with k := x } else if pt = 3 then { b with v := x } else { b with o := x }
def adP (d : Nat) (a : Adp) (b : Bk (List Int8)) : Bk (List Int8) := setP b a.pt (adQ (getP b a.pt) a.A.xs a.B.xs a.rk.toNat a.sf.toNat d)
def stepA (d : Nat) (bs : List (Bk (List Int8))) (a : Adp) : List (Bk (List Int8)) := bs.modify a.bk.toNat (adP d a)
def firstB (n : Nat) (d : Int) : List Adp → Nat
  | [] => 0
  | a :: l => if okA n d a then 1 + firstB n d l else 0
def mergeQ (m : Md) (l : List Adp) : Md × Int × Int :=
  if (validQ m).2.2 = 0 then
    if firstB m.bs.length m.s.dim l < l.length then (zM.p, (firstB m.bs.length m.s.dim l : Nat), 174)
    else if (validQ { m with bs := l.foldl (stepA m.s.dim.toNat) m.bs }).2.2 = 0 then ({ m with bs := l.foldl (stepA m.s.dim.toNat) m.bs }, 0, 0)
    else (zM.p, (l.length : Nat), (validQ { m with bs := l.foldl (stepA m.s.dim.toNat) m.bs }).2.2)
  else (zM.p, -1, (validQ m).2.2)
theorem first_bad {n : Nat} {d : Int} : ∀ {l : List Adp} {i : Nat} (hi : i < l.length), (∀ j (hj : j < i), okA n d (l[j]'(by omega))) → ¬ okA n d l[i] → firstB n d l = i
  | a :: l, 0, _, _, h => if_neg h
  | a :: l, i + 1, hi, h, hn => by
    have ha : okA n d a := h 0 (by omega)
    have ih := first_bad (l := l) (i := i) (by simpa using hi) (fun j hj => h (j + 1) (by omega)) hn
    unfold firstB
    rw [if_pos ha, ih]; omega
theorem first_ok {n : Nat} {d : Int} : ∀ {l : List Adp}, (∀ j (hj : j < l.length), okA n d l[j]) → firstB n d l = l.length
  | [], _ => rfl
  | a :: l, h => by
    have ha : okA n d a := h 0 (by simp)
    have ih := first_ok (l := l) fun j hj => h (j + 1) (by simpa using hj)
    unfold firstB
    rw [if_pos ha, ih, List.length_cons]; omega
theorem stepA_len (d : Nat) (bs : List (Bk (List Int8))) (a : Adp) : (stepA d bs a).length = bs.length := by unfold stepA; rw [List.length_modify]
theorem foldA_len (d : Nat) : ∀ (l : List Adp) (bs : List (Bk (List Int8))), (l.foldl (stepA d) bs).length = bs.length
  | [], _ => rfl
  | a :: l, bs => by rw [List.foldl_cons, foldA_len d l, stepA_len]
theorem foldA_take (d : Nat) (l : List Adp) (bs : List (Bk (List Int8))) {i : Nat} (hi : i < l.length) : (l.take (i + 1)).foldl (stepA d) bs = stepA d ((l.take i).foldl (stepA d) bs) l[i] := by
  rw [List.take_succ_eq_append_getElem hi, List.foldl_append]; rfl
/-- the matrices of a block are squares -/
def SqB (d : Nat) (b : Bk (List Int8)) : Prop := b.q.length = d * d ∧ b.k.length = d * d ∧ b.v.length = d * d ∧ b.o.length = d * d
theorem getP_sq {d : Nat} {b : Bk (List Int8)} (h : SqB d b) (pt : Int) : (getP b pt).length = d * d := by
  unfold getP
  split
  · exact h.1
  split
  · exact h.2.1
  split
  · exact h.2.2.1
  · exact h.2.2.2
theorem adP_sq {d : Nat} {b : Bk (List Int8)} (h : SqB d b) (a : Adp) : SqB d (adP d a b) := by
  have hl := adQ_len (getP b a.pt) a.A.xs a.B.xs a.rk.toNat a.sf.toNat d
  unfold adP setP
  split
  · exact ⟨hl, h.2.1, h.2.2.1, h.2.2.2⟩
  split
  · exact ⟨h.1, hl, h.2.2.1, h.2.2.2⟩
  split
  · exact ⟨h.1, h.2.1, hl, h.2.2.2⟩
  · exact ⟨h.1, h.2.1, h.2.2.1, hl⟩
theorem fold_sq {d : Nat} : ∀ (l : List Adp) {bs : List (Bk (List Int8))}, (∀ b ∈ bs, SqB d b) → ∀ b ∈ l.foldl (stepA d) bs, SqB d b
  | [], _, h => h
  | a :: l, bs, h => fold_sq l fun b hb => by
    unfold stepA at hb
    obtain ⟨i, hi, rfl⟩ := List.getElem_of_mem hb
    rw [List.getElem_modify]
    have hi' : i < bs.length := by rwa [List.length_modify] at hi
    split
    · exact adP_sq (h _ (List.getElem_mem hi')) a
    · exact h _ (List.getElem_mem hi')
/-- sizes are kept -/
def lenB (b b' : Bk (List Int8)) : Prop := b.frs.map List.length = b'.frs.map List.length
theorem pt_map (b : Bk Rw) (pt : Int) : getP (pBk b) pt = (getP b pt).xs := by
  unfold getP
  split
  · rfl
  split
  · rfl
  split <;> rfl
theorem setP_map (b : Bk Rw) (pt : Int) (y : Rw) : pBk (setP b pt y) = setP (pBk b) pt y.xs := by
  unfold setP
  split
  · rfl
  split
  · rfl
  split <;> rfl
end Go.Wk.Ytdelgnflcfhhkaa
