/-
  Chapter 17: the document's Merge: the walk.
-/
import Derived.Test.YtdelgnflcfhhkaaFmC
set_option linter.unusedVariables false
namespace Go.Wk.Ytdelgnflcfhhkaa
open Go Go.Wk Go.Proofs

theorem vm_sq {m : Md} (h : VM m) {d : Nat} (hd : m.s.dim = d) : ∀ b ∈ m.bs, SqB d b := fun b hb => by
  have h0 := h.bs b hb
  unfold blockQ at h0
  split at h0
  · cases h0
  split at h0
  · cases h0
  rename_i h1
  have h1 : lenQ (m.s.dim * m.s.dim) [b.q, b.k, b.v, b.o] = true := by simpa using h1
  have h2 : ∀ x ∈ [b.q, b.k, b.v, b.o], (x.length : Int) = m.s.dim * m.s.dim := fun x hx => of_decide_eq_true (List.all_eq_true.1 h1 x hx)
  rw [hd, ← Int.natCast_mul] at h2
  exact ⟨by have := h2 b.q (by simp); omega, by have := h2 b.k (by simp); omega, by have := h2 b.v (by simp); omega, by have := h2 b.o (by simp); omega⟩
theorem adp_len (a : Adp) : a.C.length = 6 := rfl
theorem adp_at {w : World} {A : Option Addr} {l : List Adp} (h : Cs w A (l.flatMap Adp.C)) {i : Nat} (hi : i < l.length) : ∃ g o, A = some ⟨g, o, none⟩ ∧ Cs w (some ⟨g, o + (i : Int).toNat * 6, none⟩) l[i].C := by
  have hx : l[i]? = some l[i] := List.getElem?_eq_getElem hi
  obtain ⟨g, o, rfl, _⟩ := h (i * 6 + 0) _ (flat_at adp_len hx (j := 0) rfl)
  exact ⟨g, o, rfl, by rw [Int.toNat_natCast]; exact h.part (i * 6) fun j u hj => flat_at adp_len hx hj⟩
/-- a row that lay there, or is one's own -/
def RA (w w' : World) (r : Rw) : Prop := r.At w ∨ OR w w' r
theorem RA.fr0 {w w' w2 : World} {r : Rw} (h : RA w w' r) (hf : Fr no w' w2) : RA w w2 r := h.elim .inl fun h => .inr (h.fr0 hf)
theorem RA.at {w w' : World} {r : Rw} (h : RA w w' r) (hf : Fr no w w') : r.At w' := h.elim (fun h => h.fr0 hf) fun h => h.At
theorem RA.fr {w w' w2 : World} {r : Rw} {g e sz n : Nat} {v : Value} {xs : List Value} (h : RA w w' r) (ho : Own w' e sz v n xs) (hg : v.ownBlock = some g) (hne : 60 ≠ e) (hf : Fr (fun c => c = g) w' w2) : RA w w2 r :=
  h.elim .inl fun h => .inr (h.fr hf fun z hz y => own_apartz h.1 ho hne z hz (by have y : z = g := y; rw [y]; exact hg))
/-- what is known of a block while adapters come in -/
structure GB (w w' : World) (b : Bk Rw) : Prop where
  r : ∀ r ∈ b.rows, RA w w' r ∧ r.xs.length ≤ 1000000000
  c : b.o.xs.length ≤ b.o.c ∧ b.dn.xs.length ≤ b.dn.c
theorem GB.fr0 {w w' w2 : World} {b : Bk Rw} (h : GB w w' b) (hf : Fr no w' w2) : GB w w2 b := ⟨fun r hr => ⟨(h.r r hr).1.fr0 hf, (h.r r hr).2⟩, h.c⟩
theorem setP_rows {b : Bk Rw} {pt : Int} {y r : Rw} (h : r ∈ (setP b pt y).rows) : r = y ∨ r ∈ b.rows := by
  unfold setP at h
  have key : ∀ {b' : Bk Rw}, r ∈ b'.rows → r = b'.g1 ∨ r = b'.g2 ∨ r = b'.q ∨ r = b'.k ∨ r = b'.v ∨ r = b'.o ∨ r = b'.ga ∨ r = b'.up ∨ r = b'.dn := fun h => by simpa using h
  split at h
  · rcases key h with h | h | h | h | h | h | h | h | h <;> simp [h]
  split at h
  · rcases key h with h | h | h | h | h | h | h | h | h <;> simp [h]
  split at h
  · rcases key h with h | h | h | h | h | h | h | h | h <;> simp [h]
  · rcases key h with h | h | h | h | h | h | h | h | h <;> simp [h]
theorem or_cap {w w' : World} {y : Rw} (h : OR w w' y) : y.xs.length ≤ y.c := by
  rcases h.1.2 with ⟨e, h0⟩ | ⟨g, cap, cur, e, _, _, hc, _⟩
  · rw [h0]; exact Nat.zero_le _
  · injection e with e1 e2 e3
    rw [e3]; exact hc
theorem GB.set {w w' : World} {b : Bk Rw} (h : GB w w' b) {y : Rw} (hy : OR w w' y) (hl : y.xs.length ≤ 1000000000) (pt : Int) : GB w w' (setP b pt y) := by
  refine ⟨fun r hr => ?_, ?_⟩
  · rcases setP_rows hr with rfl | hr
    · exact ⟨.inr hy, hl⟩
    · exact h.r r hr
  · have hc := or_cap hy
    unfold setP
    split
    · exact h.c
    split
    · exact h.c
    split
    · exact h.c
    · exact ⟨hc, h.c.2⟩
theorem getP_mem (b : Bk Rw) (pt : Int) : getP b pt ∈ b.rows := by
  unfold getP
  split
  · simp
  split
  · simp
  split <;> simp
section
variable {P : Program} {fn : Func} {R : Ending → World → Prop} {n : Nat} {w : World}
/-- a struct stored into a row of one's own -/
theorem ev_storeRow {k : List It} {env : Env} {L l : List Oper} {t : TypeId} {x y : Operand} {ty : TypeId} {ps : String} {af : Array Edge} {g : Option (Nat × Bool)} {tab : Tab} {b o sz : Nat} {vs : List Value} {e : TypeId} {r : Value} {nn : Nat} {xs : List Value}
    (hT : TabOk P tab) (hg : guardOf L env g = some true) (hx : ev env x = some (.pointer (some ⟨b, o, none⟩))) (hy : ev env y = some (.agg ⟨vs⟩)) (hag : aggT (tyAt tab t) = some true) (hs : szAt tab t = vs.length) (hv : allOne vs = true)
    (hr : Own w e sz r nn xs) (hb : r.ownBlock = some b) (ho : o + vs.length ≤ nn * sz)
    (hk : ∀ w', Own w' e sz r nn (xs.take o ++ vs ++ xs.drop (o + vs.length)) → Fr (fun c => c = b) w w' → H P fn R n (.ops L l :: k) .normal env w') :
    H P fn R n (.ops L (⟨none, .store t x y, ty, ps, af, g⟩ :: l) :: k) .normal env w := by
  rcases hr.2 with ⟨rfl, _⟩ | ⟨q, cap, cur, rfl, hbq, hq, hnc, hcm, hcs, ht⟩
  · cases hb
  · simp only [Value.ownBlock, Option.some.injEq] at hb
    subst hb
    have hB : Blk w q cur.toList e := hq
    have hlen : cur.toList.length = cap * sz := by simp [hcs]
    have hle : nn * sz ≤ cap * sz := Nat.mul_le_mul_right _ hnc
    have hxl := hr.1
    refine ev_storePart hT hg hx hy hag hs hv hB (by omega) (fun w' hB' hf => hk w' ⟨by simp only [List.length_append, List.length_take, List.length_drop]; omega, .inr ⟨q, cap, _, rfl, hbq, hB', hnc, hcm, ?_, ?_⟩⟩ hf)
    · simp only [List.size_toArray, List.length_append, List.length_take, List.length_drop]; omega
    · rw [← ht]
      show (cur.toList.take o ++ vs ++ cur.toList.drop (o + vs.length)).take (nn * sz) = _
      have l1 : (cur.toList.take o).length = o := by rw [List.length_take]; omega
      rw [List.append_assoc, List.append_assoc, List.take_append, List.take_of_length_le (l := cur.toList.take o) (by omega), l1, List.take_append, List.take_of_length_le (l := vs) (by omega), List.take_take, Nat.min_eq_left (by omega), List.drop_take, show nn * sz - (o + vs.length) = nn * sz - o - vs.length by omega]
end
end Go.Wk.Ytdelgnflcfhhkaa
