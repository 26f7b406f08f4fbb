/-
  Chapter 17: what was written is read back; what is read was written so.
-/
import Derived.Test.YtdelgnflcfhhkaaGreatDoorFlB
import Derived.Test.YtdelgnflcfhhkaaGreatDoorPSz
set_option linter.unusedVariables false
namespace Go.Wk.YtdelgnflcfhhkaaGreatDoor
open Go Go.Wk Go.Proofs

theorem fit1 {n : Int} (h0 : 0 ≤ n) (h1 : n < 256) : numE n 1 = 0 := by
  unfold numE
  rw [if_pos (.inl rfl), if_neg (by show ¬ (n < 0 ∨ (1 : Int) < 8 ∧ 256 ≤ n); omega)]
theorem fit2 {n : Int} (h0 : 0 ≤ n) (h1 : n < 65536) : numE n 2 = 0 := by
  unfold numE
  rw [if_pos (.inr (.inl rfl)), if_neg (by show ¬ (n < 0 ∨ (2 : Int) < 8 ∧ 65536 ≤ n); omega)]
theorem bk_txt {l : List UInt8} (h : l.length ≤ 64) : Back rTxt (encT l) l :=
  bk_bind (bk_num (fit1 (by omega) (by omega)) (by omega)) (bk_nil (bk_chk 130 (decide_eq_true (by omega))) (bk_raw l))
theorem bk_mrg {g : Mrg} (h1 : 0 ≤ g.1 ∧ g.1 < 65536) (h2 : 0 ≤ g.2.1 ∧ g.2.1 < 65536) (h3 : 0 ≤ g.2.2 ∧ g.2.2 < 65536) : Back rMrg (encG g) g :=
  bk_bind (bk_num (fit2 h1.1 h1.2) (by omega)) (bk_bind (bk_num (fit2 h2.1 h2.2) (by omega)) (bk_last (f := fun c => (g.1, g.2.1, c)) (bk_num (fit2 h3.1 h3.2) (by omega))))
theorem tok_bd {V : VV} (h : V.ok) {i : Int} (ht : V.tok i) : 0 ≤ i ∧ i < 65536 := by
  have := h.few
  unfold VV.tok at ht
  omega
theorem bk_voc {V : VV} (h : V.ok) : Back (rVoc V.texts.length) (encV V) V := by
  have hm := h.fewM
  refine bk_bind (bk_rep V.texts fun a ha => ?_) (bk_bind (bk_num (fit2 (by omega) (by omega)) (by omega)) (bk_nil (bk_chk 131 (decide_eq_true (by omega))) ?_))
  · obtain ⟨i, hi, rfl⟩ := List.getElem_of_mem ha
    have := (h.texts i hi).2.2
    rw [show V.t i = V.texts[i] by unfold VV.t; rw [List.getD_eq_getElem?_getD, List.getElem?_eq_getElem hi]; rfl] at this
    exact bk_txt this
  · rw [Int.toNat_natCast]
    refine bk_last (f := fun g => (⟨V.texts, g⟩ : VV)) (bk_repG V.merges fun a ha => ?_)
    obtain ⟨i, hi, rfl⟩ := List.getElem_of_mem ha
    have := h.merges i hi
    rw [VV.okM, show V.m i = V.merges[i] by unfold VV.m; rw [List.getD_eq_getElem?_getD, List.getElem?_eq_getElem hi]; rfl] at this
    exact bk_mrg (tok_bd h this.1) (tok_bd h this.2.1) (tok_bd h this.2.2.1)
theorem bk_rows (many : List Int) : ∀ L : List (List Int8), (∀ k (h : k < L.length), many.getD k 0 = (L[k].length : Int)) → Back (rRows many L.length) (L.flatMap wrwB) L := by
  refine rev_ind (fun _ => bk_ret _) fun l a ih h => ?_
  · rw [List.length_append, List.length_singleton, List.flatMap_append]
    refine bk_bind (ih fun k hk => ?_) ?_
    · rw [h k (by rw [List.length_append]; omega), List.getElem_append_left hk]
    · rw [show [a].flatMap wrwB = wrwB a by simp]
      refine bk_last (f := fun a => l ++ [a]) ?_
      rw [h l.length (by simp), List.getElem_append_right (Nat.le_refl _)]
      simp only [Nat.sub_self, List.getElem_cons_zero]
      exact bk_row a
theorem len_of {n : Int} {l : List (List Int8)} (h : lenQ n l = true) : ∀ x ∈ l, (x.length : Int) = n := fun x hx => by
  unfold lenQ at h
  exact of_decide_eq_true (List.all_eq_true.1 h x hx)
theorem shift_of {l : List Int} (h : shiftQ l = true) : ∀ x ∈ l, 0 ≤ x ∧ x ≤ 31 := fun x hx => by
  unfold shiftQ at h
  exact of_decide_eq_true (List.all_eq_true.1 h x hx)
theorem bk_blk {s : Shp} {b : Bk (List Int8)} (h : blockQ s b = 0) : Back (rBlk s) (encBk b) b := by
  obtain ⟨h1, h2, h3, h4⟩ := block_ok h
  have e1 : ((b.g1.length : Int) = s.dim ∧ (b.g2.length : Int) = s.dim) := ⟨len_of h1 _ (by simp), len_of h1 _ (by simp)⟩
  have e2 : (b.q.length : Int) = s.dim * s.dim ∧ (b.k.length : Int) = s.dim * s.dim ∧ (b.v.length : Int) = s.dim * s.dim ∧ (b.o.length : Int) = s.dim * s.dim := ⟨len_of h2 _ (by simp), len_of h2 _ (by simp), len_of h2 _ (by simp), len_of h2 _ (by simp)⟩
  have e3 : (b.ga.length : Int) = s.hid * s.dim ∧ (b.up.length : Int) = s.hid * s.dim ∧ (b.dn.length : Int) = s.hid * s.dim := by
    rw [Int.mul_comm s.hid s.dim]; exact ⟨len_of h3 _ (by simp), len_of h3 _ (by simp), len_of h3 _ (by simp)⟩
  have hs := shift_of h4
  refine bk_bind (bk_rep (r := rNum 1) (enc := encN 1) b.shs fun a ha => ?_) ?_
  · have := hs a ha
    exact bk_num (fit1 (by omega) (by omega)) (by omega)
  · refine bk_last (f := fun g => mkBk b.shs g) (a := b.frs) (bk_rows (manyQ s) b.frs fun k hk => ?_)
    match k, hk with
    | 0, _ => exact e1.1.symm
    | 1, _ => exact e2.1.symm
    | 2, _ => exact e2.2.1.symm
    | 3, _ => exact e2.2.2.1.symm
    | 4, _ => exact e2.2.2.2.symm
    | 5, _ => exact e1.2.symm
    | 6, _ => exact e3.1.symm
    | 7, _ => exact e3.2.1.symm
    | 8, _ => exact e3.2.2.symm
    | k + 9, hk => exact absurd hk (by show ¬ k + 9 < 9; omega)
/-- all that is said of a model that is right -/
structure VM (m : Md) : Prop where
  s : okS m.s
  V : m.V.ok
  voc : (m.V.texts.length : Int) = m.s.voc
  es : 0 ≤ m.es ∧ m.es ≤ 24
  lay : (m.bs.length : Int) = m.s.lay
  bs : ∀ b ∈ m.bs, blockQ m.s b = 0
  e : (m.e.length : Int) = m.s.voc * m.s.dim
  cos : (m.cos.length : Int) = m.s.ctx * halfS m.s
  sin : (m.sin.length : Int) = m.s.ctx * halfS m.s
  bend : (m.bend.length : Int) = 256
  gain : (m.gain.length : Int) = m.s.dim
  un : (m.un.length : Int) = m.s.voc * m.s.dim
  ls : 0 ≤ m.ls ∧ m.ls ≤ 31
theorem vm_of {m : Md} (h : (validQ m).2.2 = 0) : VM m := by
  have ha := (valid_ok.1 h).1
  obtain ⟨o, hw, hp⟩ := allQ_ok ha
  have hq : (partsQ m (halfS m.s)).2.2 = 0 := by
    unfold allQ at ha
    rwa [if_pos o, if_pos hw] at ha
  have ht := hp.tail
  unfold tailQ at ht
  split at ht
  · cases ht
  rename_i t1
  split at ht
  · cases ht
  rename_i t2
  split at ht
  · cases ht
  rename_i t3
  split at ht
  · cases ht
  rename_i t4
  unfold partsQ at hq
  split at hq
  · cases hq
  split at hq
  · cases hq
  split at hq
  · cases hq
  rename_i q3
  split at hq
  · cases hq
  rename_i q4
  unfold wordsQ at hw
  split at hw
  · rename_i w1
    split at hw
    · rename_i w2
      have w1 : m.V.chk.2 = 0 := by omega
      exact ⟨o, chk_ok w1, w2, hp.es, hp.lay, hp.bs, hp.e, Decidable.not_not.1 q3, Decidable.not_not.1 q4, Decidable.not_not.1 t1, Decidable.not_not.1 t2, Decidable.not_not.1 t3, shift_of (l := [m.ls]) (by simpa using t4) _ (by simp)⟩
    · cases hw
  · rename_i w1; exact absurd hw w1
theorem bk_body {m : Md} (h : VM m) : Back (rBody m.s (halfS m.s)) (encBody m) m := by
  have hs := h.s
  have h1 := h.es
  have h2 := h.ls
  have hv := h.voc
  have hl := h.lay
  refine bk_bind (bk_num (fit1 (by omega) (by omega)) (by omega)) (bk_bind (bk_num (fit1 (by omega) (by omega)) (by omega)) (bk_bind (a := m.V) ?_ (bk_bind (a := m.e) ?_ (bk_bind (a := m.cos) ?_ (bk_bind (a := m.sin) ?_ (bk_bind (a := m.bs) ?_ (bk_bind (a := m.bend) ?_ (bk_bind (a := m.gain) ?_ (bk_last (a := m.un) (f := fun u => (⟨m.s, m.V, m.e, m.es, m.cos, m.sin, m.bs, m.bend, m.gain, u, m.ls⟩ : Md)) ?_)))))))))
  · rw [← hv, Int.toNat_natCast]; exact bk_voc h.V
  · rw [← h.e]; exact bk_row _
  · rw [← h.cos]; exact bk_row _
  · rw [← h.sin]; exact bk_row _
  · rw [← hl, Int.toNat_natCast]; exact bk_rep m.bs fun b hb => bk_blk (h.bs b hb)
  · rw [← h.bend]; exact bk_row _
  · have := bk_row m.gain
    rwa [h.gain] at this
  · rw [← h.un]; exact bk_row _
theorem bk_head {s : Shp} (h : okS s) : Back rHead (encS s) s := by
  have h' := h
  obtain ⟨a, b, c, d, e, f, g, i⟩ := h
  have hd : s.hds ≤ s.dim := by
    have h0 : 0 ≤ s.dim % s.hds := Int.emod_nonneg _ (by omega)
    rcases Int.lt_or_le s.dim s.hds with z | z
    · rw [Int.emod_eq_of_lt (by omega) z] at e; omega
    · exact z
  have hk := bk_rep (r := rNum 2) (enc := encN 2) s.nums fun x hx => by
    have hx : x = s.voc ∨ x = s.ctx ∨ x = s.dim ∨ x = s.hds ∨ x = s.lay ∨ x = s.hid := by simpa using hx
    exact bk_num (fit2 (by omega) (by omega)) (by omega)
  have := bk_bind (f := fun l => (rChk (decide (okS (mkShp l))) 160).bind fun _ => Rdr.ret (mkShp l)) hk (bk_nil (bk_chk 160 (decide_eq_true (show okS (mkShp s.nums) from h'))) (bk_ret s))
  rwa [List.append_nil] at this
theorem bk_mod {m : Md} (h : VM m) : Back rMod (encM m) m := bk_bind (bk_head h.s) (bk_body h)
end Go.Wk.YtdelgnflcfhhkaaGreatDoor
