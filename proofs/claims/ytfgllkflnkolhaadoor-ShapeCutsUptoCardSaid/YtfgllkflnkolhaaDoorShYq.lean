/-
  Chapter 16: a model of one's own (shape.own): the walk.
-/
import Derived.Test.YtfgllkflnkolhaaDoorShYp
set_option linter.unusedVariables false
namespace Go.Wk.YtfgllkflnkolhaaDoor
open Go Go.Wk Go.Proofs

/-- a row of one's own as a block -/
theorem own_put {w : World} {e sz n g : Nat} {r : Value} {xs : List Value} (h : Own w e sz r n xs) (hg : r.ownBlock = some g) :
    ∃ cs, Blk w g cs e ∧ cs.take (n * sz) = xs ∧ n * sz ≤ cs.length ∧ ∀ w' cs', Blk w' g cs' e → cs'.length = cs.length → Own w' e sz r n (cs'.take (n * sz)) := by
  rcases h.2 with ⟨rfl, _⟩ | ⟨q, cap, cur, rfl, hbq, hq, hnc, hcm, hcs, ht⟩
  · cases hg
  · simp only [Value.ownBlock, Option.some.injEq] at hg
    subst hg
    have hlen : cur.toList.length = cap * sz := by simp [hcs]
    have hle : n * sz ≤ cap * sz := Nat.mul_le_mul_right _ hnc
    refine ⟨cur.toList, hq, ht, by omega, fun w' cs' hB' hl => ⟨by rw [List.length_take]; omega, .inr ⟨q, cap, ⟨cs'⟩, rfl, hbq, hB', hnc, hcm, ?_, rfl⟩⟩⟩
    show cs'.length = _
    omega
abbrev cpR (b : Bk Rw) : List Rw := [b.g1, b.q, b.k, b.v, b.o, b.g2, b.ga, b.up, b.dn]
abbrev cpO (o : Nat) : List Nat := [o + 0, o + 1, o + 2, o + 3, o + 4, o + 5, o + 11, o + 12, o + 13]
theorem six {α : Type} {l : List α} (h : l.length = 6) : ∃ a b c d e f, l = [a, b, c, d, e, f] := by
  match l, h with
  | [a, b, c, d, e, f], _ => exact ⟨a, b, c, d, e, f, rfl⟩
theorem nine {α : Type} {l : List α} (h : l.length = 9) : ∃ a b c d e f g i j, l = [a, b, c, d, e, f, g, i, j] := by
  match l, h with
  | [a, b, c, d, e, f, g, i, j], _ => exact ⟨a, b, c, d, e, f, g, i, j, rfl⟩
theorem mcs_one (l : List Mrg) : ∀ u ∈ mcs l, u.oneCell' = true := fun u hu => by
  obtain ⟨x, _, h⟩ := List.mem_flatMap.1 hu
  simp only [mrg1, List.mem_cons, List.not_mem_nil, or_false] at h
  rcases h with rfl | rfl | rfl <;> rfl
theorem bkC_one1 (b : Bk Rw) : ∀ u ∈ bkC b, u.oneCell' = true := fun u h => by
  simp only [List.mem_cons, List.not_mem_nil, or_false] at h
  rcases h with rfl | rfl | rfl | rfl | rfl | rfl | rfl | rfl | rfl | rfl | rfl | rfl | rfl | rfl | rfl | rfl | rfl <;> rfl
theorem bkC_one {l : List (Bk Rw)} : ∀ u ∈ l.flatMap bkC, u.oneCell' = true := fun u hu => by
  obtain ⟨x, _, h⟩ := List.mem_flatMap.1 hu
  exact bkC_one1 x u h
/-- rows are laid while the blocks' row is written -/
theorem OM.appB {w0 w w' : World} {bv mv tv : Value} {Q Q' : List Rw} (h : OM w0 w bv mv tv Q) (hf : Fr (fun c => bv.ownBlock = some c) w w') (h' : NR w w' Q') (hs : w0.heap.size ≤ w.heap.size) : OM w0 w' bv mv tv (Q ++ Q') := by
  have h1 := h.fr hf (fun r hr g hg e => (h.lo bv (by simp) g e).2.2 r hr hg)
  refine ⟨⟨fun r hr => ?_, List.pairwise_append.2 ⟨h.q.ap, h'.ap, fun r hr r' hr' g hg e => ?_⟩⟩, fun v hv g hg => ?_, h.tm, h.mb⟩
  · rcases List.mem_append.1 hr with hr | hr
    · exact h1.q.rows r hr
    · exact ⟨(h'.rows r hr).1, fun g hg => Nat.le_trans hs ((h'.rows r hr).2 g hg)⟩
  · have h1 := (h.q.rows r hr).lt hg
    have h2 := (h'.rows r' hr').2 g e
    omega
  · have z := h.lo v hv g hg
    refine ⟨z.1, Nat.lt_of_lt_of_le z.2.1 hf.size, fun r hr => ?_⟩
    rcases List.mem_append.1 hr with hr | hr
    · exact z.2.2 r hr
    · intro e; have := (h'.rows r hr).2 g e; omega
/-- a model stays while a new row's block is written -/
theorem At_own {m : LM} {w w' : World} {v : Value} (h : m.At w) (ho : ∀ g, v.ownBlock = some g → m.Off g) (hf : Fr (fun c => v.ownBlock = some c) w w') : m.At w' := by
  cases e : v.ownBlock with
  | none => exact h.fr0 (hf.mono fun c _ z => by rw [e] at z; cases z)
  | some g => exact h.off (ho g e) (hf.mono fun c _ z => by rw [e] at z; cases z; rfl)
theorem own17_at {w : World} {e n c i : Nat} {A : Option Addr} {cs : List Value} (h : Own w e 17 (.slice A n c) n cs) (hi : i < n) : ∃ g, A = some ⟨g, 0, none⟩ ∧ (Value.slice A n c).ownBlock = some g := by
  rcases h.2 with ⟨e2, h0⟩ | ⟨g, cap, cur, e2, _⟩
  · omega
  · injection e2 with e3
    exact ⟨g, e3, by rw [e3]; rfl⟩
theorem perm_rows : ∀ B : List (Bk Rw), (B.flatMap cpR).Perm (B.flatMap Bk.rows)
  | [] => List.Perm.refl _
  | b :: B => by
    rw [List.flatMap_cons, List.flatMap_cons]
    exact (perm9 _ _ _ _ _ _ _ _ _).append (perm_rows B)
/-- the copied block -/
abbrev cpB (b : Bk Rw) (g1 q k v o g2 ga up dn : Rw) : Bk Rw := { b with g1 := g1, q := q, k := k, v := v, o := o, g2 := g2, ga := ga, up := up, dn := dn }
theorem put_blk (B D : List (Bk Rw)) (b : Bk Rw) (g1 q k v o g2 ga up dn : Rw) :
    putR ((B ++ b :: D).flatMap bkC) (cpO (B.length * 17)) [g1, q, k, v, o, g2, ga, up, dn] = ((B ++ [cpB b g1 q k v o g2 ga up dn]) ++ D).flatMap bkC := by
  have e : cpO (B.length * 17) = (cpO 0).map ((B.flatMap bkC).length + ·) := by rw [flat_len bkC_len]; rfl
  rw [e, List.flatMap_append, List.flatMap_cons, putR_app _ _ _ _ _ (by simp), List.flatMap_append, List.flatMap_append, List.append_assoc]
  rfl
set_option maxHeartbeats 16000000 in
theorem wOwn (m : LM) (w : World) (hm : m.At w) (hl : m.Sm) :
    CallsF Tryd.prog 62 [lmV m] w fun r w' => ∃ c : LM, r = lmV c ∧ c.p = m.p ∧ OwnS w w' c := by
  have hbl := hl.bl
  refine callsF Tryd.func62 rfl rfl (by decide) rfl ?_
  refine sA [] rfl ?_
  refine ev_box rfl rfl rfl fun p w1 hp kp f1 => ?_
  have kp : Blk w1 p (lmC m) 51 := kp
  refine ev_alloc rfl rfl inf51 (fun p2 w2 hp2 k2 f2 => ?_)
  have kp2 := kp.fr0 f2
  refine sA [] rfl ?_
  refine ev_buildSlice tabOk rfl rfl rfl inf149 rfl rfl rfl (fun v hv => by simp at hv; rcases hv with rfl | rfl | rfl | rfl | rfl | rfl <;> rfl) rfl (fun b w3 hb kb f3 => ?_)
  have kp3 := kp2.fr0 f3
  have h03 : Fr no w w3 := (f1.tr f2).tr f3
  have p23 : p2 < w3.heap.size := (k2.fr0 f3).lt
  have hm3 := hm.fr0 h03
  have hoff : m.Off p := LM.Off.lt hm hp
  skip
  refine ev_callV rfl (fun t h => by cases h; rfl) rfl rfl (wCopied p 51 [(8, m.e), (10, m.cos), (11, m.sin), (13, m.bend), (14, m.gain), (15, m.un)] (lmC m) (some ⟨b, 0, none⟩) 6 w3 (Cs.of_blk kb) (CsOff.own (own_of_blk (m := 6) (sz := 1) kb rfl (by omega)) fun g hg e => ?_) kp3 (show 6 ≤ 1000 by omega) ?_ ?_ (show [8, 10, 11, 13, 14, 15].Nodup by decide)) ?_
  · have hg : some b = some g := hg
    cases hg
    have := kp2.lt
    have e : b = p := e
    omega
  · intro i h
    match i, h with
    | 0, _ => rfl
    | 1, _ => rfl
    | 2, _ => rfl
    | 3, _ => rfl
    | 4, _ => rfl
    | 5, _ => rfl
    | i + 6, h => exact absurd h (by show ¬ i + 6 < 6; omega)
  · intro x hx
    have hr : ∀ r ∈ m.rows, Rw.At w3 r ∧ CsOff p r.A (r.xs.map i8v) ∧ r.xs.length ≤ 1000000000 := fun r h => ⟨hm3.rows r h, hoff.rows r h, hl.rows r h⟩
    simp only [List.mem_cons, List.not_mem_nil, or_false] at hx
    rcases hx with rfl | rfl | rfl | rfl | rfl | rfl <;> exact hr _ (by simp)
  rintro r w4 ⟨Q, hQ, hn, kp4, f4⟩
  obtain ⟨r0, r1, r2, r3, r4, r5, rfl⟩ := six (l := Q) (by have := congrArg List.length hQ; simpa using this)
  simp only [List.map_cons, List.map_nil, List.cons.injEq, and_true] at hQ
  obtain ⟨e0, e1, e2, e3, e4, e5⟩ := hQ
  have kp4 : Blk w4 p (ofC m.s (.slice m.tA m.V.texts.length m.tc) (.slice m.mA m.V.merges.length m.mc) r0.v m.es r1.v r2.v (.slice m.bA m.bs.length m.bc) r3.v r4.v r5.v m.ls) 51 := kp4
  refine sA [] rfl ?_
  have hF4 := h03
  have s4 : p < w4.heap.size := kp4.lt
  have hm4 := hm3.off hoff f4
  have hOM : OM w3 w4 nilS nilS nilS [r0, r1, r2, r3, r4, r5] := OM.start w3 w4 hn
  have k24 : Blk w4 p2 _ 51 := (k2.fr0 f3).fr f4 (fun e => by have := kp.lt; have e : p2 = p := e; omega)
  have p3 : p < w3.heap.size := kp3.lt
  have hpp : p2 ≠ p := fun e => by have := kp.lt; omega
  clear kp kp2 kp3 k2 hn
  refine ev_join1 (α := Value × Value) (fun _ => [(1, .pointer (some ⟨p, 0, none⟩)), (2, .pointer (some ⟨p2, 0, none⟩)), (3, .func (.func 78) ⟨[]⟩ ⟨[]⟩)])
    (fun y w' => Fr (fun c => c = p) w4 w' ∧ Blk w' p (ofC m.s y.1 y.2 r0.v m.es r1.v r2.v (.slice m.bA m.bs.length m.bc) r3.v r4.v r5.v m.ls) 51 ∧ Own w' 9 1 y.1 m.V.texts.length (m.V.texts.map sv) ∧ Own w' 114 3 y.2 m.V.merges.length (mcs m.V.merges) ∧ OM w3 w' nilS y.2 y.1 [r0, r1, r2, r3, r4, r5]) ?_ ?_
  · refine mix_in mixed (fun w5 f5 => ?_)
    have kp5 := kp4.fr0 f5
    have hm5 := hm4.fr0 f5
    have hOM5 := hOM.fr0 f5
    refine mA rfl (by kernel_rfl) (by kernel_rfl) ?_
    refine mix2 rfl rfl rfl ?_ ?_
    · refine ev_load rfl rfl tabOk rfl rfl (kp5.cell rfl) ?_
      refine mix_op ?_
      refine mix2 rfl rfl rfl ?_ ?_
      · refine ev_append tabOk rfl rfl rfl inf9 rfl (by omega) rfl rfl (Own.nil _ _ _) hm5.voc.1 (by simp) (fun u hu => by obtain ⟨x, _, rfl⟩ := List.mem_map.1 hu; rfl) (by have := hl.V.texts; omega) (fun tv w6 oT f6 nT => ?_)
        have f6 : Fr no w5 w6 := f6.mono fun _ _ z => by cases z
        rw [Nat.zero_add, List.nil_append] at oT
        have kp6 := kp5.fr0 f6
        have hm6 := hm5.fr0 f6
        refine mix_op ?_
        refine mix1 rfl rfl ?_
        refine ev_load rfl rfl tabOk rfl rfl (kp6.cell rfl) ?_
        refine mix_op ?_
        refine mix1 rfl rfl ?_
        refine ev_append tabOk rfl rfl rfl inf114 rfl (by omega) rfl rfl (Own.nil _ _ _) hm6.voc.2 (mcs_len _) (mcs_one _) (by have := hl.V.merges; omega) (fun mv w7 oM f7 nM => ?_)
        have f7 : Fr no w6 w7 := f7.mono fun _ _ z => by cases z
        rw [Nat.zero_add, List.nil_append] at oM
        have kp7 := kp6.fr0 f7
        have oT7 := oT.fr0 f7
        refine mix_op ?_
        obtain ⟨A1, c1, eT, _, _⟩ := oT.slice
        obtain ⟨A2, c2, eM, _, _⟩ := oM.slice
        subst eT; subst eM
        refine mix1 rfl rfl ?_
        refine ev_build rfl rfl (v := .agg #[.slice A1 m.V.texts.length c1, .slice A2 m.V.merges.length c2]) rfl (fun w => by kernel_rfl) ?_
        refine mix_op ?_
        refine mA rfl (by kernel_rfl) (by kernel_rfl) ?_
        refine mix1 rfl rfl ?_
        refine ev_storePart tabOk rfl rfl rfl rfl rfl rfl kp7 (show 6 + 2 ≤ 17 by omega) (fun w8 k8 f8 => ?_)
        refine mix_op ?_
        refine mix_out rfl ?_
        have oMT := (hOM5.setT (tv' := .slice A1 m.V.texts.length c1) f6 (fun g hg => by
          have := oT.lt hg
          rcases nT with h | h
          · rw [h] at hg; cases hg
          · rw [h] at hg; cases hg; omega) (Nat.le_trans f4.size f5.size)).setM (mv' := .slice A2 m.V.merges.length c2) (f7.mono fun _ _ z => z.elim) (NB.of nM) (fun g hg => oM.lt hg) (Nat.le_trans f4.size (f5.tr f6).size)
        have oMT := oMT.old p3 f8
        have k8 : Blk w8 p (ofC m.s (.slice A1 m.V.texts.length c1) (.slice A2 m.V.merges.length c2) r0.v m.es r1.v r2.v (.slice m.bA m.bs.length m.bc) r3.v r4.v r5.v m.ls) 51 := k8
        have hgT : ∀ g, (Value.slice A1 m.V.texts.length c1).ownBlock = some g → w5.heap.size ≤ g := fun g hg => by
          rcases nT with h | h
          · rw [h] at hg; cases hg
          · rw [h] at hg; cases hg; omega
        have hgM : ∀ g, (Value.slice A2 m.V.merges.length c2).ownBlock = some g → w5.heap.size ≤ g := fun g hg => by
          have := f6.size
          rcases nM with h | h
          · rw [h] at hg; cases hg
          · rw [h] at hg; cases hg; omega
        have hn8 : ∀ g, w5.heap.size ≤ g → g ≠ p := fun g hg e => by have := f5.size; omega
        refine ev_out (.slice A1 m.V.texts.length c1, .slice A2 m.V.merges.length c2) ⟨((f5.tr (f6.tr f7)).mono fun _ _ z => z.elim).trans f8 fun _ _ e => e, k8, oT7.fr f8 (fun g hg => hn8 g (hgT g hg)), oM.fr f8 (fun g hg => hn8 g (hgM g hg)), oMT⟩ ⟨rfl, rfl, rfl, trivial⟩
      · refine ev_load rfl rfl tabOk rfl rfl (kp5.cell rfl) ?_
        refine mix_op ?_
        refine mix1 rfl rfl ?_
        refine ev_append tabOk rfl rfl rfl inf9 rfl (by omega) rfl rfl (Own.nil _ _ _) hm5.voc.1 (by simp) (fun u hu => by obtain ⟨x, _, rfl⟩ := List.mem_map.1 hu; rfl) (by have := hl.V.texts; omega) (fun tv w6 oT f6 nT => ?_)
        have f6 : Fr no w5 w6 := f6.mono fun _ _ z => by cases z
        rw [Nat.zero_add, List.nil_append] at oT
        have kp6 := kp5.fr0 f6
        have hm6 := hm5.fr0 f6
        refine mix_op ?_
        refine mix1 rfl rfl ?_
        refine ev_append tabOk rfl rfl rfl inf114 rfl (by omega) rfl rfl (Own.nil _ _ _) hm6.voc.2 (mcs_len _) (mcs_one _) (by have := hl.V.merges; omega) (fun mv w7 oM f7 nM => ?_)
        have f7 : Fr no w6 w7 := f7.mono fun _ _ z => by cases z
        rw [Nat.zero_add, List.nil_append] at oM
        have kp7 := kp6.fr0 f7
        have oT7 := oT.fr0 f7
        refine mix_op ?_
        obtain ⟨A1, c1, eT, _, _⟩ := oT.slice
        obtain ⟨A2, c2, eM, _, _⟩ := oM.slice
        subst eT; subst eM
        refine mix1 rfl rfl ?_
        refine ev_build rfl rfl (v := .agg #[.slice A1 m.V.texts.length c1, .slice A2 m.V.merges.length c2]) rfl (fun w => by kernel_rfl) ?_
        refine mix_op ?_
        refine mA rfl (by kernel_rfl) (by kernel_rfl) ?_
        refine mix1 rfl rfl ?_
        refine ev_storePart tabOk rfl rfl rfl rfl rfl rfl kp7 (show 6 + 2 ≤ 17 by omega) (fun w8 k8 f8 => ?_)
        refine mix_op ?_
        refine mix_out rfl ?_
        have oMT := (hOM5.setT (tv' := .slice A1 m.V.texts.length c1) f6 (fun g hg => by
          have := oT.lt hg
          rcases nT with h | h
          · rw [h] at hg; cases hg
          · rw [h] at hg; cases hg; omega) (Nat.le_trans f4.size f5.size)).setM (mv' := .slice A2 m.V.merges.length c2) (f7.mono fun _ _ z => z.elim) (NB.of nM) (fun g hg => oM.lt hg) (Nat.le_trans f4.size (f5.tr f6).size)
        have oMT := oMT.old p3 f8
        have k8 : Blk w8 p (ofC m.s (.slice A1 m.V.texts.length c1) (.slice A2 m.V.merges.length c2) r0.v m.es r1.v r2.v (.slice m.bA m.bs.length m.bc) r3.v r4.v r5.v m.ls) 51 := k8
        have hgT : ∀ g, (Value.slice A1 m.V.texts.length c1).ownBlock = some g → w5.heap.size ≤ g := fun g hg => by
          rcases nT with h | h
          · rw [h] at hg; cases hg
          · rw [h] at hg; cases hg; omega
        have hgM : ∀ g, (Value.slice A2 m.V.merges.length c2).ownBlock = some g → w5.heap.size ≤ g := fun g hg => by
          have := f6.size
          rcases nM with h | h
          · rw [h] at hg; cases hg
          · rw [h] at hg; cases hg; omega
        have hn8 : ∀ g, w5.heap.size ≤ g → g ≠ p := fun g hg e => by have := f5.size; omega
        refine ev_out (.slice A1 m.V.texts.length c1, .slice A2 m.V.merges.length c2) ⟨((f5.tr (f6.tr f7)).mono fun _ _ z => z.elim).trans f8 fun _ _ e => e, k8, oT7.fr f8 (fun g hg => hn8 g (hgT g hg)), oM.fr f8 (fun g hg => hn8 g (hgM g hg)), oMT⟩ ⟨rfl, rfl, rfl, trivial⟩
    · refine ev_load rfl rfl tabOk rfl rfl (kp5.cell rfl) ?_
      refine mix_op ?_
      refine mix1 rfl rfl ?_
      refine ev_load rfl rfl tabOk rfl rfl (kp5.cell rfl) ?_
      refine mix_op ?_
      refine mix1 rfl rfl ?_
      refine ev_append tabOk rfl rfl rfl inf9 rfl (by omega) rfl rfl (Own.nil _ _ _) hm5.voc.1 (by simp) (fun u hu => by obtain ⟨x, _, rfl⟩ := List.mem_map.1 hu; rfl) (by have := hl.V.texts; omega) (fun tv w6 oT f6 nT => ?_)
      have f6 : Fr no w5 w6 := f6.mono fun _ _ z => by cases z
      rw [Nat.zero_add, List.nil_append] at oT
      have kp6 := kp5.fr0 f6
      have hm6 := hm5.fr0 f6
      refine mix_op ?_
      refine mix1 rfl rfl ?_
      refine ev_append tabOk rfl rfl rfl inf114 rfl (by omega) rfl rfl (Own.nil _ _ _) hm6.voc.2 (mcs_len _) (mcs_one _) (by have := hl.V.merges; omega) (fun mv w7 oM f7 nM => ?_)
      have f7 : Fr no w6 w7 := f7.mono fun _ _ z => by cases z
      rw [Nat.zero_add, List.nil_append] at oM
      have kp7 := kp6.fr0 f7
      have oT7 := oT.fr0 f7
      refine mix_op ?_
      obtain ⟨A1, c1, eT, _, _⟩ := oT.slice
      obtain ⟨A2, c2, eM, _, _⟩ := oM.slice
      subst eT; subst eM
      refine mix1 rfl rfl ?_
      refine ev_build rfl rfl (v := .agg #[.slice A1 m.V.texts.length c1, .slice A2 m.V.merges.length c2]) rfl (fun w => by kernel_rfl) ?_
      refine mix_op ?_
      refine mA rfl (by kernel_rfl) (by kernel_rfl) ?_
      refine mix1 rfl rfl ?_
      refine ev_storePart tabOk rfl rfl rfl rfl rfl rfl kp7 (show 6 + 2 ≤ 17 by omega) (fun w8 k8 f8 => ?_)
      refine mix_op ?_
      refine mix_out rfl ?_
      have oMT := (hOM5.setT (tv' := .slice A1 m.V.texts.length c1) f6 (fun g hg => by
        have := oT.lt hg
        rcases nT with h | h
        · rw [h] at hg; cases hg
        · rw [h] at hg; cases hg; omega) (Nat.le_trans f4.size f5.size)).setM (mv' := .slice A2 m.V.merges.length c2) (f7.mono fun _ _ z => z.elim) (NB.of nM) (fun g hg => oM.lt hg) (Nat.le_trans f4.size (f5.tr f6).size)
      have oMT := oMT.old p3 f8
      have k8 : Blk w8 p (ofC m.s (.slice A1 m.V.texts.length c1) (.slice A2 m.V.merges.length c2) r0.v m.es r1.v r2.v (.slice m.bA m.bs.length m.bc) r3.v r4.v r5.v m.ls) 51 := k8
      have hgT : ∀ g, (Value.slice A1 m.V.texts.length c1).ownBlock = some g → w5.heap.size ≤ g := fun g hg => by
        rcases nT with h | h
        · rw [h] at hg; cases hg
        · rw [h] at hg; cases hg; omega
      have hgM : ∀ g, (Value.slice A2 m.V.merges.length c2).ownBlock = some g → w5.heap.size ≤ g := fun g hg => by
        have := f6.size
        rcases nM with h | h
        · rw [h] at hg; cases hg
        · rw [h] at hg; cases hg; omega
      have hn8 : ∀ g, w5.heap.size ≤ g → g ≠ p := fun g hg e => by have := f5.size; omega
      refine ev_out (.slice A1 m.V.texts.length c1, .slice A2 m.V.merges.length c2) ⟨((f5.tr (f6.tr f7)).mono fun _ _ z => z.elim).trans f8 fun _ _ e => e, k8, oT7.fr f8 (fun g hg => hn8 g (hgT g hg)), oM.fr f8 (fun g hg => hn8 g (hgM g hg)), oMT⟩ ⟨rfl, rfl, rfl, trivial⟩
  rintro ⟨tv, mv⟩ w5 ⟨f5, k5, oT, oM, oMT⟩
  obtain ⟨A1, c1, eT, _, _⟩ := oT.slice
  obtain ⟨A2, c2, eM, _, _⟩ := oM.slice
  have eT : tv = .slice A1 m.V.texts.length c1 := eT
  have eM : mv = .slice A2 m.V.merges.length c2 := eM
  subst eT; subst eM
  have hm5 := hm4.off hoff f5
  have k25 := k24.fr f5 (fun e => hpp e)
  clear k24 kp4 hm4 hOM hm3
  refine sA [] rfl ?_; refine ev_loadB rfl rfl tabOk rfl rfl ‹_› (by rfl) ?_
  refine ev_append tabOk rfl rfl rfl inf60 rfl (by omega) rfl rfl (Own.nil _ _ _) hm5.blk (flat_len bkC_len _) bkC_one (by omega) (fun bv w6 oB f6 nB => ?_)
  have f6 : Fr no w5 w6 := f6.mono fun _ _ z => by cases z
  obtain ⟨A3, c3, eB, _, _⟩ := oB.slice
  subst eB
  rw [Nat.zero_add, List.nil_append] at oB
  rw [Nat.zero_add] at nB ⊢
  have k6 := k5.fr0 f6
  refine sA [] rfl ?_
  refine ev_store tabOk rfl rfl rfl rfl rfl rfl k6 rfl (fun w7 k7 f7 => ?_)
  have k7 : Blk w7 p (ofC m.s (.slice A1 m.V.texts.length c1) (.slice A2 m.V.merges.length c2) r0.v m.es r1.v r2.v (.slice A3 m.bs.length c3) r3.v r4.v r5.v m.ls) 51 := k7
  have s35 : w3.heap.size ≤ w5.heap.size := Nat.le_trans f4.size f5.size
  have p5 : p < w5.heap.size := Nat.lt_of_lt_of_le p3 s35
  have hgB : ∀ g, (Value.slice A3 m.bs.length c3).ownBlock = some g → w5.heap.size ≤ g := fun g hg => by
    rcases nB with h | h
    · rw [h] at hg; cases hg
    · rw [h] at hg; cases hg; omega
  have hoffB : ∀ g, (Value.slice A3 m.bs.length c3).ownBlock = some g → m.Off g := fun g hg => LM.Off.lt hm5 (hgB g hg)
  have hom := ((oMT.setB (bv' := .slice A3 m.bs.length c3) (f6.mono fun _ _ z => z.elim) (NB.of nB) (fun g hg => oB.lt hg) s35).old p3 f7)
  have oB7 := oB.fr f7 (fun g hg e => by have := hgB g hg; have e : g = p := e; omega)
  have oT7 := (oT.fr0 f6).fr f7 (fun g hg e => by have := (hom.lo _ (by simp) g hg).1; have e : g = p := e; omega)
  have oM7 := (oM.fr0 f6).fr f7 (fun g hg e => by have := (hom.lo _ (by simp) g hg).1; have e : g = p := e; omega)
  have hm7 := (hm5.fr0 f6).off hoff f7
  have k27 := (k25.fr0 f6).fr f7 (fun e => hpp e)
  have p25 : p2 < w5.heap.size := k25.lt
  clear k6 oB oT oM k25 hm5 oMT
  refine sA [] rfl ?_; refine ev_loadB rfl rfl tabOk rfl rfl ‹_› (by rfl) ?_; refine sA [] rfl ?_
  refine ev_loop (α := List (Bk Rw)) (fun B => [(1, .pointer (some ⟨p, 0, none⟩)), (2, .pointer (some ⟨p2, 0, none⟩)), (3, .func (.func 78) ⟨[]⟩ ⟨[]⟩), (31, i64 m.bs.length), (32, i64 B.length)])
    (fun B w' => B.length ≤ m.bs.length ∧ B.map pBk = (m.bs.take B.length).map pBk ∧ Fr (fun c => (Value.slice A3 m.bs.length c3).ownBlock = some c) w7 w' ∧ Own w' 60 17 (.slice A3 m.bs.length c3) m.bs.length ((B ++ m.bs.drop B.length).flatMap bkC) ∧ OM w3 w' (.slice A3 m.bs.length c3) (.slice A2 m.V.merges.length c2) (.slice A1 m.V.texts.length c1) ([r0, r1, r2, r3, r4, r5] ++ B.flatMap cpR)) (fun B => m.bs.length - B.length) [] ⟨rfl, rfl, rfl, rfl, rfl, trivial⟩
    ⟨Nat.zero_le _, rfl, Fr.refl _ _, by simpa using oB7, by simpa using hom⟩ ?_
  rintro B wb ⟨hB, hBx, fb, oBb, homb⟩
  have hgp : ¬ (Value.slice A3 m.bs.length c3).ownBlock = some p := fun e => by have := hgB p e; omega
  have hgp2 : ¬ (Value.slice A3 m.bs.length c3).ownBlock = some p2 := fun e => by have := hgB p2 e; omega
  have kpb := k7.fr fb hgp
  have hmb := At_own hm7 hoffB fb
  refine sC [] rfl ?_; refine sD [] rfl ?_
  refine ev_condD rfl (fun c => ?_) (fun c => ?_)
  · have hlt : B.length < m.bs.length := by omega
    obtain ⟨g, hA, hg⟩ := own17_at oBb hlt
    obtain ⟨cs, hcb, hct, hcl, hback⟩ := own_put oBb hg
    refine sA [] rfl ?_; refine ev_loadB rfl rfl tabOk rfl rfl ‹_› (by rfl) ?_; refine sA [] rfl ?_
    refine ev_indexAddr rfl rfl tabOk (congrArg (fun z => some (Value.slice z m.bs.length c3)) hA) rfl rfl (by omega) (by omega) ?_
    rw [show 0 + (B.length : Int).toNat * 17 = B.length * 17 by omega]
    refine sA [] rfl ?_
    refine mix_in mixed (fun w8 f8 => ?_)
    refine mA rfl (by kernel_rfl) (by kernel_rfl) ?_
    refine mix1 rfl rfl ?_
    refine ev_buildSlice tabOk rfl rfl rfl inf149 rfl rfl rfl (fun v hv => by simp at hv; rcases hv with rfl | rfl | rfl | rfl | rfl | rfl | rfl | rfl | rfl <;> rfl) rfl (fun d w9 hd kd f9 => ?_)
    have f79 : Fr no wb w9 := f8.tr f9
    have hcb9 := hcb.fr0 f79
    have hm9 := hmb.fr0 f79
    have hflat : ∀ j v, (bkC m.bs[B.length])[j]? = some v → cs[B.length * 17 + j]? = some v := fun j v hj => by
      have h1 := flat_at bkC_len (l := B ++ m.bs.drop B.length) (i := B.length) (x := m.bs[B.length]) (by rw [List.getElem?_append_right (Nat.le_refl _), Nat.sub_self, List.getElem?_drop, Nat.add_zero, List.getElem?_eq_getElem hlt]) hj
      rw [← hct] at h1
      have h2 := (List.getElem?_eq_some_iff.1 h1).1
      rw [List.length_take] at h2
      rwa [List.getElem?_take_of_lt (by omega)] at h1
    have hbm : m.bs[B.length] ∈ m.bs := List.getElem_mem hlt
    have hoffg := hoffB g hg
    have hrb := hm9.bs _ hbm
    have hro := hoffg.bs _ hbm
    have hrl := hl.bs _ hbm
    have hdrop : m.bs.drop B.length = m.bs[B.length] :: m.bs.drop (B.length + 1) := List.drop_eq_getElem_cons hlt
    have htk : m.bs.take (B.length + 1) = m.bs.take B.length ++ [m.bs[B.length]] := List.take_succ_eq_append_getElem hlt
    obtain ⟨b, hb⟩ : ∃ b, b = m.bs[B.length] := ⟨_, rfl⟩
    rw [← hb] at hflat hrb hro hrl hdrop htk
    refine mix_op ?_
    refine mix1 rfl rfl ?_
    refine ev_callV rfl (fun t h => by cases h; rfl) rfl rfl (wCopied g 60 [(B.length * 17 + 0, b.g1), (B.length * 17 + 1, b.q), (B.length * 17 + 2, b.k), (B.length * 17 + 3, b.v), (B.length * 17 + 4, b.o), (B.length * 17 + 5, b.g2), (B.length * 17 + 11, b.ga), (B.length * 17 + 12, b.up), (B.length * 17 + 13, b.dn)] cs (some ⟨d, 0, none⟩) 9 w9 (Cs.of_blk kd) (CsOff.own (own_of_blk (m := 9) (sz := 1) kd rfl (by omega)) fun x hx e => ?_) hcb9 (show 9 ≤ 1000 by omega) ?_ ?_ (by simp)) ?_
    · have hx : some d = some x := hx
      cases hx
      have := hcb.lt
      have := f8.size
      have e : d = g := e
      omega
    · intro i h
      match i, h with
      | 0, _ => exact hflat 0 _ rfl
      | 1, _ => exact hflat 1 _ rfl
      | 2, _ => exact hflat 2 _ rfl
      | 3, _ => exact hflat 3 _ rfl
      | 4, _ => exact hflat 4 _ rfl
      | 5, _ => exact hflat 5 _ rfl
      | 6, _ => exact hflat 11 _ rfl
      | 7, _ => exact hflat 12 _ rfl
      | 8, _ => exact hflat 13 _ rfl
      | i + 9, h => exact absurd h (by show ¬ i + 9 < 9; omega)
    · intro x hx
      have hr : ∀ r ∈ b.rows, Rw.At w9 r ∧ CsOff g r.A (r.xs.map i8v) ∧ r.xs.length ≤ 1000000000 := fun r h => ⟨hrb r h, hro r h, hrl r h⟩
      simp only [List.mem_cons, List.not_mem_nil, or_false] at hx
      rcases hx with rfl | rfl | rfl | rfl | rfl | rfl | rfl | rfl | rfl <;> exact hr _ (by simp)
    rintro r wc ⟨Q, hQ, hn, kc, fc⟩
    obtain ⟨a1, a2, a3, a4, a5, a6, a7, a8, a9, rfl⟩ := nine (l := Q) (by have := congrArg List.length hQ; simpa using this)
    simp only [List.map_cons, List.map_nil, List.cons.injEq, and_true] at hQ
    obtain ⟨q1, q2, q3, q4, q5, q6, q7, q8, q9⟩ := hQ
    refine mix_op ?_
    refine mix_out rfl ?_
    have fbc : Fr (fun c => (Value.slice A3 m.bs.length c3).ownBlock = some c) wb wc := (f79.mono fun _ _ z => z.elim).trans fc fun x _ e => by have e : x = g := e; rw [e]; exact hg
    have hlen : (B ++ [cpB b a1 a2 a3 a4 a5 a6 a7 a8 a9]).length = B.length + 1 := by simp
    have oBc := hback wc _ kc (putR_len _ _ _)
    rw [putR_take, hct, hdrop] at oBc
    have oBc : Own wc 60 17 (.slice A3 m.bs.length c3) m.bs.length (putR ((B ++ b :: m.bs.drop (B.length + 1)).flatMap bkC) (cpO (B.length * 17)) [a1, a2, a3, a4, a5, a6, a7, a8, a9]) := oBc
    rw [put_blk] at oBc
    have homc := (homb.fr0 f79).appB (fc.mono fun x _ e => by have e : x = g := e; rw [e]; exact hg) hn (by have := fb.size; have := f7.size; have := f6.size; have := f79.size; omega)
    refine sA [] rfl ?_; refine ev_arith rfl rfl rfl rfl rfl (by simp only [lowK, hiK]; omega) ?_; refine sA [] rfl ?_
    refine ev_next (B ++ [cpB b a1 a2 a3 a4 a5 a6 a7 a8 a9]) (by rw [hlen]; omega) ⟨by rw [hlen]; omega, ?_, fb.trans fbc fun x _ e => e, by rw [hlen]; exact oBc, ?_⟩ ⟨rfl, rfl, rfl, rfl, by rw [hlen, show ((B.length + 1 : Nat) : Int) = (B.length : Int) + 1 by omega]; rfl, trivial⟩
    · rw [hlen, htk, List.map_append, List.map_append, hBx]
      show _ ++ [pBk _] = _ ++ [pBk _]
      simp only [Bk.map, q1, q2, q3, q4, q5, q6, q7, q8, q9]
    · rw [List.flatMap_append, ← List.append_assoc]
      exact homc
  · obtain hBn : B.length = m.bs.length := by omega
    rw [hBn, List.drop_length, List.append_nil] at oBb
    rw [hBn, List.take_length] at hBx
    have k2b := k27.fr fb hgp2
    have oTb := oT7.fr fb (fun x hx e => (homb.tm x hx).2 e)
    have oMb := oM7.fr fb (fun x hx e => homb.mb x hx e)
    refine sA [] rfl ?_; refine ev_loadAggB rfl rfl tabOk rfl rfl ‹_› (by rfl) ?_
    refine ev_storeAgg tabOk rfl rfl rfl rfl rfl rfl k2b rfl (fun wd kd fd => ?_)
    refine sA [] rfl ?_
    have h3d : Fr no w wd := by
      have h37 : Fr (fun x => x = p) w3 w7 := ((f4.trans f5 fun _ _ e => e).trans (f6.mono fun _ _ z => z.elim) fun _ _ e => e).trans f7 fun _ _ e => e
      have h0b : Fr no w wb := ((h03.trans h37 fun x hx e => by have e : x = p := e; omega).trans fb fun x hx e => by have := hgB x e; have := h03.size; omega)
      exact h0b.trans fd fun x hx e => by have e : x = p2 := e; have := f1.size; omega
    have hpd2 : ∀ v ∈ [Value.slice A3 m.bs.length c3, .slice A2 m.V.merges.length c2, .slice A1 m.V.texts.length c1], ∀ x, v.ownBlock = some x → ¬ x = p2 := fun v hv x hx e => by
      have := (homb.lo v hv x hx).1; omega
    have hom9 := homb.fr fd (fun r hr x hx e => by have := (homb.q.rows r hr).2 x hx; have e : x = p2 := e; omega)
    have oT9 := oTb.fr fd (hpd2 _ (by simp))
    have oM9 := oMb.fr fd (hpd2 _ (by simp))
    have oB9 := oBb.fr fd (hpd2 _ (by simp))
    rw [← hBn] at hom9 oB9
    have hown : OwnS w wd ⟨m.s, A1, c1, A2, c2, m.V, r0, m.es, r1, r2, A3, c3, B, r3, r4, r5, m.ls⟩ :=
      hom9.own (m := ⟨m.s, A1, c1, A2, c2, m.V, r0, m.es, r1, r2, A3, c3, B, r3, r4, r5, m.ls⟩) ((permM r0 r1 r2 r3 r4 r5 _).trans (((perm_rows B).append_left _).append_right _)) oT9 oM9 oB9 h3d h03.size
    refine retG tabOk (.inr rfl) rfl [_] ⟨⟨_, rfl, .inl ⟨rfl, _, rfl, rfl, Cs.of_blk kd⟩⟩, trivial⟩ ⟨⟨m.s, A1, c1, A2, c2, m.V, r0, m.es, r1, r2, A3, c3, B, r3, r4, r5, m.ls⟩, ?_, ?_, hown⟩
    · rw [← hBn]
      rfl
    · unfold LM.p
      simp only [e0, e1, e2, e3, e4, e5, hBx]
end Go.Wk.YtfgllkflnkolhaaDoor
