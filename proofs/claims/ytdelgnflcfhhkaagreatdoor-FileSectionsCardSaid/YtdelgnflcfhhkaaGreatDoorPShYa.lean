/-
  Taken for this seat out of ShYa.
-/
import Derived.Test.YtdelgnflcfhhkaaGreatDoorPSx
set_option linter.unusedVariables false
namespace Go.Wk.YtdelgnflcfhhkaaGreatDoor
open Go Go.Wk Go.Proofs
/-- the cells of a model under way -/
abbrev ofC (s : Shp) (tv mv e : Value) (es : Int) (cos sin bv bend gain un : Value) (ls : Int) : List Value := [i64 s.voc, i64 s.ctx, i64 s.dim, i64 s.hds, i64 s.lay, i64 s.hid, tv, mv, e, i64 es, cos, sin, bv, bend, gain, un, i64 ls]
abbrev zC : List Value := ofC ⟨0, 0, 0, 0, 0, 0⟩ nilS nilS nilS 0 nilS nilS nilS nilS nilS nilS 0
/-- the cells of a block under way -/
abbrev obC (b : Bk Rw) (g1 q k v o g2 ga up dn : Value) (gs us ds : Int) : List Value := [g1, q, k, v, o, g2, i64 b.qs, i64 b.ks, i64 b.vs, i64 b.os, i64 b.ss, ga, up, dn, i64 gs, i64 us, i64 ds]
theorem shp_part {w : World} {p : Nat} {t : TypeId} (m : LM) (h : Blk w p (lmC m) t) : Cs w (some ⟨p, 0, none⟩) (shpC m.s) := (Cs.of_blk h).part 0 fun j u hj => match j, hj with
  | 0, h => h | 1, h => h | 2, h => h | 3, h => h | 4, h => h | 5, h => h | n + 6, h => by simp at h
theorem NR.perm {w0 w : World} {Q Q' : List Rw} (h : NR w0 w Q) (hp : Q.Perm Q') : NR w0 w Q' := ⟨fun r hr => h.rows r (hp.mem_iff.2 hr), (hp.pairwise_iff apR_symm).1 h.ap⟩
theorem mcs_take1 {l : List Mrg} {y : Nat} (h : y < l.length) : mcs (l.take (y + 1)) = mcs (l.take y) ++ flatV [.agg ⟨mrg1 (l.getD y (0, 0, 0))⟩] := by
  unfold mcs
  rw [List.take_succ_eq_append_getElem h, List.flatMap_append, List.getD_eq_getElem?_getD, List.getElem?_eq_getElem h]
  simp [flatV, mrg1]
  rfl
theorem flat_app1 (bs : List (Bk Rw)) (b : Bk Rw) : (bs ++ [b]).flatMap bkC = bs.flatMap bkC ++ flatV [bkV b] := by
  rw [List.flatMap_append]; simp [flatV]; rfl
/-- what stands of a model that is copied -/
structure OfS (TS TD TM TB : TypeId) (m : LM) (w w5 w' : World) (p1 p2 p4 : Nat) (z : List Value) (bv mv tv : Value) (e cos sin bend gain un : Rw) (nm : Nat) (bs : List (Bk Rw)) : Prop where
  fr : Fr no w w'
  ge : w.heap.size ≤ w5.heap.size ∧ w5.heap.size ≤ w'.heap.size
  lt : p1 < w5.heap.size ∧ p2 < w5.heap.size ∧ p4 < w5.heap.size
  lo : w.heap.size ≤ p1 ∧ w.heap.size ≤ p2 ∧ w.heap.size ≤ p4
  ne : p1 ≠ p2 ∧ p1 ≠ p4 ∧ p2 ≠ p4
  k1 : Blk w' p1 (lmC m) TS
  k2 : Blk w' p2 z TD
  k4 : Blk w' p4 (ofC m.s tv mv e.v m.es cos.v sin.v bv bend.v gain.v un.v m.ls) TD
  om : OM w5 w' bv mv tv ([e, cos, sin, bend, gain, un] ++ bs.flatMap Bk.rows)
  tx : Own w' 9 1 tv m.V.texts.length (m.V.texts.map sv)
  mg : Own w' TM 3 mv nm (mcs (m.V.merges.take nm))
  bk : Own w' TB 17 bv bs.length (bs.flatMap bkC)
  xs : e.xs = m.e.xs ∧ cos.xs = m.cos.xs ∧ sin.xs = m.sin.xs ∧ bend.xs = m.bend.xs ∧ gain.xs = m.gain.xs ∧ un.xs = m.un.xs
  bx : bs.map pBk = (m.bs.take bs.length).map pBk
/-- rows apart from a block -/
def NP (p : Nat) (Q : List Rw) : Prop := ∀ r ∈ Q, ∀ g, r.v.ownBlock = some g → g ≠ p
theorem NP.start {w0 w : World} {Q : List Rw} {p : Nat} (h : NR w0 w Q) (hp : w.heap.size ≤ p) : NP p Q := fun r hr g hg e => by have := (h.rows r hr).lt hg; omega
theorem NP.add {w w' : World} {Q : List Rw} {p : Nat} {r : Rw} (h : NP p Q) (hp : p < w.heap.size) (o : OR w w' r) : NP p (Q ++ [r]) := fun q hq g hg => by
  rcases List.mem_append.1 hq with hq | hq
  · exact h q hq g hg
  · rw [List.mem_singleton.1 hq] at hg
    have := o.2 g hg; omega
theorem NR.join {w0 w1 w' : World} {Q Q' : List Rw} (h : NR w0 w' Q) (h' : NR w1 w' Q') (hs : w0.heap.size ≤ w1.heap.size) (hl : ∀ r ∈ Q, ∀ g, r.v.ownBlock = some g → g < w1.heap.size) : NR w0 w' (Q ++ Q') :=
  ⟨fun r hr => by
    rcases List.mem_append.1 hr with hr | hr
    · exact h.rows r hr
    · exact ⟨(h'.rows r hr).1, fun g hg => Nat.le_trans hs ((h'.rows r hr).2 g hg)⟩,
   List.pairwise_append.2 ⟨h.ap, h'.ap, fun r hr r' hr' g hg e => by
    have h1 := hl r hr g hg
    have h2 := (h'.rows r' hr').2 g e
    omega⟩⟩
theorem perm9 (a q k v o g x y z : Rw) : [a, q, k, v, o, g, x, y, z].Perm [a, g, q, k, v, o, x, y, z] := by
  refine List.Perm.cons a ?_
  have h : [q, k, v, o, g].Perm [g, q, k, v, o] := List.perm_append_singleton g [q, k, v, o]
  exact h.append_right [x, y, z]
theorem permM (e c s b g u : Rw) (F : List Rw) : ([e, c, s, b, g, u] ++ F).Perm ([g, c, s, b, e] ++ F ++ [u]) := by
  have h1 : [e, c, s, b, g].Perm [g, c, s, b, e] :=
    ((List.perm_append_singleton g [c, s, b]).cons e).trans ((List.Perm.swap g e [c, s, b]).trans ((List.perm_append_singleton e [c, s, b]).symm.cons g))
  have h2 : (u :: F).Perm (F ++ [u]) := (List.perm_append_singleton u F).symm
  have := h1.append h2
  rw [List.append_assoc]
  exact this
section
variable {TS TD TM TB : TypeId} {m : LM} {w w5 w' : World} {p1 p2 p4 : Nat} {z : List Value} {bv mv tv : Value} {e cos sin bend gain un : Rw} {nm : Nat} {bs : List (Bk Rw)}
/-- new blocks come -/
theorem OfS.fr0 (h : OfS TS TD TM TB m w w5 w' p1 p2 p4 z bv mv tv e cos sin bend gain un nm bs) {w2 : World} (hf : Fr no w' w2) : OfS TS TD TM TB m w w5 w2 p1 p2 p4 z bv mv tv e cos sin bend gain un nm bs :=
  ⟨h.fr.tr hf, ⟨h.ge.1, Nat.le_trans h.ge.2 hf.size⟩, h.lt, h.lo, h.ne, h.k1.fr0 hf, h.k2.fr0 hf, h.k4.fr0 hf, h.om.fr0 hf, h.tx.fr0 hf, h.mg.fr0 hf, h.bk.fr0 hf, h.xs, h.bx⟩
end
set_option maxHeartbeats 16000000 in
set_option maxRecDepth 20000 in
theorem refOf (m : LM) (w : World) (hm : m.At w) (hl : m.Sm) :
    CallsF Tryz.prog 13 [lmV m] w fun z w' => ∃ m' : LM, z = lmV m' ∧ m'.p = m.p ∧ OwnM 134 86 w w' m' := by
  have hbl := hl.bl
  have hvt := hl.V.texts
  have hvm := hl.V.merges
  refine callsF Tryz.func13 rfl rfl (by decide) rfl ?_
  refine sA [] rfl ?_
  refine ev_box rfl rfl rfl fun p1 w1 hp1 kp f1 => ?_
  have kp : Blk w1 p1 (lmC m) _ := kp
  refine ev_alloc rfl rfl inf56 (fun p2 w2 hp2 k2 f2 => ?_)
  have kp2 := kp.fr0 f2
  have hf2 := f1.tr f2
  have hp1l := kp.lt
  have hp2l := k2.lt
  have s1 := f1.size
  have s2 := f2.size
  clear kp
  refine sA [] rfl ?_
  refine ev_loadAgg rfl rfl tabOk rfl rfl rfl (shp_part m kp2) ?_
  refine ev_alloc rfl rfl inf35 (fun p3 w3 hp3 k3 f3 => ?_)
  skip
  refine ev_storeAgg tabOk rfl rfl rfl rfl rfl rfl k3 rfl (fun w3b k3b f3b => ?_)
  have h23 : Fr no w2 w3b := f3.trans f3b fun z hz e => by have : z = p3 := e; omega
  have kp3 := kp2.fr0 h23
  have k23 := k2.fr0 h23
  have hf3 := hf2.tr h23
  have s3 := h23.size
  clear kp2 k2 k3
  refine sA [] rfl ?_; refine ev_loadB rfl rfl tabOk rfl rfl ‹_› (by rfl) ?_; refine sA [] rfl ?_; refine ev_loadB rfl rfl tabOk rfl rfl ‹_› (by rfl) ?_; refine sA [] rfl ?_; refine ev_loadB rfl rfl tabOk rfl rfl ‹_› (by rfl) ?_; refine sA [] rfl ?_; refine ev_loadB rfl rfl tabOk rfl rfl ‹_› (by rfl) ?_; refine sA [] rfl ?_; refine ev_loadB rfl rfl tabOk rfl rfl ‹_› (by rfl) ?_; refine sA [] rfl ?_; refine ev_loadB rfl rfl tabOk rfl rfl ‹_› (by rfl) ?_
  refine ev_build rfl rfl (v := shpV m.s) rfl (fun w => by kernel_rfl) ?_
  refine sA [] rfl ?_; refine ev_loadB rfl rfl tabOk rfl rfl ‹_› (by rfl) ?_; refine sA [] rfl ?_; refine ev_loadB rfl rfl tabOk rfl rfl ‹_› (by rfl) ?_
  refine ev_build rfl rfl (v := .agg ⟨ofC m.s nilS nilS nilS m.es nilS nilS nilS nilS nilS nilS m.ls⟩) rfl (fun w => by kernel_rfl) ?_
  refine ev_alloc rfl rfl inf56 (fun p4 w4 hp4 k4 f4 => ?_)
  refine ev_storeAgg tabOk rfl rfl rfl rfl rfl rfl k4 rfl (fun w5 k45 f5 => ?_)
  have h35 : Fr no w3b w5 := f4.trans f5 fun z hz e => by have : z = p4 := e; omega
  have kp5 := kp3.fr0 h35
  have k25 := k23.fr0 h35
  have hf5 := hf3.tr h35
  have s5 := h35.size
  have hp4l := k45.lt
  have hge4 : p4 ≠ p1 ∧ p4 ≠ p2 ∧ w.heap.size ≤ p4 := by omega
  clear kp3 k23 k4 k3b
  refine sA [] rfl ?_
  refine ev_join1 (α := Rw × Rw × Rw × Rw × Rw × Rw) (fun y => [(1, .pointer (some ⟨p1, 0, none⟩)), (2, .pointer (some ⟨p2, 0, none⟩)), (4, .pointer (some ⟨p4, 0, none⟩))])
    (fun y w' => Fr (fun b => b = p4) w5 w' ∧ Blk w' p4 (ofC m.s nilS nilS y.1.v m.es y.2.1.v y.2.2.1.v nilS y.2.2.2.1.v y.2.2.2.2.1.v y.2.2.2.2.2.v m.ls) 56 ∧ NR w5 w' [y.1, y.2.1, y.2.2.1, y.2.2.2.1, y.2.2.2.2.1, y.2.2.2.2.2] ∧ (y.1.xs = m.e.xs ∧ y.2.1.xs = m.cos.xs ∧ y.2.2.1.xs = m.sin.xs ∧ y.2.2.2.1.xs = m.bend.xs ∧ y.2.2.2.2.1.xs = m.gain.xs ∧ y.2.2.2.2.2.xs = m.un.xs)) ?_ ?_
  · refine mixC_in (fun w' => Fr (fun b => b = p4) w5 w') mixed (fun v0 g0 => ?_)
    have hq := NR.nil w5 v0
    refine mA rfl (by kernel_rfl) (by kernel_rfl) ?_
    refine m_load 1 rfl rfl rfl (by kernel_rfl) (by kernel_rfl) rfl rfl tabOk rfl rfl (fun w' h => (kp5.fr h (fun e => hge4.1 e.symm)).cell rfl) ?_
    refine m_load 4 rfl rfl rfl (by kernel_rfl) (by kernel_rfl) rfl rfl tabOk rfl rfl (fun w' h => (kp5.fr h (fun e => hge4.1 e.symm)).cell rfl) ?_
    refine m_load 7 rfl rfl rfl (by kernel_rfl) (by kernel_rfl) rfl rfl tabOk rfl rfl (fun w' h => (kp5.fr h (fun e => hge4.1 e.symm)).cell rfl) ?_
    refine m_load 10 rfl rfl rfl (by kernel_rfl) (by kernel_rfl) rfl rfl tabOk rfl rfl (fun w' h => (kp5.fr h (fun e => hge4.1 e.symm)).cell rfl) ?_
    refine m_load 13 rfl rfl rfl (by kernel_rfl) (by kernel_rfl) rfl rfl tabOk rfl rfl (fun w' h => (kp5.fr h (fun e => hge4.1 e.symm)).cell rfl) ?_
    refine m_load 16 rfl rfl rfl (by kernel_rfl) (by kernel_rfl) rfl rfl tabOk rfl rfl (fun w' h => (kp5.fr h (fun e => hge4.1 e.symm)).cell rfl) ?_
    refine mix1 rfl rfl ?_ (g0.mono fun _ _ z => z.elim)
    refine ev_call rfl rfl rfl (refOwn m.e v0 ((hm.rows m.e (by simp)).fr0 (hf5.tr g0)) (hl.rows m.e (by simp))) ?_
    rintro z v1 ⟨r1, rfl, x1, o1, e1⟩
    have g1 := g0.tr e1
    have hq := hq.add o1 e1 g0.size
    refine mix_op ?_
    try refine mA rfl (by kernel_rfl) (by kernel_rfl) ?_
    refine mix1 rfl rfl ?_ (g1.mono fun _ _ z => z.elim)
    refine ev_call rfl rfl rfl (refOwn m.cos v1 ((hm.rows m.cos (by simp)).fr0 (hf5.tr g1)) (hl.rows m.cos (by simp))) ?_
    rintro z v2 ⟨r2, rfl, x2, o2, e2⟩
    have g2 := g1.tr e2
    have hq := hq.add o2 e2 g1.size
    refine mix_op ?_
    try refine mA rfl (by kernel_rfl) (by kernel_rfl) ?_
    refine mix1 rfl rfl ?_ (g2.mono fun _ _ z => z.elim)
    refine ev_call rfl rfl rfl (refOwn m.sin v2 ((hm.rows m.sin (by simp)).fr0 (hf5.tr g2)) (hl.rows m.sin (by simp))) ?_
    rintro z v3 ⟨r3, rfl, x3, o3, e3⟩
    have g3 := g2.tr e3
    have hq := hq.add o3 e3 g2.size
    refine mix_op ?_
    try refine mA rfl (by kernel_rfl) (by kernel_rfl) ?_
    refine mix1 rfl rfl ?_ (g3.mono fun _ _ z => z.elim)
    refine ev_call rfl rfl rfl (refOwn m.bend v3 ((hm.rows m.bend (by simp)).fr0 (hf5.tr g3)) (hl.rows m.bend (by simp))) ?_
    rintro z v4 ⟨r4, rfl, x4, o4, e4⟩
    have g4 := g3.tr e4
    have hq := hq.add o4 e4 g3.size
    refine mix_op ?_
    try refine mA rfl (by kernel_rfl) (by kernel_rfl) ?_
    refine mix1 rfl rfl ?_ (g4.mono fun _ _ z => z.elim)
    refine ev_call rfl rfl rfl (refOwn m.gain v4 ((hm.rows m.gain (by simp)).fr0 (hf5.tr g4)) (hl.rows m.gain (by simp))) ?_
    rintro z v5 ⟨r5, rfl, x5, o5, e5⟩
    have g5 := g4.tr e5
    have hq := hq.add o5 e5 g4.size
    refine mix_op ?_
    try refine mA rfl (by kernel_rfl) (by kernel_rfl) ?_
    refine mix1 rfl rfl ?_ (g5.mono fun _ _ z => z.elim)
    refine ev_call rfl rfl rfl (refOwn m.un v5 ((hm.rows m.un (by simp)).fr0 (hf5.tr g5)) (hl.rows m.un (by simp))) ?_
    rintro z v6 ⟨r6, rfl, x6, o6, e6⟩
    have g6 := g5.tr e6
    have hq := hq.add o6 e6 g5.size
    refine mix_op ?_
    try refine mA rfl (by kernel_rfl) (by kernel_rfl) ?_
    have hq : NR w5 v6 [r1, r2, r3, r4, r5, r6] := hq
    have c0 : Fr (fun b => b = p4) w5 v6 := g6.mono fun _ _ z => z.elim
    have k0 : Blk v6 p4 (ofC m.s nilS nilS nilS m.es nilS nilS nilS nilS nilS nilS m.ls) 56 := k45.fr0 g6
    refine mix1 rfl rfl ?_ c0
    refine ev_store tabOk rfl rfl rfl rfl rfl (own1 (hq.rows r1 (by simp)).1) k0 rfl (fun u1 k1 d1 => ?_)
    have k1 : Blk u1 p4 (ofC m.s nilS nilS r1.v m.es nilS nilS nilS nilS nilS nilS m.ls) 56 := k1
    have c1 := c0.trans d1 fun _ _ z => z
    have hq := hq.fr d1 (hq.ge hp4l)
    refine mix_op ?_
    try refine mA rfl (by kernel_rfl) (by kernel_rfl) ?_
    refine mix1 rfl rfl ?_ c1
    refine ev_store tabOk rfl rfl rfl rfl rfl (own1 (hq.rows r2 (by simp)).1) k1 rfl (fun u2 k2 d2 => ?_)
    have k2 : Blk u2 p4 (ofC m.s nilS nilS r1.v m.es r2.v nilS nilS nilS nilS nilS m.ls) 56 := k2
    have c2 := c1.trans d2 fun _ _ z => z
    have hq := hq.fr d2 (hq.ge hp4l)
    refine mix_op ?_
    try refine mA rfl (by kernel_rfl) (by kernel_rfl) ?_
    refine mix1 rfl rfl ?_ c2
    refine ev_store tabOk rfl rfl rfl rfl rfl (own1 (hq.rows r3 (by simp)).1) k2 rfl (fun u3 k3 d3 => ?_)
    have k3 : Blk u3 p4 (ofC m.s nilS nilS r1.v m.es r2.v r3.v nilS nilS nilS nilS m.ls) 56 := k3
    have c3 := c2.trans d3 fun _ _ z => z
    have hq := hq.fr d3 (hq.ge hp4l)
    refine mix_op ?_
    try refine mA rfl (by kernel_rfl) (by kernel_rfl) ?_
    refine mix1 rfl rfl ?_ c3
    refine ev_store tabOk rfl rfl rfl rfl rfl (own1 (hq.rows r4 (by simp)).1) k3 rfl (fun u4 k4 d4 => ?_)
    have k4 : Blk u4 p4 (ofC m.s nilS nilS r1.v m.es r2.v r3.v nilS r4.v nilS nilS m.ls) 56 := k4
    have c4 := c3.trans d4 fun _ _ z => z
    have hq := hq.fr d4 (hq.ge hp4l)
    refine mix_op ?_
    try refine mA rfl (by kernel_rfl) (by kernel_rfl) ?_
    refine mix1 rfl rfl ?_ c4
    refine ev_store tabOk rfl rfl rfl rfl rfl (own1 (hq.rows r5 (by simp)).1) k4 rfl (fun u5 k5 d5 => ?_)
    have k5 : Blk u5 p4 (ofC m.s nilS nilS r1.v m.es r2.v r3.v nilS r4.v r5.v nilS m.ls) 56 := k5
    have c5 := c4.trans d5 fun _ _ z => z
    have hq := hq.fr d5 (hq.ge hp4l)
    refine mix_op ?_
    try refine mA rfl (by kernel_rfl) (by kernel_rfl) ?_
    refine mix1 rfl rfl ?_ c5
    refine ev_store tabOk rfl rfl rfl rfl rfl (own1 (hq.rows r6 (by simp)).1) k5 rfl (fun u6 k6 d6 => ?_)
    have k6 : Blk u6 p4 (ofC m.s nilS nilS r1.v m.es r2.v r3.v nilS r4.v r5.v r6.v m.ls) 56 := k6
    have c6 := c5.trans d6 fun _ _ z => z
    have hq := hq.fr d6 (hq.ge hp4l)
    refine mix_op ?_
    try refine mA rfl (by kernel_rfl) (by kernel_rfl) ?_
    refine mix_out rfl ?_ c6
    skip
    exact ev_out (r1, r2, r3, r4, r5, r6) ⟨c6, k6, hq, x1, x2, x3, x4, x5, x6⟩ ⟨rfl, rfl, rfl, trivial⟩
  rintro ⟨e, cos, sin, bend, gain, un⟩ w6 ⟨g6, k6, hq, hx⟩
  dsimp only at k6 hq hx
  have kp6 := kp5.fr g6 (fun e => hge4.1 e.symm)
  have k26 := k25.fr g6 (fun e => hge4.2.1 e.symm)
  have hf6 : Fr no w w6 := hf5.trans g6 fun z hz e => by have : z = p4 := e; omega
  have hom := OM.start w5 w6 hq
  have s6 := g6.size
  clear kp5 k25 k45
  refine sA [] rfl ?_
  refine ev_buildSlice (vs := []) tabOk rfl rfl rfl inf9 rfl rfl rfl (fun v hv => by simp at hv) rfl (fun b7 w7 hb7 kb7 f7 => ?_)
  have hO7 : Own w7 9 1 (.slice (some ⟨b7, 0, none⟩) 0 0) 0 [] := own_of_blk kb7 rfl (by omega)
  have kp7 := kp6.fr0 f7
  have k47 := k6.fr0 f7
  refine sA [] rfl ?_; refine ev_loadB rfl rfl tabOk rfl rfl ‹_› (by rfl) ?_
  refine ev_append tabOk rfl rfl rfl inf9 rfl (by omega) rfl rfl hO7 ((hm.voc.1.fr0 hf6).fr0 f7) (by simp) (fun u hu => by obtain ⟨x, _, rfl⟩ := List.mem_map.1 hu; rfl) (by omega) (fun tv w8 hT f8 hn8 => ?_)
  rw [Nat.zero_add, List.nil_append] at hT
  have h68 : Fr no w6 w8 := f7.trans f8 fun z hz e => by have e : some b7 = some z := e; cases e; omega
  have htv : ∀ g, tv.ownBlock = some g → w6.heap.size ≤ g ∧ g < w8.heap.size := fun g hg => ⟨by
    have hs7 := f7.size
    rcases hn8 with h | h
    · rw [h] at hg; cases hg; exact hb7
    · rw [h] at hg; cases hg; exact hs7, hT.lt hg⟩
  have hom8 := hom.setT h68 htv s6
  have kp8 := kp6.fr0 h68
  have k28 := k26.fr0 h68
  have k48 := k6.fr0 h68
  have hf8 := hf6.tr h68
  clear kp6 k26 k6 kp7 k47 hom hO7 kb7
  refine sA [] rfl ?_
  refine ev_store tabOk rfl rfl rfl rfl rfl (own1 hT) k48 rfl (fun w9 k49 f9 => ?_)
  have k49 : Blk w9 p4 (ofC m.s tv nilS e.v m.es cos.v sin.v nilS bend.v gain.v un.v m.ls) 56 := k49
  have hI : OfS 47 56 134 86 m w w5 w9 p1 p2 p4 zC nilS nilS tv e cos sin bend gain un 0 [] :=
    ⟨hf8.trans f9 fun z hz e => by have : z = p4 := e; omega, ⟨by omega, by have := h68.size; have := f9.size; omega⟩, ⟨by omega, by omega, hp4l⟩, ⟨hp1, by omega, hge4.2.2⟩, ⟨by omega, by omega, by omega⟩,
     kp8.fr f9 (fun e => hge4.1 e.symm), k28.fr f9 (fun e => hge4.2.1 e.symm), k49, hom8.old hp4l f9, hT.fr f9 (fun g hg e => by have : g = p4 := e; have := (htv g hg).1; omega), Own.nil _ _ _, Own.nil _ _ _, hx, rfl⟩
  clear hom8 kp8 k28 k48 k49 hf8 hT hq hx htv
  have hk1 := hI.k1
  refine sA [] rfl ?_; refine ev_loadB rfl rfl tabOk rfl rfl ‹_› (by rfl) ?_; refine sA [] rfl ?_
  refine ev_loop (α := Nat × Value) (fun y => [(1, .pointer (some ⟨p1, 0, none⟩)), (2, .pointer (some ⟨p2, 0, none⟩)), (4, .pointer (some ⟨p4, 0, none⟩)), (63, .slice m.mA m.V.merges.length m.mc), (64, i64 m.V.merges.length), (65, i64 y.1)])
    (fun y w' => y.1 ≤ m.V.merges.length ∧ OfS 47 56 134 86 m w w5 w' p1 p2 p4 zC nilS y.2 tv e cos sin bend gain un y.1 []) (fun y => m.V.merges.length - y.1) (0, nilS) ⟨rfl, rfl, rfl, rfl, rfl, rfl, trivial⟩ ⟨Nat.zero_le _, hI⟩ ?_
  clear hI hk1
  rintro ⟨y, mv⟩ v1 ⟨hy, hI⟩
  have hy : y ≤ m.V.merges.length := hy
  have hI : OfS 47 56 134 86 m w w5 v1 p1 p2 p4 zC nilS mv tv e cos sin bend gain un y [] := hI
  refine sC [] rfl ?_; refine sD [] rfl ?_
  refine ev_condD rfl (fun c => ?_) (fun c => ?_)
  · have hyl : y < m.V.merges.length := by have c : (y : Int) < m.V.merges.length := c; omega
    obtain ⟨g, o, hA, hcs⟩ := mrgs_at ((hm.voc.fr0 hI.fr).2) hyl
    obtain ⟨mm, hmm⟩ : ∃ mm, mm = m.V.merges.getD y (0, 0, 0) := ⟨_, rfl⟩
    rw [← hmm] at hcs
    refine sA [] rfl ?_
    refine ev_indexAddr rfl rfl tabOk (congrArg (fun z => some (Value.slice z m.V.merges.length m.mc)) hA) rfl rfl (by show (0 : Int) ≤ y; omega) (by show (y : Int) < _; omega) ?_
    refine ev_loadAgg rfl rfl tabOk rfl rfl rfl hcs ?_
    refine ev_alloc rfl rfl inf100 (fun q w10 hq k10 f10 => ?_)
    refine ev_storeAgg tabOk rfl rfl rfl rfl rfl rfl k10 rfl (fun w11 k11 f11 => ?_)
    have h11 : Fr no v1 w11 := f10.trans f11 fun z hz e => by have : z = q := e; omega
    have hI1 := hI.fr0 h11
    have hk4 := hI1.k4
    have hql := k11.lt
    have hI0l := hI.ge
    have hs11 := h11.size
    clear hcs k10 hI
    refine sA [] rfl ?_; refine ev_loadB rfl rfl tabOk rfl rfl ‹_› (by rfl) ?_; refine sA [] rfl ?_; refine ev_loadB rfl rfl tabOk rfl rfl ‹_› (by rfl) ?_; refine sA [] rfl ?_; refine ev_loadB rfl rfl tabOk rfl rfl ‹_› (by rfl) ?_; refine sA [] rfl ?_; refine ev_loadB rfl rfl tabOk rfl rfl ‹_› (by rfl) ?_
    refine ev_build rfl rfl (v := .agg ⟨mrg1 mm⟩) rfl (fun w => by kernel_rfl) ?_
    refine ev_append1 (vs := [.agg ⟨mrg1 mm⟩]) tabOk rfl rfl (fun _ => rfl) rfl rfl inf134 rfl (by omega) (fun _ => rfl) rfl rfl (fun v hv => by rw [List.mem_singleton.1 hv]; rfl) (allOne_ok rfl) rfl hI1.mg (by omega) (fun mv' w12 bq hM12 f12 hn12 => ?_)
    have hlt12 : ∀ g, mv'.ownBlock = some g → g < w12.heap.size := fun g hg => hM12.lt hg
    have hom12 := hI1.om.setM f12 hn12 hlt12 hI1.ge.2
    have hmlo : ∀ g, mv.ownBlock = some g → w5.heap.size ≤ g ∧ g < w11.heap.size := fun g hg => have z := hI1.om.lo mv (by simp) g hg; ⟨z.1, z.2.1⟩
    have hnb : ∀ b, b < w5.heap.size → ¬ mv.ownBlock = some b := fun b hb e => by have := (hmlo b e).1; omega
    have k412 := hI1.k4.fr f12 (hnb _ hI1.lt.2.2)
    have hmlo' : ∀ g, mv'.ownBlock = some g → w5.heap.size ≤ g := fun g hg => (hom12.lo mv' (by simp) g hg).1
    refine sA [] rfl ?_
    refine ev_store tabOk rfl rfl rfl rfl rfl (own1 hM12) k412 rfl (fun w13 k413 f13 => ?_)
    have k413 : Blk w13 p4 (ofC m.s tv mv' e.v m.es cos.v sin.v nilS bend.v gain.v un.v m.ls) 56 := k413
    have hnT : ∀ g, tv.ownBlock = some g → ¬ mv.ownBlock = some g := fun g hg e => (hI1.om.tm g hg).1 e
    have hp4lt := hI1.lt.2.2
    have hJ : OfS 47 56 134 86 m w w5 w13 p1 p2 p4 zC nilS mv' tv e cos sin bend gain un (y + 1) [] :=
      ⟨(hI1.fr.trans f12 fun z hz e => by have := (hmlo z e).1; have := hI1.ge.1; omega).trans f13 fun z hz e => by have : z = p4 := e; have := hI1.lo; omega,
       ⟨hI1.ge.1, by have := f12.size; have := f13.size; have := hI1.ge.2; omega⟩, hI1.lt, hI1.lo, hI1.ne,
       (hI1.k1.fr f12 (hnb _ hI1.lt.1)).fr f13 (fun e => hI1.ne.2.1 e), (hI1.k2.fr f12 (hnb _ hI1.lt.2.1)).fr f13 (fun e => hI1.ne.2.2 e), k413, hom12.old hp4lt f13,
       (hI1.tx.fr f12 (fun g hg e => hnT g hg e)).fr f13 (fun g hg e => by have : g = p4 := e; have := (hI1.om.lo tv (by simp) g hg).1; omega),
       by
        rw [mcs_take1 hyl, ← hmm]
        exact hM12.fr f13 (fun g hg e => by have : g = p4 := e; have := hmlo' g hg; omega),
       Own.nil _ _ _, hI1.xs, rfl⟩
    refine sA [] rfl ?_; refine ev_arith rfl rfl rfl rfl rfl (by simp only [lowK, hiK]; omega) ?_; refine sA [] rfl ?_
    refine fun a hA => ⟨(y + 1, mv'), by show m.V.merges.length - (y + 1) < m.V.merges.length - y; omega, ⟨by show y + 1 ≤ _; omega, hJ⟩, hA.sub ⟨rfl, rfl, rfl, rfl, rfl, by show _ = some (i64 ((y + 1 : Nat) : Int)); rw [show ((y + 1 : Nat) : Int) = (y : Int) + 1 by omega]; rfl, trivial⟩⟩
  obtain rfl : y = m.V.merges.length := by have c : ¬ (y : Int) < m.V.merges.length := c; omega
  have hk1 := hI.k1
  refine sA [] rfl ?_; refine ev_loadB rfl rfl tabOk rfl rfl ‹_› (by rfl) ?_; refine sA [] rfl ?_
  refine ev_loop (α := Nat × Value × List (Bk Rw)) (fun y => [(1, .pointer (some ⟨p1, 0, none⟩)), (2, .pointer (some ⟨p2, 0, none⟩)), (4, .pointer (some ⟨p4, 0, none⟩)), (85, .slice m.bA m.bs.length m.bc), (86, i64 m.bs.length), (87, i64 y.1)])
    (fun y w' => y.1 ≤ m.bs.length ∧ y.2.2.length = y.1 ∧ OfS 47 56 134 86 m w w5 w' p1 p2 p4 zC y.2.1 mv tv e cos sin bend gain un m.V.merges.length y.2.2) (fun y => m.bs.length - y.1) (0, nilS, []) ⟨rfl, rfl, rfl, rfl, rfl, rfl, trivial⟩ ⟨Nat.zero_le _, rfl, hI⟩ ?_
  clear hI hk1
  rintro ⟨j, bv, bs⟩ u1 ⟨hj, hjl, hI⟩
  have hj : j ≤ m.bs.length := hj
  have hjl : bs.length = j := hjl
  have hI : OfS 47 56 134 86 m w w5 u1 p1 p2 p4 zC bv mv tv e cos sin bend gain un m.V.merges.length bs := hI
  refine sC [] rfl ?_; refine sD [] rfl ?_
  refine ev_condD rfl (fun c => ?_) (fun c => ?_)
  · have hyb : j < m.bs.length := by have c : (j : Int) < m.bs.length := c; omega
    obtain ⟨g, o, hA, hblk⟩ := blk_at (hm.blk.fr0 hI.fr) hyb
    have hbm := hm.bs _ (List.getElem_mem hyb)
    have hbs := hl.bs _ (List.getElem_mem hyb)
    have hbx := hI.bx
    have htk : (m.bs.take (bs.length + 1)).map pBk = (m.bs.take bs.length).map pBk ++ [pBk m.bs[j]] := by
      rw [hjl, List.take_succ_eq_append_getElem hyb, List.map_append]; rfl
    obtain ⟨b, hb⟩ : ∃ b, b = m.bs[j] := ⟨_, rfl⟩
    rw [← hb] at hblk hbm hbs htk
    have hbm : b.At w := hbm
    refine sA [] rfl ?_
    refine ev_indexAddr rfl rfl tabOk (congrArg (fun z => some (Value.slice z m.bs.length m.bc)) hA) rfl rfl (by show (0 : Int) ≤ j; omega) (by show (j : Int) < _; omega) ?_
    refine ev_loadAgg rfl rfl tabOk rfl rfl rfl hblk ?_
    refine ev_alloc rfl rfl inf73 (fun p8 w10 hp8 k10 f10 => ?_)
    refine ev_storeAgg tabOk rfl rfl rfl rfl rfl rfl k10 rfl (fun w11 k8 f11 => ?_)
    have h11 : Fr no u1 w11 := f10.trans f11 fun z hz e => by have : z = p8 := e; omega
    have hI1 := hI.fr0 h11
    have hk4 := hI1.k4
    have hp8l := k8.lt
    have hbw := hI1.fr
    clear hblk k10 hI
    refine sA [] rfl ?_
    refine ev_join1 (α := Nat × Rw × Rw × Rw × Rw × Rw × Rw) (fun y => [(1, .pointer (some ⟨p1, 0, none⟩)), (2, .pointer (some ⟨p2, 0, none⟩)), (4, .pointer (some ⟨p4, 0, none⟩)), (85, .slice m.bA m.bs.length m.bc), (86, i64 m.bs.length), (87, i64 j), (8, .pointer (some ⟨p8, 0, none⟩)), (9, .pointer (some ⟨y.1, 0, none⟩))])
      (fun y w' => w11.heap.size ≤ y.1 ∧ Fr no w11 w' ∧ Blk w' y.1 (obC b y.2.1.v y.2.2.1.v y.2.2.2.1.v y.2.2.2.2.1.v y.2.2.2.2.2.1.v y.2.2.2.2.2.2.v nilS nilS nilS 0 0 0) 86 ∧ NR w11 w' [y.2.1, y.2.2.1, y.2.2.2.1, y.2.2.2.2.1, y.2.2.2.2.2.1, y.2.2.2.2.2.2] ∧ NP y.1 [y.2.1, y.2.2.1, y.2.2.2.1, y.2.2.2.2.1, y.2.2.2.2.2.1, y.2.2.2.2.2.2] ∧
        (y.2.1.xs = b.g1.xs ∧ y.2.2.1.xs = b.q.xs ∧ y.2.2.2.1.xs = b.k.xs ∧ y.2.2.2.2.1.xs = b.v.xs ∧ y.2.2.2.2.2.1.xs = b.o.xs ∧ y.2.2.2.2.2.2.xs = b.g2.xs)) ?_ ?_
    · refine mixC_in (fun w' => Fr no w11 w') mixed (fun v0 g0 => ?_)
      have hq := NR.nil w11 v0
      refine mA rfl (by kernel_rfl) (by kernel_rfl) ?_
      refine m_load 1 rfl rfl rfl (by kernel_rfl) (by kernel_rfl) rfl rfl tabOk rfl rfl (fun w' h => (k8.fr0 h).cell rfl) ?_
      refine m_load 4 rfl rfl rfl (by kernel_rfl) (by kernel_rfl) rfl rfl tabOk rfl rfl (fun w' h => (k8.fr0 h).cell rfl) ?_
      refine m_load 7 rfl rfl rfl (by kernel_rfl) (by kernel_rfl) rfl rfl tabOk rfl rfl (fun w' h => (k8.fr0 h).cell rfl) ?_
      refine m_load 10 rfl rfl rfl (by kernel_rfl) (by kernel_rfl) rfl rfl tabOk rfl rfl (fun w' h => (k8.fr0 h).cell rfl) ?_
      refine m_load 13 rfl rfl rfl (by kernel_rfl) (by kernel_rfl) rfl rfl tabOk rfl rfl (fun w' h => (k8.fr0 h).cell rfl) ?_
      refine m_load 16 rfl rfl rfl (by kernel_rfl) (by kernel_rfl) rfl rfl tabOk rfl rfl (fun w' h => (k8.fr0 h).cell rfl) ?_
      refine m_load 19 rfl rfl rfl (by kernel_rfl) (by kernel_rfl) rfl rfl tabOk rfl rfl (fun w' h => (k8.fr0 h).cell rfl) ?_
      refine m_load 21 rfl rfl rfl (by kernel_rfl) (by kernel_rfl) rfl rfl tabOk rfl rfl (fun w' h => (k8.fr0 h).cell rfl) ?_
      refine m_load 23 rfl rfl rfl (by kernel_rfl) (by kernel_rfl) rfl rfl tabOk rfl rfl (fun w' h => (k8.fr0 h).cell rfl) ?_
      refine m_load 25 rfl rfl rfl (by kernel_rfl) (by kernel_rfl) rfl rfl tabOk rfl rfl (fun w' h => (k8.fr0 h).cell rfl) ?_
      refine m_load 27 rfl rfl rfl (by kernel_rfl) (by kernel_rfl) rfl rfl tabOk rfl rfl (fun w' h => (k8.fr0 h).cell rfl) ?_
      refine mix2 rfl rfl rfl ?_ ?_ g0
      rotate_left
      · skip
        refine ev_alloc rfl rfl inf86 (fun p9 y0 hp k9 f => ?_)
        have hp9 : w11.heap.size ≤ p9 := Nat.le_trans g0.size hp
        have hne := NP.start hq hp
        have g0 := g0.tr f
        have hq := hq.fr0 f
        refine mix_op ?_
        try refine mA rfl (by kernel_rfl) (by kernel_rfl) ?_
        refine mix1 rfl rfl ?_ g0
        refine ev_call rfl rfl rfl (refOwn b.g1 y0 ((hbm b.g1 (by simp)).fr0 (hbw.tr g0)) (hbs b.g1 (by simp))) ?_
        rintro z v1 ⟨r1, rfl, x1, o1, e1⟩
        have g1 := g0.tr e1
        have hq := hq.add o1 e1 g0.size
        have hne := hne.add k9.lt o1
        have k9 := k9.fr0 e1
        refine mix_op ?_
        try refine mA rfl (by kernel_rfl) (by kernel_rfl) ?_
        refine mix1 rfl rfl ?_ g1
        refine ev_call rfl rfl rfl (refOwn b.q v1 ((hbm b.q (by simp)).fr0 (hbw.tr g1)) (hbs b.q (by simp))) ?_
        rintro z v2 ⟨r2, rfl, x2, o2, e2⟩
        have g2 := g1.tr e2
        have hq := hq.add o2 e2 g1.size
        have hne := hne.add k9.lt o2
        have k9 := k9.fr0 e2
        refine mix_op ?_
        try refine mA rfl (by kernel_rfl) (by kernel_rfl) ?_
        refine mix1 rfl rfl ?_ g2
        refine ev_call rfl rfl rfl (refOwn b.k v2 ((hbm b.k (by simp)).fr0 (hbw.tr g2)) (hbs b.k (by simp))) ?_
        rintro z v3 ⟨r3, rfl, x3, o3, e3⟩
        have g3 := g2.tr e3
        have hq := hq.add o3 e3 g2.size
        have hne := hne.add k9.lt o3
        have k9 := k9.fr0 e3
        refine mix_op ?_
        try refine mA rfl (by kernel_rfl) (by kernel_rfl) ?_
        refine mix1 rfl rfl ?_ g3
        refine ev_call rfl rfl rfl (refOwn b.v v3 ((hbm b.v (by simp)).fr0 (hbw.tr g3)) (hbs b.v (by simp))) ?_
        rintro z v4 ⟨r4, rfl, x4, o4, e4⟩
        have g4 := g3.tr e4
        have hq := hq.add o4 e4 g3.size
        have hne := hne.add k9.lt o4
        have k9 := k9.fr0 e4
        refine mix_op ?_
        try refine mA rfl (by kernel_rfl) (by kernel_rfl) ?_
        refine mix1 rfl rfl ?_ g4
        refine ev_call rfl rfl rfl (refOwn b.o v4 ((hbm b.o (by simp)).fr0 (hbw.tr g4)) (hbs b.o (by simp))) ?_
        rintro z v5 ⟨r5, rfl, x5, o5, e5⟩
        have g5 := g4.tr e5
        have hq := hq.add o5 e5 g4.size
        have hne := hne.add k9.lt o5
        have k9 := k9.fr0 e5
        refine mix_op ?_
        try refine mA rfl (by kernel_rfl) (by kernel_rfl) ?_
        refine mix1 rfl rfl ?_ g5
        refine ev_call rfl rfl rfl (refOwn b.g2 v5 ((hbm b.g2 (by simp)).fr0 (hbw.tr g5)) (hbs b.g2 (by simp))) ?_
        rintro z v6 ⟨r6, rfl, x6, o6, e6⟩
        have g6 := g5.tr e6
        have hq := hq.add o6 e6 g5.size
        have hne := hne.add k9.lt o6
        have k9 := k9.fr0 e6
        refine mix_op ?_
        try refine mA rfl (by kernel_rfl) (by kernel_rfl) ?_
        refine m_build (v := .agg ⟨obC b r1.v r2.v r3.v r4.v r5.v r6.v nilS nilS nilS 0 0 0⟩) 28 rfl rfl rfl (by kernel_rfl) (by kernel_rfl) rfl rfl rfl (fun w => by kernel_rfl) ?_
        try refine mA rfl (by kernel_rfl) (by kernel_rfl) ?_
        have hq : NR w11 v6 [r1, r2, r3, r4, r5, r6] := hq
        have hne : NP p9 [r1, r2, r3, r4, r5, r6] := hne
        refine mix1 rfl rfl ?_ g6
        refine ev_storeAgg tabOk rfl rfl rfl rfl rfl rfl k9 rfl (fun v7 k97 e7 => ?_)
        have g7 : Fr no w11 v7 := g6.trans e7 fun z hz e => by have : z = p9 := e; omega
        refine mix_op ?_
        refine mix_out rfl ?_ g7
        skip
        exact ev_out (p9, r1, r2, r3, r4, r5, r6) ⟨hp9, g7, k97, hq.fr e7 (fun r hr g hg e => hne r hr g hg e), hne, x1, x2, x3, x4, x5, x6⟩ ⟨rfl, rfl, rfl, rfl, rfl, rfl, rfl, rfl, trivial⟩
      refine ev_call rfl rfl rfl (refOwn b.g1 v0 ((hbm b.g1 (by simp)).fr0 (hbw.tr g0)) (hbs b.g1 (by simp))) ?_
      rintro z v1 ⟨r1, rfl, x1, o1, e1⟩
      have g1 := g0.tr e1
      have hq := hq.add o1 e1 g0.size
      refine mix_op ?_
      try refine mA rfl (by kernel_rfl) (by kernel_rfl) ?_
      refine mix2 rfl rfl rfl ?_ ?_ g1
      rotate_left
      · skip
        refine ev_alloc rfl rfl inf86 (fun p9 y1 hp k9 f => ?_)
        have hp9 : w11.heap.size ≤ p9 := Nat.le_trans g1.size hp
        have hne := NP.start hq hp
        have g1 := g1.tr f
        have hq := hq.fr0 f
        refine mix_op ?_
        try refine mA rfl (by kernel_rfl) (by kernel_rfl) ?_
        refine mix1 rfl rfl ?_ g1
        refine ev_call rfl rfl rfl (refOwn b.q y1 ((hbm b.q (by simp)).fr0 (hbw.tr g1)) (hbs b.q (by simp))) ?_
        rintro z v2 ⟨r2, rfl, x2, o2, e2⟩
        have g2 := g1.tr e2
        have hq := hq.add o2 e2 g1.size
        have hne := hne.add k9.lt o2
        have k9 := k9.fr0 e2
        refine mix_op ?_
        try refine mA rfl (by kernel_rfl) (by kernel_rfl) ?_
        refine mix1 rfl rfl ?_ g2
        refine ev_call rfl rfl rfl (refOwn b.k v2 ((hbm b.k (by simp)).fr0 (hbw.tr g2)) (hbs b.k (by simp))) ?_
        rintro z v3 ⟨r3, rfl, x3, o3, e3⟩
        have g3 := g2.tr e3
        have hq := hq.add o3 e3 g2.size
        have hne := hne.add k9.lt o3
        have k9 := k9.fr0 e3
        refine mix_op ?_
        try refine mA rfl (by kernel_rfl) (by kernel_rfl) ?_
        refine mix1 rfl rfl ?_ g3
        refine ev_call rfl rfl rfl (refOwn b.v v3 ((hbm b.v (by simp)).fr0 (hbw.tr g3)) (hbs b.v (by simp))) ?_
        rintro z v4 ⟨r4, rfl, x4, o4, e4⟩
        have g4 := g3.tr e4
        have hq := hq.add o4 e4 g3.size
        have hne := hne.add k9.lt o4
        have k9 := k9.fr0 e4
        refine mix_op ?_
        try refine mA rfl (by kernel_rfl) (by kernel_rfl) ?_
        refine mix1 rfl rfl ?_ g4
        refine ev_call rfl rfl rfl (refOwn b.o v4 ((hbm b.o (by simp)).fr0 (hbw.tr g4)) (hbs b.o (by simp))) ?_
        rintro z v5 ⟨r5, rfl, x5, o5, e5⟩
        have g5 := g4.tr e5
        have hq := hq.add o5 e5 g4.size
        have hne := hne.add k9.lt o5
        have k9 := k9.fr0 e5
        refine mix_op ?_
        try refine mA rfl (by kernel_rfl) (by kernel_rfl) ?_
        refine mix1 rfl rfl ?_ g5
        refine ev_call rfl rfl rfl (refOwn b.g2 v5 ((hbm b.g2 (by simp)).fr0 (hbw.tr g5)) (hbs b.g2 (by simp))) ?_
        rintro z v6 ⟨r6, rfl, x6, o6, e6⟩
        have g6 := g5.tr e6
        have hq := hq.add o6 e6 g5.size
        have hne := hne.add k9.lt o6
        have k9 := k9.fr0 e6
        refine mix_op ?_
        try refine mA rfl (by kernel_rfl) (by kernel_rfl) ?_
        refine m_build (v := .agg ⟨obC b r1.v r2.v r3.v r4.v r5.v r6.v nilS nilS nilS 0 0 0⟩) 28 rfl rfl rfl (by kernel_rfl) (by kernel_rfl) rfl rfl rfl (fun w => by kernel_rfl) ?_
        try refine mA rfl (by kernel_rfl) (by kernel_rfl) ?_
        have hq : NR w11 v6 [r1, r2, r3, r4, r5, r6] := hq
        have hne : NP p9 [r1, r2, r3, r4, r5, r6] := hne
        refine mix1 rfl rfl ?_ g6
        refine ev_storeAgg tabOk rfl rfl rfl rfl rfl rfl k9 rfl (fun v7 k97 e7 => ?_)
        have g7 : Fr no w11 v7 := g6.trans e7 fun z hz e => by have : z = p9 := e; omega
        refine mix_op ?_
        refine mix_out rfl ?_ g7
        skip
        exact ev_out (p9, r1, r2, r3, r4, r5, r6) ⟨hp9, g7, k97, hq.fr e7 (fun r hr g hg e => hne r hr g hg e), hne, x1, x2, x3, x4, x5, x6⟩ ⟨rfl, rfl, rfl, rfl, rfl, rfl, rfl, rfl, trivial⟩
      refine ev_call rfl rfl rfl (refOwn b.q v1 ((hbm b.q (by simp)).fr0 (hbw.tr g1)) (hbs b.q (by simp))) ?_
      rintro z v2 ⟨r2, rfl, x2, o2, e2⟩
      have g2 := g1.tr e2
      have hq := hq.add o2 e2 g1.size
      refine mix_op ?_
      try refine mA rfl (by kernel_rfl) (by kernel_rfl) ?_
      refine mix2 rfl rfl rfl ?_ ?_ g2
      rotate_left
      · skip
        refine ev_alloc rfl rfl inf86 (fun p9 y2 hp k9 f => ?_)
        have hp9 : w11.heap.size ≤ p9 := Nat.le_trans g2.size hp
        have hne := NP.start hq hp
        have g2 := g2.tr f
        have hq := hq.fr0 f
        refine mix_op ?_
        try refine mA rfl (by kernel_rfl) (by kernel_rfl) ?_
        refine mix1 rfl rfl ?_ g2
        refine ev_call rfl rfl rfl (refOwn b.k y2 ((hbm b.k (by simp)).fr0 (hbw.tr g2)) (hbs b.k (by simp))) ?_
        rintro z v3 ⟨r3, rfl, x3, o3, e3⟩
        have g3 := g2.tr e3
        have hq := hq.add o3 e3 g2.size
        have hne := hne.add k9.lt o3
        have k9 := k9.fr0 e3
        refine mix_op ?_
        try refine mA rfl (by kernel_rfl) (by kernel_rfl) ?_
        refine mix1 rfl rfl ?_ g3
        refine ev_call rfl rfl rfl (refOwn b.v v3 ((hbm b.v (by simp)).fr0 (hbw.tr g3)) (hbs b.v (by simp))) ?_
        rintro z v4 ⟨r4, rfl, x4, o4, e4⟩
        have g4 := g3.tr e4
        have hq := hq.add o4 e4 g3.size
        have hne := hne.add k9.lt o4
        have k9 := k9.fr0 e4
        refine mix_op ?_
        try refine mA rfl (by kernel_rfl) (by kernel_rfl) ?_
        refine mix1 rfl rfl ?_ g4
        refine ev_call rfl rfl rfl (refOwn b.o v4 ((hbm b.o (by simp)).fr0 (hbw.tr g4)) (hbs b.o (by simp))) ?_
        rintro z v5 ⟨r5, rfl, x5, o5, e5⟩
        have g5 := g4.tr e5
        have hq := hq.add o5 e5 g4.size
        have hne := hne.add k9.lt o5
        have k9 := k9.fr0 e5
        refine mix_op ?_
        try refine mA rfl (by kernel_rfl) (by kernel_rfl) ?_
        refine mix1 rfl rfl ?_ g5
        refine ev_call rfl rfl rfl (refOwn b.g2 v5 ((hbm b.g2 (by simp)).fr0 (hbw.tr g5)) (hbs b.g2 (by simp))) ?_
        rintro z v6 ⟨r6, rfl, x6, o6, e6⟩
        have g6 := g5.tr e6
        have hq := hq.add o6 e6 g5.size
        have hne := hne.add k9.lt o6
        have k9 := k9.fr0 e6
        refine mix_op ?_
        try refine mA rfl (by kernel_rfl) (by kernel_rfl) ?_
        refine m_build (v := .agg ⟨obC b r1.v r2.v r3.v r4.v r5.v r6.v nilS nilS nilS 0 0 0⟩) 28 rfl rfl rfl (by kernel_rfl) (by kernel_rfl) rfl rfl rfl (fun w => by kernel_rfl) ?_
        try refine mA rfl (by kernel_rfl) (by kernel_rfl) ?_
        have hq : NR w11 v6 [r1, r2, r3, r4, r5, r6] := hq
        have hne : NP p9 [r1, r2, r3, r4, r5, r6] := hne
        refine mix1 rfl rfl ?_ g6
        refine ev_storeAgg tabOk rfl rfl rfl rfl rfl rfl k9 rfl (fun v7 k97 e7 => ?_)
        have g7 : Fr no w11 v7 := g6.trans e7 fun z hz e => by have : z = p9 := e; omega
        refine mix_op ?_
        refine mix_out rfl ?_ g7
        skip
        exact ev_out (p9, r1, r2, r3, r4, r5, r6) ⟨hp9, g7, k97, hq.fr e7 (fun r hr g hg e => hne r hr g hg e), hne, x1, x2, x3, x4, x5, x6⟩ ⟨rfl, rfl, rfl, rfl, rfl, rfl, rfl, rfl, trivial⟩
      refine ev_call rfl rfl rfl (refOwn b.k v2 ((hbm b.k (by simp)).fr0 (hbw.tr g2)) (hbs b.k (by simp))) ?_
      rintro z v3 ⟨r3, rfl, x3, o3, e3⟩
      have g3 := g2.tr e3
      have hq := hq.add o3 e3 g2.size
      refine mix_op ?_
      try refine mA rfl (by kernel_rfl) (by kernel_rfl) ?_
      refine mix2 rfl rfl rfl ?_ ?_ g3
      rotate_left
      · skip
        refine ev_alloc rfl rfl inf86 (fun p9 y3 hp k9 f => ?_)
        have hp9 : w11.heap.size ≤ p9 := Nat.le_trans g3.size hp
        have hne := NP.start hq hp
        have g3 := g3.tr f
        have hq := hq.fr0 f
        refine mix_op ?_
        try refine mA rfl (by kernel_rfl) (by kernel_rfl) ?_
        refine mix1 rfl rfl ?_ g3
        refine ev_call rfl rfl rfl (refOwn b.v y3 ((hbm b.v (by simp)).fr0 (hbw.tr g3)) (hbs b.v (by simp))) ?_
        rintro z v4 ⟨r4, rfl, x4, o4, e4⟩
        have g4 := g3.tr e4
        have hq := hq.add o4 e4 g3.size
        have hne := hne.add k9.lt o4
        have k9 := k9.fr0 e4
        refine mix_op ?_
        try refine mA rfl (by kernel_rfl) (by kernel_rfl) ?_
        refine mix1 rfl rfl ?_ g4
        refine ev_call rfl rfl rfl (refOwn b.o v4 ((hbm b.o (by simp)).fr0 (hbw.tr g4)) (hbs b.o (by simp))) ?_
        rintro z v5 ⟨r5, rfl, x5, o5, e5⟩
        have g5 := g4.tr e5
        have hq := hq.add o5 e5 g4.size
        have hne := hne.add k9.lt o5
        have k9 := k9.fr0 e5
        refine mix_op ?_
        try refine mA rfl (by kernel_rfl) (by kernel_rfl) ?_
        refine mix1 rfl rfl ?_ g5
        refine ev_call rfl rfl rfl (refOwn b.g2 v5 ((hbm b.g2 (by simp)).fr0 (hbw.tr g5)) (hbs b.g2 (by simp))) ?_
        rintro z v6 ⟨r6, rfl, x6, o6, e6⟩
        have g6 := g5.tr e6
        have hq := hq.add o6 e6 g5.size
        have hne := hne.add k9.lt o6
        have k9 := k9.fr0 e6
        refine mix_op ?_
        try refine mA rfl (by kernel_rfl) (by kernel_rfl) ?_
        refine m_build (v := .agg ⟨obC b r1.v r2.v r3.v r4.v r5.v r6.v nilS nilS nilS 0 0 0⟩) 28 rfl rfl rfl (by kernel_rfl) (by kernel_rfl) rfl rfl rfl (fun w => by kernel_rfl) ?_
        try refine mA rfl (by kernel_rfl) (by kernel_rfl) ?_
        have hq : NR w11 v6 [r1, r2, r3, r4, r5, r6] := hq
        have hne : NP p9 [r1, r2, r3, r4, r5, r6] := hne
        refine mix1 rfl rfl ?_ g6
        refine ev_storeAgg tabOk rfl rfl rfl rfl rfl rfl k9 rfl (fun v7 k97 e7 => ?_)
        have g7 : Fr no w11 v7 := g6.trans e7 fun z hz e => by have : z = p9 := e; omega
        refine mix_op ?_
        refine mix_out rfl ?_ g7
        skip
        exact ev_out (p9, r1, r2, r3, r4, r5, r6) ⟨hp9, g7, k97, hq.fr e7 (fun r hr g hg e => hne r hr g hg e), hne, x1, x2, x3, x4, x5, x6⟩ ⟨rfl, rfl, rfl, rfl, rfl, rfl, rfl, rfl, trivial⟩
      refine ev_call rfl rfl rfl (refOwn b.v v3 ((hbm b.v (by simp)).fr0 (hbw.tr g3)) (hbs b.v (by simp))) ?_
      rintro z v4 ⟨r4, rfl, x4, o4, e4⟩
      have g4 := g3.tr e4
      have hq := hq.add o4 e4 g3.size
      refine mix_op ?_
      try refine mA rfl (by kernel_rfl) (by kernel_rfl) ?_
      refine mix2 rfl rfl rfl ?_ ?_ g4
      rotate_left
      · skip
        refine ev_alloc rfl rfl inf86 (fun p9 y4 hp k9 f => ?_)
        have hp9 : w11.heap.size ≤ p9 := Nat.le_trans g4.size hp
        have hne := NP.start hq hp
        have g4 := g4.tr f
        have hq := hq.fr0 f
        refine mix_op ?_
        try refine mA rfl (by kernel_rfl) (by kernel_rfl) ?_
        refine mix1 rfl rfl ?_ g4
        refine ev_call rfl rfl rfl (refOwn b.o y4 ((hbm b.o (by simp)).fr0 (hbw.tr g4)) (hbs b.o (by simp))) ?_
        rintro z v5 ⟨r5, rfl, x5, o5, e5⟩
        have g5 := g4.tr e5
        have hq := hq.add o5 e5 g4.size
        have hne := hne.add k9.lt o5
        have k9 := k9.fr0 e5
        refine mix_op ?_
        try refine mA rfl (by kernel_rfl) (by kernel_rfl) ?_
        refine mix1 rfl rfl ?_ g5
        refine ev_call rfl rfl rfl (refOwn b.g2 v5 ((hbm b.g2 (by simp)).fr0 (hbw.tr g5)) (hbs b.g2 (by simp))) ?_
        rintro z v6 ⟨r6, rfl, x6, o6, e6⟩
        have g6 := g5.tr e6
        have hq := hq.add o6 e6 g5.size
        have hne := hne.add k9.lt o6
        have k9 := k9.fr0 e6
        refine mix_op ?_
        try refine mA rfl (by kernel_rfl) (by kernel_rfl) ?_
        refine m_build (v := .agg ⟨obC b r1.v r2.v r3.v r4.v r5.v r6.v nilS nilS nilS 0 0 0⟩) 28 rfl rfl rfl (by kernel_rfl) (by kernel_rfl) rfl rfl rfl (fun w => by kernel_rfl) ?_
        try refine mA rfl (by kernel_rfl) (by kernel_rfl) ?_
        have hq : NR w11 v6 [r1, r2, r3, r4, r5, r6] := hq
        have hne : NP p9 [r1, r2, r3, r4, r5, r6] := hne
        refine mix1 rfl rfl ?_ g6
        refine ev_storeAgg tabOk rfl rfl rfl rfl rfl rfl k9 rfl (fun v7 k97 e7 => ?_)
        have g7 : Fr no w11 v7 := g6.trans e7 fun z hz e => by have : z = p9 := e; omega
        refine mix_op ?_
        refine mix_out rfl ?_ g7
        skip
        exact ev_out (p9, r1, r2, r3, r4, r5, r6) ⟨hp9, g7, k97, hq.fr e7 (fun r hr g hg e => hne r hr g hg e), hne, x1, x2, x3, x4, x5, x6⟩ ⟨rfl, rfl, rfl, rfl, rfl, rfl, rfl, rfl, trivial⟩
      refine ev_call rfl rfl rfl (refOwn b.o v4 ((hbm b.o (by simp)).fr0 (hbw.tr g4)) (hbs b.o (by simp))) ?_
      rintro z v5 ⟨r5, rfl, x5, o5, e5⟩
      have g5 := g4.tr e5
      have hq := hq.add o5 e5 g4.size
      refine mix_op ?_
      try refine mA rfl (by kernel_rfl) (by kernel_rfl) ?_
      refine mix2 rfl rfl rfl ?_ ?_ g5
      rotate_left
      · skip
        refine ev_alloc rfl rfl inf86 (fun p9 y5 hp k9 f => ?_)
        have hp9 : w11.heap.size ≤ p9 := Nat.le_trans g5.size hp
        have hne := NP.start hq hp
        have g5 := g5.tr f
        have hq := hq.fr0 f
        refine mix_op ?_
        try refine mA rfl (by kernel_rfl) (by kernel_rfl) ?_
        refine mix1 rfl rfl ?_ g5
        refine ev_call rfl rfl rfl (refOwn b.g2 y5 ((hbm b.g2 (by simp)).fr0 (hbw.tr g5)) (hbs b.g2 (by simp))) ?_
        rintro z v6 ⟨r6, rfl, x6, o6, e6⟩
        have g6 := g5.tr e6
        have hq := hq.add o6 e6 g5.size
        have hne := hne.add k9.lt o6
        have k9 := k9.fr0 e6
        refine mix_op ?_
        try refine mA rfl (by kernel_rfl) (by kernel_rfl) ?_
        refine m_build (v := .agg ⟨obC b r1.v r2.v r3.v r4.v r5.v r6.v nilS nilS nilS 0 0 0⟩) 28 rfl rfl rfl (by kernel_rfl) (by kernel_rfl) rfl rfl rfl (fun w => by kernel_rfl) ?_
        try refine mA rfl (by kernel_rfl) (by kernel_rfl) ?_
        have hq : NR w11 v6 [r1, r2, r3, r4, r5, r6] := hq
        have hne : NP p9 [r1, r2, r3, r4, r5, r6] := hne
        refine mix1 rfl rfl ?_ g6
        refine ev_storeAgg tabOk rfl rfl rfl rfl rfl rfl k9 rfl (fun v7 k97 e7 => ?_)
        have g7 : Fr no w11 v7 := g6.trans e7 fun z hz e => by have : z = p9 := e; omega
        refine mix_op ?_
        refine mix_out rfl ?_ g7
        skip
        exact ev_out (p9, r1, r2, r3, r4, r5, r6) ⟨hp9, g7, k97, hq.fr e7 (fun r hr g hg e => hne r hr g hg e), hne, x1, x2, x3, x4, x5, x6⟩ ⟨rfl, rfl, rfl, rfl, rfl, rfl, rfl, rfl, trivial⟩
      refine ev_call rfl rfl rfl (refOwn b.g2 v5 ((hbm b.g2 (by simp)).fr0 (hbw.tr g5)) (hbs b.g2 (by simp))) ?_
      rintro z v6 ⟨r6, rfl, x6, o6, e6⟩
      have g6 := g5.tr e6
      have hq := hq.add o6 e6 g5.size
      refine mix_op ?_
      try refine mA rfl (by kernel_rfl) (by kernel_rfl) ?_
      refine m_build (v := .agg ⟨obC b r1.v r2.v r3.v r4.v r5.v r6.v nilS nilS nilS 0 0 0⟩) 28 rfl rfl rfl (by kernel_rfl) (by kernel_rfl) rfl rfl rfl (fun w => by kernel_rfl) ?_
      refine mix1 rfl rfl ?_ g6
      refine ev_alloc rfl rfl inf86 (fun p9 y6 hp k9 f => ?_)
      have hp9 : w11.heap.size ≤ p9 := Nat.le_trans g6.size hp
      have hne := NP.start hq hp
      have g6 := g6.tr f
      have hq := hq.fr0 f
      refine mix_op ?_
      try refine mA rfl (by kernel_rfl) (by kernel_rfl) ?_
      have hq : NR w11 y6 [r1, r2, r3, r4, r5, r6] := hq
      have hne : NP p9 [r1, r2, r3, r4, r5, r6] := hne
      refine mix1 rfl rfl ?_ g6
      refine ev_storeAgg tabOk rfl rfl rfl rfl rfl rfl k9 rfl (fun v7 k97 e7 => ?_)
      have g7 : Fr no w11 v7 := g6.trans e7 fun z hz e => by have : z = p9 := e; omega
      refine mix_op ?_
      refine mix_out rfl ?_ g7
      skip
      exact ev_out (p9, r1, r2, r3, r4, r5, r6) ⟨hp9, g7, k97, hq.fr e7 (fun r hr g hg e => hne r hr g hg e), hne, x1, x2, x3, x4, x5, x6⟩ ⟨rfl, rfl, rfl, rfl, rfl, rfl, rfl, rfl, trivial⟩
    rintro ⟨p9, r1, r2, r3, r4, r5, r6⟩ w12 ⟨hp9, g12, k9, hq, hne, hx6⟩
    dsimp only at hp9 k9 hq hne hx6
    have k8 := k8.fr0 g12
    have hI2 := hI1.fr0 g12
    have hp9l := k9.lt
    have hbw2 := hbw.tr g12
    have h89 : ¬ p8 = p9 := by omega
    refine sA [] rfl ?_
    refine ev_join1 (α := Rw × Rw × Rw) (fun y => [(1, .pointer (some ⟨p1, 0, none⟩)), (2, .pointer (some ⟨p2, 0, none⟩)), (4, .pointer (some ⟨p4, 0, none⟩)), (85, .slice m.bA m.bs.length m.bc), (86, i64 m.bs.length), (87, i64 j), (8, .pointer (some ⟨p8, 0, none⟩)), (9, .pointer (some ⟨p9, 0, none⟩))])
      (fun y w' => Fr (fun c => c = p9) w12 w' ∧ Blk w' p9 (obC b r1.v r2.v r3.v r4.v r5.v r6.v y.1.v y.2.1.v y.2.2.v b.gas b.ups b.dns) 86 ∧ NR w12 w' [y.1, y.2.1, y.2.2] ∧ (y.1.xs = b.ga.xs ∧ y.2.1.xs = b.up.xs ∧ y.2.2.xs = b.dn.xs)) ?_ ?_
    · refine mixC_in (fun w' => Fr (fun c => c = p9) w12 w') mixed (fun v0 g0 => ?_)
      have hq := NR.nil w12 v0
      refine mA rfl (by kernel_rfl) (by kernel_rfl) ?_
      refine m_load 2 rfl rfl rfl (by kernel_rfl) (by kernel_rfl) rfl rfl tabOk rfl rfl (fun w' h => (k8.fr h h89).cell rfl) ?_
      refine m_load 6 rfl rfl rfl (by kernel_rfl) (by kernel_rfl) rfl rfl tabOk rfl rfl (fun w' h => (k8.fr h h89).cell rfl) ?_
      refine m_load 10 rfl rfl rfl (by kernel_rfl) (by kernel_rfl) rfl rfl tabOk rfl rfl (fun w' h => (k8.fr h h89).cell rfl) ?_
      refine m_load 14 rfl rfl rfl (by kernel_rfl) (by kernel_rfl) rfl rfl tabOk rfl rfl (fun w' h => (k8.fr h h89).cell rfl) ?_
      refine m_load 17 rfl rfl rfl (by kernel_rfl) (by kernel_rfl) rfl rfl tabOk rfl rfl (fun w' h => (k8.fr h h89).cell rfl) ?_
      refine m_load 20 rfl rfl rfl (by kernel_rfl) (by kernel_rfl) rfl rfl tabOk rfl rfl (fun w' h => (k8.fr h h89).cell rfl) ?_
      refine mix1 rfl rfl ?_ (g0.mono fun _ _ z => z.elim)
      refine ev_call rfl rfl rfl (refOwn b.ga v0 ((hbm b.ga (by simp)).fr0 (hbw2.tr g0)) (hbs b.ga (by simp))) ?_
      rintro z v1 ⟨t1, rfl, x1, o1, e1⟩
      have g1 := g0.tr e1
      have hq := hq.add o1 e1 g0.size
      refine mix_op ?_
      try refine mA rfl (by kernel_rfl) (by kernel_rfl) ?_
      refine mix1 rfl rfl ?_ (g1.mono fun _ _ z => z.elim)
      refine ev_call rfl rfl rfl (refOwn b.up v1 ((hbm b.up (by simp)).fr0 (hbw2.tr g1)) (hbs b.up (by simp))) ?_
      rintro z v2 ⟨t2, rfl, x2, o2, e2⟩
      have g2 := g1.tr e2
      have hq := hq.add o2 e2 g1.size
      refine mix_op ?_
      try refine mA rfl (by kernel_rfl) (by kernel_rfl) ?_
      refine mix1 rfl rfl ?_ (g2.mono fun _ _ z => z.elim)
      refine ev_call rfl rfl rfl (refOwn b.dn v2 ((hbm b.dn (by simp)).fr0 (hbw2.tr g2)) (hbs b.dn (by simp))) ?_
      rintro z v3 ⟨t3, rfl, x3, o3, e3⟩
      have g3 := g2.tr e3
      have hq := hq.add o3 e3 g2.size
      refine mix_op ?_
      try refine mA rfl (by kernel_rfl) (by kernel_rfl) ?_
      have hq : NR w12 v3 [t1, t2, t3] := hq
      refine m_build (v := .agg ⟨[t1.v, t2.v, t3.v, i64 b.gas, i64 b.ups, i64 b.dns]⟩) 21 rfl rfl rfl (by kernel_rfl) (by kernel_rfl) rfl rfl rfl (fun w => by kernel_rfl) ?_
      try refine mA rfl (by kernel_rfl) (by kernel_rfl) ?_
      refine mix1 rfl rfl ?_ (g3.mono fun _ _ z => z.elim)
      refine ev_storePart tabOk rfl rfl rfl rfl rfl rfl (k9.fr0 g3) (Nat.le_refl 17) (fun v4 k94 e4 => ?_)
      have g4 : Fr (fun c => c = p9) w12 v4 := (g3.mono fun _ _ z => z.elim).trans e4 fun _ _ z => z
      have k94 : Blk v4 p9 (obC b r1.v r2.v r3.v r4.v r5.v r6.v t1.v t2.v t3.v b.gas b.ups b.dns) 86 := k94
      refine mix_op ?_
      refine mix_out rfl ?_ g4
      skip
      exact ev_out (t1, t2, t3) ⟨g4, k94, hq.fr e4 (hq.ge hp9l), x1, x2, x3⟩ ⟨rfl, rfl, rfl, rfl, rfl, rfl, rfl, rfl, trivial⟩
    rintro ⟨t1, t2, t3⟩ w13 ⟨g13, k13, hq2, hx3⟩
    dsimp only at k13 hq2 hx3
    have h1113 : Fr no w11 w13 := g12.trans g13 fun z hz e => by have : z = p9 := e; omega
    obtain ⟨bn, hbn⟩ : ∃ bn : Bk Rw, bn = ⟨r1, r2, r3, r4, r5, r6, b.qs, b.ks, b.vs, b.os, b.ss, t1, t2, t3, b.gas, b.ups, b.dns⟩ := ⟨_, rfl⟩
    have hbnp : pBk bn = pBk b := by
      rw [hbn]
      obtain ⟨y1, y2, y3, y4, y5, y6⟩ := hx6
      obtain ⟨y7, y8, y9⟩ := hx3
      simp only [Bk.map, y1, y2, y3, y4, y5, y6, y7, y8, y9]
    have k13 : Blk w13 p9 (bkC bn) 86 := by rw [hbn]; exact k13
    have hqn : NR w11 w13 bn.rows := by
      have h1 := hq.fr g13 (fun r hr g hg e => hne r hr g hg e)
      have h2 := h1.join hq2 g12.size (fun r hr g hg => (hq.rows r hr).lt hg)
      rw [hbn]
      exact h2.perm (perm9 r1 r2 r3 r4 r5 r6 t1 t2 t3)
    have hI3 := hI1.fr0 h1113
    have hom3 := hI1.om.app h1113 hqn hI1.ge.2
    clear hq hne hq2 k9 k8 hI2 hbn hqn hI1
    have hk43 := hI3.k4
    refine sA [] rfl ?_; refine ev_loadB rfl rfl tabOk rfl rfl ‹_› (by rfl) ?_; refine ev_loadAggB rfl rfl tabOk rfl rfl ‹_› (by rfl) ?_
    have hmlo : ∀ g, bv.ownBlock = some g → w5.heap.size ≤ g ∧ g < w13.heap.size := fun g hg => have z := hI3.om.lo bv (by simp) g hg; ⟨z.1, z.2.1⟩
    have hnb : ∀ b, b < w5.heap.size → ¬ bv.ownBlock = some b := fun b hb e => by have := (hmlo b e).1; omega
    refine ev_append1 (vs := [bkV bn]) tabOk rfl rfl (fun _ => rfl) rfl rfl inf86 rfl (by omega) (fun _ => rfl) rfl rfl (fun v hv => by rw [List.mem_singleton.1 hv]; rfl) (allOne_ok rfl) rfl hI3.bk (by omega) (fun bv' w14 bq hB14 f14 hn14 => ?_)
    have hlt14 : ∀ g, bv'.ownBlock = some g → g < w14.heap.size := fun g hg => hB14.lt hg
    have hom4 := hom3.setB f14 hn14 hlt14 hI3.ge.2
    have k414 := hI3.k4.fr f14 (hnb _ hI3.lt.2.2)
    have hmlo' : ∀ g, bv'.ownBlock = some g → w5.heap.size ≤ g := fun g hg => (hom4.lo bv' (by simp) g hg).1
    refine sA [] rfl ?_
    refine ev_store tabOk rfl rfl rfl rfl rfl (own1 hB14) k414 rfl (fun w15 k415 f15 => ?_)
    have k415 : Blk w15 p4 (ofC m.s tv mv e.v m.es cos.v sin.v bv' bend.v gain.v un.v m.ls) 56 := k415
    have hp4lt := hI3.lt.2.2
    have hJ : OfS 47 56 134 86 m w w5 w15 p1 p2 p4 zC bv' mv tv e cos sin bend gain un m.V.merges.length (bs ++ [bn]) :=
      ⟨(hI3.fr.trans f14 fun z hz e => by have := (hmlo z e).1; have := hI3.ge.1; omega).trans f15 fun z hz e => by have : z = p4 := e; have := hI3.lo; omega,
       ⟨hI3.ge.1, by have := f14.size; have := f15.size; have := hI3.ge.2; omega⟩, hI3.lt, hI3.lo, hI3.ne,
       (hI3.k1.fr f14 (hnb _ hI3.lt.1)).fr f15 (fun e => hI3.ne.2.1 e), (hI3.k2.fr f14 (hnb _ hI3.lt.2.1)).fr f15 (fun e => hI3.ne.2.2 e), k415,
       by
        have := hom4.old hp4lt f15
        rw [List.flatMap_append, List.flatMap_cons, List.flatMap_nil, List.append_nil, ← List.append_assoc]; exact this,
       (hI3.tx.fr f14 (fun g hg e => (hI3.om.tm g hg).2 e)).fr f15 (fun g hg e => by have : g = p4 := e; have := (hI3.om.lo tv (by simp) g hg).1; omega),
       (hI3.mg.fr f14 (fun g hg e => hI3.om.mb g hg e)).fr f15 (fun g hg e => by have : g = p4 := e; have := (hI3.om.lo mv (by simp) g hg).1; omega),
       by
        rw [flat_app1, List.length_append]
        exact hB14.fr f15 (fun g hg e => by have : g = p4 := e; have := hmlo' g hg; omega),
       hI3.xs, by rw [List.map_append, hbx, List.length_append]; show _ ++ [pBk bn] = _; rw [hbnp]; exact htk.symm⟩
    refine sA [] rfl ?_; refine ev_arith rfl rfl rfl rfl rfl (by simp only [lowK, hiK]; omega) ?_; refine sA [] rfl ?_
    refine fun a hA => ⟨(j + 1, bv', bs ++ [bn]), by show m.bs.length - (j + 1) < m.bs.length - j; omega, ⟨by show j + 1 ≤ _; omega, by show (bs ++ [bn]).length = j + 1; rw [List.length_append, hjl]; rfl, hJ⟩, hA.sub ⟨rfl, rfl, rfl, rfl, rfl, by show _ = some (i64 ((j + 1 : Nat) : Int)); rw [show ((j + 1 : Nat) : Int) = (j : Int) + 1 by omega]; rfl, trivial⟩⟩
  have hjn : bs.length = m.bs.length := by have c : ¬ (j : Int) < m.bs.length := c; omega
  obtain ⟨tA, tc, rfl, _⟩ := hI.tx.slice
  obtain ⟨mA, mc, rfl, _⟩ := hI.mg.slice
  obtain ⟨bA, bc, rfl, _⟩ := hI.bk.slice
  have hk4 := hI.k4
  refine sA [] rfl ?_; refine ev_loadAggB rfl rfl tabOk rfl rfl ‹_› (by rfl) ?_
  refine ev_storeAgg tabOk rfl rfl rfl rfl rfl rfl hI.k2 rfl (fun wz kz fz => ?_)
  obtain ⟨m', hm'⟩ : ∃ m' : LM, m' = ⟨m.s, tA, tc, mA, mc, m.V, e, m.es, cos, sin, bA, bc, bs, bend, gain, un, m.ls⟩ := ⟨_, rfl⟩
  have kz : Blk wz p2 (lmC m') 56 := by rw [hm']; exact kz
  have hp2t := hI.lt.2.1
  have hge5 := hI.ge.1
  have hpx : m'.p = m.p := by
    rw [hm']
    obtain ⟨e1, e2, e3, e4, e5, e6⟩ := hI.xs
    have eb : bs.map pBk = m.bs.map pBk := by have := hI.bx; rwa [hjn, List.take_length] at this
    simp only [LM.p, e1, e2, e3, e4, e5, e6, eb]
  have hno : ∀ (v : Value), v ∈ [Value.slice bA bs.length bc, .slice mA m.V.merges.length mc, .slice tA m.V.texts.length tc] → ∀ g, v.ownBlock = some g → ¬ g = p2 := fun v hv g hg e => by have := (hI.om.lo v hv g hg).1; omega
  have hOw : OwnM 134 86 w wz m' := by
    have hom := hI.om.old hp2t fz
    have ht := hI.tx.fr fz (fun g hg e => hno _ (by simp) g hg e)
    have hmm := hI.mg.fr fz (fun g hg e => hno _ (by simp) g hg e)
    have hbb := hI.bk.fr fz (fun g hg e => hno _ (by simp) g hg e)
    rw [List.take_length] at hmm
    subst hm'
    exact hom.own (permM e cos sin bend gain un _) ht hmm hbb (hI.fr.trans fz fun z hz e => by have : z = p2 := e; have := hI.lo; omega) hge5
  refine sA [] rfl ?_
  exact retG tabOk (.inr rfl) rfl [lmV m'] ⟨⟨_, rfl, .inl ⟨rfl, _, rfl, rfl, Cs.of_blk kz⟩⟩, trivial⟩ ⟨m', rfl, hpx, hOw⟩
end Go.Wk.YtdelgnflcfhhkaaGreatDoor
