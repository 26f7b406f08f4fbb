/-
  Chapter 17: the document's Merge: the walk, to its end.
-/
import Derived.Test.YtdelgnflcfhhkaaFmD
set_option linter.unusedVariables false
namespace Go.Wk.Ytdelgnflcfhhkaa
open Go Go.Wk Go.Proofs

/-- a block of a row put anew -/
def putB (B : List (Bk Rw)) (k : Nat) (b : Bk Rw) : List (Bk Rw) := B.take k ++ [b] ++ B.drop (k + 1)
theorem putB_len {B : List (Bk Rw)} {k : Nat} {b : Bk Rw} (h : k < B.length) : (putB B k b).length = B.length := by
  unfold putB; simp; omega
theorem flat_takeK : ∀ (l : List (Bk Rw)) (k : Nat), (l.flatMap bkC).take (k * 17) = (l.take k).flatMap bkC
  | _, 0 => by simp
  | [], k + 1 => by simp
  | b :: l, k + 1 => by
    have hl : (bkC b).length = 17 := bkC_len b
    rw [List.flatMap_cons, List.take_succ_cons, List.flatMap_cons, List.take_append, List.take_of_length_le (by omega), hl, show (k + 1) * 17 - 17 = k * 17 by omega, flat_takeK l k]
theorem flat_dropK : ∀ (l : List (Bk Rw)) (k : Nat), (l.flatMap bkC).drop (k * 17) = (l.drop k).flatMap bkC
  | _, 0 => by simp
  | [], k + 1 => by simp
  | b :: l, k + 1 => by
    have hl : (bkC b).length = 17 := bkC_len b
    rw [List.flatMap_cons, List.drop_succ_cons, List.drop_append, List.drop_eq_nil_of_le (by omega), hl, show (k + 1) * 17 - 17 = k * 17 by omega, flat_dropK l k, List.nil_append]
theorem putB_flat (B : List (Bk Rw)) (k : Nat) (b : Bk Rw) : (putB B k b).flatMap bkC = (B.flatMap bkC).take (k * 17) ++ bkC b ++ (B.flatMap bkC).drop (k * 17 + 17) := by
  rw [flat_takeK, show k * 17 + 17 = (k + 1) * 17 by omega, flat_dropK]
  unfold putB
  simp [List.flatMap_append]
theorem putB_map {B : List (Bk Rw)} {k : Nat} (h : k < B.length) {b : Bk Rw} {f : Bk (List Int8) → Bk (List Int8)} (hb : pBk b = f (pBk B[k])) : (putB B k b).map pBk = (B.map pBk).modify k f := by
  rw [List.modify_eq_take_cons_drop (by simpa using h), List.getElem_map, ← hb]
  unfold putB
  simp [List.map_append, List.map_take, List.map_drop]
theorem putB_mem {B : List (Bk Rw)} {k : Nat} {b x : Bk Rw} (h : x ∈ putB B k b) : x = b ∨ x ∈ B := by
  unfold putB at h
  simp only [List.mem_append, List.mem_singleton] at h
  rcases h with (h | h) | h
  · exact .inr (List.mem_of_mem_take h)
  · exact .inl h
  · exact .inr (List.mem_of_mem_drop h)
theorem RA.frB {w w' w2 : World} {r : Rw} {p : Nat} {cs : List Value} {T : TypeId} (h : RA w w' r) (hk : Blk w' p cs T) (hne : T ≠ 60) (hf : Fr (fun c => c = p) w' w2) : RA w w2 r :=
  h.elim .inl fun h => .inr (h.fr hf fun z hz e => blk_own_ne hk h.1 hz hne (by have e : z = p := e; exact e.symm))
set_option maxHeartbeats 64000000 in
set_option maxRecDepth 10000 in
theorem refAdMerge (t : LM) (Aad : Option Addr) (cap : Nat) (l : List Adp) (w : World) (ht : t.At w) (hl : t.Sm) (hcap : t.Cap) (hA : Cs w Aad (l.flatMap Adp.C)) (hAr : ∀ a ∈ l, a.A.At w ∧ a.B.At w) (hll : l.length ≤ 1000000000) :
    CallsF Try.prog 22 [lmV t, .slice Aad l.length cap] w fun r w' => ∃ y : LM, r = .tuple #[lmV y, i64 (mergeQ t.p l).2.1, i64 (mergeQ t.p l).2.2] ∧ y.p = (mergeQ t.p l).1 ∧ y.At w' ∧ Fr no w w' := by
  unfold mergeQ
  have zat : ∀ w', zM.At w' := fun w' => (zM_own (TM := 0) (TB := 0) (Fr.refl no w')).At
  refine callsF Try.func22 rfl rfl (by decide) rfl ?_
  refine sA [] rfl ?_
  refine ev_box rfl rfl rfl fun p2 w1 hp2 k2 f1 => ?_
  have k2 : Blk w1 p2 (lmC t) 41 := k2
  have l2 : p2 < w1.heap.size := k2.lt
  refine ev_alloc rfl rfl inf41 (fun p4 w2 hp4 k4 f2 => ?_)
  have k4 : Blk w2 p4 (lmC zM) 41 := k4
  have l4 : p4 < w2.heap.size := k4.lt
  refine sA [] rfl ?_
  refine ev_build rfl rfl (v := lmV zM) rfl (fun w => by kernel_rfl) ?_
  refine ev_alloc rfl rfl inf41 (fun p7 w3 hp7 k7 f3 => ?_)
  have l7 : p7 < w3.heap.size := k7.lt
  refine ev_storeAgg tabOk rfl rfl rfl rfl rfl rfl k7 rfl (fun w4 k7 f4 => ?_)
  have k7 : Blk w4 p7 (lmC zM) 41 := k7
  have s1 := f1.size
  have s2 := f2.size
  have s3 := f3.size
  have s4 := f4.size
  have h24 : Fr no w2 w4 := f3.trans f4 fun z hz e => by have : z = p7 := e; omega
  have k2 := (k2.fr0 f2).fr0 h24
  have k4 := k4.fr0 h24
  have hF := (f1.tr f2).tr h24
  have hn24 : p2 ≠ p4 := fun e => by omega
  have hn27 : p2 ≠ p7 := fun e => by omega
  have hn47 : p4 ≠ p7 := fun e => by omega
  have hp2w : w.heap.size ≤ p2 := hp2
  have hp4w : w.heap.size ≤ p4 := by omega
  have hp7w : w.heap.size ≤ p7 := by omega
  refine sA [] rfl ?_; refine ev_loadAggB rfl rfl tabOk rfl rfl ‹_› (by rfl) ?_
  refine ev_call rfl rfl rfl (refValid t w4 (ht.fr0 hF) hl hcap) ?_
  rintro r w5 ⟨rfl, f5⟩
  have k2 := k2.fr0 f5
  have k4 := k4.fr0 f5
  have k7 := k7.fr0 f5
  have hF := hF.tr f5
  have hvm := @vm_of t.p
  obtain ⟨a0, ha0⟩ : ∃ a0, a0 = validQ t.p := ⟨_, rfl⟩
  rw [← ha0] at hvm ⊢
  refine sC [] rfl ?_; refine sC [] rfl ?_; refine sC [] rfl ?_; refine sD [] rfl ?_
  refine ev_condD rfl (fun c => ?_) (fun c => ?_)
  · have h0 : ¬ a0.2.2 = 0 := by simpa using c
    rw [if_neg h0]
    refine sA [] rfl ?_; refine ev_loadAggB rfl rfl tabOk rfl rfl ‹_› (by rfl) ?_; refine sA [] rfl ?_
    refine ev_storeAgg tabOk rfl rfl rfl rfl rfl rfl k4 rfl (fun w6 k6 f6 => ?_)
    have hF6 : Fr no w w6 := hF.trans f6 fun z hz e => by have : z = p4 := e; omega
    refine sA [] rfl ?_
    exact retG tabOk (.inr rfl) rfl [lmV zM, i64 (-1), i64 a0.2.2] ⟨⟨_, rfl, .inl ⟨rfl, _, rfl, rfl, Cs.of_blk k6⟩⟩, rfl, rfl, trivial⟩ ⟨zM, rfl, rfl, zat _, hF6⟩
  have h0 : a0.2.2 = 0 := by simpa using c
  rw [if_pos h0]
  have hV := hvm h0
  obtain ⟨d1, d2⟩ : (2 : Int) ≤ t.s.dim ∧ t.s.dim ≤ 64 := hV.s.2.2.1
  obtain ⟨d, hd⟩ : ∃ d : Nat, t.s.dim = d := Int.eq_ofNat_of_zero_le (by omega)
  have hdp : t.p.s.dim = (d : Int) := hd
  have hd64 : d ≤ 64 := by omega
  have hsqA := vm_sq hV hdp
  have hlay : t.bs.length ≤ 8 := by
    have h1 : ((t.p.bs).length : Int) = t.s.lay := hV.lay
    have h2 : t.s.lay ≤ 8 := hV.s.2.2.2.2.2.2.1.2
    rw [show (t.p.bs).length = t.bs.length from List.length_map _] at h1
    omega
  have hpl : t.p.bs.length = t.bs.length := List.length_map _
  rw [hdp, Int.toNat_natCast, hpl]
  clear c
  refine sA [] rfl ?_; refine ev_loadB rfl rfl tabOk rfl rfl ‹_› (by rfl) ?_; refine sA [] rfl ?_
  rw [hd]
  skip
  refine ev_buildSlice tabOk rfl rfl rfl inf100 rfl rfl rfl (by simp) rfl (fun q w6 hq kq f6 => ?_)
  have ho0 : Own w6 100 17 (.slice (some ⟨q, 0, none⟩) 0 0) 0 [] := own_of_blk (m := 0) (sz := 17) kq rfl (by omega)
  have k2 := k2.fr0 f6
  have k4 := k4.fr0 f6
  have k7 := k7.fr0 f6
  have hF := hF.tr f6
  refine sA [] rfl ?_; refine ev_loadB rfl rfl tabOk rfl rfl ‹_› (by rfl) ?_
  refine ev_append (xs := []) (A := t.bA) (m := t.bs.length) (c := t.bc) (news := t.bs.flatMap bkC) tabOk rfl rfl rfl inf100 rfl (by omega) rfl rfl ho0 (ht.fr0 hF).blk (by rw [flat_len bkC_len]) (fun u hu => by obtain ⟨x, _, hu⟩ := List.mem_flatMap.1 hu; exact allOne_ok (l := bkC x) rfl u hu) (by omega) (fun bv w7 ho f7 hn7 => ?_)
  rw [Nat.zero_add, List.nil_append] at ho
  have hn7 := NB.of hn7
  have f7s := f7.size
  have s5 := f5.size
  have s6 := f6.size
  have hq4 : w5.heap.size ≤ q := hq
  have hbv : ∀ g, bv.ownBlock = some g → w5.heap.size ≤ g := fun g hg => by
    rcases hn7 g hg with h | h
    · cases h; exact hq
    · omega
  have fq : Fr (fun c => c = q) w6 w7 := f7.mono fun z _ e => by have e : some q = some z := e; cases e; rfl
  have k2 := k2.fr fq (fun e => by omega)
  have k4 := k4.fr fq (fun e => by omega)
  have k7 := k7.fr fq (fun e => by omega)
  have hF := hF.trans fq fun z hz e => by have e : z = q := e; omega
  obtain ⟨bA, bc, rfl, _, _⟩ := ho.slice
  have l7w : p2 < w5.heap.size ∧ p4 < w5.heap.size ∧ p7 < w5.heap.size := ⟨by omega, by omega, by omega⟩
  obtain ⟨gB, hgA, hgo⟩ := own_atz (i := 0) ho (by
    have h1 : ((t.p.bs).length : Int) = t.s.lay := hV.lay
    have h2 : 1 ≤ t.s.lay := hV.s.2.2.2.2.2.2.1.1
    omega)
  have hgB := hbv gB hgo
  have hn2g : p2 ≠ gB := fun e => by omega
  have hn4g : p4 ≠ gB := fun e => by omega
  have hn7g : p7 ≠ gB := fun e => by omega
  clear kq ho0 f7 fq hn7 hbv
  have h57 : w5.heap.size ≤ w7.heap.size := by have := f7s; omega
  obtain ⟨J, hJ⟩ : ∃ J : Nat → List (Bk Rw) → World → Prop, J = fun i B w' => i ≤ l.length ∧ (∀ j (hj : j < l.length), j < i → okA t.bs.length d l[j]) ∧ B.map pBk = (l.take i).foldl (stepA d) t.p.bs ∧ B.length = t.bs.length ∧
    Own w' 100 17 (.slice bA t.bs.length bc) t.bs.length (B.flatMap bkC) ∧ (∀ b ∈ B, GB w w' b) ∧ w5.heap.size ≤ w'.heap.size ∧ Fr no w w' ∧ Blk w' p2 (lmC t) 41 ∧ Blk w' p4 (lmC zM) 41 ∧ Blk w' p7 (lmC zM) 41 := ⟨_, rfl⟩
  have hJ0 : J 0 t.bs w7 := by
    rw [hJ]
    refine ⟨Nat.zero_le _, fun j hj h => by omega, rfl, rfl, ho, fun b hb => ⟨fun r hr => ⟨.inl (ht.bs b hb r hr), hl.bs b hb r hr⟩, hcap b hb⟩, h57, hF, k2, k4, k7⟩
  clear k2 k4 k7 ho hF
  refine sA [] rfl ?_
  refine ev_loop (α := Nat × List (Bk Rw)) (fun z => [(1, .slice Aad l.length cap), (2, ptA p2 0), (4, ptA p4 0), (7, ptA p7 0), (11, i64 d), (12, .slice bA t.bs.length bc), (13, i64 z.1)])
    (fun z w' => J z.1 z.2 w') (fun z => l.length - z.1) (0, t.bs) ⟨rfl, rfl, rfl, rfl, rfl, rfl, rfl, trivial⟩ hJ0 ?_
  rintro ⟨i, B⟩ wl hj
  rw [hJ] at hj
  obtain ⟨hi, hok, hBp, hBl, ho, hG, hwl5, hF, k2, k4, k7⟩ := hj
  have hi : i ≤ l.length := hi
  simp only at hok hBp hBl ho hG
  refine sC [] rfl ?_; refine sC [] rfl ?_
  refine ev_condD rfl (fun c => ?_) (fun c => ?_)
  · have hil : i < l.length := by omega
    obtain ⟨ga, oa, hAa, hac⟩ := adp_at (hA.fr0 hF) hil
    have hai := hAr l[i] (List.getElem_mem hil)
    have hbad : ¬ okA t.bs.length d l[i] → firstB t.bs.length d l = i := fun h => first_bad hil (fun j hj => hok j (by omega) hj) h
    have hst := foldA_take d l t.p.bs hil
    have hoki : okA t.bs.length d l[i] → ∀ j (hj : j < l.length), j < i + 1 → okA t.bs.length d l[j] := fun h j hj h2 => by
      by_cases e : j = i
      · subst e; exact h
      · exact hok j hj (by omega)
    obtain ⟨a, ha⟩ : ∃ a, a = l[i] := ⟨_, rfl⟩
    rw [← ha] at hac hai hbad hst hoki
    refine sA [] rfl ?_
    refine ev_indexAddr rfl rfl tabOk (congrArg (fun z => some (Value.slice z l.length cap)) hAa) rfl rfl (by omega) (by omega) ?_
    refine ev_loadAgg rfl rfl tabOk rfl rfl rfl hac ?_
    refine ev_alloc rfl rfl inf71 (fun pa u1 hpa ka e1 => ?_)
    have la : pa < u1.heap.size := ka.lt
    refine ev_storeAgg tabOk rfl rfl rfl rfl rfl rfl ka rfl (fun u2 ka e2 => ?_)
    have ka : Blk u2 pa a.C 71 := ka
    have e12 : Fr no wl u2 := e1.trans e2 fun z hz e => by have : z = pa := e; omega
    have k2 := k2.fr0 e12
    have k4 := k4.fr0 e12
    have k7 := k7.fr0 e12
    have ho0 := ho
    have ho := ho.fr0 e12
    have hG : ∀ b ∈ B, GB w u2 b := fun b hb => (hG b hb).fr0 e12
    have hF := hF.tr e12
    have hgl3 : gB < wl.heap.size := ho0.lt hgo
    have hpag : pa ≠ gB := fun e => by have hx : wl.heap.size ≤ pa := hpa; omega
    obtain ⟨bk, pt, rk, sf, aA, aB⟩ := a
    have hac' : okA t.bs.length d ⟨bk, pt, rk, sf, aA, aB⟩ ↔ (0 ≤ bk ∧ bk < t.bs.length) ∧ (1 ≤ pt ∧ pt ≤ 4) ∧ (1 ≤ rk ∧ rk ≤ 16) ∧ (0 ≤ sf ∧ sf ≤ 31) ∧ (aA.xs.length : Int) = rk * d ∧ (aB.xs.length : Int) = d * rk := Iff.rfl
    refine sA [] rfl ?_; refine ev_loadB rfl rfl tabOk rfl rfl ‹_› (by rfl) ?_; refine sD [] rfl ?_; refine sD [] rfl ?_
    refine ev_join1 (α := Bool) (fun b => [(1, .slice Aad l.length cap), (2, ptA p2 0), (4, ptA p4 0), (7, ptA p7 0), (11, i64 d), (12, .slice bA t.bs.length bc), (13, i64 i), (14, ptA pa 0), (106, .bool b)])
      (fun b w' => w' = u2 ∧ (b = true ↔ ¬ okA t.bs.length d ⟨bk, pt, rk, sf, aA, aB⟩)) ?_ ?_
    · skip

      by_cases c0 : bk < 0
      · rw [show decide (bk < 0) = true from decide_eq_true c0]
        refine sA [] rfl ?_
        exact ev_out true ⟨rfl, iff_of_true rfl (fun h => by rw [hac'] at h; omega)⟩ ⟨rfl, rfl, rfl, rfl, rfl, rfl, rfl, rfl, rfl, trivial⟩
      rw [show decide (bk < 0) = false from decide_eq_false c0]
      refine sA [] rfl ?_; refine ev_loadB rfl rfl tabOk rfl rfl ‹_› (by rfl) ?_; refine sC [] rfl ?_; refine sD [] rfl ?_
      by_cases c1 : (t.bs.length : Int) ≤ bk
      · rw [show decide ((t.bs.length : Int) ≤ bk) = true from decide_eq_true c1]
        refine sA [] rfl ?_
        exact ev_out true ⟨rfl, iff_of_true rfl (fun h => by rw [hac'] at h; omega)⟩ ⟨rfl, rfl, rfl, rfl, rfl, rfl, rfl, rfl, rfl, trivial⟩
      rw [show decide ((t.bs.length : Int) ≤ bk) = false from decide_eq_false c1]
      refine sA [] rfl ?_; refine ev_loadB rfl rfl tabOk rfl rfl ‹_› (by rfl) ?_; refine sD [] rfl ?_; refine sD [] rfl ?_; refine sD [] rfl ?_
      by_cases c2 : pt < 1
      · rw [show decide (pt < 1) = true from decide_eq_true c2]
        refine sA [] rfl ?_
        exact ev_out true ⟨rfl, iff_of_true rfl (fun h => by rw [hac'] at h; omega)⟩ ⟨rfl, rfl, rfl, rfl, rfl, rfl, rfl, rfl, rfl, trivial⟩
      rw [show decide (pt < 1) = false from decide_eq_false c2]
      refine sA [] rfl ?_; refine ev_loadB rfl rfl tabOk rfl rfl ‹_› (by rfl) ?_; refine sD [] rfl ?_; refine sD [] rfl ?_; refine sD [] rfl ?_
      by_cases c3 : 4 < pt
      · rw [show decide (4 < pt) = true from decide_eq_true c3]
        refine sA [] rfl ?_
        exact ev_out true ⟨rfl, iff_of_true rfl (fun h => by rw [hac'] at h; omega)⟩ ⟨rfl, rfl, rfl, rfl, rfl, rfl, rfl, rfl, rfl, trivial⟩
      rw [show decide (4 < pt) = false from decide_eq_false c3]
      refine sA [] rfl ?_; refine ev_loadB rfl rfl tabOk rfl rfl ‹_› (by rfl) ?_; refine sD [] rfl ?_; refine sD [] rfl ?_; refine sD [] rfl ?_
      by_cases c4 : rk < 1
      · rw [show decide (rk < 1) = true from decide_eq_true c4]
        refine sA [] rfl ?_
        exact ev_out true ⟨rfl, iff_of_true rfl (fun h => by rw [hac'] at h; omega)⟩ ⟨rfl, rfl, rfl, rfl, rfl, rfl, rfl, rfl, rfl, trivial⟩
      rw [show decide (rk < 1) = false from decide_eq_false c4]
      refine sA [] rfl ?_; refine ev_loadB rfl rfl tabOk rfl rfl ‹_› (by rfl) ?_; refine sD [] rfl ?_; refine sD [] rfl ?_; refine sD [] rfl ?_
      by_cases c5 : 16 < rk
      · rw [show decide (16 < rk) = true from decide_eq_true c5]
        refine sA [] rfl ?_
        exact ev_out true ⟨rfl, iff_of_true rfl (fun h => by rw [hac'] at h; omega)⟩ ⟨rfl, rfl, rfl, rfl, rfl, rfl, rfl, rfl, rfl, trivial⟩
      rw [show decide (16 < rk) = false from decide_eq_false c5]
      refine sA [] rfl ?_; refine ev_loadB rfl rfl tabOk rfl rfl ‹_› (by rfl) ?_; refine sD [] rfl ?_; refine sD [] rfl ?_; refine sD [] rfl ?_
      by_cases c6 : sf < 0
      · rw [show decide (sf < 0) = true from decide_eq_true c6]
        refine sA [] rfl ?_
        exact ev_out true ⟨rfl, iff_of_true rfl (fun h => by rw [hac'] at h; omega)⟩ ⟨rfl, rfl, rfl, rfl, rfl, rfl, rfl, rfl, rfl, trivial⟩
      rw [show decide (sf < 0) = false from decide_eq_false c6]
      refine sA [] rfl ?_; refine ev_loadB rfl rfl tabOk rfl rfl ‹_› (by rfl) ?_; refine sD [] rfl ?_; refine sD [] rfl ?_; refine sD [] rfl ?_
      by_cases c7 : 31 < sf
      · rw [show decide (31 < sf) = true from decide_eq_true c7]
        refine sA [] rfl ?_
        exact ev_out true ⟨rfl, iff_of_true rfl (fun h => by rw [hac'] at h; omega)⟩ ⟨rfl, rfl, rfl, rfl, rfl, rfl, rfl, rfl, rfl, trivial⟩
      rw [show decide (31 < sf) = false from decide_eq_false c7]
      refine sA [] rfl ?_; refine ev_loadB rfl rfl tabOk rfl rfl ‹_› (by rfl) ?_; refine sA [] rfl ?_; refine ev_loadB rfl rfl tabOk rfl rfl ‹_› (by rfl) ?_; refine sA [] rfl ?_
      have hrd : 0 ≤ rk * (d : Int) ∧ rk * (d : Int) ≤ 1024 := mul_bd (a := rk) (b := d) (m := 16) (k := 64) (by omega) (by omega) (by omega) (by omega)
      have hdr : (d : Int) * rk = rk * (d : Int) := Int.mul_comm _ _
      refine ev_arith rfl rfl rfl rfl rfl (by simp only [lowK, hiK]; omega) ?_; refine sD [] rfl ?_; refine sD [] rfl ?_; refine sD [] rfl ?_
      by_cases c8 : (aA.xs.length : Int) = rk * d
      rotate_left
      · rw [show decide (¬ (aA.xs.length : Int) = rk * d) = true from decide_eq_true c8]
        refine sA [] rfl ?_
        exact ev_out true ⟨rfl, iff_of_true rfl (fun h => c8 (hac'.1 h).2.2.2.2.1)⟩ ⟨rfl, rfl, rfl, rfl, rfl, rfl, rfl, rfl, rfl, trivial⟩
      rw [show decide (¬ (aA.xs.length : Int) = rk * d) = false from decide_eq_false (fun h => h c8)]
      refine sA [] rfl ?_; refine ev_loadB rfl rfl tabOk rfl rfl ‹_› (by rfl) ?_; refine sA [] rfl ?_; refine ev_loadB rfl rfl tabOk rfl rfl ‹_› (by rfl) ?_; refine ev_arith rfl rfl rfl rfl rfl (by simp only [lowK, hiK]; omega) ?_; refine sA [] rfl ?_
      by_cases c9 : (aB.xs.length : Int) = d * rk
      rotate_left
      · rw [show decide (¬ (aB.xs.length : Int) = d * rk) = true from decide_eq_true c9]
        skip
        exact ev_out true ⟨rfl, iff_of_true rfl (fun h => c9 (hac'.1 h).2.2.2.2.2)⟩ ⟨rfl, rfl, rfl, rfl, rfl, rfl, rfl, rfl, rfl, trivial⟩
      rw [show decide (¬ (aB.xs.length : Int) = d * rk) = false from decide_eq_false (fun h => h c9)]
      skip
      exact ev_out false ⟨rfl, iff_of_false Bool.false_ne_true (fun h => h (hac'.2 ⟨⟨by omega, by omega⟩, ⟨by omega, by omega⟩, ⟨by omega, by omega⟩, ⟨by omega, by omega⟩, c8, c9⟩))⟩ ⟨rfl, rfl, rfl, rfl, rfl, rfl, rfl, rfl, rfl, trivial⟩
    rintro bb w' ⟨rfl, hbb⟩
    cases bb with
    | true =>
      have hnk := hbb.1 rfl
      have hfb := hbad hnk
      rw [hfb, if_pos hil]
      refine sA [] rfl ?_; refine ev_loadAggB rfl rfl tabOk rfl rfl ‹_› (by rfl) ?_; refine sA [] rfl ?_
      refine ev_storeAgg tabOk rfl rfl rfl rfl rfl rfl k4 rfl (fun v6 k6 f6 => ?_)
      have hF6 : Fr no w v6 := hF.trans f6 fun z hz e => by have : z = p4 := e; omega
      refine sA [] rfl ?_
      exact retG tabOk (.inr rfl) rfl [lmV zM, i64 i, i64 174] ⟨⟨_, rfl, .inl ⟨rfl, _, rfl, rfl, Cs.of_blk k6⟩⟩, rfl, rfl, trivial⟩ ⟨zM, rfl, rfl, zat _, hF6⟩
    | false =>
      have hoka : okA t.bs.length d ⟨bk, pt, rk, sf, aA, aB⟩ := Decidable.not_not.1 fun h => Bool.false_ne_true (hbb.2 h)
      have hnext := hoki hoka
      obtain ⟨⟨b1, b2⟩, ⟨b3, b4⟩, ⟨b5, b6⟩, ⟨b7, b8⟩, b9, b10⟩ := hac'.1 hoka
      obtain ⟨k, rfl⟩ := Int.eq_ofNat_of_zero_le b1
      obtain ⟨rR, rfl⟩ := Int.eq_ofNat_of_zero_le (show 0 ≤ rk by omega)
      obtain ⟨rS, rfl⟩ := Int.eq_ofNat_of_zero_le b7
      rw [← Int.natCast_mul] at b9 b10
      have hkl : k < B.length := by omega
      have hkn : k < t.bs.length := by omega
      obtain ⟨u, hu⟩ : ∃ u : LM, u = { t with bA := bA, bc := bc, bs := B } := ⟨_, rfl⟩
      have hub : u.bs = B := by rw [hu]
      have hku : k < u.bs.length := by rw [hub]; exact hkl
      have hcs := own_cs ho
      obtain ⟨gb, ob, hgb, hbc⟩ := blk_at hcs hkl
      have hbm : B[k] ∈ B := List.getElem_mem hkl
      have hGk := hG _ hbm
      have hsqk : SqB d (pBk B[k]) := by
        refine fold_sq (l.take i) hsqA _ ?_
        rw [← hBp]
        exact List.mem_map_of_mem hbm
      obtain ⟨bb, hbb2⟩ : ∃ bb, bb = B[k] := ⟨_, rfl⟩
      rw [← hbb2] at hbc hGk hsqk
      refine sA [] rfl ?_; refine ev_loadB rfl rfl tabOk rfl rfl ‹_› (by rfl) ?_
      refine ev_indexAddr rfl rfl tabOk (congrArg (fun z => some (Value.slice z t.bs.length bc)) hgb) rfl rfl (by omega) (by omega) ?_
      refine ev_loadAgg rfl rfl tabOk rfl rfl rfl hbc ?_
      refine ev_alloc rfl rfl inf100 (fun pb u3 hpb kb e3 => ?_)
      have lb : pb < u3.heap.size := kb.lt
      refine ev_storeAgg tabOk rfl rfl rfl rfl rfl rfl kb rfl (fun u4 kb e4 => ?_)
      have kb : Blk u4 pb (bkC bb) 100 := kb
      have e34 : Fr no w' u4 := e3.trans e4 fun z hz e => by have : z = pb := e; omega
      have k2 := k2.fr0 e34
      have k4 := k4.fr0 e34
      have k7 := k7.fr0 e34
      have ka := ka.fr0 e34
      have ho := ho.fr0 e34
      have hG : ∀ b ∈ B, GB w u4 b := fun b hb => (hG b hb).fr0 e34
      have hGk := hGk.fr0 e34
      have hF := hF.tr e34
      have hpbg : pb ≠ gB := fun e => by
        have h3 : w'.heap.size ≤ pb := hpb
        have h5 := e12.size
        omega

      have hpbl : p2 < w5.heap.size ∧ p4 < w5.heap.size ∧ p7 < w5.heap.size := l7w
      have hxx : w5.heap.size ≤ pb := by have := hF.size; have h3 : w'.heap.size ≤ pb := hpb; have h5 := e12.size; have h6 := hwl5; omega
      have hpab : pa < pb := by have h3 : w'.heap.size ≤ pb := hpb; have h5 := e2.size; omega
      have hpbw : w.heap.size ≤ pb := by omega
      refine sA [] rfl ?_; refine ev_loadB rfl rfl tabOk rfl rfl ‹_› (by rfl) ?_; refine sC [] rfl ?_; refine sD [] rfl ?_; refine sD [] rfl ?_; refine sD [] rfl ?_
      refine ev_condD rfl (fun c1 => ?_) (fun c1 => ?_)
      · have c1' : pt = 1 := c1
        refine sA [] rfl ?_; refine ev_loadB rfl rfl tabOk rfl rfl ‹_› (by rfl) ?_; refine sA [] rfl ?_; refine ev_loadAggB rfl rfl tabOk rfl rfl ‹_› (by rfl) ?_
        have hget : getP bb pt = bb.q := by unfold getP; rw [if_pos c1']
        have hrm := getP_mem bb pt
        rw [hget] at hrm
        refine ev_call rfl rfl rfl (hAdapted bb.q aA aB k pt rR rS d _ ((hGk.r _ hrm).1.at hF) (hai.1.fr0 hF) (hai.2.fr0 hF) hd64 (by omega) (by omega) hsqk.1 (by omega) (by omega)) ?_
        rintro r u5 ⟨y, rfl, hyx, hyO, e5⟩
        have hyO' : OR w u5 y := ⟨hyO.1, fun g hg => Nat.le_trans hF.size (hyO.2 g hg)⟩
        have hyl : y.xs.length ≤ 1000000000 := by
          have h1 := adQ_len bb.q.xs aA.xs aB.xs rR rS d
          have h2 : d * d ≤ 64 * 64 := Nat.mul_le_mul hd64 hd64
          rw [hyx, h1]; omega
        have hG' := (hGk.fr0 e5).set hyO' hyl pt
        have hG : ∀ b ∈ B, GB w u5 b := fun b hb => (hG b hb).fr0 e5
        have k2 := k2.fr0 e5
        have k4 := k4.fr0 e5
        have k7 := k7.fr0 e5
        have ka := ka.fr0 e5
        have kb := kb.fr0 e5
        have ho := ho.fr0 e5
        have hF := hF.tr e5
        refine sA [] rfl ?_
        refine ev_store tabOk rfl rfl rfl rfl rfl rfl kb rfl (fun u6 kb6 e6 => ?_)
        have hse : setP bb pt y = { bb with q := y } := by unfold setP; rw [if_pos c1']
        have kb6 : Blk u6 pb (bkC (setP bb pt y)) 100 := by rw [hse]; exact kb6
        obtain ⟨bn, hbn⟩ : ∃ bn, bn = setP bb pt y := ⟨_, rfl⟩
        rw [← hbn] at kb6 hG'
        have hpb : pBk bn = adP d ⟨k, pt, rR, rS, aA, aB⟩ (pBk B[k]) := by
          rw [hbn, ← hbb2, setP_map]
          unfold adP
          rw [pt_map, hget, hyx]
          rfl
        have k2 := k2.fr e6 (fun e => by omega)
        have k4 := k4.fr e6 (fun e => by omega)
        have k7 := k7.fr e6 (fun e => by omega)
        have ka := ka.fr e6 (fun e => by omega)
        have ho := ho.fr e6 (fun g hg e => hpbg (by rw [hgo] at hg; cases hg; exact e.symm))
        have hG' : GB w u6 bn := ⟨fun r hr => ⟨(hG'.r r hr).1.frB kb (by decide) e6, (hG'.r r hr).2⟩, hG'.c⟩
        have hG : ∀ b ∈ B, GB w u6 b := fun b hb => ⟨fun r hr => ⟨((hG b hb).r r hr).1.frB kb (by decide) e6, ((hG b hb).r r hr).2⟩, (hG b hb).c⟩
        have hF := hF.trans e6 fun z hz e => by have e : z = pb := e; omega
        clear kb
        refine sA [] rfl ?_; refine ev_loadB rfl rfl tabOk rfl rfl ‹_› (by rfl) ?_; refine ev_loadAggB rfl rfl tabOk rfl rfl ‹_› (by rfl) ?_
        refine ev_indexAddr rfl rfl tabOk (congrArg (fun z => some (Value.slice z t.bs.length bc)) hgA) rfl rfl (by omega) (by omega) ?_
        refine ev_storeRow tabOk rfl rfl rfl rfl rfl rfl ho hgo (by show 0 + (k : Int).toNat * 17 + 17 ≤ t.bs.length * 17; omega) (fun u7 hO e7 => ?_)
        have hO : Own u7 100 17 (.slice bA t.bs.length bc) t.bs.length ((putB B k bn).flatMap bkC) := by
          rw [putB_flat]
          have e : 0 + (k : Int).toNat * 17 = k * 17 := by omega
          rw [e] at hO
          exact hO
        have k2 := k2.fr e7 hn2g
        have k4 := k4.fr e7 hn4g
        have k7 := k7.fr e7 hn7g
        have hF := hF.trans e7 fun z hz e => by have e : z = gB := e; have := hgB; omega
        refine sA [] rfl ?_; refine ev_arith rfl rfl rfl rfl rfl (by simp only [lowK, hiK]; omega) ?_; refine sA [] rfl ?_
        refine ev_next (i + 1, putB B k bn) (by show l.length - (i + 1) < l.length - i; omega) ?_ ⟨rfl, rfl, rfl, rfl, rfl, rfl, by show _ = some (i64 ((i + 1 : Nat) : Int)); rw [show ((i + 1 : Nat) : Int) = (i : Int) + 1 by omega]; rfl, trivial⟩
        rw [hJ]
        refine ⟨by show i + 1 ≤ l.length; omega, hnext, ?_, (putB_len hkl).trans hBl, hO, fun b hb => ?_, by have := e12.size; have := e34.size; have := e5.size; have := e6.size; have := e7.size; omega, hF, k2, k4, k7⟩
        · show (putB B k bn).map pBk = _
          rw [hst, ← hBp, putB_map hkl hpb]
          rfl
        · have hx : GB w u6 b := by
            rcases putB_mem hb with rfl | hb
            · exact hG'
            · exact hG b hb
          exact ⟨fun r hr => ⟨(hx.r r hr).1.fr ho hgo (by decide) e7, (hx.r r hr).2⟩, hx.c⟩
      have c1' : ¬ pt = 1 := c1
      refine sC [] rfl ?_; refine sD [] rfl ?_
      refine ev_condD rfl (fun c2 => ?_) (fun c2 => ?_)
      · have c2' : pt = 2 := c2
        refine sA [] rfl ?_; refine ev_loadB rfl rfl tabOk rfl rfl ‹_› (by rfl) ?_; refine sA [] rfl ?_; refine ev_loadAggB rfl rfl tabOk rfl rfl ‹_› (by rfl) ?_
        have hget : getP bb pt = bb.k := by unfold getP; rw [if_neg c1']; rw [if_pos c2']
        have hrm := getP_mem bb pt
        rw [hget] at hrm
        refine ev_call rfl rfl rfl (hAdapted bb.k aA aB k pt rR rS d _ ((hGk.r _ hrm).1.at hF) (hai.1.fr0 hF) (hai.2.fr0 hF) hd64 (by omega) (by omega) hsqk.2.1 (by omega) (by omega)) ?_
        rintro r u5 ⟨y, rfl, hyx, hyO, e5⟩
        have hyO' : OR w u5 y := ⟨hyO.1, fun g hg => Nat.le_trans hF.size (hyO.2 g hg)⟩
        have hyl : y.xs.length ≤ 1000000000 := by
          have h1 := adQ_len bb.k.xs aA.xs aB.xs rR rS d
          have h2 : d * d ≤ 64 * 64 := Nat.mul_le_mul hd64 hd64
          rw [hyx, h1]; omega
        have hG' := (hGk.fr0 e5).set hyO' hyl pt
        have hG : ∀ b ∈ B, GB w u5 b := fun b hb => (hG b hb).fr0 e5
        have k2 := k2.fr0 e5
        have k4 := k4.fr0 e5
        have k7 := k7.fr0 e5
        have ka := ka.fr0 e5
        have kb := kb.fr0 e5
        have ho := ho.fr0 e5
        have hF := hF.tr e5
        refine sA [] rfl ?_
        refine ev_store tabOk rfl rfl rfl rfl rfl rfl kb rfl (fun u6 kb6 e6 => ?_)
        have hse : setP bb pt y = { bb with k := y } := by unfold setP; rw [if_neg c1']; rw [if_pos c2']
        have kb6 : Blk u6 pb (bkC (setP bb pt y)) 100 := by rw [hse]; exact kb6
        obtain ⟨bn, hbn⟩ : ∃ bn, bn = setP bb pt y := ⟨_, rfl⟩
        rw [← hbn] at kb6 hG'
        have hpb : pBk bn = adP d ⟨k, pt, rR, rS, aA, aB⟩ (pBk B[k]) := by
          rw [hbn, ← hbb2, setP_map]
          unfold adP
          rw [pt_map, hget, hyx]
          rfl
        have k2 := k2.fr e6 (fun e => by omega)
        have k4 := k4.fr e6 (fun e => by omega)
        have k7 := k7.fr e6 (fun e => by omega)
        have ka := ka.fr e6 (fun e => by omega)
        have ho := ho.fr e6 (fun g hg e => hpbg (by rw [hgo] at hg; cases hg; exact e.symm))
        have hG' : GB w u6 bn := ⟨fun r hr => ⟨(hG'.r r hr).1.frB kb (by decide) e6, (hG'.r r hr).2⟩, hG'.c⟩
        have hG : ∀ b ∈ B, GB w u6 b := fun b hb => ⟨fun r hr => ⟨((hG b hb).r r hr).1.frB kb (by decide) e6, ((hG b hb).r r hr).2⟩, (hG b hb).c⟩
        have hF := hF.trans e6 fun z hz e => by have e : z = pb := e; omega
        clear kb
        refine sA [] rfl ?_; refine ev_loadB rfl rfl tabOk rfl rfl ‹_› (by rfl) ?_; refine ev_loadAggB rfl rfl tabOk rfl rfl ‹_› (by rfl) ?_
        refine ev_indexAddr rfl rfl tabOk (congrArg (fun z => some (Value.slice z t.bs.length bc)) hgA) rfl rfl (by omega) (by omega) ?_
        refine ev_storeRow tabOk rfl rfl rfl rfl rfl rfl ho hgo (by show 0 + (k : Int).toNat * 17 + 17 ≤ t.bs.length * 17; omega) (fun u7 hO e7 => ?_)
        have hO : Own u7 100 17 (.slice bA t.bs.length bc) t.bs.length ((putB B k bn).flatMap bkC) := by
          rw [putB_flat]
          have e : 0 + (k : Int).toNat * 17 = k * 17 := by omega
          rw [e] at hO
          exact hO
        have k2 := k2.fr e7 hn2g
        have k4 := k4.fr e7 hn4g
        have k7 := k7.fr e7 hn7g
        have hF := hF.trans e7 fun z hz e => by have e : z = gB := e; have := hgB; omega
        refine sA [] rfl ?_; refine ev_arith rfl rfl rfl rfl rfl (by simp only [lowK, hiK]; omega) ?_; refine sA [] rfl ?_
        refine ev_next (i + 1, putB B k bn) (by show l.length - (i + 1) < l.length - i; omega) ?_ ⟨rfl, rfl, rfl, rfl, rfl, rfl, by show _ = some (i64 ((i + 1 : Nat) : Int)); rw [show ((i + 1 : Nat) : Int) = (i : Int) + 1 by omega]; rfl, trivial⟩
        rw [hJ]
        refine ⟨by show i + 1 ≤ l.length; omega, hnext, ?_, (putB_len hkl).trans hBl, hO, fun b hb => ?_, by have := e12.size; have := e34.size; have := e5.size; have := e6.size; have := e7.size; omega, hF, k2, k4, k7⟩
        · show (putB B k bn).map pBk = _
          rw [hst, ← hBp, putB_map hkl hpb]
          rfl
        · have hx : GB w u6 b := by
            rcases putB_mem hb with rfl | hb
            · exact hG'
            · exact hG b hb
          exact ⟨fun r hr => ⟨(hx.r r hr).1.fr ho hgo (by decide) e7, (hx.r r hr).2⟩, hx.c⟩
      have c2' : ¬ pt = 2 := c2
      refine sC [] rfl ?_; refine sD [] rfl ?_
      refine ev_condD rfl (fun c3 => ?_) (fun c3 => ?_)
      · have c3' : pt = 3 := c3
        refine sA [] rfl ?_; refine ev_loadB rfl rfl tabOk rfl rfl ‹_› (by rfl) ?_; refine sA [] rfl ?_; refine ev_loadAggB rfl rfl tabOk rfl rfl ‹_› (by rfl) ?_
        have hget : getP bb pt = bb.v := by unfold getP; rw [if_neg c1']; rw [if_neg c2']; rw [if_pos c3']
        have hrm := getP_mem bb pt
        rw [hget] at hrm
        refine ev_call rfl rfl rfl (hAdapted bb.v aA aB k pt rR rS d _ ((hGk.r _ hrm).1.at hF) (hai.1.fr0 hF) (hai.2.fr0 hF) hd64 (by omega) (by omega) hsqk.2.2.1 (by omega) (by omega)) ?_
        rintro r u5 ⟨y, rfl, hyx, hyO, e5⟩
        have hyO' : OR w u5 y := ⟨hyO.1, fun g hg => Nat.le_trans hF.size (hyO.2 g hg)⟩
        have hyl : y.xs.length ≤ 1000000000 := by
          have h1 := adQ_len bb.v.xs aA.xs aB.xs rR rS d
          have h2 : d * d ≤ 64 * 64 := Nat.mul_le_mul hd64 hd64
          rw [hyx, h1]; omega
        have hG' := (hGk.fr0 e5).set hyO' hyl pt
        have hG : ∀ b ∈ B, GB w u5 b := fun b hb => (hG b hb).fr0 e5
        have k2 := k2.fr0 e5
        have k4 := k4.fr0 e5
        have k7 := k7.fr0 e5
        have ka := ka.fr0 e5
        have kb := kb.fr0 e5
        have ho := ho.fr0 e5
        have hF := hF.tr e5
        refine sA [] rfl ?_
        refine ev_store tabOk rfl rfl rfl rfl rfl rfl kb rfl (fun u6 kb6 e6 => ?_)
        have hse : setP bb pt y = { bb with v := y } := by unfold setP; rw [if_neg c1']; rw [if_neg c2']; rw [if_pos c3']
        have kb6 : Blk u6 pb (bkC (setP bb pt y)) 100 := by rw [hse]; exact kb6
        obtain ⟨bn, hbn⟩ : ∃ bn, bn = setP bb pt y := ⟨_, rfl⟩
        rw [← hbn] at kb6 hG'
        have hpb : pBk bn = adP d ⟨k, pt, rR, rS, aA, aB⟩ (pBk B[k]) := by
          rw [hbn, ← hbb2, setP_map]
          unfold adP
          rw [pt_map, hget, hyx]
          rfl
        have k2 := k2.fr e6 (fun e => by omega)
        have k4 := k4.fr e6 (fun e => by omega)
        have k7 := k7.fr e6 (fun e => by omega)
        have ka := ka.fr e6 (fun e => by omega)
        have ho := ho.fr e6 (fun g hg e => hpbg (by rw [hgo] at hg; cases hg; exact e.symm))
        have hG' : GB w u6 bn := ⟨fun r hr => ⟨(hG'.r r hr).1.frB kb (by decide) e6, (hG'.r r hr).2⟩, hG'.c⟩
        have hG : ∀ b ∈ B, GB w u6 b := fun b hb => ⟨fun r hr => ⟨((hG b hb).r r hr).1.frB kb (by decide) e6, ((hG b hb).r r hr).2⟩, (hG b hb).c⟩
        have hF := hF.trans e6 fun z hz e => by have e : z = pb := e; omega
        clear kb
        refine sA [] rfl ?_; refine ev_loadB rfl rfl tabOk rfl rfl ‹_› (by rfl) ?_; refine ev_loadAggB rfl rfl tabOk rfl rfl ‹_› (by rfl) ?_
        refine ev_indexAddr rfl rfl tabOk (congrArg (fun z => some (Value.slice z t.bs.length bc)) hgA) rfl rfl (by omega) (by omega) ?_
        refine ev_storeRow tabOk rfl rfl rfl rfl rfl rfl ho hgo (by show 0 + (k : Int).toNat * 17 + 17 ≤ t.bs.length * 17; omega) (fun u7 hO e7 => ?_)
        have hO : Own u7 100 17 (.slice bA t.bs.length bc) t.bs.length ((putB B k bn).flatMap bkC) := by
          rw [putB_flat]
          have e : 0 + (k : Int).toNat * 17 = k * 17 := by omega
          rw [e] at hO
          exact hO
        have k2 := k2.fr e7 hn2g
        have k4 := k4.fr e7 hn4g
        have k7 := k7.fr e7 hn7g
        have hF := hF.trans e7 fun z hz e => by have e : z = gB := e; have := hgB; omega
        refine sA [] rfl ?_; refine ev_arith rfl rfl rfl rfl rfl (by simp only [lowK, hiK]; omega) ?_; refine sA [] rfl ?_
        refine ev_next (i + 1, putB B k bn) (by show l.length - (i + 1) < l.length - i; omega) ?_ ⟨rfl, rfl, rfl, rfl, rfl, rfl, by show _ = some (i64 ((i + 1 : Nat) : Int)); rw [show ((i + 1 : Nat) : Int) = (i : Int) + 1 by omega]; rfl, trivial⟩
        rw [hJ]
        refine ⟨by show i + 1 ≤ l.length; omega, hnext, ?_, (putB_len hkl).trans hBl, hO, fun b hb => ?_, by have := e12.size; have := e34.size; have := e5.size; have := e6.size; have := e7.size; omega, hF, k2, k4, k7⟩
        · show (putB B k bn).map pBk = _
          rw [hst, ← hBp, putB_map hkl hpb]
          rfl
        · have hx : GB w u6 b := by
            rcases putB_mem hb with rfl | hb
            · exact hG'
            · exact hG b hb
          exact ⟨fun r hr => ⟨(hx.r r hr).1.fr ho hgo (by decide) e7, (hx.r r hr).2⟩, hx.c⟩
      have c3' : ¬ pt = 3 := c3
      refine sA [] rfl ?_; refine ev_loadB rfl rfl tabOk rfl rfl ‹_› (by rfl) ?_; refine sA [] rfl ?_; refine ev_loadAggB rfl rfl tabOk rfl rfl ‹_› (by rfl) ?_
      skip
      have hget : getP bb pt = bb.o := by unfold getP; rw [if_neg c1']; rw [if_neg c2']; rw [if_neg c3']
      have hrm := getP_mem bb pt
      rw [hget] at hrm
      refine ev_call rfl rfl rfl (hAdapted bb.o aA aB k pt rR rS d _ ((hGk.r _ hrm).1.at hF) (hai.1.fr0 hF) (hai.2.fr0 hF) hd64 (by omega) (by omega) hsqk.2.2.2 (by omega) (by omega)) ?_
      rintro r u5 ⟨y, rfl, hyx, hyO, e5⟩
      have hyO' : OR w u5 y := ⟨hyO.1, fun g hg => Nat.le_trans hF.size (hyO.2 g hg)⟩
      have hyl : y.xs.length ≤ 1000000000 := by
        have h1 := adQ_len bb.o.xs aA.xs aB.xs rR rS d
        have h2 : d * d ≤ 64 * 64 := Nat.mul_le_mul hd64 hd64
        rw [hyx, h1]; omega
      have hG' := (hGk.fr0 e5).set hyO' hyl pt
      have hG : ∀ b ∈ B, GB w u5 b := fun b hb => (hG b hb).fr0 e5
      have k2 := k2.fr0 e5
      have k4 := k4.fr0 e5
      have k7 := k7.fr0 e5
      have ka := ka.fr0 e5
      have kb := kb.fr0 e5
      have ho := ho.fr0 e5
      have hF := hF.tr e5
      refine sA [] rfl ?_
      refine ev_store tabOk rfl rfl rfl rfl rfl rfl kb rfl (fun u6 kb6 e6 => ?_)
      have hse : setP bb pt y = { bb with o := y } := by unfold setP; rw [if_neg c1']; rw [if_neg c2']; rw [if_neg c3']
      have kb6 : Blk u6 pb (bkC (setP bb pt y)) 100 := by rw [hse]; exact kb6
      obtain ⟨bn, hbn⟩ : ∃ bn, bn = setP bb pt y := ⟨_, rfl⟩
      rw [← hbn] at kb6 hG'
      have hpb : pBk bn = adP d ⟨k, pt, rR, rS, aA, aB⟩ (pBk B[k]) := by
        rw [hbn, ← hbb2, setP_map]
        unfold adP
        rw [pt_map, hget, hyx]
        rfl
      have k2 := k2.fr e6 (fun e => by omega)
      have k4 := k4.fr e6 (fun e => by omega)
      have k7 := k7.fr e6 (fun e => by omega)
      have ka := ka.fr e6 (fun e => by omega)
      have ho := ho.fr e6 (fun g hg e => hpbg (by rw [hgo] at hg; cases hg; exact e.symm))
      have hG' : GB w u6 bn := ⟨fun r hr => ⟨(hG'.r r hr).1.frB kb (by decide) e6, (hG'.r r hr).2⟩, hG'.c⟩
      have hG : ∀ b ∈ B, GB w u6 b := fun b hb => ⟨fun r hr => ⟨((hG b hb).r r hr).1.frB kb (by decide) e6, ((hG b hb).r r hr).2⟩, (hG b hb).c⟩
      have hF := hF.trans e6 fun z hz e => by have e : z = pb := e; omega
      clear kb
      refine sA [] rfl ?_; refine ev_loadB rfl rfl tabOk rfl rfl ‹_› (by rfl) ?_; refine ev_loadAggB rfl rfl tabOk rfl rfl ‹_› (by rfl) ?_
      refine ev_indexAddr rfl rfl tabOk (congrArg (fun z => some (Value.slice z t.bs.length bc)) hgA) rfl rfl (by omega) (by omega) ?_
      refine ev_storeRow tabOk rfl rfl rfl rfl rfl rfl ho hgo (by show 0 + (k : Int).toNat * 17 + 17 ≤ t.bs.length * 17; omega) (fun u7 hO e7 => ?_)
      have hO : Own u7 100 17 (.slice bA t.bs.length bc) t.bs.length ((putB B k bn).flatMap bkC) := by
        rw [putB_flat]
        have e : 0 + (k : Int).toNat * 17 = k * 17 := by omega
        rw [e] at hO
        exact hO
      have k2 := k2.fr e7 hn2g
      have k4 := k4.fr e7 hn4g
      have k7 := k7.fr e7 hn7g
      have hF := hF.trans e7 fun z hz e => by have e : z = gB := e; have := hgB; omega
      refine sA [] rfl ?_; refine ev_arith rfl rfl rfl rfl rfl (by simp only [lowK, hiK]; omega) ?_; refine sA [] rfl ?_
      refine ev_next (i + 1, putB B k bn) (by show l.length - (i + 1) < l.length - i; omega) ?_ ⟨rfl, rfl, rfl, rfl, rfl, rfl, by show _ = some (i64 ((i + 1 : Nat) : Int)); rw [show ((i + 1 : Nat) : Int) = (i : Int) + 1 by omega]; rfl, trivial⟩
      rw [hJ]
      refine ⟨by show i + 1 ≤ l.length; omega, hnext, ?_, (putB_len hkl).trans hBl, hO, fun b hb => ?_, by have := e12.size; have := e34.size; have := e5.size; have := e6.size; have := e7.size; omega, hF, k2, k4, k7⟩
      · show (putB B k bn).map pBk = _
        rw [hst, ← hBp, putB_map hkl hpb]
        rfl
      · have hx : GB w u6 b := by
          rcases putB_mem hb with rfl | hb
          · exact hG'
          · exact hG b hb
        exact ⟨fun r hr => ⟨(hx.r r hr).1.fr ho hgo (by decide) e7, (hx.r r hr).2⟩, hx.c⟩
  have hin : i = l.length := by have c : ¬ (i : Int) < l.length := c; omega
  subst hin
  rw [first_ok (l := l) (fun j hj => hok j hj hj), if_neg (Nat.lt_irrefl _)]
  rw [List.take_length] at hBp
  obtain ⟨u, hu⟩ : ∃ u : LM, u = { t with bA := bA, bc := bc, bs := B } := ⟨_, rfl⟩
  have hup : u.p = { t.p with bs := l.foldl (stepA d) t.p.bs } := by rw [hu, ← hBp]; rfl
  rw [← hup]
  have hlc : lmC u = setV (lmC t) 12 (.slice bA t.bs.length bc) := by rw [hu, ← hBl]; rfl
  refine sA [] rfl ?_
  refine ev_store tabOk rfl rfl rfl rfl rfl rfl k2 rfl (fun w8 k28 f8 => ?_)
  have k28 : Blk w8 p2 (lmC u) 41 := by rw [hlc]; exact k28
  have k4 := k4.fr f8 (fun e => hn24 e.symm)
  have k7 := k7.fr f8 (fun e => hn27 e.symm)
  have ho := ho.fr f8 (fun g hg e => hn2g (by rw [hgo] at hg; cases hg; exact e.symm))
  have hG : ∀ b ∈ B, GB w w8 b := fun b hb => ⟨fun r hr => ⟨((hG b hb).r r hr).1.frB k2 (by decide) f8, ((hG b hb).r r hr).2⟩, (hG b hb).c⟩
  have hF := hF.trans f8 fun z hz e => by have e : z = p2 := e; omega
  have hfin : ∀ {w' : World}, Own w' 100 17 (.slice bA t.bs.length bc) t.bs.length (B.flatMap bkC) → (∀ b ∈ B, ∀ r ∈ b.rows, RA w w' r) → Fr no w w' → u.At w' := fun ho hG hF => by
    rw [hu]
    exact ⟨(ht.fr0 hF).voc, fun r hr => (ht.fr0 hF).rows r hr, own_cs ho, fun b hb r hr => (hG b hb r hr).at hF⟩
  have hul : u.Sm := by rw [hu]; exact ⟨hl.rows, fun b hb r hr => ((hG b hb).r r hr).2, (by show B.length ≤ 1000000; omega), hl.V⟩
  have huc : u.Cap := by rw [hu]; exact fun b hb => (hG b hb).c
  clear k2
  refine sA [] rfl ?_; refine ev_loadAggB rfl rfl tabOk rfl rfl ‹_› (by rfl) ?_
  refine ev_call rfl rfl rfl (refValid u w8 (hfin ho (fun b hb r hr => ((hG b hb).r r hr).1) hF) hul huc) ?_
  rintro r w9 ⟨rfl, f9⟩
  have k2 := k28.fr0 f9
  have k4 := k4.fr0 f9
  have k7 := k7.fr0 f9
  have ho := ho.fr0 f9
  have hG : ∀ b ∈ B, GB w w9 b := fun b hb => (hG b hb).fr0 f9
  have hF := hF.tr f9
  obtain ⟨a1, ha1⟩ : ∃ a1, a1 = validQ u.p := ⟨_, rfl⟩
  rw [← ha1]
  clear k28
  refine sC [] rfl ?_; refine sC [] rfl ?_; refine sC [] rfl ?_; refine sD [] rfl ?_
  refine ev_condD rfl (fun c1 => ?_) (fun c1 => ?_)
  · have h1 : ¬ a1.2.2 = 0 := by simpa using c1
    rw [if_neg h1]
    refine sA [] rfl ?_; refine ev_loadAggB rfl rfl tabOk rfl rfl ‹_› (by rfl) ?_; refine sA [] rfl ?_
    refine ev_storeAgg tabOk rfl rfl rfl rfl rfl rfl k4 rfl (fun v6 k6 f6 => ?_)
    have hF6 : Fr no w v6 := hF.trans f6 fun z hz e => by have : z = p4 := e; omega
    refine sA [] rfl ?_
    exact retG tabOk (.inr rfl) rfl [lmV zM, i64 l.length, i64 a1.2.2] ⟨⟨_, rfl, .inl ⟨rfl, _, rfl, rfl, Cs.of_blk k6⟩⟩, rfl, rfl, trivial⟩ ⟨zM, rfl, rfl, zat _, hF6⟩
  · have h1 : a1.2.2 = 0 := by simpa using c1
    rw [if_pos h1]
    refine sA [] rfl ?_; refine ev_loadAggB rfl rfl tabOk rfl rfl ‹_› (by rfl) ?_
    refine ev_storeAgg tabOk rfl rfl rfl rfl rfl rfl k4 rfl (fun v6 k6 f6 => ?_)
    have hF6 : Fr no w v6 := hF.trans f6 fun z hz e => by have : z = p4 := e; omega
    have hA6 := hfin (ho.fr f6 (fun g hg e => hn4g (by rw [hgo] at hg; cases hg; exact e.symm))) (fun b hb r hr => ((hG b hb).r r hr).1.frB k4 (by decide) f6) hF6
    refine sA [] rfl ?_
    exact retG tabOk (.inr rfl) rfl [lmV u, i64 0, i64 0] ⟨⟨_, rfl, .inl ⟨rfl, _, rfl, rfl, Cs.of_blk k6⟩⟩, rfl, rfl, trivial⟩ ⟨u, rfl, rfl, hA6, hF6⟩
end Go.Wk.Ytdelgnflcfhhkaa
